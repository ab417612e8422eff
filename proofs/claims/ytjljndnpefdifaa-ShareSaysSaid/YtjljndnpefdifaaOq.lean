/- A slice of shares that came in. -/
import Derived.Test.YtjljndnpefdifaaOp
import Derived.Test.YtjljndnpefdifaaRs
import Derived.Test.YtjljndnpefdifaaSc
import Derived.Deep.SlicePairs
namespace Go.Proofs.Ytjljndnpefdifaa.Gm
open Go.RowKit Go.ChangeShapes Go.WideShapes Go.Deep
theorem in_shares {H : Type} {enc : TypeId × Value → H} {W : World} {base : Nat} {sp : Nat → Bool} {held : Bool} {r : Reach} {b0 : Nat} {v : Value} {d : DataW H} {ps : List MemPlace}
    (hval : Value.okWide Try.prog W r b0 52 v) (h : DataW.Trod enc Try.prog W base sp held 52 v d ps) :
    ∃ az sz : List Int, Rs W v az sz ∧ W63 az ∧ B64 sz := by
  obtain ⟨a, len, cap, rfl⟩ := okWide_slice Try.underlying52 hval
  obtain ⟨fuel, hfu⟩ := h
  rcases open_slice_pairs Try.underlying52 Try.underlying61 (by kernel_rfl) rfl rfl (by kernel_rfl) (by kernel_rfl) hfu with ⟨hcs, _⟩ | ⟨x, l, c, m, n, V0, V1, D0, D1, P0, P1, hcs, _, hl, hm, hmm, _, hx⟩
  · simp [Value.cells] at hcs
    obtain ⟨rfl, rfl, rfl⟩ := hcs
    exact ⟨[], [], ⟨rfl, none, 0, 0, 0, rfl, by simp, by omega, .inl (Nat.le_refl _), by simp⟩, by unfold W63; simp, by unfold B64; simp⟩
  · simp [Value.cells] at hcs
    obtain ⟨rfl, rfl, rfl⟩ := hcs
    have hlm : len ≤ m := by rw [hmm]; split <;> omega
    unfold maxLen at hm
    have each0 : ∀ i, i < len → ∃ z : Int, V0 i = .int .i64 z ∧ (Lit.int .i64 z).wf = true := by
      intro i hi
      obtain ⟨z, hz, _, hw⟩ := DataW.trod_int Try.underlying3 (hx i (by omega)).2.2.1
      exact ⟨z, by simpa using hz, hw⟩
    have each1 : ∀ i, i < len → ∃ z : Int, V1 i = .int .u64 z ∧ (Lit.int .u64 z).wf = true := by
      intro i hi
      obtain ⟨z, hz, _, hw⟩ := DataW.trod_int Try.underlying27 (hx i (by omega)).2.2.2
      exact ⟨z, by simpa using hz, hw⟩
    obtain ⟨f, hf⟩ := Go.Deep.choose_lt each0
    obtain ⟨g, hgg⟩ := Go.Deep.choose_lt each1
    have hg0 : ∀ (f : Nat → Int) i, i < len → gd ((List.range len).map f) i = f i := by
      intro f i hi
      rw [gd_eq, List.getElem?_map, List.getElem?_range hi]; rfl
    refine ⟨(List.range len).map f, (List.range len).map g, ⟨by simp, ?_⟩, ?_, ?_⟩
    · rw [show ((List.range len).map f).length = len by simp]
      by_cases h0 : 0 < len
      · have h00 := (hx 0 (by omega)).1
        rw [Nat.zero_mul] at h00
        obtain ⟨b, off, rfl⟩ := addr_none h00
        refine ⟨_, cap, b, off, rfl, hl, by omega, .inr rfl, fun i hi => ?_⟩
        rw [hg0 f i hi, hg0 g i hi, ← (hf i hi).1, ← (hgg i hi).1, ← (hx i (by omega)).1, ← (hx i (by omega)).2.1, add_plain, add_plain]
        exact ⟨rfl, rfl⟩
      · have hz : len = 0 := by omega
        subst hz
        exact ⟨_, cap, 0, 0, rfl, Nat.zero_le _, by omega, .inl (Nat.le_refl _), fun i hi => absurd hi (by omega)⟩
    · intro z hz
      obtain ⟨i, hi, rfl⟩ := List.mem_map.1 hz
      exact (hf i (List.mem_range.1 hi)).2
    · refine B64.ofWf fun z hz => ?_
      obtain ⟨i, hi, rfl⟩ := List.mem_map.1 hz
      exact (hgg i (List.mem_range.1 hi)).2
end Go.Proofs.Ytjljndnpefdifaa.Gm
