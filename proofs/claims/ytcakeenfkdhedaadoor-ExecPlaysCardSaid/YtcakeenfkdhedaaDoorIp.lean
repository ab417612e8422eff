/- A slice of picks that came in. -/
import Derived.Test.YtcakeenfkdhedaaDoorOp
import Derived.Test.YtcakeenfkdhedaaDoorEg
import Derived.Deep.SlicePairs
namespace Go.Proofs.YtcakeenfkdhedaaDoor.Gm
open Go.RowKit Go.ChangeShapes Go.WideShapes Go.Deep
set_option maxRecDepth 100000 in
theorem in_picks {H : Type} {enc : TypeId × Value → H} {W : World} {base : Nat} {sp : Nat → Bool} {held : Bool} {r : Reach} {b0 : Nat} {v : Value} {d : DataW H} {ps : List MemPlace}
    (hval : Value.okWide Tryd.prog W r b0 32 v) (h : DataW.Trod enc Tryd.prog W base sp held 32 v d ps) :
    ∃ l : List (Int × Int), Rpi W v l ∧ ∀ p ∈ l, (Lit.int .i64 p.1).wf = true ∧ (Lit.int .i64 p.2).wf = true := by
  obtain ⟨a, len, cap, rfl⟩ := okWide_slice Tryd.underlying32 hval
  obtain ⟨fuel, hfu⟩ := h
  rcases open_slice_pairs Tryd.underlying32 Tryd.underlying43 (by kernel_rfl) rfl rfl (by kernel_rfl) (by kernel_rfl) hfu with ⟨hcs, _⟩ | ⟨x, l, c, m, n, V0, V1, D0, D1, P0, P1, hcs, _, hl, hm, hmm, _, hx⟩
  · simp [Value.cells] at hcs
    obtain ⟨rfl, rfl, rfl⟩ := hcs
    exact ⟨[], ⟨none, 0, 0, 0, rfl, by simp, by omega, .inl (Nat.le_refl _), by simp⟩, by simp⟩
  · simp [Value.cells] at hcs
    obtain ⟨rfl, rfl, rfl⟩ := hcs
    have hlm : len ≤ m := by rw [hmm]; split <;> omega
    unfold maxLen at hm
    have each0 : ∀ i, i < len → ∃ z : Int, V0 i = .int .i64 z ∧ (Lit.int .i64 z).wf = true := by
      intro i hi
      obtain ⟨z, hz, _, hw⟩ := DataW.trod_int Tryd.underlying3 (hx i (by omega)).2.2.1
      exact ⟨z, by simpa using hz, hw⟩
    have each1 : ∀ i, i < len → ∃ z : Int, V1 i = .int .i64 z ∧ (Lit.int .i64 z).wf = true := by
      intro i hi
      obtain ⟨z, hz, _, hw⟩ := DataW.trod_int Tryd.underlying3 (hx i (by omega)).2.2.2
      exact ⟨z, by simpa using hz, hw⟩
    obtain ⟨f, hf⟩ := Go.Deep.choose_lt each0
    obtain ⟨g, hgg⟩ := Go.Deep.choose_lt each1
    have hg0 : ∀ i, i < len → kp ((List.range len).map fun i => (f i, g i)) i = (f i, g i) := by
      intro i hi
      rw [kp_eq, List.getElem?_map, List.getElem?_range hi]; rfl
    have hlen : ((List.range len).map fun i => (f i, g i)).length = len := by simp
    refine ⟨(List.range len).map fun i => (f i, g i), ?_, ?_⟩
    · by_cases h0 : 0 < len
      · have h00 := (hx 0 (by omega)).1
        rw [Nat.zero_mul] at h00
        obtain ⟨b, off, rfl⟩ := addr_none h00
        refine ⟨_, cap, b, off, by rw [hlen], by rw [hlen]; exact hl, by omega, .inr rfl, fun i hi => ?_⟩
        rw [hlen] at hi
        rw [hg0 i hi]
        show W.cell? _ = some (Value.int .i64 (f i)) ∧ W.cell? _ = some (Value.int .i64 (g i))
        rw [← (hf i hi).1, ← (hgg i hi).1, ← (hx i (by omega)).1, ← (hx i (by omega)).2.1, add_plain, add_plain]
        exact ⟨rfl, rfl⟩
      · have hz : len = 0 := by omega
        subst hz
        exact ⟨_, cap, 0, 0, rfl, Nat.zero_le _, by omega, .inl (by simp), fun i hi => absurd hi (by simp)⟩
    · intro p hp
      obtain ⟨i, hi, rfl⟩ := List.mem_map.1 hp
      exact ⟨(hf i (List.mem_range.1 hi)).2, (hgg i (List.mem_range.1 hi)).2⟩
end Go.Proofs.YtcakeenfkdhedaaDoor.Gm
