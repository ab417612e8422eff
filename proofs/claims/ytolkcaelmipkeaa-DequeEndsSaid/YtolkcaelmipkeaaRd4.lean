/- Slices of calls that came in. -/
import Derived.Test.YtolkcaelmipkeaaRc
namespace Go.Proofs.Ytolkcaelmipkeaa.Gm
open Go.RowKit Go.ChangeShapes Go.WideShapes Go.Deep
theorem call_cells {H : Type} {enc : TypeId × Value → H} {W : World} {base : Nat} {sp : Nat → Bool} {held : Bool} {n : Nat} {cs : List Value} {x : DataW H × List MemPlace}
    (h : DataW.trod enc Try.prog W base sp held n 37 cs = some x) : ∃ (k : Int) (t : T3), cs = .int .i64 k :: tc t := by
  obtain ⟨xs, m, _, _, hl, hxl, hf⟩ := DataW.trod_struct Try.underlying37 h
  have hl4 : cs.length = 4 := hl.trans (by kernel_rfl)
  match cs, hl4, xs, hxl with
  | [a, b, c, d], _, [y0, y1], _ =>
    have h0 := hf 0 _ rfl
    have h1 := hf 1 _ rfl
    change DataW.trod enc Try.prog W base sp held m 3 (([a, b, c, d].drop 0).take (Try.prog.cellsOf 3)) = some y0 at h0
    change DataW.trod enc Try.prog W base sp held m 31 (([a, b, c, d].drop 1).take (Try.prog.cellsOf 31)) = some y1 at h1
    rw [show Try.prog.cellsOf 3 = 1 by kernel_rfl] at h0
    rw [show Try.prog.cellsOf 31 = 3 by kernel_rfl] at h1
    obtain ⟨z0, q0, _, w0⟩ := DataW.trod_int Try.underlying3 h0
    obtain ⟨t, q1, _⟩ := task_cells h1
    have e0 : a = .int .i64 z0 := by simpa using q0
    have e1 : [b, c, d] = tc t := by simpa using q1
    exact ⟨z0, t, by rw [e0, e1]⟩
theorem in_calls {H : Type} {enc : TypeId × Value → H} {W : World} {base : Nat} {sp : Nat → Bool} {held : Bool} {r : Reach} {b0 : Nat} {v : Value} {d : DataW H} {ps : List MemPlace}
    (hval : Value.okWide Try.prog W r b0 25 v) (h : DataW.Trod enc Try.prog W base sp held 25 v d ps) :
    ∃ l : List (Int × T3), Rc W v l ∧ True := by
  obtain ⟨a, len, cap, rfl⟩ := okWide_slice Try.underlying25 hval
  obtain ⟨fuel, hfu⟩ := h
  rcases open_slice Try.underlying25 hfu with ⟨hcs, _⟩ | ⟨x, l, c, m, n, D, Pl, hcs, _, hl, hm, hmm, _, hx⟩
  · simp [Value.cells] at hcs
    obtain ⟨rfl, rfl, rfl⟩ := hcs
    exact ⟨[], ⟨none, 0, 0, 0, rfl, by simp, by omega, .inl (Nat.le_refl _), by simp⟩, trivial⟩
  · simp [Value.cells] at hcs
    obtain ⟨rfl, rfl, rfl⟩ := hcs
    have hlm : len ≤ m := by rw [hmm]; split <;> omega
    unfold maxLen at hm
    have hcells : Try.prog.cellsOf 37 = 4 := by kernel_rfl
    have each : ∀ i, i < len → ∃ t : Int × T3, W.cells? base (x.add (i * 4)) 4 = some (.int .i64 t.1 :: tc t.2) := by
      intro i hi
      obtain ⟨cs', h1, h2⟩ := hx i (by omega)
      rw [hcells] at h1
      obtain ⟨k, t, rfl⟩ := call_cells h2
      exact ⟨(k, t), h1⟩
    obtain ⟨f, hf⟩ := choose_lt each
    have hlen : ((List.range len).map f).length = len := by simp
    have hg : ∀ i, i < len → kg ((List.range len).map f) i = f i := by
      intro i hi
      rw [kg_eq, List.getElem?_map, List.getElem?_range hi]; rfl
    refine ⟨(List.range len).map f, ?_, trivial⟩
    by_cases h0 : 0 < len
    · have h00 := hf 0 h0
      rw [Nat.zero_mul] at h00
      obtain ⟨_, _, hat⟩ := World.cells?_some h00
      have e0 := hat 0 (by omega)
      rw [add_add] at e0
      obtain ⟨b, off, rfl⟩ := addr_none (v := .int .i64 (f 0).1) (by simpa using e0)
      refine ⟨_, cap, b, off, by rw [hlen], by rw [hlen]; exact hl, by omega, .inr rfl, fun i hi => ?_⟩
      rw [hlen] at hi
      rw [hg i hi]
      have h1 := hf i hi
      rw [add_plain] at h1
      obtain ⟨_, _, hat⟩ := World.cells?_some h1
      have e0 := hat 0 (by omega)
      have e1 := hat 1 (by omega)
      have e2 := hat 2 (by omega)
      have e3 := hat 3 (by omega)
      simp only [add_plain] at e0 e1 e2 e3
      exact ⟨by simpa using e0, by simpa [tc] using e1, by simpa [tc] using e2, by simpa [tc] using e3⟩
    · have hz : len = 0 := by omega
      subst hz
      exact ⟨_, cap, 0, 0, rfl, Nat.zero_le _, by omega, .inl (Nat.le_refl _), fun i hi => absurd hi (by simp)⟩
end Go.Proofs.Ytolkcaelmipkeaa.Gm
