/- Tasks, slices of tasks that came in. -/
import Derived.Test.YtcakeenfkdhedaaDoorOp
import Derived.Test.YtcakeenfkdhedaaDoorGb
namespace Go.Proofs.YtcakeenfkdhedaaDoor.Gm
open Go.RowKit Go.ChangeShapes Go.WideShapes Go.Deep
theorem list3 {l : List Value} (h : l.length = 3) : ∃ a b c, l = [a, b, c] := by
  match l, h with
  | [a, b, c], _ => exact ⟨a, b, c, rfl⟩
theorem task_cells {H : Type} {enc : TypeId × Value → H} {W : World} {base : Nat} {sp : Nat → Bool} {held : Bool} {n : Nat} {cs : List Value} {x : DataW H × List MemPlace}
    (h : DataW.trod enc Tryd.prog W base sp held n 56 cs = some x) : ∃ t : T3, cs = tc t ∧ (Lit.int .i64 t.1).wf = true ∧ (Lit.int .i64 t.2.1).wf = true ∧ (Lit.int .i64 t.2.2).wf = true := by
  obtain ⟨xs, m, _, _, hl, hxl, hf⟩ := DataW.trod_struct Tryd.underlying56 h
  have hl3 : cs.length = 3 := hl.trans (by kernel_rfl)
  obtain ⟨a, b, c, rfl⟩ := list3 hl3
  match xs, hxl with
  | [y0, y1, y2], _ =>
    have h0 := hf 0 _ rfl
    have h1 := hf 1 _ rfl
    have h2 := hf 2 _ rfl
    change DataW.trod enc Tryd.prog W base sp held m 3 (([a, b, c].drop 0).take (Tryd.prog.cellsOf 3)) = some y0 at h0
    change DataW.trod enc Tryd.prog W base sp held m 3 (([a, b, c].drop 1).take (Tryd.prog.cellsOf 3)) = some y1 at h1
    change DataW.trod enc Tryd.prog W base sp held m 3 (([a, b, c].drop 2).take (Tryd.prog.cellsOf 3)) = some y2 at h2
    rw [show Tryd.prog.cellsOf 3 = 1 by kernel_rfl] at h0 h1 h2
    obtain ⟨z0, q0, _, w0⟩ := DataW.trod_int Tryd.underlying3 h0
    obtain ⟨z1, q1, _, w1⟩ := DataW.trod_int Tryd.underlying3 h1
    obtain ⟨z2, q2, _, w2⟩ := DataW.trod_int Tryd.underlying3 h2
    have e0 : a = .int .i64 z0 := by simpa using q0
    have e1 : b = .int .i64 z1 := by simpa using q1
    have e2 : c = .int .i64 z2 := by simpa using q2
    subst e0 e1 e2
    exact ⟨(z0, z1, z2), rfl, w0, w1, w2⟩
def W3 (l : List T3) : Prop := ∀ t ∈ l, (Lit.int .i64 t.1).wf = true ∧ (Lit.int .i64 t.2.1).wf = true ∧ (Lit.int .i64 t.2.2).wf = true
theorem at3 {W : World} {base : Nat} {b off : Nat} {a0 a1 a2 : Value} (h : W.cells? base ⟨b, off, none⟩ 3 = some [a0, a1, a2]) : W.cell? ⟨b, off, none⟩ = some a0 ∧ W.cell? ⟨b, off + 1, none⟩ = some a1 ∧ W.cell? ⟨b, off + 2, none⟩ = some a2 := by
  obtain ⟨_, _, hat⟩ := World.cells?_some h
  have e0 := hat 0 (by omega)
  have e1 := hat 1 (by omega)
  have e2 := hat 2 (by omega)
  simp only [add_plain] at e0 e1 e2
  exact ⟨by simpa using e0, by simpa using e1, by simpa using e2⟩
theorem in_tasks {H : Type} {enc : TypeId × Value → H} {W : World} {base : Nat} {sp : Nat → Bool} {held : Bool} {ts : TypeId} {fuel : Nat} {a : Option Addr} {len cap : Nat} {x : DataW H × List MemPlace}
    (ht : Tryd.prog.underlying ts = some (.slice 56)) (h : DataW.trod enc Tryd.prog W base sp held fuel ts [.slice a len cap] = some x) :
    ∃ l : List T3, Rk W (.slice a len cap) l ∧ W3 l := by
  rcases open_slice ht h with ⟨hcs, _⟩ | ⟨x, l, c, m, n, D, Pl, hcs, _, hl, hm, hmm, _, hx⟩
  · simp at hcs
    obtain ⟨rfl, rfl, rfl⟩ := hcs
    exact ⟨[], Rk.nil _, by unfold W3; simp⟩
  · simp at hcs
    obtain ⟨rfl, rfl, rfl⟩ := hcs
    have hlm : len ≤ m := by rw [hmm]; split <;> omega
    unfold maxLen at hm
    have hcells : Tryd.prog.cellsOf 56 = 3 := by kernel_rfl
    have each : ∀ i, i < len → ∃ t : T3, W.cells? base (x.add (i * 3)) 3 = some (tc t) ∧ (Lit.int .i64 t.1).wf = true ∧ (Lit.int .i64 t.2.1).wf = true ∧ (Lit.int .i64 t.2.2).wf = true := by
      intro i hi
      obtain ⟨cs', h1, h2⟩ := hx i (by omega)
      rw [hcells] at h1
      obtain ⟨t, rfl, ht⟩ := task_cells h2
      exact ⟨t, h1, ht⟩
    obtain ⟨f, hf⟩ := choose_lt each
    have hlen : ((List.range len).map f).length = len := by simp
    have hg : ∀ i, i < len → tg ((List.range len).map f) i = f i := by
      intro i hi
      rw [tg_eq, List.getElem?_map, List.getElem?_range hi]; rfl
    refine ⟨(List.range len).map f, ?_, ?_⟩
    · by_cases h0 : 0 < len
      · have h00 := (hf 0 h0).1
        rw [Nat.zero_mul] at h00
        obtain ⟨_, _, hat⟩ := World.cells?_some h00
        have e0 := hat 0 (by omega)
        rw [add_add] at e0
        obtain ⟨b, off, rfl⟩ := addr_none (v := .int .i64 (f 0).1) (by simpa [tc] using e0)
        refine ⟨_, cap, b, off, by rw [hlen], by rw [hlen]; exact hl, by omega, .inr rfl, fun i hi => ?_⟩
        rw [hlen] at hi
        rw [hg i hi]
        have h1 := (hf i hi).1
        rw [add_plain] at h1
        exact at3 h1
      · have hz : len = 0 := by omega
        subst hz
        exact ⟨_, cap, 0, 0, rfl, Nat.zero_le _, by omega, .inl (Nat.le_refl _), fun i hi => absurd hi (by simp)⟩
    · intro t ht
      obtain ⟨i, hi, rfl⟩ := List.mem_map.1 ht
      exact (hf i (List.mem_range.1 hi)).2
/-- a call of a deque: its kind, its task -/
@[irreducible] def kg (l : List (Int × T3)) (i : Nat) : Int × T3 := l.getD i (0, 0, 0, 0)
theorem kg_eq (l : List (Int × T3)) (i : Nat) : kg l i = l[i]?.getD (0, 0, 0, 0) := by unfold kg; rw [List.getD_eq_getElem?_getD]
def Rc (w : World) (v : Value) (l : List (Int × T3)) : Prop :=
  ∃ a cap b off, v = .slice a l.length cap ∧ l.length ≤ cap ∧ cap ≤ 9223372036854775807 ∧ (l.length ≤ 0 ∨ a = some ⟨b, off, none⟩) ∧
    ∀ i, i < l.length → w.cell? ⟨b, off + i * 4, none⟩ = some (.int .i64 (kg l i).1) ∧ w.cell? ⟨b, off + i * 4 + 1, none⟩ = some (.int .i64 (kg l i).2.1) ∧ w.cell? ⟨b, off + i * 4 + 2, none⟩ = some (.int .i64 (kg l i).2.2.1) ∧ w.cell? ⟨b, off + i * 4 + 3, none⟩ = some (.int .i64 (kg l i).2.2.2)
end Go.Proofs.YtcakeenfkdhedaaDoor.Gm
