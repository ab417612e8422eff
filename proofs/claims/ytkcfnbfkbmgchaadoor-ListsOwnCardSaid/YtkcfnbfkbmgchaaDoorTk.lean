/- Tasks: lists of triples. -/
import Derived.Test.YtkcfnbfkbmgchaaDoorBl
namespace Go.Proofs.YtkcfnbfkbmgchaaDoor.Gm
open Go.RowKit
/-- a task -/
abbrev T3 := Int × Int × Int
/-- task i of a list -/
@[irreducible] def tg (l : List T3) (i : Nat) : T3 := l.getD i (0, 0, 0)
theorem tg_eq (l : List T3) (i : Nat) : tg l i = l[i]?.getD (0, 0, 0) := by unfold tg; rw [List.getD_eq_getElem?_getD]
theorem tg_lt {l : List T3} {i : Nat} (h : i < l.length) : tg l i = l[i] := by rw [tg_eq, List.getElem?_eq_getElem h]; rfl
theorem tg_snoc_lt (l : List T3) (t : T3) {i : Nat} (h : i < l.length) : tg (l ++ [t]) i = tg l i := by rw [tg_eq, tg_eq, List.getElem?_append_left h]
theorem tg_snoc_at (l : List T3) (t : T3) : tg (l ++ [t]) l.length = t := by rw [tg_eq]; simp
theorem tg_take (l : List T3) {n i : Nat} (h : i < n) : tg (l.take n) i = tg l i := by rw [tg_eq, tg_eq, List.getElem?_take_of_lt h]
theorem tg_drop (l : List T3) (n i : Nat) : tg (l.drop n) i = tg l (n + i) := by rw [tg_eq, tg_eq, List.getElem?_drop]
/-- a task's value; its cells -/
def tk (t : T3) : Value := .agg #[.int .i64 t.1, .int .i64 t.2.1, .int .i64 t.2.2]
theorem tk_one (x y z : Int) : (#[Value.int .i64 x, Value.int .i64 y, Value.int .i64 z].all (·.oneCell')) = true := by simp [Value.oneCell']
def tc (t : T3) : List Value := [.int .i64 t.1, .int .i64 t.2.1, .int .i64 t.2.2]
def tcs (l : List T3) : List Value := l.flatMap tc
theorem tcs_len (l : List T3) : (tcs l).length = l.length * 3 := by
  induction l with
  | nil => rfl
  | cons t l ih => show (tc t ++ tcs l).length = _; rw [List.length_append, ih, List.length_cons]; show 3 + _ = _; omega
theorem tcs_append (l m : List T3) : tcs (l ++ m) = tcs l ++ tcs m := by unfold tcs; rw [List.flatMap_append]
theorem tcs_one (t : T3) : tcs [t] = tc t := by simp [tcs]
theorem tcs_get (l : List T3) (i : Nat) (h : i < l.length) : (tcs l)[i * 3]? = some (.int .i64 (tg l i).1) ∧ (tcs l)[i * 3 + 1]? = some (.int .i64 (tg l i).2.1) ∧ (tcs l)[i * 3 + 2]? = some (.int .i64 (tg l i).2.2) := by
  induction l generalizing i with
  | nil => exact absurd h (by simp)
  | cons t l ih =>
    have e : tcs (t :: l) = tc t ++ tcs l := rfl
    have h3 : (tc t).length = 3 := rfl
    cases i with
    | zero =>
      rw [e, tg_eq]
      exact ⟨rfl, rfl, rfl⟩
    | succ i =>
      have := ih i (by simpa using h)
      rw [e, List.getElem?_append_right (by rw [h3]; omega), List.getElem?_append_right (by rw [h3]; omega), List.getElem?_append_right (by rw [h3]; omega), h3]
      rw [show (i + 1) * 3 - 3 = i * 3 by omega, show (i + 1) * 3 + 1 - 3 = i * 3 + 1 by omega, show (i + 1) * 3 + 2 - 3 = i * 3 + 2 by omega]
      have et : tg (t :: l) (i + 1) = tg l i := by rw [tg_eq, tg_eq]; rfl
      rw [et]
      exact this
theorem tcs_take (l : List T3) (n : Nat) : tcs (l.take n) = (tcs l).take (n * 3) := by
  induction l generalizing n with
  | nil => simp [tcs]
  | cons t l ih =>
    cases n with
    | zero => simp [tcs]
    | succ n =>
      show tc t ++ tcs (l.take n) = (tc t ++ tcs l).take _
      rw [ih, List.take_append]
      have h3 : (tc t).length = 3 := rfl
      rw [List.take_of_length_le (l := tc t) (by rw [h3]; omega), h3, show (n + 1) * 3 - 3 = n * 3 by omega]
theorem tcs_drop (l : List T3) (n : Nat) : tcs (l.drop n) = (tcs l).drop (n * 3) := by
  induction l generalizing n with
  | nil => simp [tcs]
  | cons t l ih =>
    cases n with
    | zero => simp
    | succ n =>
      show tcs (l.drop n) = (tc t ++ tcs l).drop _
      rw [ih, List.drop_append]
      have h3 : (tc t).length = 3 := rfl
      rw [List.drop_of_length_le (l := tc t) (by rw [h3]; omega), h3, List.nil_append, show (n + 1) * 3 - 3 = n * 3 by omega]
/-- a list of tasks of the call's own -/
def Ot (B : Nat) (w : World) (v : Value) (l : List T3) : Prop := w.ownsRow B 60 3 v l.length (tcs l)
theorem Ot.nil (B : Nat) (w : World) : Ot B w (.slice none 0 0) [] := World.ownsRow_nil _ _ _ _
theorem Ot.only {S : Nat → Prop} {B : Nat} {w w' : World} {v : Value} {l : List T3} (h : Ot B w v l) (ho : Only S w w') (hs : ∀ k, v.ownBlock = some k → ¬ S k) : Ot B w' v l := own_only h ho hs
theorem Ot.below {B : Nat} {w w' : World} {v : Value} {l : List T3} (h : Ot B w v l) (hb : Below w.heap.size w w') : Ot B w' v l :=
  own_only (S := fun _ => False) h (Only.of_below hb (fun k hk hk' => by omega)) (fun _ _ e => e)
theorem Ot.mono {B B' : Nat} {w : World} {v : Value} {l : List T3} (h : Ot B w v l) (hB : B' ≤ B) : Ot B' w v l := by
  refine ⟨h.1, ?_⟩
  rcases h.2 with h0 | ⟨g, cap, cur, e, hb, rest⟩
  · exact .inl h0
  · exact .inr ⟨g, cap, cur, e, by omega, rest⟩
theorem Ot.lt {B : Nat} {w : World} {v : Value} {l : List T3} (h : Ot B w v l) : ∀ g, v.ownBlock = some g → B ≤ g ∧ g < w.heap.size := World.ownsRow.lt h
theorem Ot.shape {B : Nat} {w : World} {v : Value} {l : List T3} (h : Ot B w v l) : ∃ a cap, v = .slice a l.length cap ∧ l.length ≤ cap ∧ cap ≤ 9223372036854775807 ∧ (0 < l.length → ∃ g, a = some ⟨g, 0, none⟩) := by
  rcases h.2 with ⟨rfl, h0⟩ | ⟨g, cap, cur, rfl, hb, hg, hn, hm, hs, ht⟩
  · rw [h0]; exact ⟨none, 0, rfl, by simp, by omega, fun h => absurd h (by omega)⟩
  · exact ⟨_, cap, rfl, hn, by unfold maxLen at hm; omega, fun _ => ⟨g, rfl⟩⟩
theorem Ot.shapeN {B : Nat} {w : World} {v : Value} {l : List T3} (h : Ot B w v l) : ∃ a cap N, v = .slice a N cap ∧ N = l.length ∧ N ≤ cap ∧ cap ≤ 9223372036854775807 ∧ (0 < N → ∃ g, a = some ⟨g, 0, none⟩) := by
  obtain ⟨a, cap, h1, h2, h3, h4⟩ := h.shape
  exact ⟨a, cap, l.length, h1, rfl, h2, h3, h4⟩
theorem Ot.cell {B g n cap : Nat} {w : World} {l : List T3} (h : Ot B w (.slice (some ⟨g, 0, none⟩) n cap) l) {i : Nat} (hi : i < l.length) :
    w.cell? ⟨g, i * 3, none⟩ = some (.int .i64 (tg l i).1) ∧ w.cell? ⟨g, i * 3 + 1, none⟩ = some (.int .i64 (tg l i).2.1) ∧ w.cell? ⟨g, i * 3 + 2, none⟩ = some (.int .i64 (tg l i).2.2) := by
  have hn : n = l.length := by
    obtain ⟨a, c, e, _⟩ := Ot.shape h
    injection e
  subst hn
  have hg := tcs_get l i hi
  refine ⟨?_, ?_, ?_⟩ <;> rw [World.ownsRow.cellAt h _ (by omega)]
  · exact hg.1
  · exact hg.2.1
  · exact hg.2.2
/-- the first n of them -/
theorem Ot.take {B g m cap : Nat} {w : World} {l : List T3} (h : Ot B w (.slice (some ⟨g, 0, none⟩) m cap) l) (n : Nat) (hn : n ≤ l.length) : Ot B w (.slice (some ⟨g, 0, none⟩) n cap) (l.take n) := by
  have hl : (l.take n).length = n := by rw [List.length_take]; omega
  refine ⟨by rw [hl, tcs_len, hl], ?_⟩
  rcases h.2 with ⟨e, _⟩ | ⟨g', cap', cur, e, hb, hg, hnc, hm, hs, ht⟩
  · injection e with e; cases e
  · injection e with e1 e2 e3
    subst e3
    injection e1 with e1
    injection e1 with e1
    subst e1
    refine .inr ⟨g, cap, cur, by rw [hl], hb, hg, by omega, hm, hs, ?_⟩
    rw [hl, tcs_take, ← ht, List.take_take]
    congr 1; omega
/-- a slice of tasks reads as a list -/
def Rk (w : World) (v : Value) (l : List T3) : Prop :=
  ∃ a cap b off, v = .slice a l.length cap ∧ l.length ≤ cap ∧ cap ≤ 9223372036854775807 ∧ (l.length ≤ 0 ∨ a = some ⟨b, off, none⟩) ∧
    ∀ i, i < l.length → w.cell? ⟨b, off + i * 3, none⟩ = some (.int .i64 (tg l i).1) ∧ w.cell? ⟨b, off + i * 3 + 1, none⟩ = some (.int .i64 (tg l i).2.1) ∧ w.cell? ⟨b, off + i * 3 + 2, none⟩ = some (.int .i64 (tg l i).2.2)
theorem Rk.of_cells {w w' : World} {v : Value} {l : List T3} (h : Rk w v l) (hc : ∀ b o, b < w.heap.size → w'.cell? ⟨b, o, none⟩ = w.cell? ⟨b, o, none⟩) : Rk w' v l := by
  obtain ⟨a, cap, b, off, e, h1, h2, h3, hx⟩ := h
  refine ⟨a, cap, b, off, e, h1, h2, h3, fun i hi => ?_⟩
  have := hx i hi
  rw [hc b _ (World.block_lt_of_cell? w _ this.1), hc b _ (World.block_lt_of_cell? w _ this.2.1), hc b _ (World.block_lt_of_cell? w _ this.2.2)]
  exact this
theorem Rk.below {w w' : World} {v : Value} {l : List T3} (h : Rk w v l) (hb : Below w.heap.size w w') : Rk w' v l :=
  h.of_cells (fun b o hlt => hb.cell (p := ⟨b, o, none⟩) hlt)
theorem Rk.shape {w : World} {v : Value} {l : List T3} (h : Rk w v l) : ∃ a cap, v = .slice a l.length cap ∧ l.length ≤ cap ∧ cap ≤ 9223372036854775807 := by
  obtain ⟨a, cap, b, off, e, h1, h2, h3, hx⟩ := h
  exact ⟨a, cap, e, h1, h2⟩
theorem Rk.nil (w : World) : Rk w (.slice none 0 0) [] := ⟨none, 0, 0, 0, rfl, by simp, by omega, .inl (Nat.le_refl _), by simp⟩
theorem Ot.rk {B : Nat} {w : World} {v : Value} {l : List T3} (h : Ot B w v l) : Rk w v l := by
  have h' := h
  rcases h.2 with ⟨rfl, h0⟩ | ⟨g, cap, cur, rfl, hb, hg, hn, hm, hs, ht⟩
  · have : l = [] := List.length_eq_zero_iff.1 h0
    subst this; exact Rk.nil _
  · refine ⟨some ⟨g, 0, none⟩, cap, g, 0, rfl, by simpa using hn, by unfold maxLen at hm; omega, .inr rfl, fun i hi => ?_⟩
    simp only [Nat.zero_add]
    exact Ot.cell h' hi
theorem info_task : (Tryd.prog.info? 60).map (fun i => (i.zero, i.size, i.bytes)) = some (some (.agg #[.int .i64 0, .int .i64 0, .int .i64 0]), 3, 24) := by kernel_rfl
/-- append of a task -/
theorem wl_appT (ts : TypeId) (hu : Tryd.prog.underlying ts = some (.slice 60)) {ops : Array Oper} {rest : List Oper} {o : Oper} {a : Act} {Q : Exit → Act → World → Prop} (w : World) (hgd : o.guard = none) (s x : Operand)
    (ho : o.op = .call { callee := .builtin .append, args := #[s, x], argTypes := #[ts, ts] })
    (B : Nat) (v : Value) (l : List T3) (x0 x1 x2 : Int) (hs : a.eval s = v) (hx : a.eval x = .slice (some ⟨w.heap.size, 0, none⟩) 1 1)
    (hown : Ot B w v l) (hB : B ≤ w.heap.size) (hl : l.length ≤ 1000000)
    (h : ∀ v' w', Ot B w' v' (l ++ [(x0, x1, x2)]) → Only (fun k => v.ownBlock = some k) w w' → (v'.ownBlock = v.ownBlock ∨ ∃ g, v'.ownBlock = some g ∧ w.heap.size ≤ g) → wpList Tryd.prog ops Q rest (a.put o.dst v') w') :
    wpList Tryd.prog ops Q (o :: rest) a (w.alloc (.cells #[.int .i64 x0, .int .i64 x1, .int .i64 x2] 60)) := by
  obtain ⟨i0, hi, hz0, hz1, hz2⟩ := info_parts info_task
  have hmx : l.length + 1 ≤ maxLen := by unfold maxLen; omega
  refine wpList_append_own_at _ hgd s x ts ho B 60 i0 (.agg #[.int .i64 0, .int .i64 0, .int .i64 0]) 3 24 hu hi hz0 hz1 hz2 rfl (by decide) v l.length (tcs l) hs (World.ownsRow.alloc hown _) ⟨w.heap.size, 0, none⟩ 1 1 [.int .i64 x0, .int .i64 x1, .int .i64 x2] hx rfl ?_ ?_ hmx (by omega) (by simp; omega) ?_
  · intro j u hj
    have e : (Addr.add ⟨w.heap.size, 0, none⟩ j : Addr) = ⟨w.heap.size, j, none⟩ := by unfold Addr.add; by_cases h0 : j = 0 <;> simp [h0]
    rw [e, World.cell?_alloc_at _ _ _ _ rfl]
    rw [← hj]
    simp
  · intro u hu
    simp only [List.mem_cons, List.not_mem_nil, or_false] at hu
    rcases hu with rfl | rfl | rfl <;> rfl
  · intro v' w' hown' hgrow _ hat
    refine h v' w' ?_ ?_ ?_
    · unfold Ot
      rw [tcs_append, tcs_one, List.length_append, List.length_singleton]
      exact hown'
    · exact ((Only.refl _ w).alloc _).trans2 (Only.of_grown (S := fun k => v.ownBlock = some k) hgrow (fun _ e => e)) (fun _ _ e => e)
    · rcases hat with e | e
      · exact .inl e
      · exact .inr ⟨_, e, by simp⟩
theorem Ot.tail {B g m cq : Nat} {w : World} {l : List T3} (h : Ot B w (.slice (some ⟨g, 0, none⟩) (m + 1) cq) l) : Rk w (.slice (some ⟨g, 3, none⟩) m (cq - 1)) l.tail ∧ m + 1 = l.length ∧ m + 1 ≤ cq := by
  obtain ⟨a, cap, N, e, hN, hc, hm, _⟩ := h.shapeN
  injection e with e1 e2 e3
  subst e3; subst e2
  have hl : l.tail.length = m := by rw [List.length_tail]; omega
  refine ⟨⟨some ⟨g, 3, none⟩, cq - 1, g, 3, by rw [hl], by omega, by omega, .inr rfl, fun i hi => ?_⟩, hN, hc⟩
  have h1 := h.cell (i := i + 1) (by omega)
  have e : tg l.tail i = tg l (i + 1) := by rw [tg_eq, tg_eq]; cases l <;> simp
  rw [e]
  rw [show 3 + i * 3 = (i + 1) * 3 by omega]
  exact h1
end Go.Proofs.YtkcfnbfkbmgchaaDoor.Gm
