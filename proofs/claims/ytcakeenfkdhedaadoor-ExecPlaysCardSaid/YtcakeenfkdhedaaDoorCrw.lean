/- ref Crew: how it lies; its tasks dealt. -/
import Derived.Test.YtcakeenfkdhedaaDoorEt
import Derived.Test.YtcakeenfkdhedaaDoorSk
import Derived.Test.YtcakeenfkdhedaaDoorRh
namespace Go.Proofs.YtcakeenfkdhedaaDoor.Gm
open Go.RowKit
set_option linter.unusedVariables false
/-- a store of a slice into a row of one's own -/
theorem st_storeRow (ty te : TypeId) (hz : ∀ w : World, Sem.run Tryd.prog (Go.sizeOf ty) w = .ok 1 w) {o : Oper} {a : Act} {K : Act → World → Prop} {Q : Exit → Act → World → Prop} (w : World) (p x : Operand)
    (ho : o.op = .store ty p x) (B g i n cap : Nat) (xs : List Value) (va : Option Addr) (m c : Nat) (hp : a.eval p = .pointer (some ⟨g, i, none⟩)) (hx : a.eval x = .slice va m c)
    (hown : w.ownsRow B te 1 (.slice (some ⟨g, 0, none⟩) n cap) n xs) (hi : i < n)
    (h : ∀ w', w'.ownsRow B te 1 (.slice (some ⟨g, 0, none⟩) n cap) n (xs.set i (.slice va m c)) → Only (fun k => k = g) w w' → w'.heap.size = w.heap.size → K (a.put o.dst undef) w') :
    Oper.wp Tryd.prog o a w K Q := by
  have hxl : i < xs.length := by have := hown.1; omega
  have hc : w.cell? ⟨g, i, none⟩ = some xs[i] := by
    rw [World.ownsRow.cellAt hown i (by omega), List.getElem?_eq_getElem hxl]
  have hf := World.ownsRow.frozenAt hown i
  have hk := h (w.setCell ⟨g, i, none⟩ (.slice va m c)) (World.ownsRow.stored hown i _).1 ((Only.refl (fun k => k = g) w).setCell (p := ⟨g, i, none⟩) (.inl rfl) _) (by simp [World.setCell])
  unfold Oper.wp
  simp [execOp, ho, hp, hx, Result.andThen]
  go_simp
  exact hk
/-- what stays of a crew -/
structure Cw where
  R : Nat
  vsh : Value
  vll : Value
  vh : Value
  W : Nat
  back : Bool
  ks : List Nat
  ll : List (List T3)
def ccs (c : Cw) (va : Value) (ph left : Int) (vd : Value) (fin : Bool) : Array Value := #[c.vsh, va, c.vll, .bool c.back, c.vh, .int .i64 ph, .int .i64 left, vd, .bool fin]
structure CrV (w0 w : World) (M : Nat → Prop) (c : Cw) (va vd : Value) (u : Nat → Value) (fin : Bool) (s : RS) : Prop where
  blk : Blk w c.R 50 (ccs c va s.ph s.left vd fin)
  mR : M c.R
  row : w.ownsRow 0 48 1 c.vh c.W ((List.range c.W).map u)
  rowM : ∀ g, c.vh.ownBlock = some g → M g
  hand : ∀ i, i < c.W → Ot 0 w (u i) (pg s.qs i) ∧ ∀ g, (u i).ownBlock = some g → M g
  inj : ∀ i j g, i < c.W → j < c.W → i ≠ j → (u i).ownBlock = some g → (u j).ownBlock ≠ some g
  ar : Oz .u64 52 0 w va s.ar
  arM : ∀ g, va.ownBlock = some g → M g
  did : Ot 0 w vd s.log
  didM : ∀ g, vd.ownBlock = some g → M g ∧ ∀ i, i < c.W → (u i).ownBlock ≠ some g
  lo : ∀ k, M k → w0.heap.size ≤ k ∧ k < w.heap.size
  bel : Below w0.heap.size w0 w
section
variable {w0 w w' : World} {M S : Nat → Prop} {c : Cw} {va vd : Value} {u : Nat → Value} {fin : Bool} {s : RS}
theorem CrV.only (h : CrV w0 w M c va vd u fin s) (ho : Only S w w') (hS : ∀ k, S k → w0.heap.size ≤ k ∧ ¬ M k) : CrV w0 w' M c va vd u fin s where
  blk := h.blk.only ho (fun hs => (hS _ hs).2 h.mR)
  mR := h.mR
  row := own_only h.row ho (fun k hk hs => (hS _ hs).2 (h.rowM k hk))
  rowM := h.rowM
  hand := fun i hi => ⟨(h.hand i hi).1.only ho (fun k hk hs => (hS _ hs).2 ((h.hand i hi).2 k hk)), (h.hand i hi).2⟩
  inj := h.inj
  ar := own_only h.ar ho (fun k hk hs => (hS _ hs).2 (h.arM k hk))
  arM := h.arM
  did := h.did.only ho (fun k hk hs => (hS _ hs).2 (h.didM k hk).1)
  didM := h.didM
  lo := fun k hk => ⟨(h.lo k hk).1, Nat.lt_of_lt_of_le (h.lo k hk).2 ho.size⟩
  bel := h.bel.trans (ho.below h.bel.size (fun k hk => (hS k hk).1))
theorem CrV.bel' (h : CrV w0 w M c va vd u fin s) (hb : Below w.heap.size w w') : CrV w0 w' M c va vd u fin s :=
  { h.only (Only.of_below (S := fun _ => False) hb (fun k hk hk' => by omega)) (fun _ e => e.elim) with bel := h.bel.trans (hb.mono h.bel.size) }
end
/-- a crew: what is told of it -/
def CrAt (w0 w : World) (M : Nat → Prop) (c : Cw) (fin : Bool) (s : RS) : Prop := ∃ va vd u, CrV w0 w M c va vd u fin s
def CrTo (w0 : World) (M : Nat → Prop) (c : Cw) (fin : Bool) (s : RS) (w w' : World) : Prop := ∃ M' : Nat → Prop, CrAt w0 w' M' c fin s ∧ Only M w w' ∧ ∀ k, M' k → M k ∨ w.heap.size ≤ k
theorem get_u (u : Nat → Value) {W i : Nat} (h : i < W) : ((List.range W).map u)[i]? = some (u i) := by
  rw [List.getElem?_map, List.getElem?_range h]; rfl
theorem set_u (u : Nat → Value) {W i : Nat} (h : i < W) (v : Value) : ((List.range W).map u).set i v = (List.range W).map fun j => if j = i then v else u j := by
  refine List.ext_getElem (by simp) fun j h1 h2 => ?_
  rw [List.getElem_set]
  simp only [List.getElem_map, List.getElem_range]
  by_cases e : i = j
  · rw [if_pos e, if_pos e.symm]
  · rw [if_neg e, if_neg (fun h => e h.symm)]
/-- one hand has turned: its old block, the row's -/
theorem CrV.hand_set {w0 w w' : World} {M S : Nat → Prop} {c : Cw} {va vd v : Value} {u : Nat → Value} {fin : Bool} {s : RS} {a : Nat} {q : List T3} {gq cq : Nat} (h : CrV w0 w M c va vd u fin s) (ha : a < c.W) (hql : s.qs.length = c.W)
    (hvh : c.vh = .slice (some ⟨gq, 0, none⟩) c.W cq) (ho : Only S w w') (hS : ∀ k, S k → (u a).ownBlock = some k ∨ k = gq ∨ w.heap.size ≤ k)
    (hrow : w'.ownsRow 0 48 1 c.vh c.W (((List.range c.W).map u).set a v)) (hv : Ot 0 w' v q) (hvb : ∀ g, v.ownBlock = some g → (u a).ownBlock = some g ∨ w.heap.size ≤ g) :
    CrV w0 w' (fun k => M k ∨ (w.heap.size ≤ k ∧ k < w'.heap.size)) c va vd (fun j => if j = a then v else u j) fin { s with qs := s.qs.set a q } := by
  have hqM : M gq := h.rowM gq (by rw [hvh]; rfl)
  have hSM : ∀ k, k < w.heap.size → S k → M k := fun k hk hs => by
    rcases hS k hs with h1 | h1 | h1
    · exact (h.hand a ha).2 k h1
    · rw [h1]; exact hqM
    · omega
  have hrowb : c.vh.ownBlock = some gq := by rw [hvh]; rfl
  have nR : ∀ k, S k → k ≠ c.R := fun k hs e => by
    subst e
    rcases hS _ hs with h1 | h1 | h1
    · exact own_blk_ne (h.hand a ha).1 h.blk (by decide) h1
    · exact own_blk_ne h.row h.blk (by decide) (by rw [hrowb, h1])
    · have := (h.lo _ h.mR).2; omega
  refine ⟨h.blk.only ho (fun hs => nR _ hs rfl), .inl h.mR, ?_, fun g hg => .inl (h.rowM g hg), fun i hi => ?_, fun i j g hi hj hij e1 e2 => ?_, ?_, fun g hg => .inl (h.arM g hg), ?_, fun g hg => ⟨.inl (h.didM g hg).1, fun i hi => ?_⟩, fun k hk => ?_, ?_⟩
  · rw [set_u _ ha] at hrow; exact hrow
  · by_cases e : i = a
    · subst e
      simp only [if_true]
      refine ⟨?_, fun g hg => ?_⟩
      · show Ot 0 w' v (pg (s.qs.set i q) i)
        rw [pg_set _ _ _ _ (by rw [hql]; exact hi), if_pos rfl]; exact hv
      · rcases hvb g hg with h1 | h1
        · exact .inl ((h.hand i hi).2 g h1)
        · exact .inr ⟨h1, (Ot.lt hv g hg).2⟩
    · simp only [e, if_false]
      refine ⟨?_, fun g hg => .inl ((h.hand i hi).2 g hg)⟩
      show Ot 0 w' (u i) (pg (s.qs.set a q) i)
      rw [pg_set _ _ _ _ (by rw [hql]; exact ha), if_neg (fun e2 => e e2.symm)]
      refine (h.hand i hi).1.only ho (fun k hk hs => ?_)
      rcases hS k hs with h1 | h1 | h1
      · exact h.inj i a k hi ha e hk h1
      · rcases own_ne (h.hand i hi).1 h.row (by decide) with hh | hh
        · rw [hk] at hh; cases hh
        · exact hh (by rw [hk, hrowb, h1])
      · have := (Ot.lt (h.hand i hi).1 k hk).2; omega
  · by_cases ei : i = a
    · have ej : j ≠ a := by omega
      rw [if_pos ei] at e1
      rw [if_neg ej] at e2
      rcases hvb g e1 with h1 | h1
      · exact h.inj a j g ha hj (fun e => ej e.symm) h1 e2
      · have := (Ot.lt (h.hand j hj).1 g e2).2; omega
    · rw [if_neg ei] at e1
      by_cases ej : j = a
      · rw [if_pos ej] at e2
        rcases hvb g e2 with h1 | h1
        · exact h.inj a i g ha hi (fun e => ei e.symm) h1 e1
        · have := (Ot.lt (h.hand i hi).1 g e1).2; omega
      · rw [if_neg ej] at e2
        exact h.inj i j g hi hj hij e1 e2
  · refine own_only h.ar ho (fun k hk hs => ?_)
    rcases hS k hs with h1 | h1 | h1
    · rcases own_ne h.ar (h.hand a ha).1 (by decide) with hh | hh
      · rw [hk] at hh; cases hh
      · exact hh (by rw [hk, h1])
    · rcases own_ne h.ar h.row (by decide) with hh | hh
      · rw [hk] at hh; cases hh
      · exact hh (by rw [hk, hrowb, h1])
    · have := (World.ownsRow.lt h.ar k hk).2; omega
  · refine h.did.only ho (fun k hk hs => ?_)
    rcases hS k hs with h1 | h1 | h1
    · exact (h.didM k hk).2 a ha h1
    · rcases own_ne h.did h.row (by decide) with hh | hh
      · rw [hk] at hh; cases hh
      · exact hh (by rw [hk, hrowb, h1])
    · have := (Ot.lt h.did k hk).2; omega
  · by_cases e : i = a
    · simp only [e, if_true]
      intro e2
      rcases hvb g e2 with h1 | h1
      · exact (h.didM g hg).2 a ha h1
      · have := (Ot.lt h.did g hg).2; omega
    · simp only [e, if_false]
      exact (h.didM g hg).2 i hi
  · rcases hk with hk | hk
    · exact ⟨(h.lo k hk).1, Nat.lt_of_lt_of_le (h.lo k hk).2 ho.size⟩
    · exact ⟨Nat.le_trans h.bel.size hk.1, hk.2⟩
  · refine h.bel.trans (ho.below h.bel.size (fun k hs => ?_))
    rcases Nat.lt_or_ge k w.heap.size with hk | hk
    · exact (h.lo k (hSM k hk hs)).1
    · exact Nat.le_trans h.bel.size hk
/-- the crew's block, its log, its array have turned -/
theorem CrV.put {w0 w w' : World} {M S : Nat → Prop} {c : Cw} {va vd va' vd' : Value} {u : Nat → Value} {fin fin' : Bool} {s : RS} {ar' : List Int} {ph' left' : Nat} {log' : List T3} (h : CrV w0 w M c va vd u fin s) (ho : Only S w w') (hS : ∀ k, S k → k = c.R ∨ vd.ownBlock = some k ∨ w.heap.size ≤ k)
    (hb : Blk w' c.R 50 (ccs c va' ph' left' vd' fin')) (har : Oz .u64 52 0 w' va' ar') (hlog : Ot 0 w' vd' log') (hv : ∀ g, va'.ownBlock = some g → va.ownBlock = some g ∨ w.heap.size ≤ g) (hl : ∀ g, vd'.ownBlock = some g → vd.ownBlock = some g ∨ w.heap.size ≤ g) :
    CrV w0 w' (fun k => M k ∨ (w.heap.size ≤ k ∧ k < w'.heap.size)) c va' vd' u fin' ⟨ar', s.qs, ph', left', log'⟩ := by
  refine ⟨hb, .inl h.mR, own_only h.row ho (fun k hk hs => ?_), fun g hg => .inl (h.rowM g hg), fun i hi => ⟨(h.hand i hi).1.only ho (fun k hk hs => ?_), fun g hg => .inl ((h.hand i hi).2 g hg)⟩, h.inj, har, fun g hg => ?_, hlog, fun g hg => ?_, fun k hk => ?_, ?_⟩
  · rcases hS k hs with h1 | h1 | h1
    · exact own_blk_ne h.row h.blk (by decide) (h1 ▸ hk)
    · rcases own_ne h.row h.did (by decide) with hh | hh
      · rw [hk] at hh; cases hh
      · exact hh (by rw [hk, h1])
    · have := (World.ownsRow.lt h.row k hk).2; omega
  · rcases hS k hs with h1 | h1 | h1
    · exact own_blk_ne (h.hand i hi).1 h.blk (by decide) (h1 ▸ hk)
    · exact (h.didM k h1).2 i hi hk
    · have := (Ot.lt (h.hand i hi).1 k hk).2; omega
  · rcases hv g hg with h1 | h1
    · exact .inl (h.arM g h1)
    · exact .inr ⟨h1, (World.ownsRow.lt har g hg).2⟩
  · rcases hl g hg with h1 | h1
    · exact ⟨.inl (h.didM g h1).1, (h.didM g h1).2⟩
    · refine ⟨.inr ⟨h1, (Ot.lt hlog g hg).2⟩, fun i hi e => ?_⟩
      have := (Ot.lt (h.hand i hi).1 g e).2
      omega
  · rcases hk with hk | hk
    · exact ⟨(h.lo k hk).1, Nat.lt_of_lt_of_le (h.lo k hk).2 ho.size⟩
    · exact ⟨Nat.le_trans h.bel.size hk.1, hk.2⟩
  · refine h.bel.trans (ho.below h.bel.size (fun k hs => ?_))
    rcases hS k hs with h1 | h1 | h1
    · rw [h1]; exact (h.lo _ h.mR).1
    · exact (h.lo _ (h.didM k h1).1).1
    · exact Nat.le_trans h.bel.size h1
end Go.Proofs.YtcakeenfkdhedaaDoor.Gm
