/- A map[int]bool of the call's own, in which places are marked. -/
import Derived.Test.YtolkcaelmipkeaaTk
import Derived.Maps.OwnOps
import Derived.Maps.OwnSet
import Derived.Maps.Views
namespace Go.Proofs.Ytolkcaelmipkeaa.Gm
open Go.RowKit
open Go.Maps
/-- how a bool reads -/
def boolM (v : Value) : Option (DataW Unit × List MemPlace) := match v with | .bool x => some (.lit (.bool x), []) | _ => none
/-- the map of block b: just the places of l are marked -/
def Mb (w : World) (b : Nat) (l : List Int) : Prop :=
  ∃ D : DataW Unit, w.ownsMap Try.prog 3 boolM b l.length D ∧ Tidy D ∧ (∀ i : Int, D.atKey (.int .i64 i) (.lit (.bool false)) = .lit (.bool (decide (i ∈ l)))) ∧ (∀ i : Int, has D (.int .i64 i) = decide (i ∈ l)) ∧ Maps.size D = l.length
theorem Mb.made (w : World) : Mb (w.alloc (.map #[] 0)) w.heap.size [] :=
  ⟨.map [], World.ownsMap_made w _ _ _, tidy_empty, fun i => by simp [DataW.atKey], fun i => by simp [has], rfl⟩
theorem Mb.only {S : Nat → Prop} {w w' : World} {b : Nat} {l : List Int} (h : Mb w b l) (ho : Only S w w') (hs : ¬ S b) : Mb w' b l := by
  obtain ⟨D, ⟨es, clock, e1, e2, e3, e4⟩, h2⟩ := h
  exact ⟨D, ⟨es, clock, (ho.block b (Array.getElem?_eq_some_iff.1 e1).1 hs).trans e1, e2, e3, e4⟩, h2⟩
theorem Mb.lt {w : World} {b : Nat} {l : List Int} (h : Mb w b l) : b < w.heap.size := h.choose_spec.1.lt
theorem boolM_inv {v : Value} {x : Bool} {ps : List MemPlace} (h : boolM v = some (.lit (.bool x), ps)) : v = .bool x := by
  unfold boolM at h
  split at h
  · simp only [Option.some.injEq, Prod.mk.injEq, DataW.lit.injEq, Lit.bool.injEq] at h
    rw [h.1]
  · cases h
theorem zero_boolM (w : World) : (zeroValue 4).run Try.prog w = .ok (.bool false) w := by rfl
/-- a look-up in the map: an equation ahead of the walk -/
theorem Mb.look {w : World} {b : Nat} {l : List Int} (h : Mb w b l) (i : Int) (hi : (Lit.int .i64 i).wf = true) :
    (Instr.lookup 35 (.map (some b)) (.int .i64 i) false).run Try.prog w = .ok (.bool (decide (i ∈ l))) w := by
  obtain ⟨D, h1, h2, h3, _⟩ := h
  obtain ⟨v, ps, hrun, hv⟩ := h1.lookup (int_keyed Try.underlying3) Try.underlying35 (zero_boolM w) (zd := .lit (.bool false)) (zp := []) rfl (keyOf_int_mk Try.underlying3 hi)
  rw [h3] at hv
  rw [boolM_inv hv] at hrun
  exact hrun
/-- a new place is marked -/
theorem Mb.mark {w : World} {b : Nat} {l : List Int} (h : Mb w b l) (i : Int) (hi : (Lit.int .i64 i).wf = true) (hn : i ∉ l) (hl : l.length < 9223372036854775807) :
    ∃ w', (Instr.mapUpdate 35 (.map (some b)) (.int .i64 i) (.bool true)).run Try.prog w = .ok () w' ∧ Mb w' b (l ++ [i]) ∧ Only (fun k => k = b) w w' := by
  obtain ⟨D, h1, h2, h3, h4, h5⟩ := h
  obtain ⟨w', hrun, hw, hg⟩ := h1.update (int_keyed Try.underlying3) Try.underlying35 (by unfold maxLen; omega) (keyOf_int_mk Try.underlying3 hi) (val := .bool true) (d := .lit (.bool true)) (ps := []) rfl
  have hk : WideAt.IsKeyLit (.int .i64 i) := trivial
  refine ⟨w', hrun, ⟨_, by rw [List.length_append]; exact hw, h2.put hk _, fun j => ?_, fun j => ?_, ?_⟩, Only.of_grown hg (fun k e => by injection e with e; exact e.symm)⟩
  · by_cases hj : j = i
    · subst hj
      rw [atKey_put_same h2.isMap hk]
      simp
    · rw [atKey_put_other (by simpa using hj), h3]
      simp [hj]
  · by_cases hj : j = i
    · subst hj
      rw [has_put_same h2.isMap hk]
      simp
    · rw [has_put_other (by simpa using hj), h4]
      simp [hj]
  · rw [size_put h2, h4, h5, List.length_append]
    simp [hn]
/-- len -/
theorem Mb.len {w : World} {b : Nat} {l : List Int} (h : Mb w b l) {ops : Array Oper} {rest : List Oper} {o : Oper} {a : Act} {Q : Exit → Act → World → Prop} (hg : o.guard = none) (m : Operand)
    (hop : o.op = Op.call { callee := Callee.builtin Builtin.len, args := #[m], argTypes := #[35] }) (hm : a.eval m = .map (some b)) (hK : wpList Try.prog ops Q rest (a.put o.dst (.int .i64 l.length)) w) :
    wpList Try.prog ops Q (o :: rest) a w := by
  obtain ⟨D, h1, h2, h3, h4, h5⟩ := h
  refine wpList_len_own w hg m 35 hop 3 4 Try.underlying35 _ b l.length D hm h1 ?_
  rw [h5]
  exact hK
end Go.Proofs.Ytolkcaelmipkeaa.Gm
