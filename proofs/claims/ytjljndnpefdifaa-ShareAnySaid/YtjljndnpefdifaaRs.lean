/- A slice of shares; the map of places that the check has seen. -/
import Derived.Test.YtjljndnpefdifaaSp
import Derived.Maps.OwnOps
import Derived.Maps.Views
namespace Go.Proofs.Ytjljndnpefdifaa.Gm
open Go.RowKit
open Go.Maps
/-- a slice of shares reads as its places and its symbols -/
def Rs (w : World) (v : Value) (az sz : List Int) : Prop :=
  az.length = sz.length ∧ ∃ a cap b off, v = .slice a az.length cap ∧ az.length ≤ cap ∧ cap ≤ 9223372036854775807 ∧ (az.length ≤ 0 ∨ a = some ⟨b, off, none⟩) ∧
    ∀ i, i < az.length → w.cell? ⟨b, off + i * 2, none⟩ = some (.int .i64 (gd az i)) ∧ w.cell? ⟨b, off + i * 2 + 1, none⟩ = some (.int .u64 (gd sz i))
theorem Rs.of_cells {w w' : World} {v : Value} {az sz : List Int} (h : Rs w v az sz) (hc : ∀ b o, b < w.heap.size → w'.cell? ⟨b, o, none⟩ = w.cell? ⟨b, o, none⟩) : Rs w' v az sz := by
  obtain ⟨h0, a, cap, b, off, e, h1, h2, h3, hx⟩ := h
  refine ⟨h0, a, cap, b, off, e, h1, h2, h3, fun i hi => ?_⟩
  have := hx i hi
  rw [hc b _ (World.block_lt_of_cell? w _ this.1), hc b _ (World.block_lt_of_cell? w _ this.2)]
  exact this
theorem Rs.below {w w' : World} {v : Value} {az sz : List Int} (h : Rs w v az sz) (hb : Below w.heap.size w w') : Rs w' v az sz :=
  h.of_cells (fun b o hlt => hb.cell (p := ⟨b, o, none⟩) hlt)
theorem Rs.drew {w : World} {v : Value} {az sz : List Int} (h : Rs w v az sz) : Rs w.drew v az sz := h.of_cells (fun _ _ _ => rfl)
theorem Rs.drewN {w : World} {v : Value} {az sz : List Int} (h : Rs w v az sz) (n : Nat) : Rs (w.drewN n) v az sz := h.of_cells (fun _ _ _ => rfl)
theorem Rs.alloc {w : World} {v : Value} {az sz : List Int} (h : Rs w v az sz) (o : Obj) : Rs (w.alloc o) v az sz :=
  h.below ((Below.refl _ _).alloc (Nat.le_refl _) o)
theorem Rs.shape {w : World} {v : Value} {az sz : List Int} (h : Rs w v az sz) : ∃ a cap, v = .slice a az.length cap ∧ az.length ≤ cap ∧ cap ≤ 9223372036854775807 := by
  obtain ⟨h0, a, cap, b, off, e, h1, h2, h3, hx⟩ := h
  exact ⟨a, cap, e, h1, h2⟩
/-- how a bool reads -/
def boolR (v : Value) : Option (DataW Unit × List MemPlace) := match v with | .bool x => some (.lit (.bool x), []) | _ => none
/-- the map of the places seen: block b -/
def Seen (w : World) (b : Nat) (l : List Int) : Prop :=
  ∃ D : DataW Unit, w.ownsMap Try.prog 3 boolR b l.length D ∧ IsMap D ∧ ∀ i : Int, D.atKey (.int .i64 i) (.lit (.bool false)) = .lit (.bool (decide (i ∈ l)))
theorem Seen.made (w : World) : Seen (w.alloc (.map #[] 0)) w.heap.size [] :=
  ⟨.map [], World.ownsMap_made w _ _ _, ⟨[], rfl⟩, fun i => by simp [DataW.atKey]⟩
theorem Seen.below {w w' : World} {b : Nat} {l : List Int} (h : Seen w b l) (hb : Below w.heap.size w w') : Seen w' b l := by
  obtain ⟨D, ⟨es, clock, e1, e2, e3, e4⟩, h2, h3⟩ := h
  exact ⟨D, ⟨es, clock, (hb.block b (Array.getElem?_eq_some_iff.1 e1).1).trans e1, e2, e3, e4⟩, h2, h3⟩
theorem Seen.lt {w : World} {b : Nat} {l : List Int} (h : Seen w b l) : b < w.heap.size := h.choose_spec.1.lt
theorem boolR_inv {v : Value} {x : Bool} {ps : List MemPlace} (h : boolR v = some (.lit (.bool x), ps)) : v = .bool x := by
  unfold boolR at h
  split at h
  · simp only [Option.some.injEq, Prod.mk.injEq, DataW.lit.injEq, Lit.bool.injEq] at h
    rw [h.1]
  · cases h
theorem zero_bool (w : World) : (zeroValue 4).run Try.prog w = .ok (.bool false) w := by rfl
/-- a look-up in the map: an equation ahead of the walk -/
theorem Seen.look {w : World} {b : Nat} {l : List Int} (h : Seen w b l) (i : Int) (hi : (Lit.int .i64 i).wf = true) :
    (Instr.lookup 81 (.map (some b)) (.int .i64 i) false).run Try.prog w = .ok (.bool (decide (i ∈ l))) w := by
  obtain ⟨D, h1, h2, h3⟩ := h
  obtain ⟨v, ps, hrun, hv⟩ := h1.lookup (int_keyed Try.underlying3) Try.underlying81 (zero_bool w) (zd := .lit (.bool false)) (zp := []) rfl (keyOf_int_mk Try.underlying3 hi)
  rw [h3] at hv
  rw [boolR_inv hv] at hrun
  exact hrun
/-- a place is marked -/
theorem Seen.mark {w : World} {b : Nat} {l : List Int} (h : Seen w b l) (i : Int) (hi : (Lit.int .i64 i).wf = true) (hl : l.length < 9223372036854775807) :
    ∃ w', (Instr.mapUpdate 81 (.map (some b)) (.int .i64 i) (.bool true)).run Try.prog w = .ok () w' ∧ Seen w' b (l ++ [i]) ∧ w.grownBy w' (some b) := by
  obtain ⟨D, h1, h2, h3⟩ := h
  obtain ⟨w', hrun, hw, hg⟩ := h1.update (int_keyed Try.underlying3) Try.underlying81 (by unfold maxLen; omega) (keyOf_int_mk Try.underlying3 hi) (val := .bool true) (d := .lit (.bool true)) (ps := []) rfl
  refine ⟨w', hrun, ⟨_, by rw [List.length_append]; exact hw, ?_, fun j => ?_⟩, hg⟩
  · obtain ⟨es, rfl⟩ := h2
    exact ⟨_, rfl⟩
  · by_cases hj : j = i
    · subst hj
      rw [atKey_put_same h2 (show WideAt.IsKeyLit (.int .i64 j) from trivial)]
      simp
    · rw [atKey_put_other (by simpa using hj), h3]
      simp [hj]
end Go.Proofs.Ytjljndnpefdifaa.Gm
