/- From the door's condition to the table. -/
import Derived.Test.YtdhmmllpldjkbaaGreatDoorGc
import Derived.Test.YtdhmmllpldjkbaaGreatDoorRows
import Derived.OpenShut
import Derived.ChangeVars
import Derived.ProofKit
import Derived.LaidMore
import Derived.Stop.Joined
namespace Go.Proofs.YtdhmmllpldjkbaaGreatDoor.Gm
open Go.ChangeShapes Go.WideShapes Go.ChangeAt Go.RowKit
theorem laid_at {P : Program} {w : World} {n : String} {d : DataW Unit} : ∀ {l : List (String × DataW Unit)} {ps : List MemPlace}, DataW.LaidVars P w l ps → (n, d) ∈ l →
    ∃ g t cs fuel p, P.globalNamed n = some g ∧ (P.globals[g]?).map (·.type) = some t ∧ w.var? P n = some cs ∧ DataW.trod (fun _ => ()) P w 0 (fun _ => true) false fuel t cs.toList = some (d, p)
  | [], _, _, h => by cases h
  | (m, e) :: r, ps, h, hx => by
    obtain ⟨g, t, cs, fuel, p, q, h1, h2, h3, h4, h5, _⟩ := h
    rcases List.mem_cons.1 hx with hx | hx
    · injection hx with e1 e2
      subst e1 e2
      exact ⟨g, t, cs, fuel, p, h1, h2, h3, h4⟩
    · exact laid_at h5 hx
theorem int_of_trod {H : Type} {enc : TypeId × Value → H} {P : Program} {w : World} {base : Nat} {sp : Nat → Bool} {held : Bool} {fuel : Nat} {t : TypeId} {k : IntKind} {c : Value} {y : DataW H × List MemPlace}
    (ht : P.underlying t = some (.int k)) (h : DataW.trod enc P w base sp held fuel t [c] = some y) : ∃ n, c = .int k n ∧ y = (.lit (.int k n), []) := by
  cases fuel with
  | zero => simp [DataW.trod] at h
  | succ fuel =>
    cases c <;> simp [DataW.trod, ht] at h
    rename_i k' n
    obtain ⟨⟨rfl, _⟩, rfl⟩ := h
    exact ⟨n, rfl, rfl⟩
theorem tabG : Tryz.prog.globalNamed "math/bits.deBruijn64tab" = some 5 := by kernel_rfl
theorem tabT : (Tryz.prog.globals[5]?).map (·.type) = some 151 := by kernel_rfl
theorem cells_u8 : Tryz.prog.cellsOf 5 = 1 := by kernel_rfl
theorem cells_tab : Tryz.prog.cellsOf 151 = 64 := by kernel_rfl
theorem tab_lits : (Rows.laid_math_bits_deBruijn64tab : DataW Unit) = .agg (Lib.deBruijn64tab.map fun n : Nat => .lit (.int .u8 (n : Int))) := by rfl
theorem tb_of {l : List (String × DataW Unit)} {W : World} (h : laidMet Tryz.prog l W) (hx : ("math/bits.deBruijn64tab", Rows.laid_math_bits_deBruijn64tab) ∈ l) : Tb W := by
  obtain ⟨ps, hv, _⟩ := h
  obtain ⟨g, t, cs, fuel, p, hg, ht, hvar, hd⟩ := laid_at hv hx
  obtain rfl := Option.some.inj (tabG.symm.trans hg)
  obtain rfl := Option.some.inj (tabT.symm.trans ht)
  obtain ⟨xs, m, rfl, hxs, hl, hxl, hel⟩ := DataW.trod_array Tryz.underlying151 hd
  rw [tab_lits] at hxs
  injection hxs with e1 e2
  injection e1 with e1
  intro j hj
  have h1 := hel j hj
  have hjx : j < xs.length := by omega
  rw [cells_tab] at hl
  rw [cells_u8, Nat.mul_one, List.getElem?_eq_getElem hjx] at h1
  have hjc : j < cs.toList.length := by omega
  rw [List.drop_eq_getElem_cons hjc] at h1
  obtain ⟨n, hn, hy⟩ := int_of_trod (c := cs.toList[j]) Tryz.underlying5 (by simpa using h1)
  have h2 : (xs.map (·.1))[j]? = some (.lit (.int .u8 n)) := by rw [List.getElem?_map, List.getElem?_eq_getElem hjx, hy]; rfl
  rw [← e1, List.getElem?_map] at h2
  have h3 : j < Lib.deBruijn64tab.length := hj
  rw [List.getElem?_eq_getElem h3] at h2
  simp only [Option.map_some, Option.some.injEq, DataW.lit.injEq, Lit.int.injEq, true_and] at h2
  have h4 := World.var?_cell hg hvar j
  rw [h4]
  rw [← Array.getElem?_toList, List.getElem?_eq_getElem hjc, hn, ← h2, List.getD_eq_getElem?_getD, List.getElem?_eq_getElem h3]
  rfl
end Go.Proofs.YtdhmmllpldjkbaaGreatDoor.Gm
