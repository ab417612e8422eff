/- The walk of the law DeskSays. -/
import Derived.Test.YtdhmmllpldjkbaaGreatDoorDki
import Derived.Test.YtdhmmllpldjkbaaGreatDoorDef
import Derived.Shelf.Vars
namespace Go.Proofs.YtdhmmllpldjkbaaGreatDoor.Gm
open Go.RowKit
set_option linter.unusedVariables false
theorem mx_of {W : World} (h : W.ShapedOpen Tryz.prog) : Mx W :=
  Go.Proofs.cell_of_shapedOpen_int (zero := #[.int .i64 0]) (t := 3) h (of_decide_eq_true (by kernel_rfl)) (by kernel_rfl) rfl (by kernel_rfl) (by kernel_rfl) Tryz.underlying3
theorem o_key (x : List UInt8) (hx : x.length ≤ 65536) : ∃ r, ∀ p rest, (p :: rest).map bl = wordsOf x → Ans p rest r := by
  cases hw : wordsOf x with
  | nil => exact ⟨⟨#[]⟩, fun p rest h => absurd h (by simp)⟩
  | cons a r =>
    have e : ((⟨a.toArray⟩ : ByteArray) :: r.map fun l => (⟨l.toArray⟩ : ByteArray)).map bl = wordsOf x := by
      rw [List.map_cons, List.map_map, bl_mk, hw]
      congr 1
      conv => rhs; rw [← List.map_id r]
      exact List.map_congr_left (fun l _ => bl_mk l)
    obtain ⟨o, ho⟩ := ans_ex ⟨a.toArray⟩ (r.map fun l => ⟨l.toArray⟩) (words_Sm e hx)
    refine ⟨o, fun p rest h => ?_⟩
    rw [List.map_cons] at h
    injection h with h1 h2
    have e1 : p = ⟨a.toArray⟩ := by rw [← h1, mk_bl]
    have e2 : rest = r.map fun l => (⟨l.toArray⟩ : ByteArray) := by
      rw [← h2, List.map_map]
      conv => lhs; rw [← List.map_id rest]
      exact List.map_congr_left (fun s _ => (mk_bl s).symm)
    subst e1
    subst e2
    exact ho
theorem words_of {x : List UInt8} (h : actL x = true) : ∃ p rest, (p :: rest).map bl = wordsOf x := by
  cases hw : wordsOf x with
  | nil => rw [act_nil hw] at h; cases h
  | cons a r =>
    refine ⟨⟨a.toArray⟩, r.map fun l => (⟨l.toArray⟩ : ByteArray), ?_⟩
    rw [List.map_cons, List.map_map, bl_mk]
    congr 1
    conv => rhs; rw [← List.map_id r]
    exact List.map_congr_left (fun l _ => bl_mk l)
theorem o_ex (lns : List (List UInt8)) (h : ∀ x ∈ lns, x.length ≤ 65536) : ∃ O, OkD O lns ∧ OkR O lns ∧ SzO O lns := by
  refine ⟨fun x => if hx : x.length ≤ 65536 then (o_key x hx).choose else ⟨#[]⟩, fun x hx p rest hm ha => ?_, fun x hx p rest hm ha => ?_, fun x hx ha => ?_⟩
  · dsimp only
    rw [dif_pos (h x hx)]
    exact ((o_key x (h x hx)).choose_spec p rest hm).2.1
  · dsimp only
    rw [dif_pos (h x hx)]
    exact ((o_key x (h x hx)).choose_spec p rest hm).2.2
  · dsimp only
    rw [dif_pos (h x hx)]
    obtain ⟨p, rest, hm⟩ := words_of ha
    exact ((o_key x (h x hx)).choose_spec p rest hm).1
/-- what a text is answered with -/
def TxA (t out : ByteArray) : Prop := (∀ w, Tp w → Tb w → Mx w → Calls Tryz.prog 6 #[.string t] w (RetV w (.string out))) ∧ (∀ w, Tp w → Tb w → Calls Tryz.prog 7 #[.string t] w (RetV w (.string out)))
theorem lines_65 {t : ByteArray} (ht : t.size ≤ 65536) : ∀ x ∈ lnsOf (bl t), x.length ≤ 65536 := fun x hx => by have := lines_sm hx; rw [bl_len] at this; omega
theorem txa_ex (t : ByteArray) (hz : t.size ≤ 4000000) : ∃ out, TxA t out := by
  by_cases hb : 65536 < t.size ∨ 200 < (lnsOf (bl t)).length
  · exact ⟨_, fun w hT hTb hM => run_bad t (by omega) hb w hM, fun w hT hTb => rdesk_bad t (by omega) hb w⟩
  · have h1 : t.size ≤ 65536 := by omega
    have h2 : (lnsOf (bl t)).length ≤ 200 := by omega
    obtain ⟨O, o1, o2, o3⟩ := o_ex (lnsOf (bl t)) (lines_65 h1)
    exact ⟨_, fun w hT hTb hM => run_any t O o1 o3 h1 h2 w hT hTb hM, fun w hT hTb => rdesk_any t O o2 o3 h1 h2 w hT hTb⟩
set_option maxRecDepth 100000 in
theorem wDeskSays (t : ByteArray) (W : World) (HP : Tp W) (HT : Tb W) (HM : Mx W) (hz : t.size ≤ 4000000) :
    Calls Tryz.prog 3 #[.string t] W fun e W' => e = .returned (.bool true) ∧ Below W.heap.size W W' := by
  obtain ⟨out, h1, h2⟩ := txa_ex t hz
  have C1 := Lib.hid (h1 W HP HT HM)
  have C2 := Lib.hid h2
  have TP := Lib.hid HP
  have TB := Lib.hid HT
  have g1 : (out.toList == out.toList) = true := beq_self_eq_true _
  clear h1 h2 HP HT HM
  go_enter Tryz.func3, Tryz.ntmps3
  go_wp2_with fail
  refine C1.out.mono ?_
  rintro e w1 ⟨rfl, hb⟩
  have B1 := Lib.hid hb
  have hs1 := hb.size
  clear hb
  go_wp2_with fail
  refine (C2.out _ (TP.out.below B1.out) (TB.out.below B1.out)).mono ?_
  rintro e w2 ⟨rfl, hb⟩
  have B2 := Lib.hid (B1.out.trans (hb.mono hs1))
  clear hb
  go_wp2
  go_ret
  exact ⟨rfl, B2.out⟩
end Go.Proofs.YtdhmmllpldjkbaaGreatDoor.Gm
