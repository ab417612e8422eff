/- The walk of the law DeskHead. (Printed by wip/mk_dkv.py.) -/
import Derived.Test.YtdhmmllpldjkbaaGreatDoorDku
namespace Go.Proofs.YtdhmmllpldjkbaaGreatDoor.Gm
open Go.RowKit
set_option linter.unusedVariables false
theorem pcs_cut (c : UInt8) (b : List UInt8) : ∀ a, pcs c false (a ++ c :: b) = pcs c false a ++ pcs c false b
  | [] => by
    show pcs c false (c :: b) = [[]] ++ pcs c false b
    simp [pcs]
  | x :: r => by
    have ih := pcs_cut c b r
    rw [List.cons_append]
    simp only [pcs]
    by_cases h : x = c
    · rw [if_pos h, if_pos h, ih]; rfl
    · rw [if_neg h, if_neg h, ih]
      cases hq : pcs c false r with
      | nil => exact absurd hq (pcs_ne c false r)
      | cons q qs => rfl
theorem dropE_pre (l : List (List UInt8)) : dropE l <+: l := by
  unfold dropE
  split
  · rw [List.dropLast_eq_take]; exact List.take_prefix _ _
  · exact List.prefix_refl l
theorem dropE_app (x y : List (List UInt8)) (h : y ≠ []) : dropE (x ++ y) = x ++ dropE y := by
  unfold dropE
  have e : (x ++ y).getLast? = y.getLast? := by
    rw [List.getLast?_append]
    cases hy : y.getLast? with
    | none => exact absurd (List.getLast?_eq_none_iff.1 hy) h
    | some q => rfl
  rw [e]
  split
  · exact List.dropLast_append_of_ne_nil h
  · rfl
theorem lns_pre (a b : List UInt8) : ∃ m, m ≤ (lnsOf (a ++ 10 :: b)).length ∧ lnsOf a = (lnsOf (a ++ 10 :: b)).take m := by
  have h1 : lnsOf a <+: pcs 10 false a := dropE_pre _
  have h2 : lnsOf (a ++ 10 :: b) = pcs 10 false a ++ lnsOf b := by
    unfold lnsOf
    rw [pcs_cut, dropE_app _ _ (pcs_ne 10 false b)]
  have h3 : lnsOf a <+: lnsOf (a ++ 10 :: b) := by rw [h2]; exact List.IsPrefix.trans h1 (List.prefix_append _ _)
  exact ⟨(lnsOf a).length, h3.length_le, List.prefix_iff_eq_take.1 h3⟩
theorem ouL_take (O : List UInt8 → ByteArray) (ls : List (List UInt8)) (m : Nat) : ouL O (ls.take m) (ls.take m).length = ouL O ls m := by
  rw [ouL_all]; unfold ouL; rfl
theorem ouL_pre (O : List UInt8 → ByteArray) (ls : List (List UInt8)) (m : Nat) : ouL O ls m <+: ouL O ls ls.length := by
  rw [ouL_all]
  unfold ouL
  have e : ls.map (pcO O) = (ls.take m).map (pcO O) ++ (ls.drop m).map (pcO O) := by rw [← List.map_append, List.take_append_drop]
  rw [e, List.flatten_append]
  exact List.prefix_append _ _
theorem all_bl (t m : ByteArray) : bl (t ++ ⟨#[10]⟩ ++ m) = bl t ++ 10 :: bl m := by
  rw [bl_app, bl_app, show bl ⟨#[10]⟩ = [10] from bl_mk [10], List.append_assoc]
  rfl
set_option maxHeartbeats 8000000 in
set_option maxRecDepth 100000 in
theorem wDeskHead (t m : ByteArray) (W : World) (HP : Tp W) (HT : Tb W) (HM : Mx W) (hz : t.size ≤ 140737488355328) (hz2 : m.size ≤ 140737488355328) :
    Calls Tryz.prog 5 #[.string t, .string m] W fun e W' => e = .returned (.bool true) ∧ Below W.heap.size W W' := by
  have C1 := Lib.hid (run_c1 W HP HT HM)
  have TP := Lib.hid HP
  have TB := Lib.hid HT
  have MX := Lib.hid HM
  have esz : (t ++ ⟨#[10]⟩ ++ m).size = t.size + 1 + m.size := by
    rw [ByteArray.size_append, ByteArray.size_append]
    rfl
  have AB := Lib.hid (all_bl t m)
  have hov1 : ¬ 9223372036854775807 < t.size + 1 := by omega
  have hov2 : ¬ 9223372036854775807 < t.size + 1 + m.size := by omega
  clear HP HT HM
  by_cases h6 : 65536 < t.size + 1 + m.size
  · have g1 : decide ((65536 : Int) < ((t ++ ⟨#[10]⟩ ++ m : ByteArray).size : Int)) = true := decide_eq_true (by omega)
    have g2 : decide (65536 < (t ++ ⟨#[10]⟩ ++ m : ByteArray).size) = true := decide_eq_true (by omega)
    have g3 : decide ((65536 : Int) < (t.size : Int) + 1 + (m.size : Int)) = true := decide_eq_true (by omega)
    have g4 : decide (65536 < t.size + 1 + m.size) = true := decide_eq_true h6
    have g5 : decide ((65536 : Int) < ((t.size + 1 + m.size : Nat) : Int)) = true := decide_eq_true (by omega)
    go_enter Tryz.func5, Tryz.ntmps5
    go_wp2_with fail
    refine C1.out.mono ?_
    rintro e w1 ⟨rfl, hb⟩
    have B1 := Lib.hid hb
    clear hb
    go_wp2
    go_ret
    exact ⟨rfl, B1.out⟩
  · obtain ⟨al, hal⟩ : ∃ al : ByteArray, al = t ++ ⟨#[10]⟩ ++ m := ⟨_, rfl⟩
    have HAL := Lib.hid hal
    rw [← hal] at esz AB
    have asz : al.size ≤ 65536 := by omega
    have tsz : t.size ≤ 65536 := by omega
    have g1 : decide ((65536 : Int) < (al.size : Int)) = false := decide_eq_false (by omega)
    have g2 : decide (65536 < al.size) = false := decide_eq_false (by omega)
    have g7 : decide ((65536 : Int) < (t.size : Int) + 1 + (m.size : Int)) = false := decide_eq_false (by omega)
    have g8 : decide (65536 < t.size + 1 + m.size) = false := decide_eq_false h6
    have TL := Lib.hid (fun w => tlines_any al w (by omega))
    have LP := Lib.hid (lns_pre (bl t) (bl m))
    rw [← AB.out] at LP
    have LSa := Lib.hid (lines_65 asz)
    clear h6 esz hal AB
    go_enter Tryz.func5, Tryz.ntmps5
    go_wp2_with fail
    refine C1.out.mono ?_
    rintro e w1 ⟨rfl, hb⟩
    have B1 := Lib.hid hb
    have hs1 := hb.size
    clear hb
    go_wp2_with fail
    rw [← HAL.out]
    refine (TL.out _).mono ?_
    rintro e w2 ⟨v, ls, rfl, hrs, hlm, hb⟩
    have B2 := Lib.hid (B1.out.trans (hb.mono hs1))
    have hs2 := B2.out.size
    obtain ⟨a, cap, rfl, hk, hm⟩ := hrs.shape
    have hln : (lnsOf (bl al)).length = ls.length := by rw [← hlm, List.length_map]
    have HLN := Lib.hid hln
    clear hb hrs hlm TL hln
    by_cases h7 : 200 < ls.length
    · have g3 : decide ((200 : Int) < (ls.length : Int)) = true := decide_eq_true (by omega)
      have g4 : decide (200 < ls.length) = true := decide_eq_true h7
      go_wp2
      go_ret
      exact ⟨rfl, B2.out⟩
    · have g3 : decide ((200 : Int) < (ls.length : Int)) = false := decide_eq_false (by omega)
      have g4 : decide (200 < ls.length) = false := decide_eq_false h7
      have hn2 : (lnsOf (bl al)).length ≤ 200 := by rw [HLN.out]; omega
      obtain ⟨O, o1, o2, o3⟩ := o_ex (lnsOf (bl al)) LSa.out
      obtain ⟨k, hk1, hk2⟩ := LP.out
      have sub : ∀ x ∈ lnsOf (bl t), x ∈ lnsOf (bl al) := fun x hx => by rw [hk2] at hx; exact List.mem_of_mem_take hx
      have R1 := run_any al O o1 o3 asz hn2 w2 (TP.out.below B2.out) (TB.out.below B2.out) (MX.out.below B2.out)
      have R2 := fun w hT hTb hM => run_any t O (fun x hx => o1 x (sub x hx)) (fun x hx => o3 x (sub x hx)) tsz (by rw [hk2, List.length_take]; omega) w hT hTb hM
      rw [hk2, ouL_take] at R2
      have RR1 := Lib.hid R1
      have RR2 := Lib.hid R2
      have HPF := Lib.hid (fun w => Tryz.strings_HasPrefix ⟨(ouL O (lnsOf (bl al)) (lnsOf (bl al)).length).toArray⟩ ⟨(ouL O (lnsOf (bl al)) k).toArray⟩ w)
      have PF : Lib.hasPrefix (⟨(ouL O (lnsOf (bl al)) (lnsOf (bl al)).length).toArray⟩ : ByteArray).data.toList (⟨(ouL O (lnsOf (bl al)) k).toArray⟩ : ByteArray).data.toList = true := by
        unfold Lib.hasPrefix
        exact List.isPrefixOf_iff_prefix.2 (ouL_pre O _ k)
      rw [PF] at HPF
      generalize (⟨(ouL O (lnsOf (bl al)) (lnsOf (bl al)).length).toArray⟩ : ByteArray) = oa at *
      generalize (⟨(ouL O (lnsOf (bl al)) k).toArray⟩ : ByteArray) = ot at *
      clear R1 R2 PF o1 o2 o3 sub hk1 hk2 hn2 HLN LP LSa
      generalize ls.length = n0 at *
      go_wp2_with fail
      refine RR1.out.mono ?_
      rintro e w3 ⟨rfl, hb⟩
      have B3 := Lib.hid (B2.out.trans (hb.mono hs2))
      have hs3 := B3.out.size
      clear hb
      go_wp2_with fail
      refine (RR2.out _ (TP.out.below B3.out) (TB.out.below B3.out) (MX.out.below B3.out)).mono ?_
      rintro e w4 ⟨rfl, hb⟩
      have B4 := Lib.hid (B3.out.trans (hb.mono hs3))
      clear hb
      go_wp2_with fail
      refine (HPF.out _).mono ?_
      rintro e w5 ⟨rfl, rfl⟩
      go_wp2
      go_ret
      exact ⟨rfl, B4.out⟩
end Go.Proofs.YtdhmmllpldjkbaaGreatDoor.Gm
