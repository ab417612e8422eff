/- The walk of the law PolyDivides. (Its lines are printed by wip/mk_XLd.py.) -/
import Derived.Test.YtolkcaelmipkeaaPd
import Derived.Test.YtolkcaelmipkeaaRr
import Derived.Test.YtolkcaelmipkeaaLg
namespace Go.Proofs.Ytolkcaelmipkeaa.Gm
open Go.RowKit
set_option maxHeartbeats 2000000 in
set_option maxRecDepth 100000 in
theorem wPolyDivides (zs ys : List Int) (v v2 : Value) (w : World) (h : Rd .u64 w v zs) (h2 : Rd .u64 w v2 ys) (hz : B64 zs) (hy : B64 ys) :
    Calls Try.prog 12 #[v, v2] w (RetV w (.bool true)) := by
  have X := Lib.hid h
  have Y := Lib.hid h2
  obtain ⟨a, cap, rfl, hcap, hm⟩ := h.shape
  obtain ⟨a2, cap2, rfl, hcap2, hm2⟩ := h2.shape
  clear h h2
  by_cases c1 : 200 < zs.length
  · go_enter Try.func12, Try.ntmps12
    go_wp2
    go_ret
    exact ⟨rfl, Below.refl _ _⟩
  by_cases c2 : 200 < ys.length
  · go_enter Try.func12, Try.ntmps12
    go_wp2
    go_ret
    exact ⟨rfl, Below.refl _ _⟩
  have hl1 : zs.length ≤ 2048 := by omega
  have hl2 : ys.length ≤ 2048 := by omega
  obtain ⟨fa, hfa⟩ : ∃ fa, fa = strip (zs.map toF) := ⟨_, rfl⟩
  obtain ⟨fb, hfb⟩ : ∃ fb, fb = strip (ys.map toF) := ⟨_, rfl⟩
  have Fa := Lib.hid hfa
  have Fb := Lib.hid hfb
  have la : fa.length ≤ 200 := by rw [hfa]; have := strip_len (zs.map toF); rw [List.length_map] at this; omega
  have lb : fb.length ≤ 200 := by rw [hfb]; have := strip_len (ys.map toF); rw [List.length_map] at this; omega
  have SFa := Lib.hid (show strip fa = fa by rw [hfa]; exact strip_strip _)
  have E0 := Lib.hid (fun (he : fb.length ≤ 0) => show (strip (ys.map toF)).length ≤ 0 by rw [← hfb]; exact he)
  have E1 := Lib.hid (fun (he : 0 < fb.length) => show 0 < (strip (ys.map toF)).length by rw [← hfb]; exact he)
  clear hfa hfb
  by_cases c3 : fb.length ≤ 0
  · have hb0 : ((fb.length : Int) == 0) = true := by rw [beq_iff_eq]; omega
    have hb0' : (fb.length == 0) = true := by rw [beq_iff_eq]; omega
    have B0 := Lib.hid (Below.refl w.heap.size w)
    have hsz0 : w.heap.size ≤ w.heap.size := Nat.le_refl _
    go_enter Try.func12, Try.ntmps12
    go_wp2_with fail
    refine (div_none zs ys _ _ _ X.out Y.out hz hy hl1 hl2 (E0.out c3)).mono ?_
    rintro e w1 ⟨v1a, v1b, rfl, hown, hown2, hbel⟩
    have X_1 := Lib.hid (X.out.below hbel)
    have Y_1 := Lib.hid (Y.out.below hbel)
    have Q_1 := Lib.hid (hown.mono hsz0)
    have R_1 := Lib.hid (hown2.mono hsz0)
    have B1 := Lib.hid (B0.out.trans (hbel.mono hsz0))
    have hsz1 := B1.out.size
    clear X Y hown hown2 hbel
    obtain ⟨qQ, cQ, rfl, _, _⟩ := Q_1.out.shape
    obtain ⟨qR, cR, rfl, _, _⟩ := R_1.out.shape
    go_wp2_with fail
    refine (rnormal_any ys _ _ Y_1.out hy (by omega)).mono ?_
    rintro e w2 ⟨v2, rfl, hown, hbel⟩
    rw [← Fb.out] at hown
    have X_2 := Lib.hid (X_1.out.below hbel)
    have Y_2 := Lib.hid (Y_1.out.below hbel)
    have Q_2 := Lib.hid (Q_1.out.below hbel)
    have R_2 := Lib.hid (R_1.out.below hbel)
    have N_2 := Lib.hid (hown.mono hsz1)
    have B2 := Lib.hid (B1.out.trans (hbel.mono hsz1))
    have hsz2 := B2.out.size
    clear X_1 Y_1 Q_1 R_1 hown hbel
    obtain ⟨qN, cN, rfl, _, _⟩ := N_2.out.shape
    go_wp2
    go_ret
    exact ⟨rfl, B2.out⟩
  have c4 : 0 < fb.length := by omega
  have hb0 : ((fb.length : Int) == 0) = false := by rw [beq_eq_false_iff_ne]; omega
  have hb0' : (fb.length == 0) = false := by rw [beq_eq_false_iff_ne]; omega
  have B0 := Lib.hid (Below.refl w.heap.size w)
  have hsz0 : w.heap.size ≤ w.heap.size := Nat.le_refl _
  go_enter Try.func12, Try.ntmps12
  go_wp2_with fail
  refine (div_any zs ys _ _ _ X.out Y.out hz hy hl1 hl2 (E1.out c4)).mono ?_
  rintro e w1 ⟨q, r, hD, v1a, v1b, rfl, hown, hown2, hbel⟩
  have X_1 := Lib.hid (X.out.below hbel)
  have Y_1 := Lib.hid (Y.out.below hbel)
  have Q_1 := Lib.hid (hown.mono hsz0)
  have R_1 := Lib.hid (hown2.mono hsz0)
  have B1 := Lib.hid (B0.out.trans (hbel.mono hsz0))
  have hsz1 := B1.out.size
  clear X Y hown hown2 hbel
  rw [← Fa.out, ← Fb.out] at hD
  obtain ⟨hD1, hD2, hD3, hD4, hD5, hD6⟩ := hD
  have D1 := Lib.hid hD1
  have D2 := Lib.hid hD2
  have D3 := Lib.hid hD3
  clear hD1 hD2 hD3
  have lq : (q.map vl).length ≤ 100000 := by rw [List.length_map]; omega
  have lr : (r.map vl).length ≤ 100000 := by rw [List.length_map]; omega
  have lqm : (q.map vl).length ≤ 1000000 := by omega
  have lrm : (r.map vl).length ≤ 1000000 := by omega
  have lbm : (fb.map vl).length ≤ 100000 := by rw [List.length_map]; omega
  have lpm : ((mulL q fb).map vl).length ≤ 100000 := by
    rw [List.length_map]
    unfold mulL
    split
    · simp
    · simp; omega
  have dlt : decide (r.length < fb.length) = true := by simpa using hD4
  obtain ⟨qQ, cQ, rfl, _, _⟩ := Q_1.out.shape
  obtain ⟨qR, cR, rfl, _, _⟩ := R_1.out.shape
  go_wp2_with fail
  refine (rnormal_any ys _ _ Y_1.out hy (by omega)).mono ?_
  rintro e w2 ⟨v2, rfl, hown, hbel⟩
  rw [← Fb.out] at hown
  have X_2 := Lib.hid (X_1.out.below hbel)
  have Y_2 := Lib.hid (Y_1.out.below hbel)
  have Q_2 := Lib.hid (Q_1.out.below hbel)
  have R_2 := Lib.hid (R_1.out.below hbel)
  have N_2 := Lib.hid (hown.mono hsz1)
  have B2 := Lib.hid (B1.out.trans (hbel.mono hsz1))
  have hsz2 := B2.out.size
  clear X_1 Y_1 Q_1 R_1 hown hbel
  obtain ⟨qN, cN, rfl, _, _⟩ := N_2.out.shape
  go_wp2_with fail
  refine (rnormal_any (q.map vl) _ _ Q_2.out.rd (B64.vl q) lqm).mono ?_
  rintro e w3 ⟨v3, rfl, hown, hbel⟩
  rw [map_toF_vl, D1.out] at hown
  have X_3 := Lib.hid (X_2.out.below hbel)
  have Y_3 := Lib.hid (Y_2.out.below hbel)
  have Q_3 := Lib.hid (Q_2.out.below hbel)
  have R_3 := Lib.hid (R_2.out.below hbel)
  have N_3 := Lib.hid (N_2.out.below hbel)
  have NQ_3 := Lib.hid (hown.mono hsz2)
  have B3 := Lib.hid (B2.out.trans (hbel.mono hsz2))
  have hsz3 := B3.out.size
  clear X_2 Y_2 Q_2 R_2 N_2 hown hbel
  go_wp2_with fail
  refine (equal_yes (q.map vl) _ _ _ Q_3.out.rd NQ_3.out.rd).mono ?_
  rintro e w4 ⟨rfl, hbel⟩
  have X_4 := Lib.hid (X_3.out.below hbel)
  have Y_4 := Lib.hid (Y_3.out.below hbel)
  have Q_4 := Lib.hid (Q_3.out.below hbel)
  have R_4 := Lib.hid (R_3.out.below hbel)
  have N_4 := Lib.hid (N_3.out.below hbel)
  have NQ_4 := Lib.hid (NQ_3.out.below hbel)
  have B4 := Lib.hid (B3.out.trans (hbel.mono hsz3))
  have hsz4 := B4.out.size
  clear X_3 Y_3 Q_3 R_3 N_3 NQ_3 hbel
  go_wp2_with fail
  refine (rnormal_any (r.map vl) _ _ R_4.out.rd (B64.vl r) lrm).mono ?_
  rintro e w5 ⟨v5, rfl, hown, hbel⟩
  rw [map_toF_vl, D2.out] at hown
  have X_5 := Lib.hid (X_4.out.below hbel)
  have Y_5 := Lib.hid (Y_4.out.below hbel)
  have Q_5 := Lib.hid (Q_4.out.below hbel)
  have R_5 := Lib.hid (R_4.out.below hbel)
  have N_5 := Lib.hid (N_4.out.below hbel)
  have NQ_5 := Lib.hid (NQ_4.out.below hbel)
  have NR_5 := Lib.hid (hown.mono hsz4)
  have B5 := Lib.hid (B4.out.trans (hbel.mono hsz4))
  have hsz5 := B5.out.size
  clear X_4 Y_4 Q_4 R_4 N_4 NQ_4 hown hbel
  go_wp2_with fail
  refine (equal_yes (r.map vl) _ _ _ R_5.out.rd NR_5.out.rd).mono ?_
  rintro e w6 ⟨rfl, hbel⟩
  have X_6 := Lib.hid (X_5.out.below hbel)
  have Y_6 := Lib.hid (Y_5.out.below hbel)
  have Q_6 := Lib.hid (Q_5.out.below hbel)
  have R_6 := Lib.hid (R_5.out.below hbel)
  have N_6 := Lib.hid (N_5.out.below hbel)
  have NQ_6 := Lib.hid (NQ_5.out.below hbel)
  have NR_6 := Lib.hid (NR_5.out.below hbel)
  have B6 := Lib.hid (B5.out.trans (hbel.mono hsz5))
  have hsz6 := B6.out.size
  clear X_5 Y_5 Q_5 R_5 N_5 NQ_5 NR_5 hbel
  go_wp2_with fail
  refine (rproduct_any (q.map vl) (fb.map vl) _ _ _ Q_6.out.rd N_6.out.rd (B64.vl q) (B64.vl fb) lq lbm).mono ?_
  rintro e w7 ⟨v7, rfl, hown, hbel⟩
  rw [map_toF_vl, map_toF_vl] at hown
  have X_7 := Lib.hid (X_6.out.below hbel)
  have Y_7 := Lib.hid (Y_6.out.below hbel)
  have Q_7 := Lib.hid (Q_6.out.below hbel)
  have R_7 := Lib.hid (R_6.out.below hbel)
  have N_7 := Lib.hid (N_6.out.below hbel)
  have NQ_7 := Lib.hid (NQ_6.out.below hbel)
  have NR_7 := Lib.hid (NR_6.out.below hbel)
  have PR_7 := Lib.hid (hown.mono hsz6)
  have B7 := Lib.hid (B6.out.trans (hbel.mono hsz6))
  have hsz7 := B7.out.size
  clear X_6 Y_6 Q_6 R_6 N_6 NQ_6 NR_6 hown hbel
  go_wp2_with fail
  refine (rsum_any ((mulL q fb).map vl) (r.map vl) _ _ _ PR_7.out.rd R_7.out.rd (B64.vl _) (B64.vl r) lpm lr).mono ?_
  rintro e w8 ⟨v8, rfl, hown, hbel⟩
  rw [map_toF_vl, map_toF_vl, D3.out, SFa.out] at hown
  have X_8 := Lib.hid (X_7.out.below hbel)
  have Y_8 := Lib.hid (Y_7.out.below hbel)
  have Q_8 := Lib.hid (Q_7.out.below hbel)
  have R_8 := Lib.hid (R_7.out.below hbel)
  have N_8 := Lib.hid (N_7.out.below hbel)
  have NQ_8 := Lib.hid (NQ_7.out.below hbel)
  have NR_8 := Lib.hid (NR_7.out.below hbel)
  have PR_8 := Lib.hid (PR_7.out.below hbel)
  have SU_8 := Lib.hid (hown.mono hsz7)
  have B8 := Lib.hid (B7.out.trans (hbel.mono hsz7))
  have hsz8 := B8.out.size
  clear X_7 Y_7 Q_7 R_7 N_7 NQ_7 NR_7 PR_7 hown hbel
  go_wp2_with fail
  refine (rnormal_any zs _ _ X_8.out hz (by omega)).mono ?_
  rintro e w9 ⟨v9, rfl, hown, hbel⟩
  rw [← Fa.out] at hown
  have X_9 := Lib.hid (X_8.out.below hbel)
  have Y_9 := Lib.hid (Y_8.out.below hbel)
  have Q_9 := Lib.hid (Q_8.out.below hbel)
  have R_9 := Lib.hid (R_8.out.below hbel)
  have N_9 := Lib.hid (N_8.out.below hbel)
  have NQ_9 := Lib.hid (NQ_8.out.below hbel)
  have NR_9 := Lib.hid (NR_8.out.below hbel)
  have PR_9 := Lib.hid (PR_8.out.below hbel)
  have SU_9 := Lib.hid (SU_8.out.below hbel)
  have NA_9 := Lib.hid (hown.mono hsz8)
  have B9 := Lib.hid (B8.out.trans (hbel.mono hsz8))
  have hsz9 := B9.out.size
  clear X_8 Y_8 Q_8 R_8 N_8 NQ_8 NR_8 PR_8 SU_8 hown hbel
  go_wp2_with fail
  refine (equal_yes (fa.map vl) _ _ _ SU_9.out.rd NA_9.out.rd).mono ?_
  rintro e w10 ⟨rfl, hbel⟩
  have X_10 := Lib.hid (X_9.out.below hbel)
  have Y_10 := Lib.hid (Y_9.out.below hbel)
  have Q_10 := Lib.hid (Q_9.out.below hbel)
  have R_10 := Lib.hid (R_9.out.below hbel)
  have N_10 := Lib.hid (N_9.out.below hbel)
  have NQ_10 := Lib.hid (NQ_9.out.below hbel)
  have NR_10 := Lib.hid (NR_9.out.below hbel)
  have PR_10 := Lib.hid (PR_9.out.below hbel)
  have SU_10 := Lib.hid (SU_9.out.below hbel)
  have NA_10 := Lib.hid (NA_9.out.below hbel)
  have B10 := Lib.hid (B9.out.trans (hbel.mono hsz9))
  have hsz10 := B10.out.size
  clear X_9 Y_9 Q_9 R_9 N_9 NQ_9 NR_9 PR_9 SU_9 NA_9 hbel
  go_wp2
  go_ret
  exact ⟨rfl, B10.out⟩
end Go.Proofs.Ytolkcaelmipkeaa.Gm
