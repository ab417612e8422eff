/- The walk of the law PolySays. (Its lines are printed by wip/mk_XLp.py.) -/
import Derived.Test.YtolkcaelmipkeaaPu
import Derived.Test.YtolkcaelmipkeaaRr
import Derived.Test.YtolkcaelmipkeaaLf
namespace Go.Proofs.Ytolkcaelmipkeaa.Gm
open Go.RowKit
theorem nilRd (w : World) : Rd .u64 w (.slice none 0 0) (([] : List F).map vl) := Rd.nil _ _
set_option maxHeartbeats 8000000 in
set_option maxRecDepth 100000 in
theorem wPolySays (zs ys : List Int) (v v2 : Value) (x : Int) (w : World) (h : Rd .u64 w v zs) (h2 : Rd .u64 w v2 ys) (hz : B64 zs) (hy : B64 ys) (wx : (Lit.int .u64 x).wf = true) :
    Calls Try.prog 13 #[v, v2, .int .u64 x] w (RetV w (.bool true)) := by
  obtain ⟨x0, x1⟩ := u64_bounds wx
  clear wx
  have X := Lib.hid h
  have Y := Lib.hid h2
  obtain ⟨a, cap, rfl, hcap, hm⟩ := h.shape
  obtain ⟨a2, cap2, rfl, hcap2, hm2⟩ := h2.shape
  clear h h2
  by_cases c1 : 2048 < zs.length
  · have d1 : decide (2048 < zs.length) = true := by simpa using c1
    have B0 := Lib.hid (Below.refl w.heap.size w)
    have hsz0 : w.heap.size ≤ w.heap.size := Nat.le_refl _
    go_enter Try.func13, Try.ntmps13
    go_wp2_with fail
    refine (many_any _ zs _ X.out).mono ?_
    rintro e w' ⟨rfl, rfl⟩
    go_wp2_with fail
    refine (many_any _ zs _ X.out).mono ?_
    rintro e w' ⟨rfl, rfl⟩
    go_wp2_with fail
    refine (pnorm_large zs _ _ X.out c1).mono ?_
    rintro e w1 ⟨v1, rfl, hown, hbel⟩
    have X_1 := Lib.hid (X.out.below hbel)
    have Y_1 := Lib.hid (Y.out.below hbel)
    have N_1 := Lib.hid (hown.mono hsz0)
    have B1 := Lib.hid (B0.out.trans (hbel.mono hsz0))
    have hsz1 := B1.out.size
    clear X Y hown hbel
    go_wp2_with fail
    refine (padd_large zs ys _ _ _ X_1.out Y_1.out (.inl c1)).mono ?_
    rintro e w2 ⟨v2, rfl, hown, hbel⟩
    have X_2 := Lib.hid (X_1.out.below hbel)
    have Y_2 := Lib.hid (Y_1.out.below hbel)
    have N_2 := Lib.hid (N_1.out.below hbel)
    have S_2 := Lib.hid (hown.mono hsz1)
    have B2 := Lib.hid (B1.out.trans (hbel.mono hsz1))
    have hsz2 := B2.out.size
    clear X_1 Y_1 N_1 hown hbel
    go_wp2_with fail
    refine (pmul_large zs ys _ _ _ X_2.out Y_2.out (.inl c1)).mono ?_
    rintro e w3 ⟨v3, rfl, hown, hbel⟩
    have X_3 := Lib.hid (X_2.out.below hbel)
    have Y_3 := Lib.hid (Y_2.out.below hbel)
    have N_3 := Lib.hid (N_2.out.below hbel)
    have S_3 := Lib.hid (S_2.out.below hbel)
    have P_3 := Lib.hid (hown.mono hsz2)
    have B3 := Lib.hid (B2.out.trans (hbel.mono hsz2))
    have hsz3 := B3.out.size
    clear X_2 Y_2 N_2 S_2 hown hbel
    go_wp2_with fail
    refine (eval_large zs _ x _ X_3.out c1).mono ?_
    rintro e w4 ⟨rfl, hbel⟩
    have X_4 := Lib.hid (X_3.out.below hbel)
    have Y_4 := Lib.hid (Y_3.out.below hbel)
    have N_4 := Lib.hid (N_3.out.below hbel)
    have S_4 := Lib.hid (S_3.out.below hbel)
    have P_4 := Lib.hid (P_3.out.below hbel)
    have B4 := Lib.hid (B3.out.trans (hbel.mono hsz3))
    have hsz4 := B4.out.size
    clear X_3 Y_3 N_3 S_3 P_3 hbel
    go_wp2_with fail
    refine (equal_yes (([] : List F).map vl) _ _ _ N_4.out.rd (nilRd _)).mono ?_
    rintro e w5 ⟨rfl, hbel⟩
    have X_5 := Lib.hid (X_4.out.below hbel)
    have Y_5 := Lib.hid (Y_4.out.below hbel)
    have N_5 := Lib.hid (N_4.out.below hbel)
    have S_5 := Lib.hid (S_4.out.below hbel)
    have P_5 := Lib.hid (P_4.out.below hbel)
    have B5 := Lib.hid (B4.out.trans (hbel.mono hsz4))
    have hsz5 := B5.out.size
    clear X_4 Y_4 N_4 S_4 P_4 hbel
    go_wp2_with fail
    refine (equal_yes (([] : List F).map vl) _ _ _ S_5.out.rd (nilRd _)).mono ?_
    rintro e w6 ⟨rfl, hbel⟩
    have X_6 := Lib.hid (X_5.out.below hbel)
    have Y_6 := Lib.hid (Y_5.out.below hbel)
    have N_6 := Lib.hid (N_5.out.below hbel)
    have S_6 := Lib.hid (S_5.out.below hbel)
    have P_6 := Lib.hid (P_5.out.below hbel)
    have B6 := Lib.hid (B5.out.trans (hbel.mono hsz5))
    have hsz6 := B6.out.size
    clear X_5 Y_5 N_5 S_5 P_5 hbel
    go_wp2_with fail
    refine (equal_yes (([] : List F).map vl) _ _ _ P_6.out.rd (nilRd _)).mono ?_
    rintro e w7 ⟨rfl, hbel⟩
    have X_7 := Lib.hid (X_6.out.below hbel)
    have Y_7 := Lib.hid (Y_6.out.below hbel)
    have N_7 := Lib.hid (N_6.out.below hbel)
    have S_7 := Lib.hid (S_6.out.below hbel)
    have P_7 := Lib.hid (P_6.out.below hbel)
    have B7 := Lib.hid (B6.out.trans (hbel.mono hsz6))
    have hsz7 := B7.out.size
    clear X_6 Y_6 N_6 S_6 P_6 hbel
    go_wp2
    go_ret
    exact ⟨rfl, B7.out⟩
  by_cases c2 : 2048 < ys.length
  · have d1 : decide (2048 < zs.length) = false := by simpa using c1
    have d2 : decide (2048 < ys.length) = true := by simpa using c2
    have c1' : zs.length ≤ 2048 := by omega
    by_cases c3 : zs.length ≤ 200
    · have B0 := Lib.hid (Below.refl w.heap.size w)
      have hsz0 : w.heap.size ≤ w.heap.size := Nat.le_refl _
      go_enter Try.func13, Try.ntmps13
      go_wp2_with fail
      refine (many_any _ zs _ X.out).mono ?_
      rintro e w' ⟨rfl, rfl⟩
      go_wp2_with fail
      refine (many_any _ zs _ X.out).mono ?_
      rintro e w' ⟨rfl, rfl⟩
      go_wp2_with fail
      refine (many_any _ ys _ Y.out).mono ?_
      rintro e w' ⟨rfl, rfl⟩
      go_wp2_with fail
      refine (rnormal_any zs _ _ X.out hz (by omega)).mono ?_
      rintro e w1 ⟨v1, rfl, hown, hbel⟩
      have X_1 := Lib.hid (X.out.below hbel)
      have Y_1 := Lib.hid (Y.out.below hbel)
      have R_1 := Lib.hid (hown.mono hsz0)
      have B1 := Lib.hid (B0.out.trans (hbel.mono hsz0))
      have hsz1 := B1.out.size
      clear X Y hown hbel
      go_wp2_with fail
      refine (reval_any zs _ x _ X_1.out hz x0 x1).mono ?_
      rintro e w' ⟨rfl, rfl⟩
      go_wp2_with fail
      refine (pnorm_any zs _ _ X_1.out hz c1').mono ?_
      rintro e w2 ⟨v2, rfl, hown, hbel⟩
      have X_2 := Lib.hid (X_1.out.below hbel)
      have Y_2 := Lib.hid (Y_1.out.below hbel)
      have R_2 := Lib.hid (R_1.out.below hbel)
      have N_2 := Lib.hid (hown.mono hsz1)
      have B2 := Lib.hid (B1.out.trans (hbel.mono hsz1))
      have hsz2 := B2.out.size
      clear X_1 Y_1 R_1 hown hbel
      go_wp2_with fail
      refine (padd_large zs ys _ _ _ X_2.out Y_2.out (.inr c2)).mono ?_
      rintro e w3 ⟨v3, rfl, hown, hbel⟩
      have X_3 := Lib.hid (X_2.out.below hbel)
      have Y_3 := Lib.hid (Y_2.out.below hbel)
      have R_3 := Lib.hid (R_2.out.below hbel)
      have N_3 := Lib.hid (N_2.out.below hbel)
      have S_3 := Lib.hid (hown.mono hsz2)
      have B3 := Lib.hid (B2.out.trans (hbel.mono hsz2))
      have hsz3 := B3.out.size
      clear X_2 Y_2 R_2 N_2 hown hbel
      go_wp2_with fail
      refine (pmul_large zs ys _ _ _ X_3.out Y_3.out (.inr c2)).mono ?_
      rintro e w4 ⟨v4, rfl, hown, hbel⟩
      have X_4 := Lib.hid (X_3.out.below hbel)
      have Y_4 := Lib.hid (Y_3.out.below hbel)
      have R_4 := Lib.hid (R_3.out.below hbel)
      have N_4 := Lib.hid (N_3.out.below hbel)
      have S_4 := Lib.hid (S_3.out.below hbel)
      have P_4 := Lib.hid (hown.mono hsz3)
      have B4 := Lib.hid (B3.out.trans (hbel.mono hsz3))
      have hsz4 := B4.out.size
      clear X_3 Y_3 R_3 N_3 S_3 hown hbel
      go_wp2_with fail
      refine (eval_any zs _ x _ X_4.out hz c1' x0 x1).mono ?_
      rintro e w5 ⟨rfl, hbel⟩
      have X_5 := Lib.hid (X_4.out.below hbel)
      have Y_5 := Lib.hid (Y_4.out.below hbel)
      have R_5 := Lib.hid (R_4.out.below hbel)
      have N_5 := Lib.hid (N_4.out.below hbel)
      have S_5 := Lib.hid (S_4.out.below hbel)
      have P_5 := Lib.hid (P_4.out.below hbel)
      have B5 := Lib.hid (B4.out.trans (hbel.mono hsz4))
      have hsz5 := B5.out.size
      clear X_4 Y_4 R_4 N_4 S_4 P_4 hbel
      go_wp2_with fail
      refine (equal_yes ((strip (zs.map toF)).map vl) _ _ _ N_5.out.rd R_5.out.rd).mono ?_
      rintro e w6 ⟨rfl, hbel⟩
      have X_6 := Lib.hid (X_5.out.below hbel)
      have Y_6 := Lib.hid (Y_5.out.below hbel)
      have R_6 := Lib.hid (R_5.out.below hbel)
      have N_6 := Lib.hid (N_5.out.below hbel)
      have S_6 := Lib.hid (S_5.out.below hbel)
      have P_6 := Lib.hid (P_5.out.below hbel)
      have B6 := Lib.hid (B5.out.trans (hbel.mono hsz5))
      have hsz6 := B6.out.size
      clear X_5 Y_5 R_5 N_5 S_5 P_5 hbel
      go_wp2_with fail
      refine (equal_yes (([] : List F).map vl) _ _ _ S_6.out.rd (nilRd _)).mono ?_
      rintro e w7 ⟨rfl, hbel⟩
      have X_7 := Lib.hid (X_6.out.below hbel)
      have Y_7 := Lib.hid (Y_6.out.below hbel)
      have R_7 := Lib.hid (R_6.out.below hbel)
      have N_7 := Lib.hid (N_6.out.below hbel)
      have S_7 := Lib.hid (S_6.out.below hbel)
      have P_7 := Lib.hid (P_6.out.below hbel)
      have B7 := Lib.hid (B6.out.trans (hbel.mono hsz6))
      have hsz7 := B7.out.size
      clear X_6 Y_6 R_6 N_6 S_6 P_6 hbel
      go_wp2_with fail
      refine (equal_yes (([] : List F).map vl) _ _ _ P_7.out.rd (nilRd _)).mono ?_
      rintro e w8 ⟨rfl, hbel⟩
      have X_8 := Lib.hid (X_7.out.below hbel)
      have Y_8 := Lib.hid (Y_7.out.below hbel)
      have R_8 := Lib.hid (R_7.out.below hbel)
      have N_8 := Lib.hid (N_7.out.below hbel)
      have S_8 := Lib.hid (S_7.out.below hbel)
      have P_8 := Lib.hid (P_7.out.below hbel)
      have B8 := Lib.hid (B7.out.trans (hbel.mono hsz7))
      have hsz8 := B8.out.size
      clear X_7 Y_7 R_7 N_7 S_7 P_7 hbel
      go_wp2
      go_ret
      exact ⟨rfl, B8.out⟩
    · have B0 := Lib.hid (Below.refl w.heap.size w)
      have hsz0 : w.heap.size ≤ w.heap.size := Nat.le_refl _
      go_enter Try.func13, Try.ntmps13
      go_wp2_with fail
      refine (many_any _ zs _ X.out).mono ?_
      rintro e w' ⟨rfl, rfl⟩
      go_wp2_with fail
      refine (many_any _ zs _ X.out).mono ?_
      rintro e w' ⟨rfl, rfl⟩
      go_wp2_with fail
      refine (many_any _ ys _ Y.out).mono ?_
      rintro e w' ⟨rfl, rfl⟩
      go_wp2_with fail
      refine (pnorm_any zs _ _ X.out hz c1').mono ?_
      rintro e w1 ⟨v1, rfl, hown, hbel⟩
      have X_1 := Lib.hid (X.out.below hbel)
      have Y_1 := Lib.hid (Y.out.below hbel)
      have N_1 := Lib.hid (hown.mono hsz0)
      have B1 := Lib.hid (B0.out.trans (hbel.mono hsz0))
      have hsz1 := B1.out.size
      clear X Y hown hbel
      go_wp2_with fail
      refine (padd_large zs ys _ _ _ X_1.out Y_1.out (.inr c2)).mono ?_
      rintro e w2 ⟨v2, rfl, hown, hbel⟩
      have X_2 := Lib.hid (X_1.out.below hbel)
      have Y_2 := Lib.hid (Y_1.out.below hbel)
      have N_2 := Lib.hid (N_1.out.below hbel)
      have S_2 := Lib.hid (hown.mono hsz1)
      have B2 := Lib.hid (B1.out.trans (hbel.mono hsz1))
      have hsz2 := B2.out.size
      clear X_1 Y_1 N_1 hown hbel
      go_wp2_with fail
      refine (pmul_large zs ys _ _ _ X_2.out Y_2.out (.inr c2)).mono ?_
      rintro e w3 ⟨v3, rfl, hown, hbel⟩
      have X_3 := Lib.hid (X_2.out.below hbel)
      have Y_3 := Lib.hid (Y_2.out.below hbel)
      have N_3 := Lib.hid (N_2.out.below hbel)
      have S_3 := Lib.hid (S_2.out.below hbel)
      have P_3 := Lib.hid (hown.mono hsz2)
      have B3 := Lib.hid (B2.out.trans (hbel.mono hsz2))
      have hsz3 := B3.out.size
      clear X_2 Y_2 N_2 S_2 hown hbel
      go_wp2_with fail
      refine (eval_any zs _ x _ X_3.out hz c1' x0 x1).mono ?_
      rintro e w4 ⟨rfl, hbel⟩
      have X_4 := Lib.hid (X_3.out.below hbel)
      have Y_4 := Lib.hid (Y_3.out.below hbel)
      have N_4 := Lib.hid (N_3.out.below hbel)
      have S_4 := Lib.hid (S_3.out.below hbel)
      have P_4 := Lib.hid (P_3.out.below hbel)
      have B4 := Lib.hid (B3.out.trans (hbel.mono hsz3))
      have hsz4 := B4.out.size
      clear X_3 Y_3 N_3 S_3 P_3 hbel
      go_wp2_with fail
      refine (equal_yes (([] : List F).map vl) _ _ _ (nilRd _) (nilRd _)).mono ?_
      rintro e w5 ⟨rfl, hbel⟩
      have X_5 := Lib.hid (X_4.out.below hbel)
      have Y_5 := Lib.hid (Y_4.out.below hbel)
      have N_5 := Lib.hid (N_4.out.below hbel)
      have S_5 := Lib.hid (S_4.out.below hbel)
      have P_5 := Lib.hid (P_4.out.below hbel)
      have B5 := Lib.hid (B4.out.trans (hbel.mono hsz4))
      have hsz5 := B5.out.size
      clear X_4 Y_4 N_4 S_4 P_4 hbel
      go_wp2_with fail
      refine (equal_yes (([] : List F).map vl) _ _ _ S_5.out.rd (nilRd _)).mono ?_
      rintro e w6 ⟨rfl, hbel⟩
      have X_6 := Lib.hid (X_5.out.below hbel)
      have Y_6 := Lib.hid (Y_5.out.below hbel)
      have N_6 := Lib.hid (N_5.out.below hbel)
      have S_6 := Lib.hid (S_5.out.below hbel)
      have P_6 := Lib.hid (P_5.out.below hbel)
      have B6 := Lib.hid (B5.out.trans (hbel.mono hsz5))
      have hsz6 := B6.out.size
      clear X_5 Y_5 N_5 S_5 P_5 hbel
      go_wp2_with fail
      refine (equal_yes (([] : List F).map vl) _ _ _ P_6.out.rd (nilRd _)).mono ?_
      rintro e w7 ⟨rfl, hbel⟩
      have X_7 := Lib.hid (X_6.out.below hbel)
      have Y_7 := Lib.hid (Y_6.out.below hbel)
      have N_7 := Lib.hid (N_6.out.below hbel)
      have S_7 := Lib.hid (S_6.out.below hbel)
      have P_7 := Lib.hid (P_6.out.below hbel)
      have B7 := Lib.hid (B6.out.trans (hbel.mono hsz6))
      have hsz7 := B7.out.size
      clear X_6 Y_6 N_6 S_6 P_6 hbel
      go_wp2
      go_ret
      exact ⟨rfl, B7.out⟩
  have d1 : decide (2048 < zs.length) = false := by simpa using c1
  have d2 : decide (2048 < ys.length) = false := by simpa using c2
  by_cases c3 : zs.length ≤ 200
  rotate_left
  · have B0 := Lib.hid (Below.refl w.heap.size w)
    have hsz0 : w.heap.size ≤ w.heap.size := Nat.le_refl _
    go_enter Try.func13, Try.ntmps13
    go_wp2_with fail
    refine (many_any _ zs _ X.out).mono ?_
    rintro e w' ⟨rfl, rfl⟩
    go_wp2_with fail
    refine (many_any _ zs _ X.out).mono ?_
    rintro e w' ⟨rfl, rfl⟩
    go_wp2_with fail
    refine (many_any _ ys _ Y.out).mono ?_
    rintro e w' ⟨rfl, rfl⟩
    go_wp2
    go_ret
    exact ⟨rfl, B0.out⟩
  by_cases c4 : ys.length ≤ 200
  rotate_left
  · have B0 := Lib.hid (Below.refl w.heap.size w)
    have hsz0 : w.heap.size ≤ w.heap.size := Nat.le_refl _
    go_enter Try.func13, Try.ntmps13
    go_wp2_with fail
    refine (many_any _ zs _ X.out).mono ?_
    rintro e w' ⟨rfl, rfl⟩
    go_wp2_with fail
    refine (many_any _ zs _ X.out).mono ?_
    rintro e w' ⟨rfl, rfl⟩
    go_wp2_with fail
    refine (many_any _ ys _ Y.out).mono ?_
    rintro e w' ⟨rfl, rfl⟩
    go_wp2
    go_ret
    exact ⟨rfl, B0.out⟩
  have len1 : ((strip (zs.map toF)).map vl).length ≤ 100000 := by rw [List.length_map]; have := strip_len (zs.map toF); rw [List.length_map] at this; omega
  have len2 : ((strip (ys.map toF)).map vl).length ≤ 100000 := by rw [List.length_map]; have := strip_len (ys.map toF); rw [List.length_map] at this; omega
  have B0 := Lib.hid (Below.refl w.heap.size w)
  have hsz0 : w.heap.size ≤ w.heap.size := Nat.le_refl _
  go_enter Try.func13, Try.ntmps13
  go_wp2_with fail
  refine (many_any _ zs _ X.out).mono ?_
  rintro e w' ⟨rfl, rfl⟩
  go_wp2_with fail
  refine (many_any _ zs _ X.out).mono ?_
  rintro e w' ⟨rfl, rfl⟩
  go_wp2_with fail
  refine (many_any _ ys _ Y.out).mono ?_
  rintro e w' ⟨rfl, rfl⟩
  go_wp2_with fail
  refine (rnormal_any zs _ _ X.out hz (by omega)).mono ?_
  rintro e w1 ⟨v1, rfl, hown, hbel⟩
  have X_1 := Lib.hid (X.out.below hbel)
  have Y_1 := Lib.hid (Y.out.below hbel)
  have R_1 := Lib.hid (hown.mono hsz0)
  have B1 := Lib.hid (B0.out.trans (hbel.mono hsz0))
  have hsz1 := B1.out.size
  clear X Y hown hbel
  go_wp2_with fail
  refine (reval_any zs _ x _ X_1.out hz x0 x1).mono ?_
  rintro e w' ⟨rfl, rfl⟩
  go_wp2_with fail
  refine (rsum_any zs ys _ _ _ X_1.out Y_1.out hz hy (by omega) (by omega)).mono ?_
  rintro e w2 ⟨v2, rfl, hown, hbel⟩
  have X_2 := Lib.hid (X_1.out.below hbel)
  have Y_2 := Lib.hid (Y_1.out.below hbel)
  have R_2 := Lib.hid (R_1.out.below hbel)
  have RS_2 := Lib.hid (hown.mono hsz1)
  have B2 := Lib.hid (B1.out.trans (hbel.mono hsz1))
  have hsz2 := B2.out.size
  clear X_1 Y_1 R_1 hown hbel
  go_wp2_with fail
  refine (rnormal_any zs _ _ X_2.out hz (by omega)).mono ?_
  rintro e w3 ⟨v3, rfl, hown, hbel⟩
  have X_3 := Lib.hid (X_2.out.below hbel)
  have Y_3 := Lib.hid (Y_2.out.below hbel)
  have R_3 := Lib.hid (R_2.out.below hbel)
  have RS_3 := Lib.hid (RS_2.out.below hbel)
  have RA_3 := Lib.hid (hown.mono hsz2)
  have B3 := Lib.hid (B2.out.trans (hbel.mono hsz2))
  have hsz3 := B3.out.size
  clear X_2 Y_2 R_2 RS_2 hown hbel
  go_wp2_with fail
  refine (rnormal_any ys _ _ Y_3.out hy (by omega)).mono ?_
  rintro e w4 ⟨v4, rfl, hown, hbel⟩
  have X_4 := Lib.hid (X_3.out.below hbel)
  have Y_4 := Lib.hid (Y_3.out.below hbel)
  have R_4 := Lib.hid (R_3.out.below hbel)
  have RS_4 := Lib.hid (RS_3.out.below hbel)
  have RA_4 := Lib.hid (RA_3.out.below hbel)
  have RB_4 := Lib.hid (hown.mono hsz3)
  have B4 := Lib.hid (B3.out.trans (hbel.mono hsz3))
  have hsz4 := B4.out.size
  clear X_3 Y_3 R_3 RS_3 RA_3 hown hbel
  go_wp2_with fail
  refine (rproduct_any ((strip (zs.map toF)).map vl) ((strip (ys.map toF)).map vl) _ _ _ RA_4.out.rd RB_4.out.rd (B64.vl _) (B64.vl _) len1 len2).mono ?_
  rintro e w5 ⟨v5, rfl, hown, hbel⟩
  rw [map_toF_vl, map_toF_vl] at hown
  have X_5 := Lib.hid (X_4.out.below hbel)
  have Y_5 := Lib.hid (Y_4.out.below hbel)
  have R_5 := Lib.hid (R_4.out.below hbel)
  have RS_5 := Lib.hid (RS_4.out.below hbel)
  have RA_5 := Lib.hid (RA_4.out.below hbel)
  have RB_5 := Lib.hid (RB_4.out.below hbel)
  have RP_5 := Lib.hid (hown.mono hsz4)
  have B5 := Lib.hid (B4.out.trans (hbel.mono hsz4))
  have hsz5 := B5.out.size
  clear X_4 Y_4 R_4 RS_4 RA_4 RB_4 hown hbel
  go_wp2_with fail
  refine (pnorm_any zs _ _ X_5.out hz (by omega)).mono ?_
  rintro e w6 ⟨v6, rfl, hown, hbel⟩
  have X_6 := Lib.hid (X_5.out.below hbel)
  have Y_6 := Lib.hid (Y_5.out.below hbel)
  have R_6 := Lib.hid (R_5.out.below hbel)
  have RS_6 := Lib.hid (RS_5.out.below hbel)
  have RA_6 := Lib.hid (RA_5.out.below hbel)
  have RB_6 := Lib.hid (RB_5.out.below hbel)
  have RP_6 := Lib.hid (RP_5.out.below hbel)
  have N_6 := Lib.hid (hown.mono hsz5)
  have B6 := Lib.hid (B5.out.trans (hbel.mono hsz5))
  have hsz6 := B6.out.size
  clear X_5 Y_5 R_5 RS_5 RA_5 RB_5 RP_5 hown hbel
  go_wp2_with fail
  refine (padd_any zs ys _ _ _ X_6.out Y_6.out hz hy (by omega) (by omega)).mono ?_
  rintro e w7 ⟨v7, rfl, hown, hbel⟩
  have X_7 := Lib.hid (X_6.out.below hbel)
  have Y_7 := Lib.hid (Y_6.out.below hbel)
  have R_7 := Lib.hid (R_6.out.below hbel)
  have RS_7 := Lib.hid (RS_6.out.below hbel)
  have RA_7 := Lib.hid (RA_6.out.below hbel)
  have RB_7 := Lib.hid (RB_6.out.below hbel)
  have RP_7 := Lib.hid (RP_6.out.below hbel)
  have N_7 := Lib.hid (N_6.out.below hbel)
  have S_7 := Lib.hid (hown.mono hsz6)
  have B7 := Lib.hid (B6.out.trans (hbel.mono hsz6))
  have hsz7 := B7.out.size
  clear X_6 Y_6 R_6 RS_6 RA_6 RB_6 RP_6 N_6 hown hbel
  go_wp2_with fail
  refine (pmul_any zs ys _ _ _ X_7.out Y_7.out hz hy (by omega)).mono ?_
  rintro e w8 ⟨v8, rfl, hown, hbel⟩
  have X_8 := Lib.hid (X_7.out.below hbel)
  have Y_8 := Lib.hid (Y_7.out.below hbel)
  have R_8 := Lib.hid (R_7.out.below hbel)
  have RS_8 := Lib.hid (RS_7.out.below hbel)
  have RA_8 := Lib.hid (RA_7.out.below hbel)
  have RB_8 := Lib.hid (RB_7.out.below hbel)
  have RP_8 := Lib.hid (RP_7.out.below hbel)
  have N_8 := Lib.hid (N_7.out.below hbel)
  have S_8 := Lib.hid (S_7.out.below hbel)
  have P_8 := Lib.hid (hown.mono hsz7)
  have B8 := Lib.hid (B7.out.trans (hbel.mono hsz7))
  have hsz8 := B8.out.size
  clear X_7 Y_7 R_7 RS_7 RA_7 RB_7 RP_7 N_7 S_7 hown hbel
  go_wp2_with fail
  refine (eval_any zs _ x _ X_8.out hz (by omega) x0 x1).mono ?_
  rintro e w9 ⟨rfl, hbel⟩
  have X_9 := Lib.hid (X_8.out.below hbel)
  have Y_9 := Lib.hid (Y_8.out.below hbel)
  have R_9 := Lib.hid (R_8.out.below hbel)
  have RS_9 := Lib.hid (RS_8.out.below hbel)
  have RA_9 := Lib.hid (RA_8.out.below hbel)
  have RB_9 := Lib.hid (RB_8.out.below hbel)
  have RP_9 := Lib.hid (RP_8.out.below hbel)
  have N_9 := Lib.hid (N_8.out.below hbel)
  have S_9 := Lib.hid (S_8.out.below hbel)
  have P_9 := Lib.hid (P_8.out.below hbel)
  have B9 := Lib.hid (B8.out.trans (hbel.mono hsz8))
  have hsz9 := B9.out.size
  clear X_8 Y_8 R_8 RS_8 RA_8 RB_8 RP_8 N_8 S_8 P_8 hbel
  go_wp2_with fail
  refine (equal_yes ((strip (zs.map toF)).map vl) _ _ _ N_9.out.rd R_9.out.rd).mono ?_
  rintro e w10 ⟨rfl, hbel⟩
  have X_10 := Lib.hid (X_9.out.below hbel)
  have Y_10 := Lib.hid (Y_9.out.below hbel)
  have R_10 := Lib.hid (R_9.out.below hbel)
  have RS_10 := Lib.hid (RS_9.out.below hbel)
  have RA_10 := Lib.hid (RA_9.out.below hbel)
  have RB_10 := Lib.hid (RB_9.out.below hbel)
  have RP_10 := Lib.hid (RP_9.out.below hbel)
  have N_10 := Lib.hid (N_9.out.below hbel)
  have S_10 := Lib.hid (S_9.out.below hbel)
  have P_10 := Lib.hid (P_9.out.below hbel)
  have B10 := Lib.hid (B9.out.trans (hbel.mono hsz9))
  have hsz10 := B10.out.size
  clear X_9 Y_9 R_9 RS_9 RA_9 RB_9 RP_9 N_9 S_9 P_9 hbel
  go_wp2_with fail
  refine (equal_yes ((strip (addL (zs.map toF) (ys.map toF))).map vl) _ _ _ S_10.out.rd RS_10.out.rd).mono ?_
  rintro e w11 ⟨rfl, hbel⟩
  have X_11 := Lib.hid (X_10.out.below hbel)
  have Y_11 := Lib.hid (Y_10.out.below hbel)
  have R_11 := Lib.hid (R_10.out.below hbel)
  have RS_11 := Lib.hid (RS_10.out.below hbel)
  have RA_11 := Lib.hid (RA_10.out.below hbel)
  have RB_11 := Lib.hid (RB_10.out.below hbel)
  have RP_11 := Lib.hid (RP_10.out.below hbel)
  have N_11 := Lib.hid (N_10.out.below hbel)
  have S_11 := Lib.hid (S_10.out.below hbel)
  have P_11 := Lib.hid (P_10.out.below hbel)
  have B11 := Lib.hid (B10.out.trans (hbel.mono hsz10))
  have hsz11 := B11.out.size
  clear X_10 Y_10 R_10 RS_10 RA_10 RB_10 RP_10 N_10 S_10 P_10 hbel
  go_wp2_with fail
  refine (equal_yes ((mulL (strip (zs.map toF)) (strip (ys.map toF))).map vl) _ _ _ P_11.out.rd RP_11.out.rd).mono ?_
  rintro e w12 ⟨rfl, hbel⟩
  have X_12 := Lib.hid (X_11.out.below hbel)
  have Y_12 := Lib.hid (Y_11.out.below hbel)
  have R_12 := Lib.hid (R_11.out.below hbel)
  have RS_12 := Lib.hid (RS_11.out.below hbel)
  have RA_12 := Lib.hid (RA_11.out.below hbel)
  have RB_12 := Lib.hid (RB_11.out.below hbel)
  have RP_12 := Lib.hid (RP_11.out.below hbel)
  have N_12 := Lib.hid (N_11.out.below hbel)
  have S_12 := Lib.hid (S_11.out.below hbel)
  have P_12 := Lib.hid (P_11.out.below hbel)
  have B12 := Lib.hid (B11.out.trans (hbel.mono hsz11))
  have hsz12 := B12.out.size
  clear X_11 Y_11 R_11 RS_11 RA_11 RB_11 RP_11 N_11 S_11 P_11 hbel
  go_wp2
  go_ret
  exact ⟨rfl, B12.out⟩
end Go.Proofs.Ytolkcaelmipkeaa.Gm
