/- The walk of the law ConvSays. (Its lines are printed by wip/mk_XLco.py.) -/
import Derived.Test.YtkcfnbfkbmgchaaDoorVd
import Derived.Test.YtkcfnbfkbmgchaaDoorRo
namespace Go.Proofs.YtkcfnbfkbmgchaaDoor.Gm
open Go.RowKit
set_option linter.unusedVariables false
theorem cyc_round {k : Nat} {l m : List F} (hl : l.length = 2 ^ k) (hm : m.length = 2 ^ k) : rdL false l m (2 ^ k) = cycL k l m := by
  refine ext_cf (by rw [rdL_len, cycL_len]) (fun i hi => ?_)
  rw [rdL_len] at hi
  rw [cf_rdL _ _ _ _ hi, cf_cycL _ _ _ hi, cyc_cv (fun j hj => cf_ge (l := l) (by omega)) (fun j hj => cf_ge (l := m) (by omega)) hi, hl]
  rfl
theorem skew_round {k : Nat} (hk : k ≤ 20) {l m : List F} (hl : l.length = 2 ^ k) (hm : m.length = 2 ^ k) : rdL true l m (2 ^ k) = skL k l m := by
  refine ext_cf (by rw [rdL_len, skL_len]) (fun i hi => ?_)
  rw [rdL_len] at hi
  rw [cf_rdL _ _ _ _ hi, cf_skL hk hl hm hi, hl]
  rfl
theorem Rd.of_ow {B : Nat} {w : World} {v : Value} {l : List F} (h : Ow B w v l) : Rd .u64 w v (l.map vl) := h.rd
set_option maxHeartbeats 20000000 in
set_option maxRecDepth 100000 in
theorem cs_L1F10 (za zb : List Int) (v v2 : Value) (w : World) (h : Rd .u64 w v za) (h2 : Rd .u64 w v2 zb) (hz : B64 za) (hy : B64 zb) (hN : za.length ≤ 17592186044416) (hN2 : zb.length ≤ 17592186044416) (hT : Tb w) (hbig : TooBig za.length zb.length) (hc : 1024 < za.length) (hne : za.length ≠ zb.length) (h64 : True) :
    Calls Tryd.prog 6 #[v, v2] w (RetV w (.bool true)) := by
  have X := Lib.hid h
  have Y := Lib.hid h2
  have T := Lib.hid hT
  obtain ⟨a1, q1, rfl, hk1, hm1⟩ := h.shape
  obtain ⟨a2, q2, rfl, hk2, hm2⟩ := h2.shape
  clear h h2 hT
  have B0 := Lib.hid (Below.refl w.heap.size w)
  have hsz0 : w.heap.size ≤ w.heap.size := Nat.le_refl _
  have c1i : (1024 : Int) < (za.length : Int) := by omega
  have c1n : 1024 < za.length := by omega
  have ne1 : ((za.length : Int) != (zb.length : Int)) = true := by rw [bne_iff_ne]; omega
  have ne2 : (za.length != zb.length) = true := by rw [bne_iff_ne]; exact hne
  have HNE := Lib.hid hne
  have CY := Lib.hid (show ∀ w, Rd .u64 w (.slice a1 za.length q1) za → Rd .u64 w (.slice a2 zb.length q2) zb → Tb w → Calls Tryd.prog 27 #[(.slice a1 za.length q1), (.slice a2 zb.length q2)] w (RetLE w [] 5) from fun w h h2 hT => cyc_len za zb _ _ w h h2 hne)
  have CS := Lib.hid (show ∀ w, Rd .u64 w (.slice a1 za.length q1) za → Rd .u64 w (.slice a2 zb.length q2) zb → Tb w → Calls Tryd.prog 28 #[(.slice a1 za.length q1), (.slice a2 zb.length q2)] w (RetLE w [] 5) from fun w h h2 hT => skew_len za zb _ _ w h h2 hne)
  have CL := Lib.hid (show ∀ w, Rd .u64 w (.slice a1 za.length q1) za → Rd .u64 w (.slice a2 zb.length q2) zb → Tb w → Calls Tryd.prog 29 #[(.slice a1 za.length q1), (.slice a2 zb.length q2)] w (RetRE w [] 2) from fun w h h2 hT => lin_big za zb _ _ w h h2 hbig hN hN2)
  clear hne hc h64
  go_enter Tryd.func6, Tryd.ntmps6
  go_wp2_with fail
  refine (CY.out _ X.out Y.out T.out).mono ?_
  rintro e w1 ⟨v1, rfl, hown, hbel⟩
  have X_1 := Lib.hid (X.out.below hbel)
  have Y_1 := Lib.hid (Y.out.below hbel)
  have T_1 := Lib.hid (T.out.below hbel)
  have x_1 := Lib.hid (hown.mono hsz0)
  have B1 := Lib.hid (B0.out.trans (hbel.mono hsz0))
  have hsz1 := B1.out.size
  clear X Y T hown hbel
  go_wp2_with fail
  refine (CS.out _ X_1.out Y_1.out T_1.out).mono ?_
  rintro e w2 ⟨v2, rfl, hown, hbel⟩
  have X_2 := Lib.hid (X_1.out.below hbel)
  have Y_2 := Lib.hid (Y_1.out.below hbel)
  have T_2 := Lib.hid (T_1.out.below hbel)
  have x_2 := Lib.hid (x_1.out.below hbel)
  have y_2 := Lib.hid (hown.mono hsz1)
  have B2 := Lib.hid (B1.out.trans (hbel.mono hsz1))
  have hsz2 := B2.out.size
  clear X_1 Y_1 T_1 x_1 hown hbel
  go_wp2_with fail
  refine (CL.out _ X_2.out Y_2.out T_2.out).mono ?_
  rintro e w3 ⟨v3, rfl, hrd, hbel⟩
  have X_3 := Lib.hid (X_2.out.below hbel)
  have Y_3 := Lib.hid (Y_2.out.below hbel)
  have T_3 := Lib.hid (T_2.out.below hbel)
  have x_3 := Lib.hid (x_2.out.below hbel)
  have y_3 := Lib.hid (y_2.out.below hbel)
  have z_3 := Lib.hid hrd
  have B3 := Lib.hid (B2.out.trans (hbel.mono hsz2))
  have hsz3 := B3.out.size
  clear X_2 Y_2 T_2 x_2 y_2 hrd hbel
  go_wp2_with fail
  refine (equal_yes ([].map vl) _ _ _ (Rd.of_ow x_3.out) (Rd.nil _ _)).mono ?_
  rintro e w4 ⟨rfl, hbel⟩
  have X_4 := Lib.hid (X_3.out.below hbel)
  have Y_4 := Lib.hid (Y_3.out.below hbel)
  have T_4 := Lib.hid (T_3.out.below hbel)
  have x_4 := Lib.hid (x_3.out.below hbel)
  have y_4 := Lib.hid (y_3.out.below hbel)
  have z_4 := Lib.hid (z_3.out.below hbel)
  have B4 := Lib.hid (B3.out.trans (hbel.mono hsz3))
  have hsz4 := B4.out.size
  clear X_3 Y_3 T_3 x_3 y_3 z_3 hbel
  go_wp2_with fail
  refine (equal_yes ([].map vl) _ _ _ (Rd.of_ow y_4.out) (Rd.nil _ _)).mono ?_
  rintro e w5 ⟨rfl, hbel⟩
  have X_5 := Lib.hid (X_4.out.below hbel)
  have Y_5 := Lib.hid (Y_4.out.below hbel)
  have T_5 := Lib.hid (T_4.out.below hbel)
  have x_5 := Lib.hid (x_4.out.below hbel)
  have y_5 := Lib.hid (y_4.out.below hbel)
  have z_5 := Lib.hid (z_4.out.below hbel)
  have B5 := Lib.hid (B4.out.trans (hbel.mono hsz4))
  have hsz5 := B5.out.size
  clear X_4 Y_4 T_4 x_4 y_4 z_4 hbel
  go_wp2_with fail
  refine (equal_yes ([].map vl) _ _ _ z_5.out (Rd.nil _ _)).mono ?_
  rintro e w6 ⟨rfl, hbel⟩
  have X_6 := Lib.hid (X_5.out.below hbel)
  have Y_6 := Lib.hid (Y_5.out.below hbel)
  have T_6 := Lib.hid (T_5.out.below hbel)
  have x_6 := Lib.hid (x_5.out.below hbel)
  have y_6 := Lib.hid (y_5.out.below hbel)
  have z_6 := Lib.hid (z_5.out.below hbel)
  have B6 := Lib.hid (B5.out.trans (hbel.mono hsz5))
  have hsz6 := B6.out.size
  clear X_5 Y_5 T_5 x_5 y_5 z_5 hbel
  go_wp2
  go_ret
  exact ⟨rfl, B6.out⟩
set_option maxHeartbeats 20000000 in
set_option maxRecDepth 100000 in
theorem cs_L1F20 (za zb : List Int) (v v2 : Value) (w : World) (h : Rd .u64 w v za) (h2 : Rd .u64 w v2 zb) (hz : B64 za) (hy : B64 zb) (hN : za.length ≤ 17592186044416) (hN2 : zb.length ≤ 17592186044416) (hT : Tb w) (hbig : TooBig za.length zb.length) (hc : 1024 < za.length) (he : za.length = zb.length) (hno : ∀ k : Nat, k ≤ 10 → za.length ≠ 2 ^ k) (h64 : True) :
    Calls Tryd.prog 6 #[v, v2] w (RetV w (.bool true)) := by
  have X := Lib.hid h
  have Y := Lib.hid h2
  have T := Lib.hid hT
  obtain ⟨a1, q1, rfl, hk1, hm1⟩ := h.shape
  obtain ⟨a2, q2, rfl, hk2, hm2⟩ := h2.shape
  clear h h2 hT
  have B0 := Lib.hid (Below.refl w.heap.size w)
  have hsz0 : w.heap.size ≤ w.heap.size := Nat.le_refl _
  have Y' := Lib.hid (show Rd .u64 w (.slice a2 za.length q2) zb by rw [he]; exact Y.out)
  rw [← he] at hk2 ⊢
  have c1i : (1024 : Int) < (za.length : Int) := by omega
  have c1n : 1024 < za.length := by omega
  have c2i : (1024 : Int) < (za.length : Int) := by omega
  have c2n : 1024 < za.length := by omega
  have CR := Lib.hid (fun w => (rlog_any (za.length : Int) w (by omega) (by omega)).mono (R' := fun e w' => e = .returned (.int .i64 (-1)) ∧ w = w') (fun e w' he => by
    rcases he with ⟨⟨k, hk, e1, _⟩ | ⟨_, e2⟩, e3⟩
    · exact absurd e1 (by have := hno k hk; omega)
    · exact ⟨e2, e3⟩))
  have HE := Lib.hid he
  have HNO := Lib.hid hno
  have CY := Lib.hid (show ∀ w, Rd .u64 w (.slice a1 za.length q1) za → Rd .u64 w (.slice a2 za.length q2) zb → Tb w → Calls Tryd.prog 27 #[(.slice a1 za.length q1), (.slice a2 za.length q2)] w (RetLE w [] 5) from fun w h h2 hT => cyc_bad za zb _ _ w h h2 he hno hT)
  have CS := Lib.hid (show ∀ w, Rd .u64 w (.slice a1 za.length q1) za → Rd .u64 w (.slice a2 za.length q2) zb → Tb w → Calls Tryd.prog 28 #[(.slice a1 za.length q1), (.slice a2 za.length q2)] w (RetLE w [] 5) from fun w h h2 hT => skew_bad za zb _ _ w h h2 hz hy he hno hN hT)
  have CL := Lib.hid (show ∀ w, Rd .u64 w (.slice a1 za.length q1) za → Rd .u64 w (.slice a2 za.length q2) zb → Tb w → Calls Tryd.prog 29 #[(.slice a1 za.length q1), (.slice a2 za.length q2)] w (RetRE w [] 2) from fun w h h2 hT => lin_big za zb _ _ w h h2 hbig hN hN2)
  clear he hno hc h64
  go_enter Tryd.func6, Tryd.ntmps6
  go_wp2_with fail
  refine (CR.out _).mono ?_
  rintro e w' ⟨rfl, rfl⟩
  go_wp2_with fail
  refine (CY.out _ X.out Y'.out T.out).mono ?_
  rintro e w1 ⟨v1, rfl, hown, hbel⟩
  have X_1 := Lib.hid (X.out.below hbel)
  have Y_1 := Lib.hid (Y'.out.below hbel)
  have T_1 := Lib.hid (T.out.below hbel)
  have x_1 := Lib.hid (hown.mono hsz0)
  have B1 := Lib.hid (B0.out.trans (hbel.mono hsz0))
  have hsz1 := B1.out.size
  clear X Y' T hown hbel
  go_wp2_with fail
  refine (CS.out _ X_1.out Y_1.out T_1.out).mono ?_
  rintro e w2 ⟨v2, rfl, hown, hbel⟩
  have X_2 := Lib.hid (X_1.out.below hbel)
  have Y_2 := Lib.hid (Y_1.out.below hbel)
  have T_2 := Lib.hid (T_1.out.below hbel)
  have x_2 := Lib.hid (x_1.out.below hbel)
  have y_2 := Lib.hid (hown.mono hsz1)
  have B2 := Lib.hid (B1.out.trans (hbel.mono hsz1))
  have hsz2 := B2.out.size
  clear X_1 Y_1 T_1 x_1 hown hbel
  go_wp2_with fail
  refine (CL.out _ X_2.out Y_2.out T_2.out).mono ?_
  rintro e w3 ⟨v3, rfl, hrd, hbel⟩
  have X_3 := Lib.hid (X_2.out.below hbel)
  have Y_3 := Lib.hid (Y_2.out.below hbel)
  have T_3 := Lib.hid (T_2.out.below hbel)
  have x_3 := Lib.hid (x_2.out.below hbel)
  have y_3 := Lib.hid (y_2.out.below hbel)
  have z_3 := Lib.hid hrd
  have B3 := Lib.hid (B2.out.trans (hbel.mono hsz2))
  have hsz3 := B3.out.size
  clear X_2 Y_2 T_2 x_2 y_2 hrd hbel
  go_wp2_with fail
  refine (equal_yes ([].map vl) _ _ _ (Rd.of_ow x_3.out) (Rd.nil _ _)).mono ?_
  rintro e w4 ⟨rfl, hbel⟩
  have X_4 := Lib.hid (X_3.out.below hbel)
  have Y_4 := Lib.hid (Y_3.out.below hbel)
  have T_4 := Lib.hid (T_3.out.below hbel)
  have x_4 := Lib.hid (x_3.out.below hbel)
  have y_4 := Lib.hid (y_3.out.below hbel)
  have z_4 := Lib.hid (z_3.out.below hbel)
  have B4 := Lib.hid (B3.out.trans (hbel.mono hsz3))
  have hsz4 := B4.out.size
  clear X_3 Y_3 T_3 x_3 y_3 z_3 hbel
  go_wp2_with fail
  refine (equal_yes ([].map vl) _ _ _ (Rd.of_ow y_4.out) (Rd.nil _ _)).mono ?_
  rintro e w5 ⟨rfl, hbel⟩
  have X_5 := Lib.hid (X_4.out.below hbel)
  have Y_5 := Lib.hid (Y_4.out.below hbel)
  have T_5 := Lib.hid (T_4.out.below hbel)
  have x_5 := Lib.hid (x_4.out.below hbel)
  have y_5 := Lib.hid (y_4.out.below hbel)
  have z_5 := Lib.hid (z_4.out.below hbel)
  have B5 := Lib.hid (B4.out.trans (hbel.mono hsz4))
  have hsz5 := B5.out.size
  clear X_4 Y_4 T_4 x_4 y_4 z_4 hbel
  go_wp2_with fail
  refine (equal_yes ([].map vl) _ _ _ z_5.out (Rd.nil _ _)).mono ?_
  rintro e w6 ⟨rfl, hbel⟩
  have X_6 := Lib.hid (X_5.out.below hbel)
  have Y_6 := Lib.hid (Y_5.out.below hbel)
  have T_6 := Lib.hid (T_5.out.below hbel)
  have x_6 := Lib.hid (x_5.out.below hbel)
  have y_6 := Lib.hid (y_5.out.below hbel)
  have z_6 := Lib.hid (z_5.out.below hbel)
  have B6 := Lib.hid (B5.out.trans (hbel.mono hsz5))
  have hsz6 := B6.out.size
  clear X_5 Y_5 T_5 x_5 y_5 z_5 hbel
  go_wp2
  go_ret
  exact ⟨rfl, B6.out⟩
set_option maxHeartbeats 20000000 in
set_option maxRecDepth 100000 in
theorem cs_L2F10 (za zb : List Int) (v v2 : Value) (w : World) (h : Rd .u64 w v za) (h2 : Rd .u64 w v2 zb) (hz : B64 za) (hy : B64 zb) (hN : za.length ≤ 17592186044416) (hN2 : zb.length ≤ 17592186044416) (hT : Tb w) (hbig : TooBig za.length zb.length) (hc : za.length ≤ 1024 ∧ 1024 < zb.length) (hne : za.length ≠ zb.length) (h64 : True) :
    Calls Tryd.prog 6 #[v, v2] w (RetV w (.bool true)) := by
  have X := Lib.hid h
  have Y := Lib.hid h2
  have T := Lib.hid hT
  obtain ⟨a1, q1, rfl, hk1, hm1⟩ := h.shape
  obtain ⟨a2, q2, rfl, hk2, hm2⟩ := h2.shape
  clear h h2 hT
  have B0 := Lib.hid (Below.refl w.heap.size w)
  have hsz0 : w.heap.size ≤ w.heap.size := Nat.le_refl _
  have c1i : decide ((1024 : Int) < (za.length : Int)) = false := by rw [decide_eq_false_iff_not]; omega
  have c1n : decide (1024 < za.length) = false := by rw [decide_eq_false_iff_not]; omega
  have c2i : (1024 : Int) < (zb.length : Int) := by omega
  have c2n : 1024 < zb.length := by omega
  have ne1 : ((za.length : Int) != (zb.length : Int)) = true := by rw [bne_iff_ne]; omega
  have ne2 : (za.length != zb.length) = true := by rw [bne_iff_ne]; exact hne
  have HNE := Lib.hid hne
  have CY := Lib.hid (show ∀ w, Rd .u64 w (.slice a1 za.length q1) za → Rd .u64 w (.slice a2 zb.length q2) zb → Tb w → Calls Tryd.prog 27 #[(.slice a1 za.length q1), (.slice a2 zb.length q2)] w (RetLE w [] 5) from fun w h h2 hT => cyc_len za zb _ _ w h h2 hne)
  have CS := Lib.hid (show ∀ w, Rd .u64 w (.slice a1 za.length q1) za → Rd .u64 w (.slice a2 zb.length q2) zb → Tb w → Calls Tryd.prog 28 #[(.slice a1 za.length q1), (.slice a2 zb.length q2)] w (RetLE w [] 5) from fun w h h2 hT => skew_len za zb _ _ w h h2 hne)
  have CL := Lib.hid (show ∀ w, Rd .u64 w (.slice a1 za.length q1) za → Rd .u64 w (.slice a2 zb.length q2) zb → Tb w → Calls Tryd.prog 29 #[(.slice a1 za.length q1), (.slice a2 zb.length q2)] w (RetRE w [] 2) from fun w h h2 hT => lin_big za zb _ _ w h h2 hbig hN hN2)
  clear hne hc h64
  go_enter Tryd.func6, Tryd.ntmps6
  go_wp2_with fail
  refine (CY.out _ X.out Y.out T.out).mono ?_
  rintro e w1 ⟨v1, rfl, hown, hbel⟩
  have X_1 := Lib.hid (X.out.below hbel)
  have Y_1 := Lib.hid (Y.out.below hbel)
  have T_1 := Lib.hid (T.out.below hbel)
  have x_1 := Lib.hid (hown.mono hsz0)
  have B1 := Lib.hid (B0.out.trans (hbel.mono hsz0))
  have hsz1 := B1.out.size
  clear X Y T hown hbel
  go_wp2_with fail
  refine (CS.out _ X_1.out Y_1.out T_1.out).mono ?_
  rintro e w2 ⟨v2, rfl, hown, hbel⟩
  have X_2 := Lib.hid (X_1.out.below hbel)
  have Y_2 := Lib.hid (Y_1.out.below hbel)
  have T_2 := Lib.hid (T_1.out.below hbel)
  have x_2 := Lib.hid (x_1.out.below hbel)
  have y_2 := Lib.hid (hown.mono hsz1)
  have B2 := Lib.hid (B1.out.trans (hbel.mono hsz1))
  have hsz2 := B2.out.size
  clear X_1 Y_1 T_1 x_1 hown hbel
  go_wp2_with fail
  refine (CL.out _ X_2.out Y_2.out T_2.out).mono ?_
  rintro e w3 ⟨v3, rfl, hrd, hbel⟩
  have X_3 := Lib.hid (X_2.out.below hbel)
  have Y_3 := Lib.hid (Y_2.out.below hbel)
  have T_3 := Lib.hid (T_2.out.below hbel)
  have x_3 := Lib.hid (x_2.out.below hbel)
  have y_3 := Lib.hid (y_2.out.below hbel)
  have z_3 := Lib.hid hrd
  have B3 := Lib.hid (B2.out.trans (hbel.mono hsz2))
  have hsz3 := B3.out.size
  clear X_2 Y_2 T_2 x_2 y_2 hrd hbel
  go_wp2_with fail
  refine (equal_yes ([].map vl) _ _ _ (Rd.of_ow x_3.out) (Rd.nil _ _)).mono ?_
  rintro e w4 ⟨rfl, hbel⟩
  have X_4 := Lib.hid (X_3.out.below hbel)
  have Y_4 := Lib.hid (Y_3.out.below hbel)
  have T_4 := Lib.hid (T_3.out.below hbel)
  have x_4 := Lib.hid (x_3.out.below hbel)
  have y_4 := Lib.hid (y_3.out.below hbel)
  have z_4 := Lib.hid (z_3.out.below hbel)
  have B4 := Lib.hid (B3.out.trans (hbel.mono hsz3))
  have hsz4 := B4.out.size
  clear X_3 Y_3 T_3 x_3 y_3 z_3 hbel
  go_wp2_with fail
  refine (equal_yes ([].map vl) _ _ _ (Rd.of_ow y_4.out) (Rd.nil _ _)).mono ?_
  rintro e w5 ⟨rfl, hbel⟩
  have X_5 := Lib.hid (X_4.out.below hbel)
  have Y_5 := Lib.hid (Y_4.out.below hbel)
  have T_5 := Lib.hid (T_4.out.below hbel)
  have x_5 := Lib.hid (x_4.out.below hbel)
  have y_5 := Lib.hid (y_4.out.below hbel)
  have z_5 := Lib.hid (z_4.out.below hbel)
  have B5 := Lib.hid (B4.out.trans (hbel.mono hsz4))
  have hsz5 := B5.out.size
  clear X_4 Y_4 T_4 x_4 y_4 z_4 hbel
  go_wp2_with fail
  refine (equal_yes ([].map vl) _ _ _ z_5.out (Rd.nil _ _)).mono ?_
  rintro e w6 ⟨rfl, hbel⟩
  have X_6 := Lib.hid (X_5.out.below hbel)
  have Y_6 := Lib.hid (Y_5.out.below hbel)
  have T_6 := Lib.hid (T_5.out.below hbel)
  have x_6 := Lib.hid (x_5.out.below hbel)
  have y_6 := Lib.hid (y_5.out.below hbel)
  have z_6 := Lib.hid (z_5.out.below hbel)
  have B6 := Lib.hid (B5.out.trans (hbel.mono hsz5))
  have hsz6 := B6.out.size
  clear X_5 Y_5 T_5 x_5 y_5 z_5 hbel
  go_wp2
  go_ret
  exact ⟨rfl, B6.out⟩
set_option maxHeartbeats 20000000 in
set_option maxRecDepth 100000 in
theorem cs_L3F10 (za zb : List Int) (v v2 : Value) (w : World) (h : Rd .u64 w v za) (h2 : Rd .u64 w v2 zb) (hz : B64 za) (hy : B64 zb) (hN : za.length ≤ 17592186044416) (hN2 : zb.length ≤ 17592186044416) (hT : Tb w) (hbig : TooBig za.length zb.length) (hc : za.length ≤ 1024 ∧ zb.length ≤ 1024 ∧ 0 < za.length ∧ 0 < zb.length ∧ 1025 < za.length + zb.length) (hne : za.length ≠ zb.length) (h64 : True) :
    Calls Tryd.prog 6 #[v, v2] w (RetV w (.bool true)) := by
  have X := Lib.hid h
  have Y := Lib.hid h2
  have T := Lib.hid hT
  obtain ⟨a1, q1, rfl, hk1, hm1⟩ := h.shape
  obtain ⟨a2, q2, rfl, hk2, hm2⟩ := h2.shape
  clear h h2 hT
  have B0 := Lib.hid (Below.refl w.heap.size w)
  have hsz0 : w.heap.size ≤ w.heap.size := Nat.le_refl _
  have c1i : decide ((1024 : Int) < (za.length : Int)) = false := by rw [decide_eq_false_iff_not]; omega
  have c1n : decide (1024 < za.length) = false := by rw [decide_eq_false_iff_not]; omega
  have c2i : decide ((1024 : Int) < (zb.length : Int)) = false := by rw [decide_eq_false_iff_not]; omega
  have c2n : decide (1024 < zb.length) = false := by rw [decide_eq_false_iff_not]; omega
  have c3i : (0 : Int) < (za.length : Int) := by omega
  have c3n : 0 < za.length := by omega
  have c4i : (0 : Int) < (zb.length : Int) := by omega
  have c4n : 0 < zb.length := by omega
  have ew : IntKind.i64.wrap ((za.length : Int) + (zb.length : Int)) = (za.length : Int) + (zb.length : Int) := IntWalk.i64_in _ (by omega)
  have c5i : (1025 : Int) < (za.length : Int) + (zb.length : Int) := by omega
  have c5n : 1025 < za.length + zb.length := by omega
  have ne1 : ((za.length : Int) != (zb.length : Int)) = true := by rw [bne_iff_ne]; omega
  have ne2 : (za.length != zb.length) = true := by rw [bne_iff_ne]; exact hne
  have HNE := Lib.hid hne
  have CY := Lib.hid (show ∀ w, Rd .u64 w (.slice a1 za.length q1) za → Rd .u64 w (.slice a2 zb.length q2) zb → Tb w → Calls Tryd.prog 27 #[(.slice a1 za.length q1), (.slice a2 zb.length q2)] w (RetLE w [] 5) from fun w h h2 hT => cyc_len za zb _ _ w h h2 hne)
  have CS := Lib.hid (show ∀ w, Rd .u64 w (.slice a1 za.length q1) za → Rd .u64 w (.slice a2 zb.length q2) zb → Tb w → Calls Tryd.prog 28 #[(.slice a1 za.length q1), (.slice a2 zb.length q2)] w (RetLE w [] 5) from fun w h h2 hT => skew_len za zb _ _ w h h2 hne)
  have CL := Lib.hid (show ∀ w, Rd .u64 w (.slice a1 za.length q1) za → Rd .u64 w (.slice a2 zb.length q2) zb → Tb w → Calls Tryd.prog 29 #[(.slice a1 za.length q1), (.slice a2 zb.length q2)] w (RetRE w [] 2) from fun w h h2 hT => lin_big za zb _ _ w h h2 hbig hN hN2)
  clear hne hc h64
  go_enter Tryd.func6, Tryd.ntmps6
  go_wp2_with fail
  refine (CY.out _ X.out Y.out T.out).mono ?_
  rintro e w1 ⟨v1, rfl, hown, hbel⟩
  have X_1 := Lib.hid (X.out.below hbel)
  have Y_1 := Lib.hid (Y.out.below hbel)
  have T_1 := Lib.hid (T.out.below hbel)
  have x_1 := Lib.hid (hown.mono hsz0)
  have B1 := Lib.hid (B0.out.trans (hbel.mono hsz0))
  have hsz1 := B1.out.size
  clear X Y T hown hbel
  go_wp2_with fail
  refine (CS.out _ X_1.out Y_1.out T_1.out).mono ?_
  rintro e w2 ⟨v2, rfl, hown, hbel⟩
  have X_2 := Lib.hid (X_1.out.below hbel)
  have Y_2 := Lib.hid (Y_1.out.below hbel)
  have T_2 := Lib.hid (T_1.out.below hbel)
  have x_2 := Lib.hid (x_1.out.below hbel)
  have y_2 := Lib.hid (hown.mono hsz1)
  have B2 := Lib.hid (B1.out.trans (hbel.mono hsz1))
  have hsz2 := B2.out.size
  clear X_1 Y_1 T_1 x_1 hown hbel
  go_wp2_with fail
  refine (CL.out _ X_2.out Y_2.out T_2.out).mono ?_
  rintro e w3 ⟨v3, rfl, hrd, hbel⟩
  have X_3 := Lib.hid (X_2.out.below hbel)
  have Y_3 := Lib.hid (Y_2.out.below hbel)
  have T_3 := Lib.hid (T_2.out.below hbel)
  have x_3 := Lib.hid (x_2.out.below hbel)
  have y_3 := Lib.hid (y_2.out.below hbel)
  have z_3 := Lib.hid hrd
  have B3 := Lib.hid (B2.out.trans (hbel.mono hsz2))
  have hsz3 := B3.out.size
  clear X_2 Y_2 T_2 x_2 y_2 hrd hbel
  go_wp2_with fail
  refine (equal_yes ([].map vl) _ _ _ (Rd.of_ow x_3.out) (Rd.nil _ _)).mono ?_
  rintro e w4 ⟨rfl, hbel⟩
  have X_4 := Lib.hid (X_3.out.below hbel)
  have Y_4 := Lib.hid (Y_3.out.below hbel)
  have T_4 := Lib.hid (T_3.out.below hbel)
  have x_4 := Lib.hid (x_3.out.below hbel)
  have y_4 := Lib.hid (y_3.out.below hbel)
  have z_4 := Lib.hid (z_3.out.below hbel)
  have B4 := Lib.hid (B3.out.trans (hbel.mono hsz3))
  have hsz4 := B4.out.size
  clear X_3 Y_3 T_3 x_3 y_3 z_3 hbel
  go_wp2_with fail
  refine (equal_yes ([].map vl) _ _ _ (Rd.of_ow y_4.out) (Rd.nil _ _)).mono ?_
  rintro e w5 ⟨rfl, hbel⟩
  have X_5 := Lib.hid (X_4.out.below hbel)
  have Y_5 := Lib.hid (Y_4.out.below hbel)
  have T_5 := Lib.hid (T_4.out.below hbel)
  have x_5 := Lib.hid (x_4.out.below hbel)
  have y_5 := Lib.hid (y_4.out.below hbel)
  have z_5 := Lib.hid (z_4.out.below hbel)
  have B5 := Lib.hid (B4.out.trans (hbel.mono hsz4))
  have hsz5 := B5.out.size
  clear X_4 Y_4 T_4 x_4 y_4 z_4 hbel
  go_wp2_with fail
  refine (equal_yes ([].map vl) _ _ _ z_5.out (Rd.nil _ _)).mono ?_
  rintro e w6 ⟨rfl, hbel⟩
  have X_6 := Lib.hid (X_5.out.below hbel)
  have Y_6 := Lib.hid (Y_5.out.below hbel)
  have T_6 := Lib.hid (T_5.out.below hbel)
  have x_6 := Lib.hid (x_5.out.below hbel)
  have y_6 := Lib.hid (y_5.out.below hbel)
  have z_6 := Lib.hid (z_5.out.below hbel)
  have B6 := Lib.hid (B5.out.trans (hbel.mono hsz5))
  have hsz6 := B6.out.size
  clear X_5 Y_5 T_5 x_5 y_5 z_5 hbel
  go_wp2
  go_ret
  exact ⟨rfl, B6.out⟩
set_option maxHeartbeats 20000000 in
set_option maxRecDepth 100000 in
theorem cs_L3F20 (za zb : List Int) (v v2 : Value) (w : World) (h : Rd .u64 w v za) (h2 : Rd .u64 w v2 zb) (hz : B64 za) (hy : B64 zb) (hN : za.length ≤ 17592186044416) (hN2 : zb.length ≤ 17592186044416) (hT : Tb w) (hbig : TooBig za.length zb.length) (hc : za.length ≤ 1024 ∧ zb.length ≤ 1024 ∧ 0 < za.length ∧ 0 < zb.length ∧ 1025 < za.length + zb.length) (he : za.length = zb.length) (hno : ∀ k : Nat, k ≤ 10 → za.length ≠ 2 ^ k) (h64 : True) :
    Calls Tryd.prog 6 #[v, v2] w (RetV w (.bool true)) := by
  have X := Lib.hid h
  have Y := Lib.hid h2
  have T := Lib.hid hT
  obtain ⟨a1, q1, rfl, hk1, hm1⟩ := h.shape
  obtain ⟨a2, q2, rfl, hk2, hm2⟩ := h2.shape
  clear h h2 hT
  have B0 := Lib.hid (Below.refl w.heap.size w)
  have hsz0 : w.heap.size ≤ w.heap.size := Nat.le_refl _
  have Y' := Lib.hid (show Rd .u64 w (.slice a2 za.length q2) zb by rw [he]; exact Y.out)
  rw [← he] at hk2 ⊢
  have c1i : decide ((1024 : Int) < (za.length : Int)) = false := by rw [decide_eq_false_iff_not]; omega
  have c1n : decide (1024 < za.length) = false := by rw [decide_eq_false_iff_not]; omega
  have c2i : decide ((1024 : Int) < (za.length : Int)) = false := by rw [decide_eq_false_iff_not]; omega
  have c2n : decide (1024 < za.length) = false := by rw [decide_eq_false_iff_not]; omega
  have c3i : (0 : Int) < (za.length : Int) := by omega
  have c3n : 0 < za.length := by omega
  have c4i : (0 : Int) < (za.length : Int) := by omega
  have c4n : 0 < za.length := by omega
  have ew : IntKind.i64.wrap ((za.length : Int) + (za.length : Int)) = (za.length : Int) + (za.length : Int) := IntWalk.i64_in _ (by omega)
  have c5i : (1025 : Int) < (za.length : Int) + (za.length : Int) := by omega
  have c5n : 1025 < za.length + za.length := by omega
  have CR := Lib.hid (fun w => (rlog_any (za.length : Int) w (by omega) (by omega)).mono (R' := fun e w' => e = .returned (.int .i64 (-1)) ∧ w = w') (fun e w' he => by
    rcases he with ⟨⟨k, hk, e1, _⟩ | ⟨_, e2⟩, e3⟩
    · exact absurd e1 (by have := hno k hk; omega)
    · exact ⟨e2, e3⟩))
  have HE := Lib.hid he
  have HNO := Lib.hid hno
  have CY := Lib.hid (show ∀ w, Rd .u64 w (.slice a1 za.length q1) za → Rd .u64 w (.slice a2 za.length q2) zb → Tb w → Calls Tryd.prog 27 #[(.slice a1 za.length q1), (.slice a2 za.length q2)] w (RetLE w [] 5) from fun w h h2 hT => cyc_bad za zb _ _ w h h2 he hno hT)
  have CS := Lib.hid (show ∀ w, Rd .u64 w (.slice a1 za.length q1) za → Rd .u64 w (.slice a2 za.length q2) zb → Tb w → Calls Tryd.prog 28 #[(.slice a1 za.length q1), (.slice a2 za.length q2)] w (RetLE w [] 5) from fun w h h2 hT => skew_bad za zb _ _ w h h2 hz hy he hno hN hT)
  have CL := Lib.hid (show ∀ w, Rd .u64 w (.slice a1 za.length q1) za → Rd .u64 w (.slice a2 za.length q2) zb → Tb w → Calls Tryd.prog 29 #[(.slice a1 za.length q1), (.slice a2 za.length q2)] w (RetRE w [] 2) from fun w h h2 hT => lin_big za zb _ _ w h h2 hbig hN hN2)
  clear he hno hc h64
  go_enter Tryd.func6, Tryd.ntmps6
  go_wp2_with fail
  refine (CR.out _).mono ?_
  rintro e w' ⟨rfl, rfl⟩
  go_wp2_with fail
  refine (CY.out _ X.out Y'.out T.out).mono ?_
  rintro e w1 ⟨v1, rfl, hown, hbel⟩
  have X_1 := Lib.hid (X.out.below hbel)
  have Y_1 := Lib.hid (Y'.out.below hbel)
  have T_1 := Lib.hid (T.out.below hbel)
  have x_1 := Lib.hid (hown.mono hsz0)
  have B1 := Lib.hid (B0.out.trans (hbel.mono hsz0))
  have hsz1 := B1.out.size
  clear X Y' T hown hbel
  go_wp2_with fail
  refine (CS.out _ X_1.out Y_1.out T_1.out).mono ?_
  rintro e w2 ⟨v2, rfl, hown, hbel⟩
  have X_2 := Lib.hid (X_1.out.below hbel)
  have Y_2 := Lib.hid (Y_1.out.below hbel)
  have T_2 := Lib.hid (T_1.out.below hbel)
  have x_2 := Lib.hid (x_1.out.below hbel)
  have y_2 := Lib.hid (hown.mono hsz1)
  have B2 := Lib.hid (B1.out.trans (hbel.mono hsz1))
  have hsz2 := B2.out.size
  clear X_1 Y_1 T_1 x_1 hown hbel
  go_wp2_with fail
  refine (CL.out _ X_2.out Y_2.out T_2.out).mono ?_
  rintro e w3 ⟨v3, rfl, hrd, hbel⟩
  have X_3 := Lib.hid (X_2.out.below hbel)
  have Y_3 := Lib.hid (Y_2.out.below hbel)
  have T_3 := Lib.hid (T_2.out.below hbel)
  have x_3 := Lib.hid (x_2.out.below hbel)
  have y_3 := Lib.hid (y_2.out.below hbel)
  have z_3 := Lib.hid hrd
  have B3 := Lib.hid (B2.out.trans (hbel.mono hsz2))
  have hsz3 := B3.out.size
  clear X_2 Y_2 T_2 x_2 y_2 hrd hbel
  go_wp2_with fail
  refine (equal_yes ([].map vl) _ _ _ (Rd.of_ow x_3.out) (Rd.nil _ _)).mono ?_
  rintro e w4 ⟨rfl, hbel⟩
  have X_4 := Lib.hid (X_3.out.below hbel)
  have Y_4 := Lib.hid (Y_3.out.below hbel)
  have T_4 := Lib.hid (T_3.out.below hbel)
  have x_4 := Lib.hid (x_3.out.below hbel)
  have y_4 := Lib.hid (y_3.out.below hbel)
  have z_4 := Lib.hid (z_3.out.below hbel)
  have B4 := Lib.hid (B3.out.trans (hbel.mono hsz3))
  have hsz4 := B4.out.size
  clear X_3 Y_3 T_3 x_3 y_3 z_3 hbel
  go_wp2_with fail
  refine (equal_yes ([].map vl) _ _ _ (Rd.of_ow y_4.out) (Rd.nil _ _)).mono ?_
  rintro e w5 ⟨rfl, hbel⟩
  have X_5 := Lib.hid (X_4.out.below hbel)
  have Y_5 := Lib.hid (Y_4.out.below hbel)
  have T_5 := Lib.hid (T_4.out.below hbel)
  have x_5 := Lib.hid (x_4.out.below hbel)
  have y_5 := Lib.hid (y_4.out.below hbel)
  have z_5 := Lib.hid (z_4.out.below hbel)
  have B5 := Lib.hid (B4.out.trans (hbel.mono hsz4))
  have hsz5 := B5.out.size
  clear X_4 Y_4 T_4 x_4 y_4 z_4 hbel
  go_wp2_with fail
  refine (equal_yes ([].map vl) _ _ _ z_5.out (Rd.nil _ _)).mono ?_
  rintro e w6 ⟨rfl, hbel⟩
  have X_6 := Lib.hid (X_5.out.below hbel)
  have Y_6 := Lib.hid (Y_5.out.below hbel)
  have T_6 := Lib.hid (T_5.out.below hbel)
  have x_6 := Lib.hid (x_5.out.below hbel)
  have y_6 := Lib.hid (y_5.out.below hbel)
  have z_6 := Lib.hid (z_5.out.below hbel)
  have B6 := Lib.hid (B5.out.trans (hbel.mono hsz5))
  have hsz6 := B6.out.size
  clear X_5 Y_5 T_5 x_5 y_5 z_5 hbel
  go_wp2
  go_ret
  exact ⟨rfl, B6.out⟩
set_option maxHeartbeats 20000000 in
set_option maxRecDepth 100000 in
theorem cs_L3F31 (za zb : List Int) (v v2 : Value) (w : World) (h : Rd .u64 w v za) (h2 : Rd .u64 w v2 zb) (hz : B64 za) (hy : B64 zb) (hN : za.length ≤ 17592186044416) (hN2 : zb.length ≤ 17592186044416) (hT : Tb w) (hbig : TooBig za.length zb.length) (hc : za.length ≤ 1024 ∧ zb.length ≤ 1024 ∧ 0 < za.length ∧ 0 < zb.length ∧ 1025 < za.length + zb.length) (he : za.length = zb.length) (k : Nat) (hk : k ≤ 10) (hlk : za.length = 2 ^ k) (h64 : 64 < za.length) :
    Calls Tryd.prog 6 #[v, v2] w (RetV w (.bool true)) := by
  have X := Lib.hid h
  have Y := Lib.hid h2
  have T := Lib.hid hT
  obtain ⟨a1, q1, rfl, hk1, hm1⟩ := h.shape
  obtain ⟨a2, q2, rfl, hk2, hm2⟩ := h2.shape
  clear h h2 hT
  have B0 := Lib.hid (Below.refl w.heap.size w)
  have hsz0 : w.heap.size ≤ w.heap.size := Nat.le_refl _
  have Y' := Lib.hid (show Rd .u64 w (.slice a2 za.length q2) zb by rw [he]; exact Y.out)
  rw [← he] at hk2 ⊢
  have c1i : decide ((1024 : Int) < (za.length : Int)) = false := by rw [decide_eq_false_iff_not]; omega
  have c1n : decide (1024 < za.length) = false := by rw [decide_eq_false_iff_not]; omega
  have c2i : decide ((1024 : Int) < (za.length : Int)) = false := by rw [decide_eq_false_iff_not]; omega
  have c2n : decide (1024 < za.length) = false := by rw [decide_eq_false_iff_not]; omega
  have c3i : (0 : Int) < (za.length : Int) := by omega
  have c3n : 0 < za.length := by omega
  have c4i : (0 : Int) < (za.length : Int) := by omega
  have c4n : 0 < za.length := by omega
  have ew : IntKind.i64.wrap ((za.length : Int) + (za.length : Int)) = (za.length : Int) + (za.length : Int) := IntWalk.i64_in _ (by omega)
  have c5i : (1025 : Int) < (za.length : Int) + (za.length : Int) := by omega
  have c5n : 1025 < za.length + za.length := by omega
  have c6i : (64 : Int) < (za.length : Int) := by omega
  have c6n : 64 < za.length := by omega
  have CR := Lib.hid (fun w => rlog_pow k (za.length : Int) w hk (by omega))
  have HLK := Lib.hid hlk
  have E1 := Lib.hid (cyc_round (k := k) (l := za.map toF) (m := zb.map toF) (by rw [List.length_map]; exact hlk) (by rw [List.length_map, ← he]; exact hlk))
  have E2 := Lib.hid (skew_round (k := k) (by omega) (l := za.map toF) (m := zb.map toF) (by rw [List.length_map]; exact hlk) (by rw [List.length_map, ← he]; exact hlk))
  have hkn : ¬ (k : Int) < 0 := by omega
  rw [← hlk] at E1 E2
  have hlk2 : zb.length = 2 ^ k := he.symm.trans hlk
  have HLK2 := Lib.hid hlk2
  clear hlk hlk2
  have HE := Lib.hid he
  have CY := Lib.hid (show ∀ w, Rd .u64 w (.slice a1 za.length q1) za → Rd .u64 w (.slice a2 za.length q2) zb → Tb w → Calls Tryd.prog 27 #[(.slice a1 za.length q1), (.slice a2 za.length q2)] w (RetLE w (cycL k (za.map toF) (zb.map toF)) 0) from fun w h h2 hT => cyc_ok k za zb _ _ w h h2 hz hy hk HLK.out HLK2.out hT)
  have CS := Lib.hid (show ∀ w, Rd .u64 w (.slice a1 za.length q1) za → Rd .u64 w (.slice a2 za.length q2) zb → Tb w → Calls Tryd.prog 28 #[(.slice a1 za.length q1), (.slice a2 za.length q2)] w (RetLE w (skL k (za.map toF) (zb.map toF)) 0) from fun w h h2 hT => skew_ok k za zb _ _ w h h2 hz hy hk HLK.out HLK2.out hT)
  have CL := Lib.hid (show ∀ w, Rd .u64 w (.slice a1 za.length q1) za → Rd .u64 w (.slice a2 za.length q2) zb → Tb w → Calls Tryd.prog 29 #[(.slice a1 za.length q1), (.slice a2 za.length q2)] w (RetRE w [] 2) from fun w h h2 hT => lin_big za zb _ _ w h h2 hbig hN hN2)
  have CA := Lib.hid (show ∀ w, Rd .u64 w (.slice a1 za.length q1) za → Rd .u64 w (.slice a2 za.length q2) zb → Calls Tryd.prog 30 #[(.slice a1 za.length q1), (.slice a2 za.length q2), .bool false] w (RetL w (cycL k (za.map toF) (zb.map toF))) from fun w h h2 => by have := rround_any false za zb _ _ w h h2 hz hy (by omega) (by omega); rwa [E1.out] at this)
  have CB := Lib.hid (show ∀ w, Rd .u64 w (.slice a1 za.length q1) za → Rd .u64 w (.slice a2 za.length q2) zb → Calls Tryd.prog 30 #[(.slice a1 za.length q1), (.slice a2 za.length q2), .bool true] w (RetL w (skL k (za.map toF) (zb.map toF))) from fun w h h2 => by have := rround_any true za zb _ _ w h h2 hz hy (by omega) (by omega); rwa [E2.out] at this)
  clear he hc h64
  go_enter Tryd.func6, Tryd.ntmps6
  go_wp2_with fail
  refine (CR.out _).mono ?_
  rintro e w' ⟨rfl, rfl⟩
  go_wp2
  go_ret
  exact ⟨rfl, Below.refl _ _⟩
set_option maxHeartbeats 20000000 in
set_option maxRecDepth 100000 in
theorem cs_N1F10 (za zb : List Int) (v v2 : Value) (w : World) (h : Rd .u64 w v za) (h2 : Rd .u64 w v2 zb) (hz : B64 za) (hy : B64 zb) (hN : za.length ≤ 17592186044416) (hN2 : zb.length ≤ 17592186044416) (hT : Tb w) (hbig : ¬ TooBig za.length zb.length) (hc : za.length = 0 ∧ zb.length ≤ 1024) (hne : za.length ≠ zb.length) (h64 : za.length ≤ 64 ∧ zb.length ≤ 64) :
    Calls Tryd.prog 6 #[v, v2] w (RetV w (.bool true)) := by
  have X := Lib.hid h
  have Y := Lib.hid h2
  have T := Lib.hid hT
  obtain ⟨a1, q1, rfl, hk1, hm1⟩ := h.shape
  obtain ⟨a2, q2, rfl, hk2, hm2⟩ := h2.shape
  clear h h2 hT
  have B0 := Lib.hid (Below.refl w.heap.size w)
  have hsz0 : w.heap.size ≤ w.heap.size := Nat.le_refl _
  have c1i : decide ((1024 : Int) < (za.length : Int)) = false := by rw [decide_eq_false_iff_not]; omega
  have c1n : decide (1024 < za.length) = false := by rw [decide_eq_false_iff_not]; omega
  have c2i : decide ((1024 : Int) < (zb.length : Int)) = false := by rw [decide_eq_false_iff_not]; omega
  have c2n : decide (1024 < zb.length) = false := by rw [decide_eq_false_iff_not]; omega
  have c3i : decide ((0 : Int) < (za.length : Int)) = false := by rw [decide_eq_false_iff_not]; omega
  have c3n : decide (0 < za.length) = false := by rw [decide_eq_false_iff_not]; omega
  have ne1 : ((za.length : Int) != (zb.length : Int)) = true := by rw [bne_iff_ne]; omega
  have ne2 : (za.length != zb.length) = true := by rw [bne_iff_ne]; exact hne
  have c6i : decide ((64 : Int) < (za.length : Int)) = false := by rw [decide_eq_false_iff_not]; omega
  have c6n : decide (64 < za.length) = false := by rw [decide_eq_false_iff_not]; omega
  have c7i : decide ((64 : Int) < (zb.length : Int)) = false := by rw [decide_eq_false_iff_not]; omega
  have c7n : decide (64 < zb.length) = false := by rw [decide_eq_false_iff_not]; omega
  have HNE := Lib.hid hne
  have CY := Lib.hid (show ∀ w, Rd .u64 w (.slice a1 za.length q1) za → Rd .u64 w (.slice a2 zb.length q2) zb → Tb w → Calls Tryd.prog 27 #[(.slice a1 za.length q1), (.slice a2 zb.length q2)] w (RetLE w [] 5) from fun w h h2 hT => cyc_len za zb _ _ w h h2 hne)
  have CS := Lib.hid (show ∀ w, Rd .u64 w (.slice a1 za.length q1) za → Rd .u64 w (.slice a2 zb.length q2) zb → Tb w → Calls Tryd.prog 28 #[(.slice a1 za.length q1), (.slice a2 zb.length q2)] w (RetLE w [] 5) from fun w h h2 hT => skew_len za zb _ _ w h h2 hne)
  have CL := Lib.hid (show ∀ w, Rd .u64 w (.slice a1 za.length q1) za → Rd .u64 w (.slice a2 zb.length q2) zb → Tb w → Calls Tryd.prog 29 #[(.slice a1 za.length q1), (.slice a2 zb.length q2)] w (RetRE w [] 0) from fun w h h2 hT => lin_none za zb _ _ w h h2 hbig (by omega))
  have CP := Lib.hid (show ∀ w, Rd .u64 w (.slice a1 za.length q1) za → Rd .u64 w (.slice a2 zb.length q2) zb → Calls Tryd.prog 31 #[(.slice a1 za.length q1), (.slice a2 zb.length q2)] w (RetL w (mulL (za.map toF) (zb.map toF))) from fun w h h2 => rproduct_any za zb _ _ w h h2 hz hy (by omega) (by omega))
  have EM := Lib.hid (show mulL (za.map toF) (zb.map toF) = [] by
    unfold mulL
    rw [if_pos ?_]
    rcases (show za.length = 0 ∨ zb.length = 0 by omega) with e | e
    · left; rw [List.length_eq_zero_iff.1 e]; rfl
    · right; rw [List.length_eq_zero_iff.1 e]; rfl)
  clear hne hc h64
  go_enter Tryd.func6, Tryd.ntmps6
  go_wp2_with fail
  refine (CY.out _ X.out Y.out T.out).mono ?_
  rintro e w1 ⟨v1, rfl, hown, hbel⟩
  have X_1 := Lib.hid (X.out.below hbel)
  have Y_1 := Lib.hid (Y.out.below hbel)
  have T_1 := Lib.hid (T.out.below hbel)
  have x_1 := Lib.hid (hown.mono hsz0)
  have B1 := Lib.hid (B0.out.trans (hbel.mono hsz0))
  have hsz1 := B1.out.size
  clear X Y T hown hbel
  go_wp2_with fail
  refine (CS.out _ X_1.out Y_1.out T_1.out).mono ?_
  rintro e w2 ⟨v2, rfl, hown, hbel⟩
  have X_2 := Lib.hid (X_1.out.below hbel)
  have Y_2 := Lib.hid (Y_1.out.below hbel)
  have T_2 := Lib.hid (T_1.out.below hbel)
  have x_2 := Lib.hid (x_1.out.below hbel)
  have y_2 := Lib.hid (hown.mono hsz1)
  have B2 := Lib.hid (B1.out.trans (hbel.mono hsz1))
  have hsz2 := B2.out.size
  clear X_1 Y_1 T_1 x_1 hown hbel
  go_wp2_with fail
  refine (CL.out _ X_2.out Y_2.out T_2.out).mono ?_
  rintro e w3 ⟨v3, rfl, hrd, hbel⟩
  have X_3 := Lib.hid (X_2.out.below hbel)
  have Y_3 := Lib.hid (Y_2.out.below hbel)
  have T_3 := Lib.hid (T_2.out.below hbel)
  have x_3 := Lib.hid (x_2.out.below hbel)
  have y_3 := Lib.hid (y_2.out.below hbel)
  have z_3 := Lib.hid hrd
  have B3 := Lib.hid (B2.out.trans (hbel.mono hsz2))
  have hsz3 := B3.out.size
  clear X_2 Y_2 T_2 x_2 y_2 hrd hbel
  go_wp2_with fail
  refine (CP.out _ X_3.out Y_3.out).mono ?_
  rintro e w4 ⟨v4, rfl, hown, hbel⟩
  rw [EM.out] at hown
  have X_4 := Lib.hid (X_3.out.below hbel)
  have Y_4 := Lib.hid (Y_3.out.below hbel)
  have T_4 := Lib.hid (T_3.out.below hbel)
  have x_4 := Lib.hid (x_3.out.below hbel)
  have y_4 := Lib.hid (y_3.out.below hbel)
  have z_4 := Lib.hid (z_3.out.below hbel)
  have r_4 := Lib.hid (hown.mono hsz3)
  have B4 := Lib.hid (B3.out.trans (hbel.mono hsz3))
  have hsz4 := B4.out.size
  clear X_3 Y_3 T_3 x_3 y_3 z_3 hown hbel
  go_wp2_with fail
  refine (equal_yes ([].map vl) _ _ _ (Rd.of_ow x_4.out) (Rd.nil _ _)).mono ?_
  rintro e w5 ⟨rfl, hbel⟩
  have X_5 := Lib.hid (X_4.out.below hbel)
  have Y_5 := Lib.hid (Y_4.out.below hbel)
  have T_5 := Lib.hid (T_4.out.below hbel)
  have x_5 := Lib.hid (x_4.out.below hbel)
  have y_5 := Lib.hid (y_4.out.below hbel)
  have z_5 := Lib.hid (z_4.out.below hbel)
  have r_5 := Lib.hid (r_4.out.below hbel)
  have B5 := Lib.hid (B4.out.trans (hbel.mono hsz4))
  have hsz5 := B5.out.size
  clear X_4 Y_4 T_4 x_4 y_4 z_4 r_4 hbel
  go_wp2_with fail
  refine (equal_yes ([].map vl) _ _ _ (Rd.of_ow y_5.out) (Rd.nil _ _)).mono ?_
  rintro e w6 ⟨rfl, hbel⟩
  have X_6 := Lib.hid (X_5.out.below hbel)
  have Y_6 := Lib.hid (Y_5.out.below hbel)
  have T_6 := Lib.hid (T_5.out.below hbel)
  have x_6 := Lib.hid (x_5.out.below hbel)
  have y_6 := Lib.hid (y_5.out.below hbel)
  have z_6 := Lib.hid (z_5.out.below hbel)
  have r_6 := Lib.hid (r_5.out.below hbel)
  have B6 := Lib.hid (B5.out.trans (hbel.mono hsz5))
  have hsz6 := B6.out.size
  clear X_5 Y_5 T_5 x_5 y_5 z_5 r_5 hbel
  go_wp2_with fail
  refine (equal_yes ([].map vl) _ _ _ z_6.out (Rd.of_ow r_6.out)).mono ?_
  rintro e w7 ⟨rfl, hbel⟩
  have X_7 := Lib.hid (X_6.out.below hbel)
  have Y_7 := Lib.hid (Y_6.out.below hbel)
  have T_7 := Lib.hid (T_6.out.below hbel)
  have x_7 := Lib.hid (x_6.out.below hbel)
  have y_7 := Lib.hid (y_6.out.below hbel)
  have z_7 := Lib.hid (z_6.out.below hbel)
  have r_7 := Lib.hid (r_6.out.below hbel)
  have B7 := Lib.hid (B6.out.trans (hbel.mono hsz6))
  have hsz7 := B7.out.size
  clear X_6 Y_6 T_6 x_6 y_6 z_6 r_6 hbel
  go_wp2
  go_ret
  exact ⟨rfl, B7.out⟩
set_option maxHeartbeats 20000000 in
set_option maxRecDepth 100000 in
theorem cs_N1F11 (za zb : List Int) (v v2 : Value) (w : World) (h : Rd .u64 w v za) (h2 : Rd .u64 w v2 zb) (hz : B64 za) (hy : B64 zb) (hN : za.length ≤ 17592186044416) (hN2 : zb.length ≤ 17592186044416) (hT : Tb w) (hbig : ¬ TooBig za.length zb.length) (hc : za.length = 0 ∧ zb.length ≤ 1024) (hne : za.length ≠ zb.length) (h64 : 64 < za.length ∨ 64 < zb.length) :
    Calls Tryd.prog 6 #[v, v2] w (RetV w (.bool true)) := by
  have X := Lib.hid h
  have Y := Lib.hid h2
  have T := Lib.hid hT
  obtain ⟨a1, q1, rfl, hk1, hm1⟩ := h.shape
  obtain ⟨a2, q2, rfl, hk2, hm2⟩ := h2.shape
  clear h h2 hT
  have B0 := Lib.hid (Below.refl w.heap.size w)
  have hsz0 : w.heap.size ≤ w.heap.size := Nat.le_refl _
  have c1i : decide ((1024 : Int) < (za.length : Int)) = false := by rw [decide_eq_false_iff_not]; omega
  have c1n : decide (1024 < za.length) = false := by rw [decide_eq_false_iff_not]; omega
  have c2i : decide ((1024 : Int) < (zb.length : Int)) = false := by rw [decide_eq_false_iff_not]; omega
  have c2n : decide (1024 < zb.length) = false := by rw [decide_eq_false_iff_not]; omega
  have c3i : decide ((0 : Int) < (za.length : Int)) = false := by rw [decide_eq_false_iff_not]; omega
  have c3n : decide (0 < za.length) = false := by rw [decide_eq_false_iff_not]; omega
  have ne1 : ((za.length : Int) != (zb.length : Int)) = true := by rw [bne_iff_ne]; omega
  have ne2 : (za.length != zb.length) = true := by rw [bne_iff_ne]; exact hne
  rcases (show 64 < za.length ∨ (za.length ≤ 64 ∧ 64 < zb.length) by omega) with h65 | h65
  · exfalso; omega
  · have c6i : decide ((64 : Int) < (za.length : Int)) = false := by rw [decide_eq_false_iff_not]; omega
    have c6n : decide (64 < za.length) = false := by rw [decide_eq_false_iff_not]; omega
    have c7i : (64 : Int) < (zb.length : Int) := by omega
    have c7n : 64 < zb.length := by omega
    have HNE := Lib.hid hne
    have CY := Lib.hid (show ∀ w, Rd .u64 w (.slice a1 za.length q1) za → Rd .u64 w (.slice a2 zb.length q2) zb → Tb w → Calls Tryd.prog 27 #[(.slice a1 za.length q1), (.slice a2 zb.length q2)] w (RetLE w [] 5) from fun w h h2 hT => cyc_len za zb _ _ w h h2 hne)
    have CS := Lib.hid (show ∀ w, Rd .u64 w (.slice a1 za.length q1) za → Rd .u64 w (.slice a2 zb.length q2) zb → Tb w → Calls Tryd.prog 28 #[(.slice a1 za.length q1), (.slice a2 zb.length q2)] w (RetLE w [] 5) from fun w h h2 hT => skew_len za zb _ _ w h h2 hne)
    have CL := Lib.hid (show ∀ w, Rd .u64 w (.slice a1 za.length q1) za → Rd .u64 w (.slice a2 zb.length q2) zb → Tb w → Calls Tryd.prog 29 #[(.slice a1 za.length q1), (.slice a2 zb.length q2)] w (RetRE w [] 0) from fun w h h2 hT => lin_none za zb _ _ w h h2 hbig (by omega))
    have CP := Lib.hid (show ∀ w, Rd .u64 w (.slice a1 za.length q1) za → Rd .u64 w (.slice a2 zb.length q2) zb → Calls Tryd.prog 31 #[(.slice a1 za.length q1), (.slice a2 zb.length q2)] w (RetL w (mulL (za.map toF) (zb.map toF))) from fun w h h2 => rproduct_any za zb _ _ w h h2 hz hy (by omega) (by omega))
    have EM := Lib.hid (show mulL (za.map toF) (zb.map toF) = [] by
      unfold mulL
      rw [if_pos ?_]
      rcases (show za.length = 0 ∨ zb.length = 0 by omega) with e | e
      · left; rw [List.length_eq_zero_iff.1 e]; rfl
      · right; rw [List.length_eq_zero_iff.1 e]; rfl)
    clear hne hc h64 h65
    go_enter Tryd.func6, Tryd.ntmps6
    go_wp2
    go_ret
    exact ⟨rfl, Below.refl _ _⟩
set_option maxHeartbeats 20000000 in
set_option maxRecDepth 100000 in
theorem cs_N1F20 (za zb : List Int) (v v2 : Value) (w : World) (h : Rd .u64 w v za) (h2 : Rd .u64 w v2 zb) (hz : B64 za) (hy : B64 zb) (hN : za.length ≤ 17592186044416) (hN2 : zb.length ≤ 17592186044416) (hT : Tb w) (hbig : ¬ TooBig za.length zb.length) (hc : za.length = 0 ∧ zb.length ≤ 1024) (he : za.length = zb.length) (hno : ∀ k : Nat, k ≤ 10 → za.length ≠ 2 ^ k) (h64 : za.length ≤ 64 ∧ zb.length ≤ 64) :
    Calls Tryd.prog 6 #[v, v2] w (RetV w (.bool true)) := by
  have X := Lib.hid h
  have Y := Lib.hid h2
  have T := Lib.hid hT
  obtain ⟨a1, q1, rfl, hk1, hm1⟩ := h.shape
  obtain ⟨a2, q2, rfl, hk2, hm2⟩ := h2.shape
  clear h h2 hT
  have B0 := Lib.hid (Below.refl w.heap.size w)
  have hsz0 : w.heap.size ≤ w.heap.size := Nat.le_refl _
  have Y' := Lib.hid (show Rd .u64 w (.slice a2 za.length q2) zb by rw [he]; exact Y.out)
  rw [← he] at hk2 ⊢
  have c1i : decide ((1024 : Int) < (za.length : Int)) = false := by rw [decide_eq_false_iff_not]; omega
  have c1n : decide (1024 < za.length) = false := by rw [decide_eq_false_iff_not]; omega
  have c2i : decide ((1024 : Int) < (za.length : Int)) = false := by rw [decide_eq_false_iff_not]; omega
  have c2n : decide (1024 < za.length) = false := by rw [decide_eq_false_iff_not]; omega
  have c3i : decide ((0 : Int) < (za.length : Int)) = false := by rw [decide_eq_false_iff_not]; omega
  have c3n : decide (0 < za.length) = false := by rw [decide_eq_false_iff_not]; omega
  have c6i : decide ((64 : Int) < (za.length : Int)) = false := by rw [decide_eq_false_iff_not]; omega
  have c6n : decide (64 < za.length) = false := by rw [decide_eq_false_iff_not]; omega
  have CR := Lib.hid (fun w => (rlog_any (za.length : Int) w (by omega) (by omega)).mono (R' := fun e w' => e = .returned (.int .i64 (-1)) ∧ w = w') (fun e w' he => by
    rcases he with ⟨⟨k, hk, e1, _⟩ | ⟨_, e2⟩, e3⟩
    · exact absurd e1 (by have := hno k hk; omega)
    · exact ⟨e2, e3⟩))
  have HE := Lib.hid he
  have HNO := Lib.hid hno
  have CY := Lib.hid (show ∀ w, Rd .u64 w (.slice a1 za.length q1) za → Rd .u64 w (.slice a2 za.length q2) zb → Tb w → Calls Tryd.prog 27 #[(.slice a1 za.length q1), (.slice a2 za.length q2)] w (RetLE w [] 5) from fun w h h2 hT => cyc_bad za zb _ _ w h h2 he hno hT)
  have CS := Lib.hid (show ∀ w, Rd .u64 w (.slice a1 za.length q1) za → Rd .u64 w (.slice a2 za.length q2) zb → Tb w → Calls Tryd.prog 28 #[(.slice a1 za.length q1), (.slice a2 za.length q2)] w (RetLE w [] 5) from fun w h h2 hT => skew_bad za zb _ _ w h h2 hz hy he hno hN hT)
  have CL := Lib.hid (show ∀ w, Rd .u64 w (.slice a1 za.length q1) za → Rd .u64 w (.slice a2 za.length q2) zb → Tb w → Calls Tryd.prog 29 #[(.slice a1 za.length q1), (.slice a2 za.length q2)] w (RetRE w [] 0) from fun w h h2 hT => lin_none za zb _ _ w h h2 hbig (by omega))
  have CP := Lib.hid (show ∀ w, Rd .u64 w (.slice a1 za.length q1) za → Rd .u64 w (.slice a2 za.length q2) zb → Calls Tryd.prog 31 #[(.slice a1 za.length q1), (.slice a2 za.length q2)] w (RetL w (mulL (za.map toF) (zb.map toF))) from fun w h h2 => rproduct_any za zb _ _ w h h2 hz hy (by omega) (by omega))
  have EM := Lib.hid (show mulL (za.map toF) (zb.map toF) = [] by
    unfold mulL
    rw [if_pos ?_]
    rcases (show za.length = 0 ∨ zb.length = 0 by omega) with e | e
    · left; rw [List.length_eq_zero_iff.1 e]; rfl
    · right; rw [List.length_eq_zero_iff.1 e]; rfl)
  clear he hno hc h64
  go_enter Tryd.func6, Tryd.ntmps6
  go_wp2_with fail
  refine (CR.out _).mono ?_
  rintro e w' ⟨rfl, rfl⟩
  go_wp2_with fail
  refine (CY.out _ X.out Y'.out T.out).mono ?_
  rintro e w1 ⟨v1, rfl, hown, hbel⟩
  have X_1 := Lib.hid (X.out.below hbel)
  have Y_1 := Lib.hid (Y'.out.below hbel)
  have T_1 := Lib.hid (T.out.below hbel)
  have x_1 := Lib.hid (hown.mono hsz0)
  have B1 := Lib.hid (B0.out.trans (hbel.mono hsz0))
  have hsz1 := B1.out.size
  clear X Y' T hown hbel
  go_wp2_with fail
  refine (CS.out _ X_1.out Y_1.out T_1.out).mono ?_
  rintro e w2 ⟨v2, rfl, hown, hbel⟩
  have X_2 := Lib.hid (X_1.out.below hbel)
  have Y_2 := Lib.hid (Y_1.out.below hbel)
  have T_2 := Lib.hid (T_1.out.below hbel)
  have x_2 := Lib.hid (x_1.out.below hbel)
  have y_2 := Lib.hid (hown.mono hsz1)
  have B2 := Lib.hid (B1.out.trans (hbel.mono hsz1))
  have hsz2 := B2.out.size
  clear X_1 Y_1 T_1 x_1 hown hbel
  go_wp2_with fail
  refine (CL.out _ X_2.out Y_2.out T_2.out).mono ?_
  rintro e w3 ⟨v3, rfl, hrd, hbel⟩
  have X_3 := Lib.hid (X_2.out.below hbel)
  have Y_3 := Lib.hid (Y_2.out.below hbel)
  have T_3 := Lib.hid (T_2.out.below hbel)
  have x_3 := Lib.hid (x_2.out.below hbel)
  have y_3 := Lib.hid (y_2.out.below hbel)
  have z_3 := Lib.hid hrd
  have B3 := Lib.hid (B2.out.trans (hbel.mono hsz2))
  have hsz3 := B3.out.size
  clear X_2 Y_2 T_2 x_2 y_2 hrd hbel
  go_wp2_with fail
  refine (CP.out _ X_3.out Y_3.out).mono ?_
  rintro e w4 ⟨v4, rfl, hown, hbel⟩
  rw [EM.out] at hown
  have X_4 := Lib.hid (X_3.out.below hbel)
  have Y_4 := Lib.hid (Y_3.out.below hbel)
  have T_4 := Lib.hid (T_3.out.below hbel)
  have x_4 := Lib.hid (x_3.out.below hbel)
  have y_4 := Lib.hid (y_3.out.below hbel)
  have z_4 := Lib.hid (z_3.out.below hbel)
  have r_4 := Lib.hid (hown.mono hsz3)
  have B4 := Lib.hid (B3.out.trans (hbel.mono hsz3))
  have hsz4 := B4.out.size
  clear X_3 Y_3 T_3 x_3 y_3 z_3 hown hbel
  go_wp2_with fail
  refine (equal_yes ([].map vl) _ _ _ (Rd.of_ow x_4.out) (Rd.nil _ _)).mono ?_
  rintro e w5 ⟨rfl, hbel⟩
  have X_5 := Lib.hid (X_4.out.below hbel)
  have Y_5 := Lib.hid (Y_4.out.below hbel)
  have T_5 := Lib.hid (T_4.out.below hbel)
  have x_5 := Lib.hid (x_4.out.below hbel)
  have y_5 := Lib.hid (y_4.out.below hbel)
  have z_5 := Lib.hid (z_4.out.below hbel)
  have r_5 := Lib.hid (r_4.out.below hbel)
  have B5 := Lib.hid (B4.out.trans (hbel.mono hsz4))
  have hsz5 := B5.out.size
  clear X_4 Y_4 T_4 x_4 y_4 z_4 r_4 hbel
  go_wp2_with fail
  refine (equal_yes ([].map vl) _ _ _ (Rd.of_ow y_5.out) (Rd.nil _ _)).mono ?_
  rintro e w6 ⟨rfl, hbel⟩
  have X_6 := Lib.hid (X_5.out.below hbel)
  have Y_6 := Lib.hid (Y_5.out.below hbel)
  have T_6 := Lib.hid (T_5.out.below hbel)
  have x_6 := Lib.hid (x_5.out.below hbel)
  have y_6 := Lib.hid (y_5.out.below hbel)
  have z_6 := Lib.hid (z_5.out.below hbel)
  have r_6 := Lib.hid (r_5.out.below hbel)
  have B6 := Lib.hid (B5.out.trans (hbel.mono hsz5))
  have hsz6 := B6.out.size
  clear X_5 Y_5 T_5 x_5 y_5 z_5 r_5 hbel
  go_wp2_with fail
  refine (equal_yes ([].map vl) _ _ _ z_6.out (Rd.of_ow r_6.out)).mono ?_
  rintro e w7 ⟨rfl, hbel⟩
  have X_7 := Lib.hid (X_6.out.below hbel)
  have Y_7 := Lib.hid (Y_6.out.below hbel)
  have T_7 := Lib.hid (T_6.out.below hbel)
  have x_7 := Lib.hid (x_6.out.below hbel)
  have y_7 := Lib.hid (y_6.out.below hbel)
  have z_7 := Lib.hid (z_6.out.below hbel)
  have r_7 := Lib.hid (r_6.out.below hbel)
  have B7 := Lib.hid (B6.out.trans (hbel.mono hsz6))
  have hsz7 := B7.out.size
  clear X_6 Y_6 T_6 x_6 y_6 z_6 r_6 hbel
  go_wp2
  go_ret
  exact ⟨rfl, B7.out⟩
set_option maxHeartbeats 20000000 in
set_option maxRecDepth 100000 in
theorem cs_N2F10 (za zb : List Int) (v v2 : Value) (w : World) (h : Rd .u64 w v za) (h2 : Rd .u64 w v2 zb) (hz : B64 za) (hy : B64 zb) (hN : za.length ≤ 17592186044416) (hN2 : zb.length ≤ 17592186044416) (hT : Tb w) (hbig : ¬ TooBig za.length zb.length) (hc : 0 < za.length ∧ za.length ≤ 1024 ∧ zb.length = 0) (hne : za.length ≠ zb.length) (h64 : za.length ≤ 64 ∧ zb.length ≤ 64) :
    Calls Tryd.prog 6 #[v, v2] w (RetV w (.bool true)) := by
  have X := Lib.hid h
  have Y := Lib.hid h2
  have T := Lib.hid hT
  obtain ⟨a1, q1, rfl, hk1, hm1⟩ := h.shape
  obtain ⟨a2, q2, rfl, hk2, hm2⟩ := h2.shape
  clear h h2 hT
  have B0 := Lib.hid (Below.refl w.heap.size w)
  have hsz0 : w.heap.size ≤ w.heap.size := Nat.le_refl _
  have c1i : decide ((1024 : Int) < (za.length : Int)) = false := by rw [decide_eq_false_iff_not]; omega
  have c1n : decide (1024 < za.length) = false := by rw [decide_eq_false_iff_not]; omega
  have c2i : decide ((1024 : Int) < (zb.length : Int)) = false := by rw [decide_eq_false_iff_not]; omega
  have c2n : decide (1024 < zb.length) = false := by rw [decide_eq_false_iff_not]; omega
  have c3i : (0 : Int) < (za.length : Int) := by omega
  have c3n : 0 < za.length := by omega
  have c4i : decide ((0 : Int) < (zb.length : Int)) = false := by rw [decide_eq_false_iff_not]; omega
  have c4n : decide (0 < zb.length) = false := by rw [decide_eq_false_iff_not]; omega
  have ne1 : ((za.length : Int) != (zb.length : Int)) = true := by rw [bne_iff_ne]; omega
  have ne2 : (za.length != zb.length) = true := by rw [bne_iff_ne]; exact hne
  have c6i : decide ((64 : Int) < (za.length : Int)) = false := by rw [decide_eq_false_iff_not]; omega
  have c6n : decide (64 < za.length) = false := by rw [decide_eq_false_iff_not]; omega
  have c7i : decide ((64 : Int) < (zb.length : Int)) = false := by rw [decide_eq_false_iff_not]; omega
  have c7n : decide (64 < zb.length) = false := by rw [decide_eq_false_iff_not]; omega
  have HNE := Lib.hid hne
  have CY := Lib.hid (show ∀ w, Rd .u64 w (.slice a1 za.length q1) za → Rd .u64 w (.slice a2 zb.length q2) zb → Tb w → Calls Tryd.prog 27 #[(.slice a1 za.length q1), (.slice a2 zb.length q2)] w (RetLE w [] 5) from fun w h h2 hT => cyc_len za zb _ _ w h h2 hne)
  have CS := Lib.hid (show ∀ w, Rd .u64 w (.slice a1 za.length q1) za → Rd .u64 w (.slice a2 zb.length q2) zb → Tb w → Calls Tryd.prog 28 #[(.slice a1 za.length q1), (.slice a2 zb.length q2)] w (RetLE w [] 5) from fun w h h2 hT => skew_len za zb _ _ w h h2 hne)
  have CL := Lib.hid (show ∀ w, Rd .u64 w (.slice a1 za.length q1) za → Rd .u64 w (.slice a2 zb.length q2) zb → Tb w → Calls Tryd.prog 29 #[(.slice a1 za.length q1), (.slice a2 zb.length q2)] w (RetRE w [] 0) from fun w h h2 hT => lin_none za zb _ _ w h h2 hbig (by omega))
  have CP := Lib.hid (show ∀ w, Rd .u64 w (.slice a1 za.length q1) za → Rd .u64 w (.slice a2 zb.length q2) zb → Calls Tryd.prog 31 #[(.slice a1 za.length q1), (.slice a2 zb.length q2)] w (RetL w (mulL (za.map toF) (zb.map toF))) from fun w h h2 => rproduct_any za zb _ _ w h h2 hz hy (by omega) (by omega))
  have EM := Lib.hid (show mulL (za.map toF) (zb.map toF) = [] by
    unfold mulL
    rw [if_pos ?_]
    rcases (show za.length = 0 ∨ zb.length = 0 by omega) with e | e
    · left; rw [List.length_eq_zero_iff.1 e]; rfl
    · right; rw [List.length_eq_zero_iff.1 e]; rfl)
  clear hne hc h64
  go_enter Tryd.func6, Tryd.ntmps6
  go_wp2_with fail
  refine (CY.out _ X.out Y.out T.out).mono ?_
  rintro e w1 ⟨v1, rfl, hown, hbel⟩
  have X_1 := Lib.hid (X.out.below hbel)
  have Y_1 := Lib.hid (Y.out.below hbel)
  have T_1 := Lib.hid (T.out.below hbel)
  have x_1 := Lib.hid (hown.mono hsz0)
  have B1 := Lib.hid (B0.out.trans (hbel.mono hsz0))
  have hsz1 := B1.out.size
  clear X Y T hown hbel
  go_wp2_with fail
  refine (CS.out _ X_1.out Y_1.out T_1.out).mono ?_
  rintro e w2 ⟨v2, rfl, hown, hbel⟩
  have X_2 := Lib.hid (X_1.out.below hbel)
  have Y_2 := Lib.hid (Y_1.out.below hbel)
  have T_2 := Lib.hid (T_1.out.below hbel)
  have x_2 := Lib.hid (x_1.out.below hbel)
  have y_2 := Lib.hid (hown.mono hsz1)
  have B2 := Lib.hid (B1.out.trans (hbel.mono hsz1))
  have hsz2 := B2.out.size
  clear X_1 Y_1 T_1 x_1 hown hbel
  go_wp2_with fail
  refine (CL.out _ X_2.out Y_2.out T_2.out).mono ?_
  rintro e w3 ⟨v3, rfl, hrd, hbel⟩
  have X_3 := Lib.hid (X_2.out.below hbel)
  have Y_3 := Lib.hid (Y_2.out.below hbel)
  have T_3 := Lib.hid (T_2.out.below hbel)
  have x_3 := Lib.hid (x_2.out.below hbel)
  have y_3 := Lib.hid (y_2.out.below hbel)
  have z_3 := Lib.hid hrd
  have B3 := Lib.hid (B2.out.trans (hbel.mono hsz2))
  have hsz3 := B3.out.size
  clear X_2 Y_2 T_2 x_2 y_2 hrd hbel
  go_wp2_with fail
  refine (CP.out _ X_3.out Y_3.out).mono ?_
  rintro e w4 ⟨v4, rfl, hown, hbel⟩
  rw [EM.out] at hown
  have X_4 := Lib.hid (X_3.out.below hbel)
  have Y_4 := Lib.hid (Y_3.out.below hbel)
  have T_4 := Lib.hid (T_3.out.below hbel)
  have x_4 := Lib.hid (x_3.out.below hbel)
  have y_4 := Lib.hid (y_3.out.below hbel)
  have z_4 := Lib.hid (z_3.out.below hbel)
  have r_4 := Lib.hid (hown.mono hsz3)
  have B4 := Lib.hid (B3.out.trans (hbel.mono hsz3))
  have hsz4 := B4.out.size
  clear X_3 Y_3 T_3 x_3 y_3 z_3 hown hbel
  go_wp2_with fail
  refine (equal_yes ([].map vl) _ _ _ (Rd.of_ow x_4.out) (Rd.nil _ _)).mono ?_
  rintro e w5 ⟨rfl, hbel⟩
  have X_5 := Lib.hid (X_4.out.below hbel)
  have Y_5 := Lib.hid (Y_4.out.below hbel)
  have T_5 := Lib.hid (T_4.out.below hbel)
  have x_5 := Lib.hid (x_4.out.below hbel)
  have y_5 := Lib.hid (y_4.out.below hbel)
  have z_5 := Lib.hid (z_4.out.below hbel)
  have r_5 := Lib.hid (r_4.out.below hbel)
  have B5 := Lib.hid (B4.out.trans (hbel.mono hsz4))
  have hsz5 := B5.out.size
  clear X_4 Y_4 T_4 x_4 y_4 z_4 r_4 hbel
  go_wp2_with fail
  refine (equal_yes ([].map vl) _ _ _ (Rd.of_ow y_5.out) (Rd.nil _ _)).mono ?_
  rintro e w6 ⟨rfl, hbel⟩
  have X_6 := Lib.hid (X_5.out.below hbel)
  have Y_6 := Lib.hid (Y_5.out.below hbel)
  have T_6 := Lib.hid (T_5.out.below hbel)
  have x_6 := Lib.hid (x_5.out.below hbel)
  have y_6 := Lib.hid (y_5.out.below hbel)
  have z_6 := Lib.hid (z_5.out.below hbel)
  have r_6 := Lib.hid (r_5.out.below hbel)
  have B6 := Lib.hid (B5.out.trans (hbel.mono hsz5))
  have hsz6 := B6.out.size
  clear X_5 Y_5 T_5 x_5 y_5 z_5 r_5 hbel
  go_wp2_with fail
  refine (equal_yes ([].map vl) _ _ _ z_6.out (Rd.of_ow r_6.out)).mono ?_
  rintro e w7 ⟨rfl, hbel⟩
  have X_7 := Lib.hid (X_6.out.below hbel)
  have Y_7 := Lib.hid (Y_6.out.below hbel)
  have T_7 := Lib.hid (T_6.out.below hbel)
  have x_7 := Lib.hid (x_6.out.below hbel)
  have y_7 := Lib.hid (y_6.out.below hbel)
  have z_7 := Lib.hid (z_6.out.below hbel)
  have r_7 := Lib.hid (r_6.out.below hbel)
  have B7 := Lib.hid (B6.out.trans (hbel.mono hsz6))
  have hsz7 := B7.out.size
  clear X_6 Y_6 T_6 x_6 y_6 z_6 r_6 hbel
  go_wp2
  go_ret
  exact ⟨rfl, B7.out⟩
set_option maxHeartbeats 20000000 in
set_option maxRecDepth 100000 in
theorem cs_N2F11 (za zb : List Int) (v v2 : Value) (w : World) (h : Rd .u64 w v za) (h2 : Rd .u64 w v2 zb) (hz : B64 za) (hy : B64 zb) (hN : za.length ≤ 17592186044416) (hN2 : zb.length ≤ 17592186044416) (hT : Tb w) (hbig : ¬ TooBig za.length zb.length) (hc : 0 < za.length ∧ za.length ≤ 1024 ∧ zb.length = 0) (hne : za.length ≠ zb.length) (h64 : 64 < za.length ∨ 64 < zb.length) :
    Calls Tryd.prog 6 #[v, v2] w (RetV w (.bool true)) := by
  have X := Lib.hid h
  have Y := Lib.hid h2
  have T := Lib.hid hT
  obtain ⟨a1, q1, rfl, hk1, hm1⟩ := h.shape
  obtain ⟨a2, q2, rfl, hk2, hm2⟩ := h2.shape
  clear h h2 hT
  have B0 := Lib.hid (Below.refl w.heap.size w)
  have hsz0 : w.heap.size ≤ w.heap.size := Nat.le_refl _
  have c1i : decide ((1024 : Int) < (za.length : Int)) = false := by rw [decide_eq_false_iff_not]; omega
  have c1n : decide (1024 < za.length) = false := by rw [decide_eq_false_iff_not]; omega
  have c2i : decide ((1024 : Int) < (zb.length : Int)) = false := by rw [decide_eq_false_iff_not]; omega
  have c2n : decide (1024 < zb.length) = false := by rw [decide_eq_false_iff_not]; omega
  have c3i : (0 : Int) < (za.length : Int) := by omega
  have c3n : 0 < za.length := by omega
  have c4i : decide ((0 : Int) < (zb.length : Int)) = false := by rw [decide_eq_false_iff_not]; omega
  have c4n : decide (0 < zb.length) = false := by rw [decide_eq_false_iff_not]; omega
  have ne1 : ((za.length : Int) != (zb.length : Int)) = true := by rw [bne_iff_ne]; omega
  have ne2 : (za.length != zb.length) = true := by rw [bne_iff_ne]; exact hne
  rcases (show 64 < za.length ∨ (za.length ≤ 64 ∧ 64 < zb.length) by omega) with h65 | h65
  · have c6i : (64 : Int) < (za.length : Int) := by omega
    have c6n : 64 < za.length := by omega
    have HNE := Lib.hid hne
    have CY := Lib.hid (show ∀ w, Rd .u64 w (.slice a1 za.length q1) za → Rd .u64 w (.slice a2 zb.length q2) zb → Tb w → Calls Tryd.prog 27 #[(.slice a1 za.length q1), (.slice a2 zb.length q2)] w (RetLE w [] 5) from fun w h h2 hT => cyc_len za zb _ _ w h h2 hne)
    have CS := Lib.hid (show ∀ w, Rd .u64 w (.slice a1 za.length q1) za → Rd .u64 w (.slice a2 zb.length q2) zb → Tb w → Calls Tryd.prog 28 #[(.slice a1 za.length q1), (.slice a2 zb.length q2)] w (RetLE w [] 5) from fun w h h2 hT => skew_len za zb _ _ w h h2 hne)
    have CL := Lib.hid (show ∀ w, Rd .u64 w (.slice a1 za.length q1) za → Rd .u64 w (.slice a2 zb.length q2) zb → Tb w → Calls Tryd.prog 29 #[(.slice a1 za.length q1), (.slice a2 zb.length q2)] w (RetRE w [] 0) from fun w h h2 hT => lin_none za zb _ _ w h h2 hbig (by omega))
    have CP := Lib.hid (show ∀ w, Rd .u64 w (.slice a1 za.length q1) za → Rd .u64 w (.slice a2 zb.length q2) zb → Calls Tryd.prog 31 #[(.slice a1 za.length q1), (.slice a2 zb.length q2)] w (RetL w (mulL (za.map toF) (zb.map toF))) from fun w h h2 => rproduct_any za zb _ _ w h h2 hz hy (by omega) (by omega))
    have EM := Lib.hid (show mulL (za.map toF) (zb.map toF) = [] by
      unfold mulL
      rw [if_pos ?_]
      rcases (show za.length = 0 ∨ zb.length = 0 by omega) with e | e
      · left; rw [List.length_eq_zero_iff.1 e]; rfl
      · right; rw [List.length_eq_zero_iff.1 e]; rfl)
    clear hne hc h64 h65
    go_enter Tryd.func6, Tryd.ntmps6
    go_wp2
    go_ret
    exact ⟨rfl, Below.refl _ _⟩
  · exfalso; omega
set_option maxHeartbeats 20000000 in
set_option maxRecDepth 100000 in
theorem cs_N3F10 (za zb : List Int) (v v2 : Value) (w : World) (h : Rd .u64 w v za) (h2 : Rd .u64 w v2 zb) (hz : B64 za) (hy : B64 zb) (hN : za.length ≤ 17592186044416) (hN2 : zb.length ≤ 17592186044416) (hT : Tb w) (hbig : ¬ TooBig za.length zb.length) (hc : 0 < za.length ∧ 0 < zb.length ∧ za.length + zb.length ≤ 1025) (hne : za.length ≠ zb.length) (h64 : za.length ≤ 64 ∧ zb.length ≤ 64) :
    Calls Tryd.prog 6 #[v, v2] w (RetV w (.bool true)) := by
  have X := Lib.hid h
  have Y := Lib.hid h2
  have T := Lib.hid hT
  obtain ⟨a1, q1, rfl, hk1, hm1⟩ := h.shape
  obtain ⟨a2, q2, rfl, hk2, hm2⟩ := h2.shape
  clear h h2 hT
  have B0 := Lib.hid (Below.refl w.heap.size w)
  have hsz0 : w.heap.size ≤ w.heap.size := Nat.le_refl _
  have c1i : decide ((1024 : Int) < (za.length : Int)) = false := by rw [decide_eq_false_iff_not]; omega
  have c1n : decide (1024 < za.length) = false := by rw [decide_eq_false_iff_not]; omega
  have c2i : decide ((1024 : Int) < (zb.length : Int)) = false := by rw [decide_eq_false_iff_not]; omega
  have c2n : decide (1024 < zb.length) = false := by rw [decide_eq_false_iff_not]; omega
  have c3i : (0 : Int) < (za.length : Int) := by omega
  have c3n : 0 < za.length := by omega
  have c4i : (0 : Int) < (zb.length : Int) := by omega
  have c4n : 0 < zb.length := by omega
  have ew : IntKind.i64.wrap ((za.length : Int) + (zb.length : Int)) = (za.length : Int) + (zb.length : Int) := IntWalk.i64_in _ (by omega)
  have c5i : decide ((1025 : Int) < (za.length : Int) + (zb.length : Int)) = false := by rw [decide_eq_false_iff_not]; omega
  have c5n : decide (1025 < za.length + zb.length) = false := by rw [decide_eq_false_iff_not]; omega
  have ne1 : ((za.length : Int) != (zb.length : Int)) = true := by rw [bne_iff_ne]; omega
  have ne2 : (za.length != zb.length) = true := by rw [bne_iff_ne]; exact hne
  have c6i : decide ((64 : Int) < (za.length : Int)) = false := by rw [decide_eq_false_iff_not]; omega
  have c6n : decide (64 < za.length) = false := by rw [decide_eq_false_iff_not]; omega
  have c7i : decide ((64 : Int) < (zb.length : Int)) = false := by rw [decide_eq_false_iff_not]; omega
  have c7n : decide (64 < zb.length) = false := by rw [decide_eq_false_iff_not]; omega
  have HNE := Lib.hid hne
  have CY := Lib.hid (show ∀ w, Rd .u64 w (.slice a1 za.length q1) za → Rd .u64 w (.slice a2 zb.length q2) zb → Tb w → Calls Tryd.prog 27 #[(.slice a1 za.length q1), (.slice a2 zb.length q2)] w (RetLE w [] 5) from fun w h h2 hT => cyc_len za zb _ _ w h h2 hne)
  have CS := Lib.hid (show ∀ w, Rd .u64 w (.slice a1 za.length q1) za → Rd .u64 w (.slice a2 zb.length q2) zb → Tb w → Calls Tryd.prog 28 #[(.slice a1 za.length q1), (.slice a2 zb.length q2)] w (RetLE w [] 5) from fun w h h2 hT => skew_len za zb _ _ w h h2 hne)
  have CL := Lib.hid (show ∀ w, Rd .u64 w (.slice a1 za.length q1) za → Rd .u64 w (.slice a2 zb.length q2) zb → Tb w → Calls Tryd.prog 29 #[(.slice a1 za.length q1), (.slice a2 zb.length q2)] w (RetRE w (mulL (za.map toF) (zb.map toF)) 0) from fun w h h2 hT => lin_ok za zb _ _ w h h2 hz hy hbig (by omega) (by omega) hT)
  have CP := Lib.hid (show ∀ w, Rd .u64 w (.slice a1 za.length q1) za → Rd .u64 w (.slice a2 zb.length q2) zb → Calls Tryd.prog 31 #[(.slice a1 za.length q1), (.slice a2 zb.length q2)] w (RetL w (mulL (za.map toF) (zb.map toF))) from fun w h h2 => rproduct_any za zb _ _ w h h2 hz hy (by omega) (by omega))
  clear hne hc h64
  go_enter Tryd.func6, Tryd.ntmps6
  go_wp2_with fail
  refine (CY.out _ X.out Y.out T.out).mono ?_
  rintro e w1 ⟨v1, rfl, hown, hbel⟩
  have X_1 := Lib.hid (X.out.below hbel)
  have Y_1 := Lib.hid (Y.out.below hbel)
  have T_1 := Lib.hid (T.out.below hbel)
  have x_1 := Lib.hid (hown.mono hsz0)
  have B1 := Lib.hid (B0.out.trans (hbel.mono hsz0))
  have hsz1 := B1.out.size
  clear X Y T hown hbel
  go_wp2_with fail
  refine (CS.out _ X_1.out Y_1.out T_1.out).mono ?_
  rintro e w2 ⟨v2, rfl, hown, hbel⟩
  have X_2 := Lib.hid (X_1.out.below hbel)
  have Y_2 := Lib.hid (Y_1.out.below hbel)
  have T_2 := Lib.hid (T_1.out.below hbel)
  have x_2 := Lib.hid (x_1.out.below hbel)
  have y_2 := Lib.hid (hown.mono hsz1)
  have B2 := Lib.hid (B1.out.trans (hbel.mono hsz1))
  have hsz2 := B2.out.size
  clear X_1 Y_1 T_1 x_1 hown hbel
  go_wp2_with fail
  refine (CL.out _ X_2.out Y_2.out T_2.out).mono ?_
  rintro e w3 ⟨v3, rfl, hrd, hbel⟩
  have X_3 := Lib.hid (X_2.out.below hbel)
  have Y_3 := Lib.hid (Y_2.out.below hbel)
  have T_3 := Lib.hid (T_2.out.below hbel)
  have x_3 := Lib.hid (x_2.out.below hbel)
  have y_3 := Lib.hid (y_2.out.below hbel)
  have z_3 := Lib.hid hrd
  have B3 := Lib.hid (B2.out.trans (hbel.mono hsz2))
  have hsz3 := B3.out.size
  clear X_2 Y_2 T_2 x_2 y_2 hrd hbel
  go_wp2_with fail
  refine (CP.out _ X_3.out Y_3.out).mono ?_
  rintro e w4 ⟨v4, rfl, hown, hbel⟩
  have X_4 := Lib.hid (X_3.out.below hbel)
  have Y_4 := Lib.hid (Y_3.out.below hbel)
  have T_4 := Lib.hid (T_3.out.below hbel)
  have x_4 := Lib.hid (x_3.out.below hbel)
  have y_4 := Lib.hid (y_3.out.below hbel)
  have z_4 := Lib.hid (z_3.out.below hbel)
  have r_4 := Lib.hid (hown.mono hsz3)
  have B4 := Lib.hid (B3.out.trans (hbel.mono hsz3))
  have hsz4 := B4.out.size
  clear X_3 Y_3 T_3 x_3 y_3 z_3 hown hbel
  go_wp2_with fail
  refine (equal_yes ([].map vl) _ _ _ (Rd.of_ow x_4.out) (Rd.nil _ _)).mono ?_
  rintro e w5 ⟨rfl, hbel⟩
  have X_5 := Lib.hid (X_4.out.below hbel)
  have Y_5 := Lib.hid (Y_4.out.below hbel)
  have T_5 := Lib.hid (T_4.out.below hbel)
  have x_5 := Lib.hid (x_4.out.below hbel)
  have y_5 := Lib.hid (y_4.out.below hbel)
  have z_5 := Lib.hid (z_4.out.below hbel)
  have r_5 := Lib.hid (r_4.out.below hbel)
  have B5 := Lib.hid (B4.out.trans (hbel.mono hsz4))
  have hsz5 := B5.out.size
  clear X_4 Y_4 T_4 x_4 y_4 z_4 r_4 hbel
  go_wp2_with fail
  refine (equal_yes ([].map vl) _ _ _ (Rd.of_ow y_5.out) (Rd.nil _ _)).mono ?_
  rintro e w6 ⟨rfl, hbel⟩
  have X_6 := Lib.hid (X_5.out.below hbel)
  have Y_6 := Lib.hid (Y_5.out.below hbel)
  have T_6 := Lib.hid (T_5.out.below hbel)
  have x_6 := Lib.hid (x_5.out.below hbel)
  have y_6 := Lib.hid (y_5.out.below hbel)
  have z_6 := Lib.hid (z_5.out.below hbel)
  have r_6 := Lib.hid (r_5.out.below hbel)
  have B6 := Lib.hid (B5.out.trans (hbel.mono hsz5))
  have hsz6 := B6.out.size
  clear X_5 Y_5 T_5 x_5 y_5 z_5 r_5 hbel
  go_wp2_with fail
  refine (equal_yes ((mulL (za.map toF) (zb.map toF)).map vl) _ _ _ z_6.out (Rd.of_ow r_6.out)).mono ?_
  rintro e w7 ⟨rfl, hbel⟩
  have X_7 := Lib.hid (X_6.out.below hbel)
  have Y_7 := Lib.hid (Y_6.out.below hbel)
  have T_7 := Lib.hid (T_6.out.below hbel)
  have x_7 := Lib.hid (x_6.out.below hbel)
  have y_7 := Lib.hid (y_6.out.below hbel)
  have z_7 := Lib.hid (z_6.out.below hbel)
  have r_7 := Lib.hid (r_6.out.below hbel)
  have B7 := Lib.hid (B6.out.trans (hbel.mono hsz6))
  have hsz7 := B7.out.size
  clear X_6 Y_6 T_6 x_6 y_6 z_6 r_6 hbel
  go_wp2
  go_ret
  exact ⟨rfl, B7.out⟩
set_option maxHeartbeats 20000000 in
set_option maxRecDepth 100000 in
theorem cs_N3F11 (za zb : List Int) (v v2 : Value) (w : World) (h : Rd .u64 w v za) (h2 : Rd .u64 w v2 zb) (hz : B64 za) (hy : B64 zb) (hN : za.length ≤ 17592186044416) (hN2 : zb.length ≤ 17592186044416) (hT : Tb w) (hbig : ¬ TooBig za.length zb.length) (hc : 0 < za.length ∧ 0 < zb.length ∧ za.length + zb.length ≤ 1025) (hne : za.length ≠ zb.length) (h64 : 64 < za.length ∨ 64 < zb.length) :
    Calls Tryd.prog 6 #[v, v2] w (RetV w (.bool true)) := by
  have X := Lib.hid h
  have Y := Lib.hid h2
  have T := Lib.hid hT
  obtain ⟨a1, q1, rfl, hk1, hm1⟩ := h.shape
  obtain ⟨a2, q2, rfl, hk2, hm2⟩ := h2.shape
  clear h h2 hT
  have B0 := Lib.hid (Below.refl w.heap.size w)
  have hsz0 : w.heap.size ≤ w.heap.size := Nat.le_refl _
  have c1i : decide ((1024 : Int) < (za.length : Int)) = false := by rw [decide_eq_false_iff_not]; omega
  have c1n : decide (1024 < za.length) = false := by rw [decide_eq_false_iff_not]; omega
  have c2i : decide ((1024 : Int) < (zb.length : Int)) = false := by rw [decide_eq_false_iff_not]; omega
  have c2n : decide (1024 < zb.length) = false := by rw [decide_eq_false_iff_not]; omega
  have c3i : (0 : Int) < (za.length : Int) := by omega
  have c3n : 0 < za.length := by omega
  have c4i : (0 : Int) < (zb.length : Int) := by omega
  have c4n : 0 < zb.length := by omega
  have ew : IntKind.i64.wrap ((za.length : Int) + (zb.length : Int)) = (za.length : Int) + (zb.length : Int) := IntWalk.i64_in _ (by omega)
  have c5i : decide ((1025 : Int) < (za.length : Int) + (zb.length : Int)) = false := by rw [decide_eq_false_iff_not]; omega
  have c5n : decide (1025 < za.length + zb.length) = false := by rw [decide_eq_false_iff_not]; omega
  have ne1 : ((za.length : Int) != (zb.length : Int)) = true := by rw [bne_iff_ne]; omega
  have ne2 : (za.length != zb.length) = true := by rw [bne_iff_ne]; exact hne
  rcases (show 64 < za.length ∨ (za.length ≤ 64 ∧ 64 < zb.length) by omega) with h65 | h65
  · have c6i : (64 : Int) < (za.length : Int) := by omega
    have c6n : 64 < za.length := by omega
    have HNE := Lib.hid hne
    have CY := Lib.hid (show ∀ w, Rd .u64 w (.slice a1 za.length q1) za → Rd .u64 w (.slice a2 zb.length q2) zb → Tb w → Calls Tryd.prog 27 #[(.slice a1 za.length q1), (.slice a2 zb.length q2)] w (RetLE w [] 5) from fun w h h2 hT => cyc_len za zb _ _ w h h2 hne)
    have CS := Lib.hid (show ∀ w, Rd .u64 w (.slice a1 za.length q1) za → Rd .u64 w (.slice a2 zb.length q2) zb → Tb w → Calls Tryd.prog 28 #[(.slice a1 za.length q1), (.slice a2 zb.length q2)] w (RetLE w [] 5) from fun w h h2 hT => skew_len za zb _ _ w h h2 hne)
    have CL := Lib.hid (show ∀ w, Rd .u64 w (.slice a1 za.length q1) za → Rd .u64 w (.slice a2 zb.length q2) zb → Tb w → Calls Tryd.prog 29 #[(.slice a1 za.length q1), (.slice a2 zb.length q2)] w (RetRE w (mulL (za.map toF) (zb.map toF)) 0) from fun w h h2 hT => lin_ok za zb _ _ w h h2 hz hy hbig (by omega) (by omega) hT)
    have CP := Lib.hid (show ∀ w, Rd .u64 w (.slice a1 za.length q1) za → Rd .u64 w (.slice a2 zb.length q2) zb → Calls Tryd.prog 31 #[(.slice a1 za.length q1), (.slice a2 zb.length q2)] w (RetL w (mulL (za.map toF) (zb.map toF))) from fun w h h2 => rproduct_any za zb _ _ w h h2 hz hy (by omega) (by omega))
    clear hne hc h64 h65
    go_enter Tryd.func6, Tryd.ntmps6
    go_wp2
    go_ret
    exact ⟨rfl, Below.refl _ _⟩
  · have c6i : decide ((64 : Int) < (za.length : Int)) = false := by rw [decide_eq_false_iff_not]; omega
    have c6n : decide (64 < za.length) = false := by rw [decide_eq_false_iff_not]; omega
    have c7i : (64 : Int) < (zb.length : Int) := by omega
    have c7n : 64 < zb.length := by omega
    have HNE := Lib.hid hne
    have CY := Lib.hid (show ∀ w, Rd .u64 w (.slice a1 za.length q1) za → Rd .u64 w (.slice a2 zb.length q2) zb → Tb w → Calls Tryd.prog 27 #[(.slice a1 za.length q1), (.slice a2 zb.length q2)] w (RetLE w [] 5) from fun w h h2 hT => cyc_len za zb _ _ w h h2 hne)
    have CS := Lib.hid (show ∀ w, Rd .u64 w (.slice a1 za.length q1) za → Rd .u64 w (.slice a2 zb.length q2) zb → Tb w → Calls Tryd.prog 28 #[(.slice a1 za.length q1), (.slice a2 zb.length q2)] w (RetLE w [] 5) from fun w h h2 hT => skew_len za zb _ _ w h h2 hne)
    have CL := Lib.hid (show ∀ w, Rd .u64 w (.slice a1 za.length q1) za → Rd .u64 w (.slice a2 zb.length q2) zb → Tb w → Calls Tryd.prog 29 #[(.slice a1 za.length q1), (.slice a2 zb.length q2)] w (RetRE w (mulL (za.map toF) (zb.map toF)) 0) from fun w h h2 hT => lin_ok za zb _ _ w h h2 hz hy hbig (by omega) (by omega) hT)
    have CP := Lib.hid (show ∀ w, Rd .u64 w (.slice a1 za.length q1) za → Rd .u64 w (.slice a2 zb.length q2) zb → Calls Tryd.prog 31 #[(.slice a1 za.length q1), (.slice a2 zb.length q2)] w (RetL w (mulL (za.map toF) (zb.map toF))) from fun w h h2 => rproduct_any za zb _ _ w h h2 hz hy (by omega) (by omega))
    clear hne hc h64 h65
    go_enter Tryd.func6, Tryd.ntmps6
    go_wp2
    go_ret
    exact ⟨rfl, Below.refl _ _⟩
set_option maxHeartbeats 20000000 in
set_option maxRecDepth 100000 in
theorem cs_N3F20 (za zb : List Int) (v v2 : Value) (w : World) (h : Rd .u64 w v za) (h2 : Rd .u64 w v2 zb) (hz : B64 za) (hy : B64 zb) (hN : za.length ≤ 17592186044416) (hN2 : zb.length ≤ 17592186044416) (hT : Tb w) (hbig : ¬ TooBig za.length zb.length) (hc : 0 < za.length ∧ 0 < zb.length ∧ za.length + zb.length ≤ 1025) (he : za.length = zb.length) (hno : ∀ k : Nat, k ≤ 10 → za.length ≠ 2 ^ k) (h64 : za.length ≤ 64 ∧ zb.length ≤ 64) :
    Calls Tryd.prog 6 #[v, v2] w (RetV w (.bool true)) := by
  have X := Lib.hid h
  have Y := Lib.hid h2
  have T := Lib.hid hT
  obtain ⟨a1, q1, rfl, hk1, hm1⟩ := h.shape
  obtain ⟨a2, q2, rfl, hk2, hm2⟩ := h2.shape
  clear h h2 hT
  have B0 := Lib.hid (Below.refl w.heap.size w)
  have hsz0 : w.heap.size ≤ w.heap.size := Nat.le_refl _
  have Y' := Lib.hid (show Rd .u64 w (.slice a2 za.length q2) zb by rw [he]; exact Y.out)
  rw [← he] at hk2 ⊢
  have c1i : decide ((1024 : Int) < (za.length : Int)) = false := by rw [decide_eq_false_iff_not]; omega
  have c1n : decide (1024 < za.length) = false := by rw [decide_eq_false_iff_not]; omega
  have c2i : decide ((1024 : Int) < (za.length : Int)) = false := by rw [decide_eq_false_iff_not]; omega
  have c2n : decide (1024 < za.length) = false := by rw [decide_eq_false_iff_not]; omega
  have c3i : (0 : Int) < (za.length : Int) := by omega
  have c3n : 0 < za.length := by omega
  have c4i : (0 : Int) < (za.length : Int) := by omega
  have c4n : 0 < za.length := by omega
  have ew : IntKind.i64.wrap ((za.length : Int) + (za.length : Int)) = (za.length : Int) + (za.length : Int) := IntWalk.i64_in _ (by omega)
  have c5i : decide ((1025 : Int) < (za.length : Int) + (za.length : Int)) = false := by rw [decide_eq_false_iff_not]; omega
  have c5n : decide (1025 < za.length + za.length) = false := by rw [decide_eq_false_iff_not]; omega
  have c6i : decide ((64 : Int) < (za.length : Int)) = false := by rw [decide_eq_false_iff_not]; omega
  have c6n : decide (64 < za.length) = false := by rw [decide_eq_false_iff_not]; omega
  have CR := Lib.hid (fun w => (rlog_any (za.length : Int) w (by omega) (by omega)).mono (R' := fun e w' => e = .returned (.int .i64 (-1)) ∧ w = w') (fun e w' he => by
    rcases he with ⟨⟨k, hk, e1, _⟩ | ⟨_, e2⟩, e3⟩
    · exact absurd e1 (by have := hno k hk; omega)
    · exact ⟨e2, e3⟩))
  have HE := Lib.hid he
  have HNO := Lib.hid hno
  have CY := Lib.hid (show ∀ w, Rd .u64 w (.slice a1 za.length q1) za → Rd .u64 w (.slice a2 za.length q2) zb → Tb w → Calls Tryd.prog 27 #[(.slice a1 za.length q1), (.slice a2 za.length q2)] w (RetLE w [] 5) from fun w h h2 hT => cyc_bad za zb _ _ w h h2 he hno hT)
  have CS := Lib.hid (show ∀ w, Rd .u64 w (.slice a1 za.length q1) za → Rd .u64 w (.slice a2 za.length q2) zb → Tb w → Calls Tryd.prog 28 #[(.slice a1 za.length q1), (.slice a2 za.length q2)] w (RetLE w [] 5) from fun w h h2 hT => skew_bad za zb _ _ w h h2 hz hy he hno hN hT)
  have CL := Lib.hid (show ∀ w, Rd .u64 w (.slice a1 za.length q1) za → Rd .u64 w (.slice a2 za.length q2) zb → Tb w → Calls Tryd.prog 29 #[(.slice a1 za.length q1), (.slice a2 za.length q2)] w (RetRE w (mulL (za.map toF) (zb.map toF)) 0) from fun w h h2 hT => lin_ok za zb _ _ w h h2 hz hy hbig (by omega) (by omega) hT)
  have CP := Lib.hid (show ∀ w, Rd .u64 w (.slice a1 za.length q1) za → Rd .u64 w (.slice a2 za.length q2) zb → Calls Tryd.prog 31 #[(.slice a1 za.length q1), (.slice a2 za.length q2)] w (RetL w (mulL (za.map toF) (zb.map toF))) from fun w h h2 => rproduct_any za zb _ _ w h h2 hz hy (by omega) (by omega))
  clear he hno hc h64
  go_enter Tryd.func6, Tryd.ntmps6
  go_wp2_with fail
  refine (CR.out _).mono ?_
  rintro e w' ⟨rfl, rfl⟩
  go_wp2_with fail
  refine (CY.out _ X.out Y'.out T.out).mono ?_
  rintro e w1 ⟨v1, rfl, hown, hbel⟩
  have X_1 := Lib.hid (X.out.below hbel)
  have Y_1 := Lib.hid (Y'.out.below hbel)
  have T_1 := Lib.hid (T.out.below hbel)
  have x_1 := Lib.hid (hown.mono hsz0)
  have B1 := Lib.hid (B0.out.trans (hbel.mono hsz0))
  have hsz1 := B1.out.size
  clear X Y' T hown hbel
  go_wp2_with fail
  refine (CS.out _ X_1.out Y_1.out T_1.out).mono ?_
  rintro e w2 ⟨v2, rfl, hown, hbel⟩
  have X_2 := Lib.hid (X_1.out.below hbel)
  have Y_2 := Lib.hid (Y_1.out.below hbel)
  have T_2 := Lib.hid (T_1.out.below hbel)
  have x_2 := Lib.hid (x_1.out.below hbel)
  have y_2 := Lib.hid (hown.mono hsz1)
  have B2 := Lib.hid (B1.out.trans (hbel.mono hsz1))
  have hsz2 := B2.out.size
  clear X_1 Y_1 T_1 x_1 hown hbel
  go_wp2_with fail
  refine (CL.out _ X_2.out Y_2.out T_2.out).mono ?_
  rintro e w3 ⟨v3, rfl, hrd, hbel⟩
  have X_3 := Lib.hid (X_2.out.below hbel)
  have Y_3 := Lib.hid (Y_2.out.below hbel)
  have T_3 := Lib.hid (T_2.out.below hbel)
  have x_3 := Lib.hid (x_2.out.below hbel)
  have y_3 := Lib.hid (y_2.out.below hbel)
  have z_3 := Lib.hid hrd
  have B3 := Lib.hid (B2.out.trans (hbel.mono hsz2))
  have hsz3 := B3.out.size
  clear X_2 Y_2 T_2 x_2 y_2 hrd hbel
  go_wp2_with fail
  refine (CP.out _ X_3.out Y_3.out).mono ?_
  rintro e w4 ⟨v4, rfl, hown, hbel⟩
  have X_4 := Lib.hid (X_3.out.below hbel)
  have Y_4 := Lib.hid (Y_3.out.below hbel)
  have T_4 := Lib.hid (T_3.out.below hbel)
  have x_4 := Lib.hid (x_3.out.below hbel)
  have y_4 := Lib.hid (y_3.out.below hbel)
  have z_4 := Lib.hid (z_3.out.below hbel)
  have r_4 := Lib.hid (hown.mono hsz3)
  have B4 := Lib.hid (B3.out.trans (hbel.mono hsz3))
  have hsz4 := B4.out.size
  clear X_3 Y_3 T_3 x_3 y_3 z_3 hown hbel
  go_wp2_with fail
  refine (equal_yes ([].map vl) _ _ _ (Rd.of_ow x_4.out) (Rd.nil _ _)).mono ?_
  rintro e w5 ⟨rfl, hbel⟩
  have X_5 := Lib.hid (X_4.out.below hbel)
  have Y_5 := Lib.hid (Y_4.out.below hbel)
  have T_5 := Lib.hid (T_4.out.below hbel)
  have x_5 := Lib.hid (x_4.out.below hbel)
  have y_5 := Lib.hid (y_4.out.below hbel)
  have z_5 := Lib.hid (z_4.out.below hbel)
  have r_5 := Lib.hid (r_4.out.below hbel)
  have B5 := Lib.hid (B4.out.trans (hbel.mono hsz4))
  have hsz5 := B5.out.size
  clear X_4 Y_4 T_4 x_4 y_4 z_4 r_4 hbel
  go_wp2_with fail
  refine (equal_yes ([].map vl) _ _ _ (Rd.of_ow y_5.out) (Rd.nil _ _)).mono ?_
  rintro e w6 ⟨rfl, hbel⟩
  have X_6 := Lib.hid (X_5.out.below hbel)
  have Y_6 := Lib.hid (Y_5.out.below hbel)
  have T_6 := Lib.hid (T_5.out.below hbel)
  have x_6 := Lib.hid (x_5.out.below hbel)
  have y_6 := Lib.hid (y_5.out.below hbel)
  have z_6 := Lib.hid (z_5.out.below hbel)
  have r_6 := Lib.hid (r_5.out.below hbel)
  have B6 := Lib.hid (B5.out.trans (hbel.mono hsz5))
  have hsz6 := B6.out.size
  clear X_5 Y_5 T_5 x_5 y_5 z_5 r_5 hbel
  go_wp2_with fail
  refine (equal_yes ((mulL (za.map toF) (zb.map toF)).map vl) _ _ _ z_6.out (Rd.of_ow r_6.out)).mono ?_
  rintro e w7 ⟨rfl, hbel⟩
  have X_7 := Lib.hid (X_6.out.below hbel)
  have Y_7 := Lib.hid (Y_6.out.below hbel)
  have T_7 := Lib.hid (T_6.out.below hbel)
  have x_7 := Lib.hid (x_6.out.below hbel)
  have y_7 := Lib.hid (y_6.out.below hbel)
  have z_7 := Lib.hid (z_6.out.below hbel)
  have r_7 := Lib.hid (r_6.out.below hbel)
  have B7 := Lib.hid (B6.out.trans (hbel.mono hsz6))
  have hsz7 := B7.out.size
  clear X_6 Y_6 T_6 x_6 y_6 z_6 r_6 hbel
  go_wp2
  go_ret
  exact ⟨rfl, B7.out⟩
set_option maxHeartbeats 20000000 in
set_option maxRecDepth 100000 in
theorem cs_N3F21 (za zb : List Int) (v v2 : Value) (w : World) (h : Rd .u64 w v za) (h2 : Rd .u64 w v2 zb) (hz : B64 za) (hy : B64 zb) (hN : za.length ≤ 17592186044416) (hN2 : zb.length ≤ 17592186044416) (hT : Tb w) (hbig : ¬ TooBig za.length zb.length) (hc : 0 < za.length ∧ 0 < zb.length ∧ za.length + zb.length ≤ 1025) (he : za.length = zb.length) (hno : ∀ k : Nat, k ≤ 10 → za.length ≠ 2 ^ k) (h64 : 64 < za.length ∨ 64 < zb.length) :
    Calls Tryd.prog 6 #[v, v2] w (RetV w (.bool true)) := by
  have X := Lib.hid h
  have Y := Lib.hid h2
  have T := Lib.hid hT
  obtain ⟨a1, q1, rfl, hk1, hm1⟩ := h.shape
  obtain ⟨a2, q2, rfl, hk2, hm2⟩ := h2.shape
  clear h h2 hT
  have B0 := Lib.hid (Below.refl w.heap.size w)
  have hsz0 : w.heap.size ≤ w.heap.size := Nat.le_refl _
  have Y' := Lib.hid (show Rd .u64 w (.slice a2 za.length q2) zb by rw [he]; exact Y.out)
  rw [← he] at hk2 ⊢
  have c1i : decide ((1024 : Int) < (za.length : Int)) = false := by rw [decide_eq_false_iff_not]; omega
  have c1n : decide (1024 < za.length) = false := by rw [decide_eq_false_iff_not]; omega
  have c2i : decide ((1024 : Int) < (za.length : Int)) = false := by rw [decide_eq_false_iff_not]; omega
  have c2n : decide (1024 < za.length) = false := by rw [decide_eq_false_iff_not]; omega
  have c3i : (0 : Int) < (za.length : Int) := by omega
  have c3n : 0 < za.length := by omega
  have c4i : (0 : Int) < (za.length : Int) := by omega
  have c4n : 0 < za.length := by omega
  have ew : IntKind.i64.wrap ((za.length : Int) + (za.length : Int)) = (za.length : Int) + (za.length : Int) := IntWalk.i64_in _ (by omega)
  have c5i : decide ((1025 : Int) < (za.length : Int) + (za.length : Int)) = false := by rw [decide_eq_false_iff_not]; omega
  have c5n : decide (1025 < za.length + za.length) = false := by rw [decide_eq_false_iff_not]; omega
  have c6i : (64 : Int) < (za.length : Int) := by omega
  have c6n : 64 < za.length := by omega
  have CR := Lib.hid (fun w => (rlog_any (za.length : Int) w (by omega) (by omega)).mono (R' := fun e w' => e = .returned (.int .i64 (-1)) ∧ w = w') (fun e w' he => by
    rcases he with ⟨⟨k, hk, e1, _⟩ | ⟨_, e2⟩, e3⟩
    · exact absurd e1 (by have := hno k hk; omega)
    · exact ⟨e2, e3⟩))
  have HE := Lib.hid he
  have HNO := Lib.hid hno
  have CY := Lib.hid (show ∀ w, Rd .u64 w (.slice a1 za.length q1) za → Rd .u64 w (.slice a2 za.length q2) zb → Tb w → Calls Tryd.prog 27 #[(.slice a1 za.length q1), (.slice a2 za.length q2)] w (RetLE w [] 5) from fun w h h2 hT => cyc_bad za zb _ _ w h h2 he hno hT)
  have CS := Lib.hid (show ∀ w, Rd .u64 w (.slice a1 za.length q1) za → Rd .u64 w (.slice a2 za.length q2) zb → Tb w → Calls Tryd.prog 28 #[(.slice a1 za.length q1), (.slice a2 za.length q2)] w (RetLE w [] 5) from fun w h h2 hT => skew_bad za zb _ _ w h h2 hz hy he hno hN hT)
  have CL := Lib.hid (show ∀ w, Rd .u64 w (.slice a1 za.length q1) za → Rd .u64 w (.slice a2 za.length q2) zb → Tb w → Calls Tryd.prog 29 #[(.slice a1 za.length q1), (.slice a2 za.length q2)] w (RetRE w (mulL (za.map toF) (zb.map toF)) 0) from fun w h h2 hT => lin_ok za zb _ _ w h h2 hz hy hbig (by omega) (by omega) hT)
  have CP := Lib.hid (show ∀ w, Rd .u64 w (.slice a1 za.length q1) za → Rd .u64 w (.slice a2 za.length q2) zb → Calls Tryd.prog 31 #[(.slice a1 za.length q1), (.slice a2 za.length q2)] w (RetL w (mulL (za.map toF) (zb.map toF))) from fun w h h2 => rproduct_any za zb _ _ w h h2 hz hy (by omega) (by omega))
  clear he hno hc h64
  go_enter Tryd.func6, Tryd.ntmps6
  go_wp2_with fail
  refine (CR.out _).mono ?_
  rintro e w' ⟨rfl, rfl⟩
  go_wp2
  go_ret
  exact ⟨rfl, Below.refl _ _⟩
set_option maxHeartbeats 20000000 in
set_option maxRecDepth 100000 in
theorem cs_N3F30 (za zb : List Int) (v v2 : Value) (w : World) (h : Rd .u64 w v za) (h2 : Rd .u64 w v2 zb) (hz : B64 za) (hy : B64 zb) (hN : za.length ≤ 17592186044416) (hN2 : zb.length ≤ 17592186044416) (hT : Tb w) (hbig : ¬ TooBig za.length zb.length) (hc : 0 < za.length ∧ 0 < zb.length ∧ za.length + zb.length ≤ 1025) (he : za.length = zb.length) (k : Nat) (hk : k ≤ 10) (hlk : za.length = 2 ^ k) (h64 : za.length ≤ 64) :
    Calls Tryd.prog 6 #[v, v2] w (RetV w (.bool true)) := by
  have X := Lib.hid h
  have Y := Lib.hid h2
  have T := Lib.hid hT
  obtain ⟨a1, q1, rfl, hk1, hm1⟩ := h.shape
  obtain ⟨a2, q2, rfl, hk2, hm2⟩ := h2.shape
  clear h h2 hT
  have B0 := Lib.hid (Below.refl w.heap.size w)
  have hsz0 : w.heap.size ≤ w.heap.size := Nat.le_refl _
  have Y' := Lib.hid (show Rd .u64 w (.slice a2 za.length q2) zb by rw [he]; exact Y.out)
  rw [← he] at hk2 ⊢
  have c1i : decide ((1024 : Int) < (za.length : Int)) = false := by rw [decide_eq_false_iff_not]; omega
  have c1n : decide (1024 < za.length) = false := by rw [decide_eq_false_iff_not]; omega
  have c2i : decide ((1024 : Int) < (za.length : Int)) = false := by rw [decide_eq_false_iff_not]; omega
  have c2n : decide (1024 < za.length) = false := by rw [decide_eq_false_iff_not]; omega
  have c3i : (0 : Int) < (za.length : Int) := by omega
  have c3n : 0 < za.length := by omega
  have c4i : (0 : Int) < (za.length : Int) := by omega
  have c4n : 0 < za.length := by omega
  have ew : IntKind.i64.wrap ((za.length : Int) + (za.length : Int)) = (za.length : Int) + (za.length : Int) := IntWalk.i64_in _ (by omega)
  have c5i : decide ((1025 : Int) < (za.length : Int) + (za.length : Int)) = false := by rw [decide_eq_false_iff_not]; omega
  have c5n : decide (1025 < za.length + za.length) = false := by rw [decide_eq_false_iff_not]; omega
  have c6i : decide ((64 : Int) < (za.length : Int)) = false := by rw [decide_eq_false_iff_not]; omega
  have c6n : decide (64 < za.length) = false := by rw [decide_eq_false_iff_not]; omega
  have CR := Lib.hid (fun w => rlog_pow k (za.length : Int) w hk (by omega))
  have HLK := Lib.hid hlk
  have E1 := Lib.hid (cyc_round (k := k) (l := za.map toF) (m := zb.map toF) (by rw [List.length_map]; exact hlk) (by rw [List.length_map, ← he]; exact hlk))
  have E2 := Lib.hid (skew_round (k := k) (by omega) (l := za.map toF) (m := zb.map toF) (by rw [List.length_map]; exact hlk) (by rw [List.length_map, ← he]; exact hlk))
  have hkn : ¬ (k : Int) < 0 := by omega
  rw [← hlk] at E1 E2
  have hlk2 : zb.length = 2 ^ k := he.symm.trans hlk
  have HLK2 := Lib.hid hlk2
  clear hlk hlk2
  have HE := Lib.hid he
  have CY := Lib.hid (show ∀ w, Rd .u64 w (.slice a1 za.length q1) za → Rd .u64 w (.slice a2 za.length q2) zb → Tb w → Calls Tryd.prog 27 #[(.slice a1 za.length q1), (.slice a2 za.length q2)] w (RetLE w (cycL k (za.map toF) (zb.map toF)) 0) from fun w h h2 hT => cyc_ok k za zb _ _ w h h2 hz hy hk HLK.out HLK2.out hT)
  have CS := Lib.hid (show ∀ w, Rd .u64 w (.slice a1 za.length q1) za → Rd .u64 w (.slice a2 za.length q2) zb → Tb w → Calls Tryd.prog 28 #[(.slice a1 za.length q1), (.slice a2 za.length q2)] w (RetLE w (skL k (za.map toF) (zb.map toF)) 0) from fun w h h2 hT => skew_ok k za zb _ _ w h h2 hz hy hk HLK.out HLK2.out hT)
  have CL := Lib.hid (show ∀ w, Rd .u64 w (.slice a1 za.length q1) za → Rd .u64 w (.slice a2 za.length q2) zb → Tb w → Calls Tryd.prog 29 #[(.slice a1 za.length q1), (.slice a2 za.length q2)] w (RetRE w (mulL (za.map toF) (zb.map toF)) 0) from fun w h h2 hT => lin_ok za zb _ _ w h h2 hz hy hbig (by omega) (by omega) hT)
  have CA := Lib.hid (show ∀ w, Rd .u64 w (.slice a1 za.length q1) za → Rd .u64 w (.slice a2 za.length q2) zb → Calls Tryd.prog 30 #[(.slice a1 za.length q1), (.slice a2 za.length q2), .bool false] w (RetL w (cycL k (za.map toF) (zb.map toF))) from fun w h h2 => by have := rround_any false za zb _ _ w h h2 hz hy (by omega) (by omega); rwa [E1.out] at this)
  have CB := Lib.hid (show ∀ w, Rd .u64 w (.slice a1 za.length q1) za → Rd .u64 w (.slice a2 za.length q2) zb → Calls Tryd.prog 30 #[(.slice a1 za.length q1), (.slice a2 za.length q2), .bool true] w (RetL w (skL k (za.map toF) (zb.map toF))) from fun w h h2 => by have := rround_any true za zb _ _ w h h2 hz hy (by omega) (by omega); rwa [E2.out] at this)
  have CP := Lib.hid (show ∀ w, Rd .u64 w (.slice a1 za.length q1) za → Rd .u64 w (.slice a2 za.length q2) zb → Calls Tryd.prog 31 #[(.slice a1 za.length q1), (.slice a2 za.length q2)] w (RetL w (mulL (za.map toF) (zb.map toF))) from fun w h h2 => rproduct_any za zb _ _ w h h2 hz hy (by omega) (by omega))
  clear he hc h64
  go_enter Tryd.func6, Tryd.ntmps6
  go_wp2_with fail
  refine (CR.out _).mono ?_
  rintro e w' ⟨rfl, rfl⟩
  go_wp2_with fail
  refine (CY.out _ X.out Y'.out T.out).mono ?_
  rintro e w1 ⟨v1, rfl, hown, hbel⟩
  have X_1 := Lib.hid (X.out.below hbel)
  have Y_1 := Lib.hid (Y'.out.below hbel)
  have T_1 := Lib.hid (T.out.below hbel)
  have x_1 := Lib.hid (hown.mono hsz0)
  have B1 := Lib.hid (B0.out.trans (hbel.mono hsz0))
  have hsz1 := B1.out.size
  clear X Y' T hown hbel
  go_wp2_with fail
  refine (CS.out _ X_1.out Y_1.out T_1.out).mono ?_
  rintro e w2 ⟨v2, rfl, hown, hbel⟩
  have X_2 := Lib.hid (X_1.out.below hbel)
  have Y_2 := Lib.hid (Y_1.out.below hbel)
  have T_2 := Lib.hid (T_1.out.below hbel)
  have x_2 := Lib.hid (x_1.out.below hbel)
  have y_2 := Lib.hid (hown.mono hsz1)
  have B2 := Lib.hid (B1.out.trans (hbel.mono hsz1))
  have hsz2 := B2.out.size
  clear X_1 Y_1 T_1 x_1 hown hbel
  go_wp2_with fail
  refine (CL.out _ X_2.out Y_2.out T_2.out).mono ?_
  rintro e w3 ⟨v3, rfl, hrd, hbel⟩
  have X_3 := Lib.hid (X_2.out.below hbel)
  have Y_3 := Lib.hid (Y_2.out.below hbel)
  have T_3 := Lib.hid (T_2.out.below hbel)
  have x_3 := Lib.hid (x_2.out.below hbel)
  have y_3 := Lib.hid (y_2.out.below hbel)
  have z_3 := Lib.hid hrd
  have B3 := Lib.hid (B2.out.trans (hbel.mono hsz2))
  have hsz3 := B3.out.size
  clear X_2 Y_2 T_2 x_2 y_2 hrd hbel
  go_wp2_with fail
  refine (CA.out _ X_3.out Y_3.out).mono ?_
  rintro e w4 ⟨v4, rfl, hown, hbel⟩
  have X_4 := Lib.hid (X_3.out.below hbel)
  have Y_4 := Lib.hid (Y_3.out.below hbel)
  have T_4 := Lib.hid (T_3.out.below hbel)
  have x_4 := Lib.hid (x_3.out.below hbel)
  have y_4 := Lib.hid (y_3.out.below hbel)
  have z_4 := Lib.hid (z_3.out.below hbel)
  have p_4 := Lib.hid (hown.mono hsz3)
  have B4 := Lib.hid (B3.out.trans (hbel.mono hsz3))
  have hsz4 := B4.out.size
  clear X_3 Y_3 T_3 x_3 y_3 z_3 hown hbel
  go_wp2_with fail
  refine (CB.out _ X_4.out Y_4.out).mono ?_
  rintro e w5 ⟨v5, rfl, hown, hbel⟩
  have X_5 := Lib.hid (X_4.out.below hbel)
  have Y_5 := Lib.hid (Y_4.out.below hbel)
  have T_5 := Lib.hid (T_4.out.below hbel)
  have x_5 := Lib.hid (x_4.out.below hbel)
  have y_5 := Lib.hid (y_4.out.below hbel)
  have z_5 := Lib.hid (z_4.out.below hbel)
  have p_5 := Lib.hid (p_4.out.below hbel)
  have q_5 := Lib.hid (hown.mono hsz4)
  have B5 := Lib.hid (B4.out.trans (hbel.mono hsz4))
  have hsz5 := B5.out.size
  clear X_4 Y_4 T_4 x_4 y_4 z_4 p_4 hown hbel
  go_wp2_with fail
  refine (CP.out _ X_5.out Y_5.out).mono ?_
  rintro e w6 ⟨v6, rfl, hown, hbel⟩
  have X_6 := Lib.hid (X_5.out.below hbel)
  have Y_6 := Lib.hid (Y_5.out.below hbel)
  have T_6 := Lib.hid (T_5.out.below hbel)
  have x_6 := Lib.hid (x_5.out.below hbel)
  have y_6 := Lib.hid (y_5.out.below hbel)
  have z_6 := Lib.hid (z_5.out.below hbel)
  have p_6 := Lib.hid (p_5.out.below hbel)
  have q_6 := Lib.hid (q_5.out.below hbel)
  have r_6 := Lib.hid (hown.mono hsz5)
  have B6 := Lib.hid (B5.out.trans (hbel.mono hsz5))
  have hsz6 := B6.out.size
  clear X_5 Y_5 T_5 x_5 y_5 z_5 p_5 q_5 hown hbel
  go_wp2_with fail
  refine (equal_yes ((cycL k (za.map toF) (zb.map toF)).map vl) _ _ _ (Rd.of_ow x_6.out) (Rd.of_ow p_6.out)).mono ?_
  rintro e w7 ⟨rfl, hbel⟩
  have X_7 := Lib.hid (X_6.out.below hbel)
  have Y_7 := Lib.hid (Y_6.out.below hbel)
  have T_7 := Lib.hid (T_6.out.below hbel)
  have x_7 := Lib.hid (x_6.out.below hbel)
  have y_7 := Lib.hid (y_6.out.below hbel)
  have z_7 := Lib.hid (z_6.out.below hbel)
  have p_7 := Lib.hid (p_6.out.below hbel)
  have q_7 := Lib.hid (q_6.out.below hbel)
  have r_7 := Lib.hid (r_6.out.below hbel)
  have B7 := Lib.hid (B6.out.trans (hbel.mono hsz6))
  have hsz7 := B7.out.size
  clear X_6 Y_6 T_6 x_6 y_6 z_6 p_6 q_6 r_6 hbel
  go_wp2_with fail
  refine (equal_yes ((skL k (za.map toF) (zb.map toF)).map vl) _ _ _ (Rd.of_ow y_7.out) (Rd.of_ow q_7.out)).mono ?_
  rintro e w8 ⟨rfl, hbel⟩
  have X_8 := Lib.hid (X_7.out.below hbel)
  have Y_8 := Lib.hid (Y_7.out.below hbel)
  have T_8 := Lib.hid (T_7.out.below hbel)
  have x_8 := Lib.hid (x_7.out.below hbel)
  have y_8 := Lib.hid (y_7.out.below hbel)
  have z_8 := Lib.hid (z_7.out.below hbel)
  have p_8 := Lib.hid (p_7.out.below hbel)
  have q_8 := Lib.hid (q_7.out.below hbel)
  have r_8 := Lib.hid (r_7.out.below hbel)
  have B8 := Lib.hid (B7.out.trans (hbel.mono hsz7))
  have hsz8 := B8.out.size
  clear X_7 Y_7 T_7 x_7 y_7 z_7 p_7 q_7 r_7 hbel
  go_wp2_with fail
  refine (equal_yes ((mulL (za.map toF) (zb.map toF)).map vl) _ _ _ z_8.out (Rd.of_ow r_8.out)).mono ?_
  rintro e w9 ⟨rfl, hbel⟩
  have X_9 := Lib.hid (X_8.out.below hbel)
  have Y_9 := Lib.hid (Y_8.out.below hbel)
  have T_9 := Lib.hid (T_8.out.below hbel)
  have x_9 := Lib.hid (x_8.out.below hbel)
  have y_9 := Lib.hid (y_8.out.below hbel)
  have z_9 := Lib.hid (z_8.out.below hbel)
  have p_9 := Lib.hid (p_8.out.below hbel)
  have q_9 := Lib.hid (q_8.out.below hbel)
  have r_9 := Lib.hid (r_8.out.below hbel)
  have B9 := Lib.hid (B8.out.trans (hbel.mono hsz8))
  have hsz9 := B9.out.size
  clear X_8 Y_8 T_8 x_8 y_8 z_8 p_8 q_8 r_8 hbel
  go_wp2
  go_ret
  exact ⟨rfl, B9.out⟩
set_option maxHeartbeats 20000000 in
set_option maxRecDepth 100000 in
theorem cs_N3F31 (za zb : List Int) (v v2 : Value) (w : World) (h : Rd .u64 w v za) (h2 : Rd .u64 w v2 zb) (hz : B64 za) (hy : B64 zb) (hN : za.length ≤ 17592186044416) (hN2 : zb.length ≤ 17592186044416) (hT : Tb w) (hbig : ¬ TooBig za.length zb.length) (hc : 0 < za.length ∧ 0 < zb.length ∧ za.length + zb.length ≤ 1025) (he : za.length = zb.length) (k : Nat) (hk : k ≤ 10) (hlk : za.length = 2 ^ k) (h64 : 64 < za.length) :
    Calls Tryd.prog 6 #[v, v2] w (RetV w (.bool true)) := by
  have X := Lib.hid h
  have Y := Lib.hid h2
  have T := Lib.hid hT
  obtain ⟨a1, q1, rfl, hk1, hm1⟩ := h.shape
  obtain ⟨a2, q2, rfl, hk2, hm2⟩ := h2.shape
  clear h h2 hT
  have B0 := Lib.hid (Below.refl w.heap.size w)
  have hsz0 : w.heap.size ≤ w.heap.size := Nat.le_refl _
  have Y' := Lib.hid (show Rd .u64 w (.slice a2 za.length q2) zb by rw [he]; exact Y.out)
  rw [← he] at hk2 ⊢
  have c1i : decide ((1024 : Int) < (za.length : Int)) = false := by rw [decide_eq_false_iff_not]; omega
  have c1n : decide (1024 < za.length) = false := by rw [decide_eq_false_iff_not]; omega
  have c2i : decide ((1024 : Int) < (za.length : Int)) = false := by rw [decide_eq_false_iff_not]; omega
  have c2n : decide (1024 < za.length) = false := by rw [decide_eq_false_iff_not]; omega
  have c3i : (0 : Int) < (za.length : Int) := by omega
  have c3n : 0 < za.length := by omega
  have c4i : (0 : Int) < (za.length : Int) := by omega
  have c4n : 0 < za.length := by omega
  have ew : IntKind.i64.wrap ((za.length : Int) + (za.length : Int)) = (za.length : Int) + (za.length : Int) := IntWalk.i64_in _ (by omega)
  have c5i : decide ((1025 : Int) < (za.length : Int) + (za.length : Int)) = false := by rw [decide_eq_false_iff_not]; omega
  have c5n : decide (1025 < za.length + za.length) = false := by rw [decide_eq_false_iff_not]; omega
  have c6i : (64 : Int) < (za.length : Int) := by omega
  have c6n : 64 < za.length := by omega
  have CR := Lib.hid (fun w => rlog_pow k (za.length : Int) w hk (by omega))
  have HLK := Lib.hid hlk
  have E1 := Lib.hid (cyc_round (k := k) (l := za.map toF) (m := zb.map toF) (by rw [List.length_map]; exact hlk) (by rw [List.length_map, ← he]; exact hlk))
  have E2 := Lib.hid (skew_round (k := k) (by omega) (l := za.map toF) (m := zb.map toF) (by rw [List.length_map]; exact hlk) (by rw [List.length_map, ← he]; exact hlk))
  have hkn : ¬ (k : Int) < 0 := by omega
  rw [← hlk] at E1 E2
  have hlk2 : zb.length = 2 ^ k := he.symm.trans hlk
  have HLK2 := Lib.hid hlk2
  clear hlk hlk2
  have HE := Lib.hid he
  have CY := Lib.hid (show ∀ w, Rd .u64 w (.slice a1 za.length q1) za → Rd .u64 w (.slice a2 za.length q2) zb → Tb w → Calls Tryd.prog 27 #[(.slice a1 za.length q1), (.slice a2 za.length q2)] w (RetLE w (cycL k (za.map toF) (zb.map toF)) 0) from fun w h h2 hT => cyc_ok k za zb _ _ w h h2 hz hy hk HLK.out HLK2.out hT)
  have CS := Lib.hid (show ∀ w, Rd .u64 w (.slice a1 za.length q1) za → Rd .u64 w (.slice a2 za.length q2) zb → Tb w → Calls Tryd.prog 28 #[(.slice a1 za.length q1), (.slice a2 za.length q2)] w (RetLE w (skL k (za.map toF) (zb.map toF)) 0) from fun w h h2 hT => skew_ok k za zb _ _ w h h2 hz hy hk HLK.out HLK2.out hT)
  have CL := Lib.hid (show ∀ w, Rd .u64 w (.slice a1 za.length q1) za → Rd .u64 w (.slice a2 za.length q2) zb → Tb w → Calls Tryd.prog 29 #[(.slice a1 za.length q1), (.slice a2 za.length q2)] w (RetRE w (mulL (za.map toF) (zb.map toF)) 0) from fun w h h2 hT => lin_ok za zb _ _ w h h2 hz hy hbig (by omega) (by omega) hT)
  have CA := Lib.hid (show ∀ w, Rd .u64 w (.slice a1 za.length q1) za → Rd .u64 w (.slice a2 za.length q2) zb → Calls Tryd.prog 30 #[(.slice a1 za.length q1), (.slice a2 za.length q2), .bool false] w (RetL w (cycL k (za.map toF) (zb.map toF))) from fun w h h2 => by have := rround_any false za zb _ _ w h h2 hz hy (by omega) (by omega); rwa [E1.out] at this)
  have CB := Lib.hid (show ∀ w, Rd .u64 w (.slice a1 za.length q1) za → Rd .u64 w (.slice a2 za.length q2) zb → Calls Tryd.prog 30 #[(.slice a1 za.length q1), (.slice a2 za.length q2), .bool true] w (RetL w (skL k (za.map toF) (zb.map toF))) from fun w h h2 => by have := rround_any true za zb _ _ w h h2 hz hy (by omega) (by omega); rwa [E2.out] at this)
  have CP := Lib.hid (show ∀ w, Rd .u64 w (.slice a1 za.length q1) za → Rd .u64 w (.slice a2 za.length q2) zb → Calls Tryd.prog 31 #[(.slice a1 za.length q1), (.slice a2 za.length q2)] w (RetL w (mulL (za.map toF) (zb.map toF))) from fun w h h2 => rproduct_any za zb _ _ w h h2 hz hy (by omega) (by omega))
  clear he hc h64
  go_enter Tryd.func6, Tryd.ntmps6
  go_wp2_with fail
  refine (CR.out _).mono ?_
  rintro e w' ⟨rfl, rfl⟩
  go_wp2
  go_ret
  exact ⟨rfl, Below.refl _ _⟩
set_option maxHeartbeats 20000000 in
set_option maxRecDepth 100000 in
theorem wConvSays (za zb : List Int) (v v2 : Value) (w : World) (h : Rd .u64 w v za) (h2 : Rd .u64 w v2 zb) (hz : B64 za) (hy : B64 zb) (hN : za.length ≤ 17592186044416) (hN2 : zb.length ≤ 17592186044416) (hT : Tb w) :
    Calls Tryd.prog 6 #[v, v2] w (RetV w (.bool true)) := by
  have hpow : (∃ k : Nat, k ≤ 10 ∧ za.length = 2 ^ k) ∨ ∀ k : Nat, k ≤ 10 → za.length ≠ 2 ^ k := by
    by_cases h : ∃ k : Nat, k ≤ 10 ∧ za.length = 2 ^ k
    · exact .inl h
    · exact .inr fun k hk e => h ⟨k, hk, e⟩
  by_cases he : za.length = zb.length
  · rcases hpow with ⟨k, hk, hlk⟩ | hno
    · have hle : 2 ^ k ≤ 2 ^ 10 := Nat.pow_le_pow_right (by omega) hk
      have hpos := Nat.two_pow_pos k
      by_cases h64 : 64 < za.length
      · by_cases hb : 1025 < za.length + zb.length
        · exact cs_L3F31 za zb v v2 w h h2 hz hy hN hN2 hT (by unfold TooBig; omega) (by omega) he k hk hlk (by first | trivial | omega)
        · exact cs_N3F31 za zb v v2 w h h2 hz hy hN hN2 hT (by unfold TooBig; omega) (by omega) he k hk hlk (by first | trivial | omega)
      · exact cs_N3F30 za zb v v2 w h h2 hz hy hN hN2 hT (by unfold TooBig; omega) (by omega) he k hk hlk (by first | trivial | omega)
    · by_cases h1 : 1024 < za.length
      · exact cs_L1F20 za zb v v2 w h h2 hz hy hN hN2 hT (by unfold TooBig; omega) (by omega) he hno (by first | trivial | omega)
      · by_cases h0 : za.length = 0
        · exact cs_N1F20 za zb v v2 w h h2 hz hy hN hN2 hT (by unfold TooBig; omega) (by omega) he hno (by first | trivial | omega)
        · by_cases hb : 1025 < za.length + zb.length
          · exact cs_L3F20 za zb v v2 w h h2 hz hy hN hN2 hT (by unfold TooBig; omega) (by omega) he hno (by first | trivial | omega)
          · by_cases h64 : 64 < za.length
            · exact cs_N3F21 za zb v v2 w h h2 hz hy hN hN2 hT (by unfold TooBig; omega) (by omega) he hno (by first | trivial | omega)
            · exact cs_N3F20 za zb v v2 w h h2 hz hy hN hN2 hT (by unfold TooBig; omega) (by omega) he hno (by first | trivial | omega)
  · have hne : za.length ≠ zb.length := he
    by_cases h1 : 1024 < za.length
    · exact cs_L1F10 za zb v v2 w h h2 hz hy hN hN2 hT (by unfold TooBig; omega) (by omega) hne (by first | trivial | omega)
    · by_cases h2' : 1024 < zb.length
      · exact cs_L2F10 za zb v v2 w h h2 hz hy hN hN2 hT (by unfold TooBig; omega) (by omega) hne (by first | trivial | omega)
      · by_cases h64 : 64 < za.length ∨ 64 < zb.length
        · by_cases h0 : za.length = 0
          · exact cs_N1F11 za zb v v2 w h h2 hz hy hN hN2 hT (by unfold TooBig; omega) (by omega) hne (by first | trivial | omega)
          · by_cases h0' : zb.length = 0
            · exact cs_N2F11 za zb v v2 w h h2 hz hy hN hN2 hT (by unfold TooBig; omega) (by omega) hne (by first | trivial | omega)
            · by_cases hb : 1025 < za.length + zb.length
              · exact cs_L3F10 za zb v v2 w h h2 hz hy hN hN2 hT (by unfold TooBig; omega) (by omega) hne (by first | trivial | omega)
              · exact cs_N3F11 za zb v v2 w h h2 hz hy hN hN2 hT (by unfold TooBig; omega) (by omega) hne (by first | trivial | omega)
        · by_cases h0 : za.length = 0
          · exact cs_N1F10 za zb v v2 w h h2 hz hy hN hN2 hT (by unfold TooBig; omega) (by omega) hne (by first | trivial | omega)
          · by_cases h0' : zb.length = 0
            · exact cs_N2F10 za zb v v2 w h h2 hz hy hN hN2 hT (by unfold TooBig; omega) (by omega) hne (by first | trivial | omega)
            · exact cs_N3F10 za zb v v2 w h h2 hz hy hN hN2 hT (by unfold TooBig; omega) (by omega) hne (by first | trivial | omega)
end Go.Proofs.YtkcfnbfkbmgchaaDoor.Gm
