/- The walk of the law PolyRing. (Its lines are printed by wip/mk_XLr.py.) -/
import Derived.Test.YtolkcaelmipkeaaSh
import Derived.Test.YtolkcaelmipkeaaRr
import Derived.Test.YtolkcaelmipkeaaLg
namespace Go.Proofs.Ytolkcaelmipkeaa.Gm
open Go.RowKit
theorem ring_left (A B C : List F) : mulL (strip A) (strip (addL B C)) = strip (addL (mulL (strip A) (strip B)) (mulL (strip A) (strip C))) := by
  rw [← mulL_normal (strip_strip A) (strip_strip (addL B C))]
  apply strip_eq
  intro k
  rw [cf_mulL, cf_addL, cf_mulL, cf_mulL, ← cv_add]
  exact cv_congr (fun _ _ => rfl) (fun i _ => by rw [cf_strip, cf_addL, cf_strip, cf_strip])
theorem toF_m1 : toF 18446744069414584320 = -1 := by
  apply vl_inj
  have : (-1 : F) = 0 - 1 := by grind
  rw [this, vl_sub, vl_zero, vl_one, vl_toF]; rfl
theorem ne_m1 : (-1 : F) ≠ 0 := by intro h; exact one_ne (by grind)
theorem lit_mul : (mulL (strip ([1, 1].map toF)) (strip ([18446744069414584320, 1].map toF))).map vl = [18446744069414584320, 0, 1] := by
  have e1 : strip ([1, 1].map toF) = [1, 1] := by
    show strip [toF 1, toF 1] = _
    rw [toF_one]
    exact strip_of (.inr (by show (1 : F) ≠ 0; exact one_ne))
  have e2 : strip ([18446744069414584320, 1].map toF) = [-1, 1] := by
    show strip [toF 18446744069414584320, toF 1] = _
    rw [toF_one, toF_m1]
    exact strip_of (.inr (by show (1 : F) ≠ 0; exact one_ne))
  rw [e1, e2]
  have e3 : mulL [1, 1] [-1, 1] = [-1, 0, 1] := by
    apply ext_cf
    · rw [mulL_len (by simp) (by simp)]; rfl
    · intro i hi
      rw [mulL_len (by simp) (by simp)] at hi
      rw [cf_mulL]
      have : i = 0 ∨ i = 1 ∨ i = 2 := by simp only [List.length_cons, List.length_nil] at hi; omega
      rcases this with rfl | rfl | rfl
      · unfold cv; rw [S_succ, S_zero]; show 0 + (1 : F) * (-1) = -1; grind
      · unfold cv; rw [S_succ, S_succ, S_zero]; show 0 + (1 : F) * 1 + 1 * (-1) = 0; grind
      · unfold cv; rw [S_succ, S_succ, S_succ, S_zero]; show 0 + (1 : F) * 0 + 1 * 1 + 0 * (-1) = 1; grind
  rw [e3]
  show [vl (-1), vl 0, vl 1] = _
  rw [vl_minus, vl_zero, vl_one]
set_option maxHeartbeats 1000000 in
set_option maxRecDepth 100000 in
theorem wPolyRing (za zb zc : List Int) (v v2 v3 : Value) (x : Int) (w : World) (h : Rd .u64 w v za) (h2 : Rd .u64 w v2 zb) (h3 : Rd .u64 w v3 zc) (hz : B64 za) (hy : B64 zb) (hc : B64 zc) (wx : (Lit.int .u64 x).wf = true) :
    Calls Try.prog 14 #[v, v2, v3, .int .u64 x] w (RetV w (.bool true)) := by
  obtain ⟨x0, x1⟩ := u64_bounds wx
  clear wx
  obtain ⟨a1, k1, rfl, hk1, hm1⟩ := h.shape
  obtain ⟨a2, k2, rfl, hk2, hm2⟩ := h2.shape
  obtain ⟨a3, k3, rfl, hk3, hm3⟩ := h3.shape
  have X := Lib.hid h
  have Y := Lib.hid h2
  have Z := Lib.hid h3
  clear h h2 h3
  obtain ⟨az, has⟩ : ∃ az, az = za.take 40 := ⟨_, rfl⟩
  obtain ⟨bz, hbs⟩ : ∃ bz, bz = zb.take 40 := ⟨_, rfl⟩
  obtain ⟨cz, hcs⟩ : ∃ cz, cz = zc.take 40 := ⟨_, rfl⟩
  have Has := Lib.hid has
  have Hbs := Lib.hid hbs
  have Hcs := Lib.hid hcs
  have la : az.length ≤ 40 := by rw [has, List.length_take]; omega
  have lb : bz.length ≤ 40 := by rw [hbs, List.length_take]; omega
  have lc : cz.length ≤ 40 := by rw [hcs, List.length_take]; omega
  have ba : B64 az := by rw [has]; exact hz.take 40
  have bb : B64 bz := by rw [hbs]; exact hy.take 40
  have bc : B64 cz := by rw [hcs]; exact hc.take 40
  clear has hbs hcs
  obtain ⟨fa, hfa⟩ : ∃ fa, fa = strip (az.map toF) := ⟨_, rfl⟩
  obtain ⟨fb, hfb⟩ : ∃ fb, fb = strip (bz.map toF) := ⟨_, rfl⟩
  obtain ⟨fc, hfc⟩ : ∃ fc, fc = strip (cz.map toF) := ⟨_, rfl⟩
  have Fa := Lib.hid hfa
  have Fb := Lib.hid hfb
  have Fc := Lib.hid hfc
  have lfa : fa.length ≤ 40 := by rw [hfa]; have := strip_len (az.map toF); rw [List.length_map] at this; omega
  have lfb : fb.length ≤ 40 := by rw [hfb]; have := strip_len (bz.map toF); rw [List.length_map] at this; omega
  have lfc : fc.length ≤ 40 := by rw [hfc]; have := strip_len (cz.map toF); rw [List.length_map] at this; omega
  obtain ⟨fs, hfs⟩ : ∃ fs, fs = strip (addL (bz.map toF) (cz.map toF)) := ⟨_, rfl⟩
  have Fs := Lib.hid hfs
  have lfs : fs.length ≤ 40 := by rw [hfs]; have := strip_len (addL (bz.map toF) (cz.map toF)); simp only [addL, List.length_map, List.length_range] at this ⊢; omega
  have nfa : strip fa = fa := by rw [hfa]; exact strip_strip _
  have nfs : strip fs = fs := by rw [hfs]; exact strip_strip _
  have Nfs := Lib.hid nfs
  obtain ⟨ab, hab⟩ : ∃ ab, ab = mulL fa fb := ⟨_, rfl⟩
  obtain ⟨ac, hac⟩ : ∃ ac, ac = mulL fa fc := ⟨_, rfl⟩
  obtain ⟨rt, hrt⟩ : ∃ rt, rt = mulL fa fs := ⟨_, rfl⟩
  have Ab := Lib.hid hab
  have Ac := Lib.hid hac
  have Rt := Lib.hid hrt
  have Ba := Lib.hid (show mulL fb fa = ab by rw [hab, mulL_comm])
  have Lft := Lib.hid (show strip (addL ab ac) = rt by rw [hab, hac, hrt, hfa, hfb, hfc, hfs, ring_left])
  have Ev := Lib.hid (show evl (az.map toF) (toF x) * evl (bz.map toF) (toF x) = evl ab (toF x) by rw [hab, hfa, hfb, evl_mulL, evl_strip, evl_strip])
  have lab : ab.length ≤ 79 ∧ (0 < fa.length → 0 < fb.length → ab.length = fa.length + fb.length - 1) ∧ (¬ (0 < fa.length ∧ 0 < fb.length) → ab.length = 0) := by
    rw [hab]
    by_cases e1 : fa = []
    · subst e1; refine ⟨by simp [mulL], fun h => by simp at h, fun _ => by simp [mulL]⟩
    by_cases e2 : fb = []
    · subst e2; refine ⟨by simp [mulL], fun _ h => by simp at h, fun _ => by simp [mulL]⟩
    · rw [mulL_len e1 e2]
      have p1 := List.length_pos_iff.2 e1
      have p2 := List.length_pos_iff.2 e2
      exact ⟨by omega, fun _ _ => rfl, fun h => absurd ⟨p1, p2⟩ h⟩
  have lac : ac.length ≤ 79 := by
    rw [hac]
    by_cases e1 : fa = []
    · subst e1; simp [mulL]
    by_cases e2 : fc = []
    · subst e2; simp [mulL]
    · rw [mulL_len e1 e2]; omega
  have LabX := Lib.hid lab.2
  have lab1 := lab.1
  have mab : (ab.map vl).length ≤ 2048 := by rw [List.length_map]; omega
  have mac : (ac.map vl).length ≤ 2048 := by rw [List.length_map]; omega
  have mfs : az.length + (fs.map vl).length ≤ 2048 := by rw [List.length_map]; omega
  clear hfa hfb hfc hfs nfa nfs hab hac hrt lab
  have lit1 : Rd .u64 (w.alloc (.cells #[.int .u64 1, .int .u64 1] 43)) (.slice (some ⟨w.heap.size, 0, none⟩) 2 2) [1, 1] := Rd.lit .u64 w [1, 1] 43 2 rfl (by simp)
  have lit2 : Rd .u64 ((w.alloc (.cells #[.int .u64 1, .int .u64 1] 43)).alloc (.cells #[.int .u64 18446744069414584320, .int .u64 1] 43)) (.slice (some ⟨w.heap.size + 1, 0, none⟩) 2 2) [18446744069414584320, 1] := by have h := Rd.lit .u64 (w.alloc (.cells #[.int .u64 1, .int .u64 1] 43)) [18446744069414584320, 1] 43 2 rfl (by simp); rw [show (w.alloc (.cells #[.int .u64 1, .int .u64 1] 43)).heap.size = w.heap.size + 1 by simp] at h; exact h
  have Lit1 := Lib.hid (lit1.alloc (.cells #[.int .u64 18446744069414584320, .int .u64 1] 43))
  have Lit2 := Lib.hid lit2
  have Bl := Lib.hid (((Below.refl w.heap.size w).alloc (Nat.le_refl _) (.cells #[.int .u64 1, .int .u64 1] 43)).alloc (by simp) (.cells #[.int .u64 18446744069414584320, .int .u64 1] 43))
  have b1 : B64 [1, 1] := by intro z hz; simp at hz; omega
  have b2 : B64 [18446744069414584320, 1] := by intro z hz; simp at hz; omega
  clear lit1 lit2
  go_enter Try.func14, Try.ntmps14
  go_wp2_with fail
  refine (pmul_any [1, 1] [18446744069414584320, 1] _ _ _ Lit1.out Lit2.out b1 b2 (by simp)).mono ?_
  rintro e w1 ⟨v1, rfl, hown, hbel⟩
  have P1 := Lib.hid (hown.mono (B' := w.heap.size) (by simp; omega))
  have B1 := Lib.hid (Bl.out.trans (hbel.mono (B' := w.heap.size) (by simp; omega)))
  have X1 := Lib.hid (X.out.below B1.out)
  have Y1 := Lib.hid (Y.out.below B1.out)
  have Z1 := Lib.hid (Z.out.below B1.out)
  have hsz1 := B1.out.size
  clear hown hbel Lit1 Lit2 Bl X Y Z
  have lit3 : Rd .u64 (w1.alloc (.cells #[.int .u64 18446744069414584320, .int .u64 0, .int .u64 1] 43)) (.slice (some ⟨w1.heap.size, 0, none⟩) 3 3) [18446744069414584320, 0, 1] := Rd.lit .u64 w1 [18446744069414584320, 0, 1] 43 3 rfl (by simp)
  have Lit3 := Lib.hid lit3
  have Pq := Lib.hid (by have h := (P1.out.below ((Below.refl w1.heap.size w1).alloc (Nat.le_refl _) (.cells #[.int .u64 18446744069414584320, .int .u64 0, .int .u64 1] 43))).rd; rw [lit_mul] at h; exact h)
  have Xq := Lib.hid (X1.out.alloc (.cells #[.int .u64 18446744069414584320, .int .u64 0, .int .u64 1] 43))
  have Yq := Lib.hid (Y1.out.alloc (.cells #[.int .u64 18446744069414584320, .int .u64 0, .int .u64 1] 43))
  have Zq := Lib.hid (Z1.out.alloc (.cells #[.int .u64 18446744069414584320, .int .u64 0, .int .u64 1] 43))
  have Bq := Lib.hid (B1.out.alloc hsz1 (.cells #[.int .u64 18446744069414584320, .int .u64 0, .int .u64 1] 43))
  clear lit3 P1 X1 Y1 Z1
  go_wp2_with fail
  refine (equal_yes [18446744069414584320, 0, 1] _ _ _ Pq.out Lit3.out).mono ?_
  rintro e w2 ⟨rfl, hbel⟩
  have X_0 := Lib.hid (Xq.out.below hbel)
  have Y_0 := Lib.hid (Yq.out.below hbel)
  have Z_0 := Lib.hid (Zq.out.below hbel)
  have B0 := Lib.hid (Bq.out.trans (hbel.mono (B' := w.heap.size) (by simp; omega)))
  have hsz0 : w.heap.size ≤ w2.heap.size := B0.out.size
  clear hbel Xq Yq Zq Bq Pq Lit3 B1 hsz1
  go_wp2_with fail
  refine (short_z za 40 40 _ _ X_0.out (by omega) rfl).mono ?_
  rintro e w' ⟨⟨vSA, rfl, hr⟩, rfl⟩
  rw [← Has.out] at hr
  have SA := Lib.hid hr
  clear hr X_0
  obtain ⟨qSA, cSA, rfl, _, _⟩ := SA.out.shape
  go_wp2_with fail
  refine (short_z zb 40 40 _ _ Y_0.out (by omega) rfl).mono ?_
  rintro e w' ⟨⟨vSB, rfl, hr⟩, rfl⟩
  rw [← Hbs.out] at hr
  have SB := Lib.hid hr
  clear hr Y_0
  obtain ⟨qSB, cSB, rfl, _, _⟩ := SB.out.shape
  go_wp2_with fail
  refine (short_z zc 40 40 _ _ Z_0.out (by omega) rfl).mono ?_
  rintro e w' ⟨⟨vSC, rfl, hr⟩, rfl⟩
  rw [← Hcs.out] at hr
  have SC := Lib.hid hr
  clear hr Z_0
  obtain ⟨qSC, cSC, rfl, _, _⟩ := SC.out.shape
  go_wp2_with fail
  refine (pmul_any az bz _ _ _ SA.out SB.out ba bb (by omega)).mono ?_
  rintro e w11 ⟨v11, rfl, hown, hbel⟩
  rw [← Fa.out, ← Fb.out, ← Ab.out] at hown
  have SA_11 := Lib.hid (SA.out.below hbel)
  have SB_11 := Lib.hid (SB.out.below hbel)
  have SC_11 := Lib.hid (SC.out.below hbel)
  have AB_11 := Lib.hid (hown.mono hsz0)
  have B11 := Lib.hid (B0.out.trans (hbel.mono hsz0))
  have hsz11 := B11.out.size
  clear SA SB SC hown hbel
  obtain ⟨qab, cab, rfl, _, _⟩ := AB_11.out.shape
  go_wp2_with fail
  refine (pmul_any bz az _ _ _ SB_11.out SA_11.out bb ba (by omega)).mono ?_
  rintro e w12 ⟨v12, rfl, hown, hbel⟩
  rw [← Fa.out, ← Fb.out, Ba.out] at hown
  have SA_12 := Lib.hid (SA_11.out.below hbel)
  have SB_12 := Lib.hid (SB_11.out.below hbel)
  have SC_12 := Lib.hid (SC_11.out.below hbel)
  have AB_12 := Lib.hid (AB_11.out.below hbel)
  have BA_12 := Lib.hid (hown.mono hsz11)
  have B12 := Lib.hid (B11.out.trans (hbel.mono hsz11))
  have hsz12 := B12.out.size
  clear SA_11 SB_11 SC_11 AB_11 hown hbel
  go_wp2_with fail
  refine (padd_any bz cz _ _ _ SB_12.out SC_12.out bb bc (by omega) (by omega)).mono ?_
  rintro e w13 ⟨v13, rfl, hown, hbel⟩
  rw [← Fs.out] at hown
  have SA_13 := Lib.hid (SA_12.out.below hbel)
  have SB_13 := Lib.hid (SB_12.out.below hbel)
  have SC_13 := Lib.hid (SC_12.out.below hbel)
  have AB_13 := Lib.hid (AB_12.out.below hbel)
  have BA_13 := Lib.hid (BA_12.out.below hbel)
  have SU_13 := Lib.hid (hown.mono hsz12)
  have B13 := Lib.hid (B12.out.trans (hbel.mono hsz12))
  have hsz13 := B13.out.size
  clear SA_12 SB_12 SC_12 AB_12 BA_12 hown hbel
  go_wp2_with fail
  refine (pmul_any az (fs.map vl) _ _ _ SA_13.out SU_13.out.rd ba (B64.vl fs) mfs).mono ?_
  rintro e w14 ⟨v14, rfl, hown, hbel⟩
  rw [map_toF_vl, Nfs.out, ← Fa.out, ← Rt.out] at hown
  have SA_14 := Lib.hid (SA_13.out.below hbel)
  have SB_14 := Lib.hid (SB_13.out.below hbel)
  have SC_14 := Lib.hid (SC_13.out.below hbel)
  have AB_14 := Lib.hid (AB_13.out.below hbel)
  have BA_14 := Lib.hid (BA_13.out.below hbel)
  have SU_14 := Lib.hid (SU_13.out.below hbel)
  have LE_14 := Lib.hid (hown.mono hsz13)
  have B14 := Lib.hid (B13.out.trans (hbel.mono hsz13))
  have hsz14 := B14.out.size
  clear SA_13 SB_13 SC_13 AB_13 BA_13 SU_13 hown hbel
  go_wp2_with fail
  refine (pmul_any az cz _ _ _ SA_14.out SC_14.out ba bc (by omega)).mono ?_
  rintro e w15 ⟨v15, rfl, hown, hbel⟩
  rw [← Fa.out, ← Fc.out, ← Ac.out] at hown
  have SA_15 := Lib.hid (SA_14.out.below hbel)
  have SB_15 := Lib.hid (SB_14.out.below hbel)
  have SC_15 := Lib.hid (SC_14.out.below hbel)
  have AB_15 := Lib.hid (AB_14.out.below hbel)
  have BA_15 := Lib.hid (BA_14.out.below hbel)
  have SU_15 := Lib.hid (SU_14.out.below hbel)
  have LE_15 := Lib.hid (LE_14.out.below hbel)
  have AC_15 := Lib.hid (hown.mono hsz14)
  have B15 := Lib.hid (B14.out.trans (hbel.mono hsz14))
  have hsz15 := B15.out.size
  clear SA_14 SB_14 SC_14 AB_14 BA_14 SU_14 LE_14 hown hbel
  go_wp2_with fail
  refine (padd_any (ab.map vl) (ac.map vl) _ _ _ AB_15.out.rd AC_15.out.rd (B64.vl ab) (B64.vl ac) mab mac).mono ?_
  rintro e w16 ⟨v16, rfl, hown, hbel⟩
  rw [map_toF_vl, map_toF_vl, Lft.out] at hown
  have SA_16 := Lib.hid (SA_15.out.below hbel)
  have SB_16 := Lib.hid (SB_15.out.below hbel)
  have SC_16 := Lib.hid (SC_15.out.below hbel)
  have AB_16 := Lib.hid (AB_15.out.below hbel)
  have BA_16 := Lib.hid (BA_15.out.below hbel)
  have SU_16 := Lib.hid (SU_15.out.below hbel)
  have LE_16 := Lib.hid (LE_15.out.below hbel)
  have AC_16 := Lib.hid (AC_15.out.below hbel)
  have RI_16 := Lib.hid (hown.mono hsz15)
  have B16 := Lib.hid (B15.out.trans (hbel.mono hsz15))
  have hsz16 := B16.out.size
  clear SA_15 SB_15 SC_15 AB_15 BA_15 SU_15 LE_15 AC_15 hown hbel
  go_wp2_with fail
  refine (eval_any az _ x _ SA_16.out ba (by omega) x0 x1).mono ?_
  rintro e w17 ⟨rfl, hbel⟩
  have SA_17 := Lib.hid (SA_16.out.below hbel)
  have SB_17 := Lib.hid (SB_16.out.below hbel)
  have SC_17 := Lib.hid (SC_16.out.below hbel)
  have AB_17 := Lib.hid (AB_16.out.below hbel)
  have BA_17 := Lib.hid (BA_16.out.below hbel)
  have SU_17 := Lib.hid (SU_16.out.below hbel)
  have LE_17 := Lib.hid (LE_16.out.below hbel)
  have AC_17 := Lib.hid (AC_16.out.below hbel)
  have RI_17 := Lib.hid (RI_16.out.below hbel)
  have B17 := Lib.hid (B16.out.trans (hbel.mono hsz16))
  have hsz17 := B17.out.size
  clear SA_16 SB_16 SC_16 AB_16 BA_16 SU_16 LE_16 AC_16 RI_16 hbel
  go_wp2_with fail
  refine (eval_any bz _ x _ SB_17.out bb (by omega) x0 x1).mono ?_
  rintro e w18 ⟨rfl, hbel⟩
  have SA_18 := Lib.hid (SA_17.out.below hbel)
  have SB_18 := Lib.hid (SB_17.out.below hbel)
  have SC_18 := Lib.hid (SC_17.out.below hbel)
  have AB_18 := Lib.hid (AB_17.out.below hbel)
  have BA_18 := Lib.hid (BA_17.out.below hbel)
  have SU_18 := Lib.hid (SU_17.out.below hbel)
  have LE_18 := Lib.hid (LE_17.out.below hbel)
  have AC_18 := Lib.hid (AC_17.out.below hbel)
  have RI_18 := Lib.hid (RI_17.out.below hbel)
  have B18 := Lib.hid (B17.out.trans (hbel.mono hsz17))
  have hsz18 := B18.out.size
  clear SA_17 SB_17 SC_17 AB_17 BA_17 SU_17 LE_17 AC_17 RI_17 hbel
  go_wp2_with fail
  refine (eval_any (ab.map vl) _ x _ AB_18.out.rd (B64.vl ab) mab x0 x1).mono ?_
  rintro e w19 ⟨rfl, hbel⟩
  have SA_19 := Lib.hid (SA_18.out.below hbel)
  have SB_19 := Lib.hid (SB_18.out.below hbel)
  have SC_19 := Lib.hid (SC_18.out.below hbel)
  have AB_19 := Lib.hid (AB_18.out.below hbel)
  have BA_19 := Lib.hid (BA_18.out.below hbel)
  have SU_19 := Lib.hid (SU_18.out.below hbel)
  have LE_19 := Lib.hid (LE_18.out.below hbel)
  have AC_19 := Lib.hid (AC_18.out.below hbel)
  have RI_19 := Lib.hid (RI_18.out.below hbel)
  have B19 := Lib.hid (B18.out.trans (hbel.mono hsz18))
  have hsz19 := B19.out.size
  clear SA_18 SB_18 SC_18 AB_18 BA_18 SU_18 LE_18 AC_18 RI_18 hbel
  rw [map_toF_vl]
  go_wp2_with fail
  refine (pnorm_any az _ _ SA_19.out ba (by omega)).mono ?_
  rintro e w20 ⟨v20, rfl, hown, hbel⟩
  rw [← Fa.out] at hown
  have SA_20 := Lib.hid (SA_19.out.below hbel)
  have SB_20 := Lib.hid (SB_19.out.below hbel)
  have SC_20 := Lib.hid (SC_19.out.below hbel)
  have AB_20 := Lib.hid (AB_19.out.below hbel)
  have BA_20 := Lib.hid (BA_19.out.below hbel)
  have SU_20 := Lib.hid (SU_19.out.below hbel)
  have LE_20 := Lib.hid (LE_19.out.below hbel)
  have AC_20 := Lib.hid (AC_19.out.below hbel)
  have RI_20 := Lib.hid (RI_19.out.below hbel)
  have NA_20 := Lib.hid (hown.mono hsz19)
  have B20 := Lib.hid (B19.out.trans (hbel.mono hsz19))
  have hsz20 := B20.out.size
  clear SA_19 SB_19 SC_19 AB_19 BA_19 SU_19 LE_19 AC_19 RI_19 hown hbel
  obtain ⟨qna, cna, rfl, _, _⟩ := NA_20.out.shape
  go_wp2_with fail
  refine (pnorm_any bz _ _ SB_20.out bb (by omega)).mono ?_
  rintro e w21 ⟨v21, rfl, hown, hbel⟩
  rw [← Fb.out] at hown
  have SA_21 := Lib.hid (SA_20.out.below hbel)
  have SB_21 := Lib.hid (SB_20.out.below hbel)
  have SC_21 := Lib.hid (SC_20.out.below hbel)
  have AB_21 := Lib.hid (AB_20.out.below hbel)
  have BA_21 := Lib.hid (BA_20.out.below hbel)
  have SU_21 := Lib.hid (SU_20.out.below hbel)
  have LE_21 := Lib.hid (LE_20.out.below hbel)
  have AC_21 := Lib.hid (AC_20.out.below hbel)
  have RI_21 := Lib.hid (RI_20.out.below hbel)
  have NA_21 := Lib.hid (NA_20.out.below hbel)
  have NB_21 := Lib.hid (hown.mono hsz20)
  have B21 := Lib.hid (B20.out.trans (hbel.mono hsz20))
  have hsz21 := B21.out.size
  clear SA_20 SB_20 SC_20 AB_20 BA_20 SU_20 LE_20 AC_20 RI_20 NA_20 hown hbel
  obtain ⟨qnb, cnb, rfl, _, _⟩ := NB_21.out.shape
  go_wp2_with fail
  refine (equal_yes (ab.map vl) _ _ _ AB_21.out.rd BA_21.out.rd).mono ?_
  rintro e w22 ⟨rfl, hbel⟩
  have SA_22 := Lib.hid (SA_21.out.below hbel)
  have SB_22 := Lib.hid (SB_21.out.below hbel)
  have SC_22 := Lib.hid (SC_21.out.below hbel)
  have AB_22 := Lib.hid (AB_21.out.below hbel)
  have BA_22 := Lib.hid (BA_21.out.below hbel)
  have SU_22 := Lib.hid (SU_21.out.below hbel)
  have LE_22 := Lib.hid (LE_21.out.below hbel)
  have AC_22 := Lib.hid (AC_21.out.below hbel)
  have RI_22 := Lib.hid (RI_21.out.below hbel)
  have NA_22 := Lib.hid (NA_21.out.below hbel)
  have NB_22 := Lib.hid (NB_21.out.below hbel)
  have B22 := Lib.hid (B21.out.trans (hbel.mono hsz21))
  have hsz22 := B22.out.size
  clear SA_21 SB_21 SC_21 AB_21 BA_21 SU_21 LE_21 AC_21 RI_21 NA_21 NB_21 hbel
  go_wp2_with fail
  refine (equal_yes (rt.map vl) _ _ _ LE_22.out.rd RI_22.out.rd).mono ?_
  rintro e w23 ⟨rfl, hbel⟩
  have SA_23 := Lib.hid (SA_22.out.below hbel)
  have SB_23 := Lib.hid (SB_22.out.below hbel)
  have SC_23 := Lib.hid (SC_22.out.below hbel)
  have AB_23 := Lib.hid (AB_22.out.below hbel)
  have BA_23 := Lib.hid (BA_22.out.below hbel)
  have SU_23 := Lib.hid (SU_22.out.below hbel)
  have LE_23 := Lib.hid (LE_22.out.below hbel)
  have AC_23 := Lib.hid (AC_22.out.below hbel)
  have RI_23 := Lib.hid (RI_22.out.below hbel)
  have NA_23 := Lib.hid (NA_22.out.below hbel)
  have NB_23 := Lib.hid (NB_22.out.below hbel)
  have B23 := Lib.hid (B22.out.trans (hbel.mono hsz22))
  have hsz23 := B23.out.size
  clear SA_22 SB_22 SC_22 AB_22 BA_22 SU_22 LE_22 AC_22 RI_22 NA_22 NB_22 hbel
  go_wp2_with fail
  refine (mul_F _ _ _).mono ?_
  rintro e w' ⟨rfl, rfl⟩
  rw [Ev.out]
  by_cases p1 : 0 < fa.length
  · by_cases p2 : 0 < fb.length
    · have hl := LabX.out.1 p1 p2
      have hlx : 0 < (fa.length : Int) + (fb.length : Int) - 1 := by omega
      have hle : (ab.length : Int) = (fa.length : Int) + (fb.length : Int) - 1 := by omega
      have Hle := Lib.hid hle
      clear hl hle
      go_wp2_with fail
      refine (one_yes _).mono ?_
      rintro e w' ⟨rfl, rfl⟩
      go_wp2
      go_ret
      refine ⟨?_, B23.out⟩
      have := Hle.out
      simp [this]
    · have hl := LabX.out.2 (fun h => p2 h.2)
      have hle : (ab.length : Int) = 0 := by omega
      have Hle := Lib.hid hle
      clear hl hle
      rcases (show 0 < (fa.length : Int) + (fb.length : Int) - 1 ∨ (fa.length : Int) + (fb.length : Int) - 1 ≤ 0 by omega) with hm | hm
      all_goals
        go_wp2_with fail
        refine (one_no _).mono ?_
        rintro e w' ⟨rfl, rfl⟩
        go_wp2
        go_ret
        refine ⟨?_, B23.out⟩
        have := Hle.out
        simp [this]
  · have hl := LabX.out.2 (fun h => p1 h.1)
    have hle : (ab.length : Int) = 0 := by omega
    have Hle := Lib.hid hle
    clear hl hle
    rcases (show 0 < (fa.length : Int) + (fb.length : Int) - 1 ∨ (fa.length : Int) + (fb.length : Int) - 1 ≤ 0 by omega) with hm | hm
    all_goals
      go_wp2_with fail
      refine (one_no _).mono ?_
      rintro e w' ⟨rfl, rfl⟩
      go_wp2
      go_ret
      refine ⟨?_, B23.out⟩
      have := Hle.out
      simp [this]
end Go.Proofs.Ytolkcaelmipkeaa.Gm
