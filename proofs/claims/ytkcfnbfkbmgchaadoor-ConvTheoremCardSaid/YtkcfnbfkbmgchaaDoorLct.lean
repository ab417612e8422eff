/- The walk of the law ConvTheorem. (Its lines are printed by wip/mk_XLct.py.) -/
import Derived.Test.YtkcfnbfkbmgchaaDoorVd
import Derived.Test.YtkcfnbfkbmgchaaDoorPu
namespace Go.Proofs.YtkcfnbfkbmgchaaDoor.Gm
open Go.RowKit
set_option linter.unusedVariables false
theorem lit_conv : (mulL ([1, 2].map toF) ([3, 4].map toF)).map vl = [3, 10, 8] := by
  have e0 : cv (cf ([1, 2].map toF)) (cf ([3, 4].map toF)) 0 = toF 3 := by
    show S (0 + 1) _ = _
    rw [S_succ, S_zero]
    show 0 + toF 1 * toF 3 = toF 3
    rw [toF_one]; grind
  have e1 : cv (cf ([1, 2].map toF)) (cf ([3, 4].map toF)) 1 = toF 10 := by
    show S (0 + 1 + 1) _ = _
    rw [S_succ, S_succ, S_zero]
    show 0 + toF 1 * toF 4 + toF 2 * toF 3 = toF 10
    rw [← toF_zero, ← toF_mul, ← toF_mul, ← toF_add, ← toF_add]; rfl
  have e2 : cv (cf ([1, 2].map toF)) (cf ([3, 4].map toF)) 2 = toF 8 := by
    show S (0 + 1 + 1 + 1) _ = _
    rw [S_succ, S_succ, S_succ, S_zero]
    show 0 + toF 1 * 0 + toF 2 * toF 4 + 0 * toF 3 = toF 8
    have : toF 2 * toF 4 = toF 8 := by rw [← toF_mul]; rfl
    rw [this]; grind
  unfold mulL
  rw [if_neg (by simp)]
  show [vl (cv (cf ([1, 2].map toF)) (cf ([3, 4].map toF)) 0), vl (cv (cf ([1, 2].map toF)) (cf ([3, 4].map toF)) 1), vl (cv (cf ([1, 2].map toF)) (cf ([3, 4].map toF)) 2)] = _
  rw [e0, e1, e2, toF_id (by omega) (by omega), toF_id (by omega) (by omega), toF_id (by omega) (by omega)]
theorem strip_mul (l m : List F) : strip (mulL l m) = mulL (strip l) (strip m) := by
  rw [← mulL_normal (strip_strip l) (strip_strip m)]
  refine strip_eq (fun i => ?_)
  rw [cf_mulL, cf_mulL]
  exact cv_congr (fun j _ => (cf_strip l j).symm) (fun j _ => (cf_strip m j).symm)
theorem cyc_trL {k : Nat} (hk : k ≤ 20) (l m : List F) {j : Nat} (hj : j < 2 ^ k) : cf (trL false k (cycL k l m)) j = cf (trL false k l) j * cf (trL false k m) j := by
  rw [cf_trL _ _ _ hj, cf_trL _ _ _ hj, cf_trL _ _ _ hj, tr_congr (b := cyc (2 ^ k) (cf l) (cf m)) (fun i hi => cf_cycL _ _ _ hi), tr_fwd, tr_fwd, tr_fwd, cyc_dft (root_pow k (by omega))]
def CtRel (ws : World) (n : Nat) (i : Value) (wr : World) : Prop := ∃ m : Nat, m ≤ n ∧ i = .int .i64 m ∧ Below ws.heap.size ws wr
set_option maxHeartbeats 8000000 in
set_option maxRecDepth 100000 in
theorem wConvTheorem (za zb : List Int) (k : Int) (v v2 : Value) (w : World) (h : Rd .u64 w v za) (h2 : Rd .u64 w v2 zb) (hz : B64 za) (hy : B64 zb) (k0 : -9223372036854775808 ≤ k) (k1 : k ≤ 9223372036854775807) (hT : Tb w) :
    Calls Tryd.prog 7 #[v, v2, .int .i64 k] w (RetV w (.bool true)) := by
  obtain ⟨a1, q1, rfl, hk1, hm1⟩ := h.shape
  obtain ⟨a2, q2, rfl, hk2, hm2⟩ := h2.shape
  have X := Lib.hid h
  have Y := Lib.hid h2
  have T := Lib.hid hT
  obtain ⟨n, hn⟩ : ∃ n, n = 2 ^ kk k := ⟨_, rfl⟩
  have hj := kk_le k
  have hn1 : 1 ≤ n := by rw [hn]; exact Nat.two_pow_pos _
  have hn64 : n ≤ 64 := by rw [hn]; exact Nat.pow_le_pow_right (by omega) hj
  obtain ⟨A, hA⟩ : ∃ A, A = siz za n := ⟨_, rfl⟩
  obtain ⟨Bz, hB⟩ : ∃ B, B = siz zb n := ⟨_, rfl⟩
  have lA : A.length = n := by rw [hA, siz_len]
  have lB : Bz.length = n := by rw [hB, siz_len]
  have bA : B64 A := by rw [hA]; exact siz_64 hz n
  have bB : B64 Bz := by rw [hB]; exact siz_64 hy n
  have CA := Lib.hid (fun w v h => by have := sized_any za v k w h k0 k1; rwa [← hn, ← hA] at this)
  have CB := Lib.hid (fun w v h => by have := sized_any zb v k w h k0 k1; rwa [← hn, ← hB] at this)
  generalize kk k = j at *
  have hj10 : j ≤ 10 := by omega
  obtain ⟨FA, hFA⟩ : ∃ l, l = A.map toF := ⟨_, rfl⟩
  obtain ⟨FB, hFB⟩ : ∃ l, l = Bz.map toF := ⟨_, rfl⟩
  have lFA : FA.length = n := by rw [hFA, List.length_map, lA]
  have lFB : FB.length = n := by rw [hFB, List.length_map, lB]
  obtain ⟨c, hc⟩ : ∃ l, l = cycL j FA FB := ⟨_, rfl⟩
  obtain ⟨s, hs⟩ : ∃ l, l = skL j FA FB := ⟨_, rfl⟩
  obtain ⟨R, hR⟩ : ∃ l, l = mulL FA FB := ⟨_, rfl⟩
  obtain ⟨fa, hfa⟩ : ∃ l, l = trL false j FA := ⟨_, rfl⟩
  obtain ⟨fb, hfb⟩ : ∃ l, l = trL false j FB := ⟨_, rfl⟩
  obtain ⟨fc, hfc⟩ : ∃ l, l = trL false j c := ⟨_, rfl⟩
  have hbig : ¬ TooBig A.length Bz.length := by unfold TooBig; omega
  have C1 := Lib.hid (fun w v v2 h h2 hT => by have := cyc_ok j A Bz v v2 w h h2 bA bB hj10 (lA.trans hn) (lB.trans hn) hT; rwa [← hFA, ← hFB, ← hc] at this)
  have C2 := Lib.hid (fun w v v2 h h2 hT => by have := skew_ok j A Bz v v2 w h h2 bA bB hj10 (lA.trans hn) (lB.trans hn) hT; rwa [← hFA, ← hFB, ← hs] at this)
  have C3 := Lib.hid (fun w v v2 h h2 hT => by have := lin_ok A Bz v v2 w h h2 bA bB hbig (by omega) (by omega) hT; rwa [← hFA, ← hFB, ← hR] at this)
  have C4 := Lib.hid (fun w v h hT => by have := nfwd_ok j A v w h bA hj10 (lA.trans hn) hT; rwa [← hFA, ← hfa] at this)
  have C5 := Lib.hid (fun w v h hT => by have := nfwd_ok j Bz v w h bB hj10 (lB.trans hn) hT; rwa [← hFB, ← hfb] at this)
  have lc : c.length = n := by rw [hc, cycL_len, hn]
  have ls : s.length = n := by rw [hs, skL_len, hn]
  have C6 := Lib.hid (fun w B v h hT => by have := @nfwd_F j c B v w h hj10 (lc.trans hn) hT; rwa [← hfc] at this)
  have C7 := Lib.hid (fun w v v2 h h2 => by have := pmul_any A Bz v v2 w h h2 bA bB (by omega); rwa [← hFA, ← hFB, ← strip_mul, ← hR] at this)
  have FAne : FA ≠ [] := fun e => by rw [e] at lFA; simp at lFA; omega
  have FBne : FB ≠ [] := fun e => by rw [e] at lFB; simp at lFB; omega
  have lR : R.length = n + n - 1 := by rw [hR, mulL_len FAne FBne, lFA, lFB]
  have C8 := Lib.hid (fun w v h => by have := pnorm_any (R.map vl) v w h (B64.vl R) (by rw [List.length_map, lR]; omega); rwa [map_toF_vl] at this)
  have ge1 : ∀ i, n ≤ i → cf FA i = 0 := fun i hi => cf_ge (by omega)
  have ge2 : ∀ i, n ≤ i → cf FB i = 0 := fun i hi => cf_ge (by omega)
  have RC := Lib.hid (fun m (hm : m < n) => (show cf c m = cf R m + cf R (m + n) by rw [hc, cf_cycL _ _ _ (by omega), ← hn, cyc_cv ge1 ge2 hm, hR, cf_mulL, cf_mulL]))
  have RS := Lib.hid (fun m (hm : m < n) => (show cf s m = cf R m - cf R (m + n) by rw [hs, cf_skL (by omega) (lFA.trans hn) (lFB.trans hn) (by omega), ← hn, hR, cf_mulL, cf_mulL]))
  have FC := Lib.hid (fun m (hm : m < n) => (show cf fc m = cf fa m * cf fb m by rw [hfc, hc, hfa, hfb, cyc_trL (by omega) _ _ (by omega)]))
  have RZ := Lib.hid (show cf R (n + n - 1) = 0 from cf_ge (by omega))
  have LA := Lib.hid lA
  have LB := Lib.hid lB
  have LC := Lib.hid lc
  have LS := Lib.hid ls
  have LR := Lib.hid (show (R.map vl).length = n + n - 1 by rw [List.length_map, lR])
  have LFA := Lib.hid (show fa.length = n by rw [hfa, trL_len, hn])
  have LFB := Lib.hid (show fb.length = n by rw [hfb, trL_len, hn])
  have LFC := Lib.hid (show fc.length = n by rw [hfc, trL_len, hn])
  clear h h2 hT hA hB hFA hFB hc hs hR hfa hfb hfc lA lB lFA lFB lc ls lR FAne FBne ge1 ge2 hbig hn
  have lit1 : Rd .u64 ((w.alloc (.cells #[.int .u64 1, .int .u64 2] 25)).alloc (.cells #[.int .u64 3, .int .u64 4] 25)) (.slice (some ⟨w.heap.size, 0, none⟩) 2 2) [1, 2] := (Rd.lit .u64 w [1, 2] 25 2 rfl (by simp)).alloc _
  have lit2 : Rd .u64 ((w.alloc (.cells #[.int .u64 1, .int .u64 2] 25)).alloc (.cells #[.int .u64 3, .int .u64 4] 25)) (.slice (some ⟨w.heap.size + 1, 0, none⟩) 2 2) [3, 4] := by
    have h := Rd.lit .u64 (w.alloc (.cells #[.int .u64 1, .int .u64 2] 25)) [3, 4] 25 2 rfl (by simp)
    simpa using h
  have hal := ((Below.refl w.heap.size w).alloc (Nat.le_refl _) (.cells #[.int .u64 1, .int .u64 2] 25)).alloc (by simp) (.cells #[.int .u64 3, .int .u64 4] 25)
  have CL := lin_ok [1, 2] [3, 4] _ _ _ lit1 lit2 (by intro z hz; simp at hz; omega) (by intro z hz; simp at hz; omega) (by unfold TooBig; simp) (by simp) (by simp) (T.out.below hal)
  have HCL := Lib.hid CL
  have HAL := Lib.hid hal
  clear CL hal lit1 lit2
  go_enter Tryd.func7, Tryd.ntmps7
  go_wp2_with fail
  refine HCL.out.mono ?_
  rintro e w1 ⟨v1, rfl, hrd, hbel⟩
  rw [lit_conv] at hrd
  have M1 := Lib.hid (HAL.out.trans (hbel.mono HAL.out.size))
  have hs1 := M1.out.size
  have Z1 := Lib.hid hrd
  clear hrd hbel HCL HAL
  go_wp2_with fail
  have hL := Rd.lit .u64 w1 [3, 10, 8] 25 3 rfl (by simp)
  have hal := (Below.refl w1.heap.size w1).alloc (Nat.le_refl _) (.cells ([3, 10, 8].map (Value.int .u64)).toArray 25)
  refine (equal_yes [3, 10, 8] _ _ _ (Z1.out.below hal) hL).mono ?_
  rintro e w2 ⟨rfl, hb2⟩
  have M2 := Lib.hid (M1.out.trans ((hal.trans (hb2.mono (by simp))).mono hs1))
  have hs2 := M2.out.size
  have X2 := Lib.hid (X.out.below M2.out)
  have Y2 := Lib.hid (Y.out.below M2.out)
  have T2 := Lib.hid (T.out.below M2.out)
  clear hL hal hb2 Z1 M1 X Y T
  go_wp2_with fail
  refine (CA.out _ _ X2.out).mono ?_
  rintro e w3 ⟨v3, rfl, hown, hbel⟩
  have X_3 := Lib.hid (X2.out.below hbel)
  have Y_3 := Lib.hid (Y2.out.below hbel)
  have T_3 := Lib.hid (T2.out.below hbel)
  have A_3 := Lib.hid (hown.mono hs2)
  have B3 := Lib.hid (M2.out.trans (hbel.mono hs2))
  have hsz3 := B3.out.size
  clear X2 Y2 T2 hown hbel
  go_wp2_with fail
  refine (CB.out _ _ Y_3.out).mono ?_
  rintro e w4 ⟨v4, rfl, hown, hbel⟩
  have X_4 := Lib.hid (X_3.out.below hbel)
  have Y_4 := Lib.hid (Y_3.out.below hbel)
  have T_4 := Lib.hid (T_3.out.below hbel)
  have A_4 := Lib.hid (A_3.out.below hbel)
  have B_4 := Lib.hid (hown.mono hsz3)
  have B4 := Lib.hid (B3.out.trans (hbel.mono hsz3))
  have hsz4 := B4.out.size
  clear X_3 Y_3 T_3 A_3 hown hbel
  obtain ⟨gA, cpA, rfl, hcA, hmA⟩ := A_4.out.opened (by rw [LA.out]; exact hn1)
  rw [LA.out] at hcA A_4 ⊢
  go_wp2_with fail
  refine (C1.out _ _ _ A_4.out.rd B_4.out.rd T_4.out).mono ?_
  rintro e w5 ⟨v5, rfl, hown, hbel⟩
  have X_5 := Lib.hid (X_4.out.below hbel)
  have Y_5 := Lib.hid (Y_4.out.below hbel)
  have T_5 := Lib.hid (T_4.out.below hbel)
  have A_5 := Lib.hid (A_4.out.below hbel)
  have B_5 := Lib.hid (B_4.out.below hbel)
  have c_5 := Lib.hid (hown.mono hsz4)
  have B5 := Lib.hid (B4.out.trans (hbel.mono hsz4))
  have hsz5 := B5.out.size
  clear X_4 Y_4 T_4 A_4 B_4 hown hbel
  go_wp2_with fail
  refine (C2.out _ _ _ A_5.out.rd B_5.out.rd T_5.out).mono ?_
  rintro e w6 ⟨v6, rfl, hown, hbel⟩
  have X_6 := Lib.hid (X_5.out.below hbel)
  have Y_6 := Lib.hid (Y_5.out.below hbel)
  have T_6 := Lib.hid (T_5.out.below hbel)
  have A_6 := Lib.hid (A_5.out.below hbel)
  have B_6 := Lib.hid (B_5.out.below hbel)
  have c_6 := Lib.hid (c_5.out.below hbel)
  have s_6 := Lib.hid (hown.mono hsz5)
  have B6 := Lib.hid (B5.out.trans (hbel.mono hsz5))
  have hsz6 := B6.out.size
  clear X_5 Y_5 T_5 A_5 B_5 c_5 hown hbel
  go_wp2_with fail
  refine (C3.out _ _ _ A_6.out.rd B_6.out.rd T_6.out).mono ?_
  rintro e w7 ⟨v7, rfl, hrd, hbel⟩
  have X_7 := Lib.hid (X_6.out.below hbel)
  have Y_7 := Lib.hid (Y_6.out.below hbel)
  have T_7 := Lib.hid (T_6.out.below hbel)
  have A_7 := Lib.hid (A_6.out.below hbel)
  have B_7 := Lib.hid (B_6.out.below hbel)
  have c_7 := Lib.hid (c_6.out.below hbel)
  have s_7 := Lib.hid (s_6.out.below hbel)
  have l_7 := Lib.hid hrd
  have B7 := Lib.hid (B6.out.trans (hbel.mono hsz6))
  have hsz7 := B7.out.size
  clear X_6 Y_6 T_6 A_6 B_6 c_6 s_6 hrd hbel
  obtain ⟨al, cl, bl, ol, rfl, hcl, hml, hxl, hel⟩ := l_7.out.opened
  rw [LR.out] at hcl hxl l_7 ⊢
  obtain rfl := hxl.resolve_left (by omega)
  clear hxl hel
  have e2n : IntKind.i64.wrap (2 * (n : Int)) = 2 * (n : Int) := IntWalk.i64_in _ (by omega)
  have e2m : 2 * (n : Int) - 1 = ((n + n - 1 : Nat) : Int) := by omega
  have e2k : IntKind.i64.wrap ((n + n - 1 : Nat) : Int) = ((n + n - 1 : Nat) : Int) := wrap_nat (by omega)
  obtain ⟨t, ht⟩ : ∃ t, t = n + n - 1 := ⟨_, rfl⟩
  have HTT := Lib.hid ht
  rw [← ht] at hcl LR RZ e2m e2k l_7 ⊢
  have ht1 : n ≤ t := by omega
  have ht2 : t ≤ 127 := by omega
  clear ht
  go_wp2_with fail
  refine (C4.out _ _ A_7.out.rd T_7.out).mono ?_
  rintro e w8 ⟨v8, rfl, hown, hbel⟩
  have X_8 := Lib.hid (X_7.out.below hbel)
  have Y_8 := Lib.hid (Y_7.out.below hbel)
  have T_8 := Lib.hid (T_7.out.below hbel)
  have A_8 := Lib.hid (A_7.out.below hbel)
  have B_8 := Lib.hid (B_7.out.below hbel)
  have c_8 := Lib.hid (c_7.out.below hbel)
  have s_8 := Lib.hid (s_7.out.below hbel)
  have l_8 := Lib.hid (l_7.out.below hbel)
  have fa_8 := Lib.hid (hown.mono hsz7)
  have B8 := Lib.hid (B7.out.trans (hbel.mono hsz7))
  have hsz8 := B8.out.size
  clear X_7 Y_7 T_7 A_7 B_7 c_7 s_7 l_7 hown hbel
  go_wp2_with fail
  refine (C5.out _ _ B_8.out.rd T_8.out).mono ?_
  rintro e w9 ⟨v9, rfl, hown, hbel⟩
  have X_9 := Lib.hid (X_8.out.below hbel)
  have Y_9 := Lib.hid (Y_8.out.below hbel)
  have T_9 := Lib.hid (T_8.out.below hbel)
  have A_9 := Lib.hid (A_8.out.below hbel)
  have B_9 := Lib.hid (B_8.out.below hbel)
  have c_9 := Lib.hid (c_8.out.below hbel)
  have s_9 := Lib.hid (s_8.out.below hbel)
  have l_9 := Lib.hid (l_8.out.below hbel)
  have fa_9 := Lib.hid (fa_8.out.below hbel)
  have fb_9 := Lib.hid (hown.mono hsz8)
  have B9 := Lib.hid (B8.out.trans (hbel.mono hsz8))
  have hsz9 := B9.out.size
  clear X_8 Y_8 T_8 A_8 B_8 c_8 s_8 l_8 fa_8 hown hbel
  go_wp2_with fail
  refine (C6.out _ _ _ c_9.out T_9.out).mono ?_
  rintro e w10 ⟨v10, rfl, hown, hbel⟩
  have X_10 := Lib.hid (X_9.out.below hbel)
  have Y_10 := Lib.hid (Y_9.out.below hbel)
  have T_10 := Lib.hid (T_9.out.below hbel)
  have A_10 := Lib.hid (A_9.out.below hbel)
  have B_10 := Lib.hid (B_9.out.below hbel)
  have c_10 := Lib.hid (c_9.out.below hbel)
  have s_10 := Lib.hid (s_9.out.below hbel)
  have l_10 := Lib.hid (l_9.out.below hbel)
  have fa_10 := Lib.hid (fa_9.out.below hbel)
  have fb_10 := Lib.hid (fb_9.out.below hbel)
  have fc_10 := Lib.hid (hown.mono hsz9)
  have B10 := Lib.hid (B9.out.trans (hbel.mono hsz9))
  have hsz10 := B10.out.size
  clear X_9 Y_9 T_9 A_9 B_9 c_9 s_9 l_9 fa_9 fb_9 hown hbel
  obtain ⟨gc, cpc, rfl, hcc, hmc⟩ := Ow.opened c_10.out (by rw [LC.out]; exact hn1)
  rw [LC.out] at hcc c_10 ⊢
  obtain ⟨gs, cps, rfl, hcs, hms⟩ := Ow.opened s_10.out (by rw [LS.out]; exact hn1)
  rw [LS.out] at hcs s_10 ⊢
  obtain ⟨gfa, cpfa, rfl, hcfa, hmfa⟩ := Ow.opened fa_10.out (by rw [LFA.out]; exact hn1)
  rw [LFA.out] at hcfa fa_10 ⊢
  obtain ⟨gfb, cpfb, rfl, hcfb, hmfb⟩ := Ow.opened fb_10.out (by rw [LFB.out]; exact hn1)
  rw [LFB.out] at hcfb fb_10 ⊢
  obtain ⟨gfc, cpfc, rfl, hcfc, hmfc⟩ := Ow.opened fc_10.out (by rw [LFC.out]; exact hn1)
  rw [LFC.out] at hcfc fc_10 ⊢
  go_wp2
  go_loopw [23, 24, 103] (fun _ _ i wr => CtRel w10 n i wr) (fun _ _ i _ => n - (intOf i).toNat)
  case atStart => exact ⟨0, by omega, rfl, Below.refl _ _⟩
  case round =>
    obtain ⟨m, hm, rfl, hbel⟩ := hrel
    have HB := Lib.hid hbel
    clear hbel
    by_cases hml : m < n
    · have c1' : wr.cell? ⟨gfc, m, none⟩ = some (.int .u64 (vl (cf fa m * cf fb m))) := by
        rw [← FC.out m hml]; exact Ow.cell (l := fc) (cap := cpfc) (by rw [LFC.out]; exact fc_10.out.below HB.out) (by rw [LFC.out]; exact hml)
      have c2' : wr.cell? ⟨gfa, m, none⟩ = some (.int .u64 (vl (cf fa m))) := Ow.cell (l := fa) (cap := cpfa) (by rw [LFA.out]; exact fa_10.out.below HB.out) (by rw [LFA.out]; exact hml)
      have c3' : wr.cell? ⟨gfb, m, none⟩ = some (.int .u64 (vl (cf fb m))) := Ow.cell (l := fb) (cap := cpfb) (by rw [LFB.out]; exact fb_10.out.below HB.out) (by rw [LFB.out]; exact hml)
      have c4' : wr.cell? ⟨gc, m, none⟩ = some (.int .u64 (vl (cf R m + cf R (m + n)))) := by
        rw [← RC.out m hml]; exact Ow.cell (l := c) (cap := cpc) (by rw [LC.out]; exact c_10.out.below HB.out) (by rw [LC.out]; exact hml)
      have c5' : wr.cell? ⟨gs, m, none⟩ = some (.int .u64 (vl (cf R m - cf R (m + n)))) := by
        rw [← RS.out m hml]; exact Ow.cell (l := s) (cap := cps) (by rw [LS.out]; exact s_10.out.below HB.out) (by rw [LS.out]; exact hml)
      have HL := l_10.out.below HB.out
      obtain ⟨al', cl', bl', ol', e', _, _, hxl, hel⟩ := HL.opened
      rw [LR.out] at e' hxl hel
      injection e' with e1' e2' e3'
      have hbo := hxl.resolve_left (by omega)
      rw [← e1'] at hbo
      injection hbo with hbo
      injection hbo with hb1 hb2
      subst hb1 hb2
      have gR : ∀ i, gd (R.map vl) i = vl (cf R i) := fun i => by
        rw [gd_eq, List.getElem?_map]
        by_cases hi : i < R.length
        · rw [List.getElem?_eq_getElem hi, cf_lt hi]; rfl
        · rw [List.getElem?_eq_none (by omega), cf_ge (by omega), vl_zero]; rfl
      have c6' := hel m (by omega)
      rw [gR] at c6'
      have C7' := Lib.hid (show m + n < t → wr.cell? ⟨bl, ol + (m + n), none⟩ = some (.int .u64 (vl (cf R (m + n)))) from fun hlt => by have := hel (m + n) hlt; rw [gR] at this; exact this)
      have hze := Lib.hid (show ¬ m + n < t → cf R (m + n) = 0 from fun hge => by
        have h1 := HTT.out
        have : m + n = t := by omega
        rw [this]; exact RZ.out)
      have e5 : IntKind.i64.wrap ((m : Int) + (n : Int)) = ((m + n : Nat) : Int) := by rw [show (m : Int) + (n : Int) = ((m + n : Nat) : Int) by omega]; exact wrap_nat (by omega)
      have e6 : (m : Int) + (n : Int) = ((m + n : Nat) : Int) := by omega
      obtain ⟨q, hq⟩ : ∃ q, q = m + n := ⟨_, rfl⟩
      rw [← hq] at e5 e6 C7' hze c4' c5'
      clear hq gR hel HL e1' e2' e3' hxl
      generalize cf fa m = x1 at *
      generalize cf fb m = x2 at *
      generalize cf R m = y1 at *
      generalize cf R q = y2 at *
      go_wp2
      go_quiet ((first | (go_at_call 18; exact q_same (mul_F x1 x2 _))))
      have HB2 := Lib.hid (below_drewN HB.out nq)
      have d4 : (wr.drewN nq).cell? ⟨gc, m, none⟩ = some (.int .u64 (vl (y1 + y2))) := c4'
      have d5 : (wr.drewN nq).cell? ⟨gs, m, none⟩ = some (.int .u64 (vl (y1 - y2))) := c5'
      have d6 : (wr.drewN nq).cell? ⟨bl, ol + m, none⟩ = some (.int .u64 (vl y1)) := c6'
      have D7 := Lib.hid (show q < t → (wr.drewN nq).cell? ⟨bl, ol + q, none⟩ = some (.int .u64 (vl y2)) from fun h => C7'.out h)
      clear c1' c2' c3' c4' c5' c6' C7' HB
      generalize wr.drewN nq = w9 at *
      by_cases hqt : q < t
      · have d7 := D7.out hqt
        have hqi : (q : Int) < (t : Int) := by omega
        clear D7 hze
        go_wp2
        go_quiet ((first | (go_at_call 19; exact q_same (add_F y1 y2 _)) | (go_at_call 32; exact q_same (sub_F y1 y2 _))))
        have HB3 := Lib.hid (below_drewN HB2.out nq)
        clear d4 d5 d6 d7 HB2
        go_wp2
        go_roundw
        case rel => exact ⟨m + 1, by omega, by go_num, HB3.out⟩
        case measure => simp [intOf] <;> omega
      · have hz0 := hze.out hqt
        subst hz0
        have hqi : ¬ (q : Int) < (t : Int) := by omega
        have hqd : decide ((q : Int) < (t : Int)) = false := by rw [decide_eq_false_iff_not]; exact hqi
        have ez : vl (0 : F) = 0 := vl_zero
        have CAZ := Lib.hid (fun w => (show Calls Tryd.prog 19 #[.int .u64 (vl y1), .int .u64 0] w fun e w' => e = .returned (.int .u64 (vl (y1 + 0))) ∧ w = w' by have := add_F y1 0 w; rwa [vl_zero] at this))
        have CSZ := Lib.hid (fun w => (show Calls Tryd.prog 32 #[.int .u64 (vl y1), .int .u64 0] w fun e w' => e = .returned (.int .u64 (vl (y1 - 0))) ∧ w = w' by have := sub_F y1 0 w; rwa [vl_zero] at this))
        clear D7 hze ez
        go_wp2
        go_quiet ((first | (go_at_call 19; exact q_same (CAZ.out _)) | (go_at_call 32; exact q_same (CSZ.out _))))
        have HB3 := Lib.hid (below_drewN HB2.out nq)
        clear d4 d5 d6 HB2
        go_wp2
        go_roundw
        case rel => exact ⟨m + 1, by omega, by go_num, HB3.out⟩
        case measure => simp [intOf] <;> omega
    · obtain rfl : n = m := by omega
      have A_M := Lib.hid (A_10.out.below HB.out)
      have B_M := Lib.hid (B_10.out.below HB.out)
      have l_M := Lib.hid (l_10.out.below HB.out)
      have BM := Lib.hid (B10.out.trans (HB.out.mono hsz10))
      have hszM := BM.out.size
      clear HB X_10 Y_10 T_10 A_10 B_10 c_10 s_10 l_10 fa_10 fb_10 fc_10
      go_wp2_with fail
      refine (C7.out _ _ _ A_M.out.rd B_M.out.rd).mono ?_
      rintro e w11 ⟨v11, rfl, hown, hbel⟩
      have A_11 := Lib.hid (A_M.out.below hbel)
      have B_11 := Lib.hid (B_M.out.below hbel)
      have l_11 := Lib.hid (l_M.out.below hbel)
      have p_11 := Lib.hid (hown.mono hszM)
      have B11 := Lib.hid (BM.out.trans (hbel.mono hszM))
      have hsz11 := B11.out.size
      clear A_M B_M l_M hown hbel
      go_wp2_with fail
      refine (C8.out _ _ l_11.out).mono ?_
      rintro e w12 ⟨v12, rfl, hown, hbel⟩
      have A_12 := Lib.hid (A_11.out.below hbel)
      have B_12 := Lib.hid (B_11.out.below hbel)
      have l_12 := Lib.hid (l_11.out.below hbel)
      have p_12 := Lib.hid (p_11.out.below hbel)
      have n_12 := Lib.hid (hown.mono hsz11)
      have B12 := Lib.hid (B11.out.trans (hbel.mono hsz11))
      have hsz12 := B12.out.size
      clear A_11 B_11 l_11 p_11 hown hbel
      go_wp2_with fail
      refine (equal_yes ((strip R).map vl) _ _ _ (Ow.rd p_12.out) (Ow.rd n_12.out)).mono ?_
      rintro e w13 ⟨rfl, hbel⟩
      have A_13 := Lib.hid (A_12.out.below hbel)
      have B_13 := Lib.hid (B_12.out.below hbel)
      have l_13 := Lib.hid (l_12.out.below hbel)
      have p_13 := Lib.hid (p_12.out.below hbel)
      have n_13 := Lib.hid (n_12.out.below hbel)
      have B13 := Lib.hid (B12.out.trans (hbel.mono hsz12))
      have hsz13 := B13.out.size
      clear A_12 B_12 l_12 p_12 n_12 hbel
      go_wp2
      go_ret
      exact ⟨rfl, B13.out⟩
end Go.Proofs.YtkcfnbfkbmgchaaDoor.Gm
