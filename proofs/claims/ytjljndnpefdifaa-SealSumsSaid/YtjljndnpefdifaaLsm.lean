/- The walk of the law SealSums. (Its lines are printed by wip/mk_XLsm.py.) -/
import Derived.Test.YtjljndnpefdifaaQs
import Derived.Test.YtjljndnpefdifaaCs
import Derived.Test.YtjljndnpefdifaaSx
import Derived.Test.YtjljndnpefdifaaShd
import Derived.Test.YtjljndnpefdifaaRest
import Derived.Test.YtjljndnpefdifaaRp
import Derived.Test.YtjljndnpefdifaaLit
import Derived.Deep.RegionHeld3
import Derived.Deep.AppendLies
namespace Go.Proofs.Ytjljndnpefdifaa.Gm
open Go.RowKit
set_option linter.unusedVariables false
theorem shp_2 : Shp (szs [1]) := ⟨by decide, by decide, fun d hd => by
  obtain ⟨k, hk, rfl⟩ := List.mem_map.1 hd
  exact ⟨k, rfl⟩, by decide⟩
theorem w2 : W64 (zi (szs [1])) := by
  intro a ha
  have h : a = 2 := by simpa [zi, szs] using ha
  subst h
  decide
theorem hp2 (w : World) (o p : Obj) : ((w.alloc o).alloc p).heap[w.heap.size + 1]? = some p := by
  have h := heap_alloc_new (w.alloc o) p
  rwa [show (w.alloc o).heap.size = w.heap.size + 1 by simp] at h
theorem hp1 (w : World) (o p : Obj) : ((w.alloc o).alloc p).heap[w.heap.size]? = some o := by
  rw [Below.heap_alloc _ _ _ (by simp)]; exact heap_alloc_new w o
theorem sub_0y (y : F) (w : World) :
    Calls Try.prog 18 #[.int .u64 0, .int .u64 (vl y)] w fun e w' => e = .returned (.int .u64 (vl (0 - y))) ∧ w = w' := by
  have h := sub_any 0 (vl y) w (by omega) (by omega) (vl_lo y) (vl_64 y)
  rwa [toF_vl, toF_zero] at h
set_option maxHeartbeats 8000000 in
set_option maxRecDepth 100000 in
theorem sm_no (zs xs bs : List Int) (v v2 v3 : Value) (w : World) (h : Rd .i64 w v zs) (h2 : Rd .u64 w v2 xs) (h3 : Rd .i64 w v3 bs) (hw : W64 zs) (hn : NoShape zs) :
    Calls Try.prog 7 #[v, v2, v3] w (RetV w (.bool true)) := by
  have X := Lib.hid h
  have Y := Lib.hid h2
  have Z := Lib.hid h3
  clear h h2 h3
  have lit1 : Rd .i64 ((w.alloc (.cells #[.int .i64 2] 3)).alloc (.cells #[.int .u64 5, .int .u64 3] 27)) (.slice (some ⟨w.heap.size, 0, none⟩) 1 1) (zi (szs [1])) := (Rd.lit .i64 w [2] 3 1 rfl (by simp)).alloc _
  have lit2 : Rd .u64 ((w.alloc (.cells #[.int .i64 2] 3)).alloc (.cells #[.int .u64 5, .int .u64 3] 27)) (.slice (some ⟨w.heap.size + 1, 0, none⟩) 2 2) [5, 3] := by
    have h := Rd.lit .u64 (w.alloc (.cells #[.int .i64 2] 3)) [5, 3] 27 2 rfl (by simp)
    simpa using h
  have hal := ((Below.refl w.heap.size w).alloc (Nat.le_refl _) (.cells #[.int .i64 2] 3)).alloc (by simp) (.cells #[.int .u64 5, .int .u64 3] 27)
  have CL := Lib.hid (corners_ok [1] [5, 3] _ _ _ lit1 lit2 w2 shp_2 (by intro z hz; simp at hz; omega) rfl)
  have HAL := Lib.hid hal
  clear hal lit1 lit2
  go_enter Try.func7, Try.ntmps7
  go_wp2_with fail
  refine CL.out.mono ?_
  rintro e w1 ⟨v1, rfl, ho, hb⟩
  have O1 := ho.rd
  rw [show 2 ^ ([1] : List Nat).length = 2 from rfl, corner_lit] at O1
  have O1 := Lib.hid O1
  have B1 := Lib.hid (HAL.out.trans (hb.mono HAL.out.size))
  clear ho hb CL HAL
  go_wp2_with fail
  have hL := Rd.lit .u64 w1 [8, 2] 27 2 rfl (by simp)
  have hal := (Below.refl w1.heap.size w1).alloc (Nat.le_refl _) (.cells ([8, 2].map (Value.int .u64)).toArray 27)
  refine (equal_yes [8, 2] _ _ _ (O1.out.below hal) hL).mono ?_
  rintro e w2 ⟨rfl, hb2⟩
  have hs1 := B1.out.size
  have B2 := Lib.hid (B1.out.trans ((hal.trans (hb2.mono (by simp))).mono hs1))
  have hsz2 := B2.out.size
  have X2 := Lib.hid (X.out.below B2.out)
  have Y2 := Lib.hid (Y.out.below B2.out)
  have Z2 := Lib.hid (Z.out.below B2.out)
  clear hL hal hb2 X Y Z O1 B1 hs1
  go_wp2_with fail
  refine (shaped_no zs xs _ _ _ X2.out hw hn).mono ?_
  rintro e w3 ⟨v3, rfl, hown, hbel⟩
  have X_3 := Lib.hid (X2.out.below hbel)
  have Y_3 := Lib.hid (Y2.out.below hbel)
  have Z_3 := Lib.hid (Z2.out.below hbel)
  have a_3 := Lib.hid (hown.mono hsz2)
  have B3 := Lib.hid (B2.out.trans (hbel.mono hsz2))
  have hsz3 := B3.out.size
  clear X2 Y2 Z2 hown hbel
  go_wp2
  go_ret
  exact ⟨rfl, B3.out⟩
set_option maxHeartbeats 8000000 in
set_option maxRecDepth 100000 in
theorem sm_len (ks : List Nat) (xs bs : List Int) (v v2 v3 : Value) (w : World) (h : Rd .i64 w v (zi (szs ks))) (h2 : Rd .u64 w v2 xs) (h3 : Rd .i64 w v3 bs) (hw : W64 (zi (szs ks))) (hs : Shp (szs ks)) (hk10 : ∀ k ∈ ks, k ≤ 10) (hx : B64 xs) (hwb : W64 bs) (h64 : pr (szs ks) ≤ 64) (hl : bs.length ≠ ks.length) :
    Calls Try.prog 7 #[v, v2, v3] w (RetV w (.bool true)) := by
  have X := Lib.hid h
  have Y := Lib.hid h2
  have Z := Lib.hid h3
  obtain ⟨a1, c1, rfl, hc1, hm1⟩ := h.shape
  obtain ⟨a3, c3, rfl, hc3, hm3⟩ := h3.shape
  have LZ := Lib.hid (show (zi (szs ks)).length = ks.length by rw [zi_len, szs_len])
  rw [LZ.out] at X hc1 ⊢
  obtain ⟨p, hp⟩ : ∃ p, p = bs.length := ⟨_, rfl⟩
  obtain ⟨q, hq⟩ : ∃ p, p = ks.length := ⟨_, rfl⟩
  rw [← hp] at hl hc3 Z ⊢
  rw [← hq] at hl hc1 X ⊢
  have g1 : decide ((p : Int) = (q : Int)) = false := decide_eq_false (by omega)
  have g2 : ((p : Int) != (q : Int)) = true := by simp; omega
  clear h h2 h3 hp hq LZ
  have lit1 : Rd .i64 ((w.alloc (.cells #[.int .i64 2] 3)).alloc (.cells #[.int .u64 5, .int .u64 3] 27)) (.slice (some ⟨w.heap.size, 0, none⟩) 1 1) (zi (szs [1])) := (Rd.lit .i64 w [2] 3 1 rfl (by simp)).alloc _
  have lit2 : Rd .u64 ((w.alloc (.cells #[.int .i64 2] 3)).alloc (.cells #[.int .u64 5, .int .u64 3] 27)) (.slice (some ⟨w.heap.size + 1, 0, none⟩) 2 2) [5, 3] := by
    have h := Rd.lit .u64 (w.alloc (.cells #[.int .i64 2] 3)) [5, 3] 27 2 rfl (by simp)
    simpa using h
  have hal := ((Below.refl w.heap.size w).alloc (Nat.le_refl _) (.cells #[.int .i64 2] 3)).alloc (by simp) (.cells #[.int .u64 5, .int .u64 3] 27)
  have CL := Lib.hid (corners_ok [1] [5, 3] _ _ _ lit1 lit2 w2 shp_2 (by intro z hz; simp at hz; omega) rfl)
  have HAL := Lib.hid hal
  clear hal lit1 lit2
  go_enter Try.func7, Try.ntmps7
  go_wp2_with fail
  refine CL.out.mono ?_
  rintro e w1 ⟨v1, rfl, ho, hb⟩
  have O1 := ho.rd
  rw [show 2 ^ ([1] : List Nat).length = 2 from rfl, corner_lit] at O1
  have O1 := Lib.hid O1
  have B1 := Lib.hid (HAL.out.trans (hb.mono HAL.out.size))
  clear ho hb CL HAL
  go_wp2_with fail
  have hL := Rd.lit .u64 w1 [8, 2] 27 2 rfl (by simp)
  have hal := (Below.refl w1.heap.size w1).alloc (Nat.le_refl _) (.cells ([8, 2].map (Value.int .u64)).toArray 27)
  refine (equal_yes [8, 2] _ _ _ (O1.out.below hal) hL).mono ?_
  rintro e w2 ⟨rfl, hb2⟩
  have hs1 := B1.out.size
  have B2 := Lib.hid (B1.out.trans ((hal.trans (hb2.mono (by simp))).mono hs1))
  have hsz2 := B2.out.size
  have X2 := Lib.hid (X.out.below B2.out)
  have Y2 := Lib.hid (Y.out.below B2.out)
  have Z2 := Lib.hid (Z.out.below B2.out)
  clear hL hal hb2 X Y Z O1 B1 hs1
  go_wp2_with fail
  refine (shaped_yes (szs ks) xs _ _ _ X2.out Y2.out hw hs h64).mono ?_
  rintro e w3 ⟨v3, rfl, hown, hbel⟩
  have X_3 := Lib.hid (X2.out.below hbel)
  have Y_3 := Lib.hid (Y2.out.below hbel)
  have Z_3 := Lib.hid (Z2.out.below hbel)
  have a_3 := Lib.hid (hown.mono hsz2)
  have B3 := Lib.hid (B2.out.trans (hbel.mono hsz2))
  have hsz3 := B3.out.size
  clear X2 Y2 Z2 hown hbel
  go_wp2
  go_ret
  exact ⟨rfl, B3.out⟩
def SmRel (w : World) (ds : List Nat) (bs : List Int) (N : Nat) (bk wh i : Value) (wr : World) : Prop :=
  ∃ m : Nat, m ≤ N ∧ i = .int .i64 m ∧ Oz .i64 3 w.heap.size wr bk (bkT ds bs m) ∧ Oz .i64 3 w.heap.size wr wh (whT ds bs m) ∧ Ap bk wh ∧ Below w.heap.size w wr
theorem ow_cells {B g n cap : Nat} {w : World} {l : List F} (h : Ow B w (.slice (some ⟨g, 0, none⟩) n cap) l) (hn : l.length = n) : ∀ i, i < n → w.cell? ⟨g, i, none⟩ = some (.int .u64 (vl (cf l i))) := by
  subst hn
  exact fun i hi => h.cell hi
set_option maxHeartbeats 8000000 in
set_option maxRecDepth 100000 in
theorem sm_full (ks : List Nat) (xs bs : List Int) (v v2 v3 : Value) (w : World) (h : Rd .i64 w v (zi (szs ks))) (h2 : Rd .u64 w v2 xs) (h3 : Rd .i64 w v3 bs) (hw : W64 (zi (szs ks))) (hs : Shp (szs ks)) (hk10 : ∀ k ∈ ks, k ≤ 10) (hx : B64 xs) (hwb : W64 bs) (h64 : pr (szs ks) ≤ 64) (hlb : bs.length = ks.length) :
    Calls Try.prog 7 #[v, v2, v3] w (RetV w (.bool true)) := by
  have X := Lib.hid h
  have Y := Lib.hid h2
  have Z := Lib.hid h3
  obtain ⟨la, hla⟩ : ∃ la, la = siz xs (pr (szs ks)) := ⟨_, rfl⟩
  have lla : la.length = pk ks := by rw [hla, siz_len]; rfl
  have bla : B64 la := by rw [hla]; exact siz_64 hx _
  obtain ⟨l, hle⟩ : ∃ l, l = la.map toF := ⟨_, rfl⟩
  have ll : l.length = pk ks := by rw [hle, List.length_map, lla]
  have GX := Lib.hid (show ∀ i, cf l i = toF (gd la i) from fun i => by rw [hle, cf_map])
  obtain ⟨l2, hl2⟩ : ∃ l2, l2 = shL ks bs l (pk ks) := ⟨_, rfl⟩
  have ll2 : l2.length = pk ks := by rw [hl2, shL_len]
  have CS := Lib.hid (fun w v v2 h h2 => shaped_yes (szs ks) xs v v2 w h h2 hw hs h64)
  rw [← hla] at CS
  have CC1 := Lib.hid (fun w v v2 h h2 => corners_ok ks la v v2 w h h2 hw hs bla lla)
  have CO := Lib.hid (fun w v v2 h h2 => of_ok (zi (szs ks)) la (szs ks) 1 v v2 w h h2 hw rfl hs lla bla (by omega) (by omega))
  have CS1 := Lib.hid (fun w v v2 v3 h h2 h3 => shift_ok ks la bs v v2 v3 w h h2 h3 hw hs bla lla hlb)
  have CC2 := Lib.hid (fun w v v2 h h2 => corners_ok ks (l2.map vl) v v2 w h h2 hw hs (B64.vl l2) (by rw [List.length_map, ll2]))
  have CS2 := Lib.hid (fun w v v2 v3 h h2 h3 => shift_ok ks (l2.map vl) (bkT (szs ks) bs ks.length) v v2 v3 w h h2 h3 hw hs (B64.vl l2) (by rw [List.length_map, ll2]) (bkT_len _ _ _))
  have CS3 := Lib.hid (fun w v v2 v3 h h2 h3 => shift_ok ks la (whT (szs ks) bs ks.length) v v2 v3 w h h2 h3 hw hs bla lla (whT_len _ _ _))
  rw [← hle] at CC1 CO CS1
  rw [← hle, shL_whole, ← hl2] at CS3
  rw [← hl2] at CS1
  rw [map_toF_vl] at CC2
  rw [map_toF_vl, hl2, shL_back ks bs l ll, ← hl2] at CS2
  rw [toF_one] at CO
  obtain ⟨RC, hRC⟩ : ∃ r, r = crn ks l (2 ^ ks.length) := ⟨_, rfl⟩
  obtain ⟨RD, hRD⟩ : ∃ r, r = crn ks l2 (2 ^ ks.length) := ⟨_, rfl⟩
  obtain ⟨EV, hEV⟩ : ∃ y, y = evl l 1 := ⟨_, rfl⟩
  obtain ⟨K, hK⟩ : ∃ K, K = RC.length := ⟨_, rfl⟩
  have hK1 : 1 ≤ K := by rw [hK, hRC]; exact (crn_first ks l ll).1
  have hK8 : K ≤ 8 := by
    have h1 := crn_len ks l (2 ^ ks.length)
    have h2 := Nat.pow_le_pow_right (show 0 < 2 by omega) (show ks.length ≤ 3 by have := hs.len3; rwa [szs_len] at this)
    rw [hK, hRC]; omega
  have KD := Lib.hid (show RD.length = K by rw [hRD, hK, hRC, hl2]; exact crn_same_len _ _ _ _)
  have KC := Lib.hid hK.symm
  have E1 := Lib.hid (show cf RC 0 = EV by rw [hRC, hEV]; exact (crn_first ks l ll).2)
  have E2 := Lib.hid (show cf RD 0 = EV by rw [hRD, hEV, hl2, crn_first_turned ks bs l ll]; exact (crn_first ks l ll).2)
  have PM := Lib.hid (show ∀ i, i < K → cf RD i = cf RC i ∨ cf RD i = 0 - cf RC i from fun i hi => by
    rw [hRD, hRC, hl2]
    exact crn_pm ks bs l _ i (by rw [← hRC, ← hK]; exact hi))
  rw [← hRC] at CC1
  rw [← hRD] at CC2
  rw [← hEV] at CO
  have BS := Lib.hid (fun m => (bkT_succ (szs ks) bs m).symm)
  have WS := Lib.hid (fun m => (whT_succ (szs ks) bs m).symm)
  have BZ := Lib.hid (bkT_zero (szs ks) bs)
  have WZ := Lib.hid (whT_zero (szs ks) bs)
  have BL := Lib.hid (fun m => bkT_len (szs ks) bs m)
  have WL0 := Lib.hid (fun m => whT_len (szs ks) bs m)
  have DD := Lib.hid (show ∀ x, x < ks.length → 1 ≤ nd (szs ks) x ∧ nd (szs ks) x ≤ 1024 from fun x hx => ⟨hs.nd1 (by rw [szs_len]; exact hx), hs.ndle (by rw [szs_len]; exact hx)⟩)
  have WB := Lib.hid (show ∀ x, x < ks.length → -9223372036854775808 ≤ gd bs x ∧ gd bs x ≤ 9223372036854775807 from fun x hx => hwb.get (by rw [hlb]; exact hx))
  have hn1 : 1 ≤ pk ks := hs.pr1
  have hN1 : 1 ≤ ks.length := by have := hs.len0; rwa [szs_len] at this
  have hN3 : ks.length ≤ 3 := by have := hs.len3; rwa [szs_len] at this
  obtain ⟨sa, scap, sb, so, rfl, hscap, hsm, hsx, hsc⟩ := h.opened
  obtain ⟨ya, ycap, yb, yo, rfl, hycap, hym, hyx, hyc⟩ := h3.opened
  have LZ := Lib.hid (show (zi (szs ks)).length = ks.length by rw [zi_len, szs_len])
  rw [LZ.out] at hscap hsx hsc X ⊢
  rw [hlb] at hycap hyx hyc Z ⊢
  obtain rfl := hsx.resolve_left (by omega)
  obtain rfl := hyx.resolve_left (by omega)
  have SC := Lib.hid (show ∀ x, x < ks.length → w.cell? ⟨sb, so + x, none⟩ = some (.int .i64 (nd (szs ks) x : Int)) from fun x hx => by rw [hsc x hx, gd_zi])
  have YC := Lib.hid hyc
  obtain ⟨ds, hds⟩ : ∃ ds, ds = szs ks := ⟨_, rfl⟩
  rw [← hds] at X CS CC1 CO CS1 CC2 CS2 CS3 BS WS BZ WZ BL WL0 DD SC
  obtain ⟨n, hn⟩ : ∃ n, n = pk ks := ⟨_, rfl⟩
  rw [← hn] at ll ll2 lla hn1
  rw [show pr (szs ks) = pk ks from rfl, ← hn] at h64
  obtain ⟨N, hN⟩ : ∃ N, N = ks.length := ⟨_, rfl⟩
  rw [← hN] at hN1 hN3 hscap hycap X Z CS2 CS3 DD WB SC YC ⊢
  have LA := Lib.hid lla
  have LL := Lib.hid ll
  have LL2 := Lib.hid ll2
  have BLA := Lib.hid bla
  clear h h2 h3 hla lla bla hle ll hl2 ll2 hRC hRD hEV hK hsc hyc hds hn hN LZ hs hk10 hx hwb hlb hw
  have lit1 : Rd .i64 ((w.alloc (.cells #[.int .i64 2] 3)).alloc (.cells #[.int .u64 5, .int .u64 3] 27)) (.slice (some ⟨w.heap.size, 0, none⟩) 1 1) (zi (szs [1])) := (Rd.lit .i64 w [2] 3 1 rfl (by simp)).alloc _
  have lit2 : Rd .u64 ((w.alloc (.cells #[.int .i64 2] 3)).alloc (.cells #[.int .u64 5, .int .u64 3] 27)) (.slice (some ⟨w.heap.size + 1, 0, none⟩) 2 2) [5, 3] := by
    have h := Rd.lit .u64 (w.alloc (.cells #[.int .i64 2] 3)) [5, 3] 27 2 rfl (by simp)
    simpa using h
  have hal := ((Below.refl w.heap.size w).alloc (Nat.le_refl _) (.cells #[.int .i64 2] 3)).alloc (by simp) (.cells #[.int .u64 5, .int .u64 3] 27)
  have CL := Lib.hid (corners_ok [1] [5, 3] _ _ _ lit1 lit2 w2 shp_2 (by intro z hz; simp at hz; omega) rfl)
  have HAL := Lib.hid hal
  clear hal lit1 lit2
  go_enter Try.func7, Try.ntmps7
  go_wp2_with fail
  refine CL.out.mono ?_
  rintro e w1 ⟨v1, rfl, ho, hb⟩
  have O1 := ho.rd
  rw [show 2 ^ ([1] : List Nat).length = 2 from rfl, corner_lit] at O1
  have O1 := Lib.hid O1
  have B1 := Lib.hid (HAL.out.trans (hb.mono HAL.out.size))
  clear ho hb CL HAL
  go_wp2_with fail
  have hL := Rd.lit .u64 w1 [8, 2] 27 2 rfl (by simp)
  have hal := (Below.refl w1.heap.size w1).alloc (Nat.le_refl _) (.cells ([8, 2].map (Value.int .u64)).toArray 27)
  refine (equal_yes [8, 2] _ _ _ (O1.out.below hal) hL).mono ?_
  rintro e w2 ⟨rfl, hb2⟩
  have hs1 := B1.out.size
  have B2 := Lib.hid (B1.out.trans ((hal.trans (hb2.mono (by simp))).mono hs1))
  have hsz2 := B2.out.size
  have X2 := Lib.hid (X.out.below B2.out)
  have Y2 := Lib.hid (Y.out.below B2.out)
  have Z2 := Lib.hid (Z.out.below B2.out)
  clear hL hal hb2 X Y Z O1 B1 hs1
  go_wp2_with fail
  refine (CS.out _ _ _ X2.out Y2.out).mono ?_
  rintro e w3 ⟨v3, rfl, hown, hbel⟩
  have X_3 := Lib.hid (X2.out.below hbel)
  have Y_3 := Lib.hid (Y2.out.below hbel)
  have Z_3 := Lib.hid (Z2.out.below hbel)
  have A_3 := Lib.hid (hown.mono hsz2)
  have B3 := Lib.hid (B2.out.trans (hbel.mono hsz2))
  have hsz3 := B3.out.size
  clear X2 Y2 Z2 hown hbel
  obtain ⟨ga, ca, rfl, hca, hcam⟩ := A_3.out.opened (by rw [LA.out]; exact hn1)
  rw [LA.out] at hca A_3 ⊢
  go_wp2_with fail
  refine (CC1.out _ _ _ X_3.out A_3.out.rd).mono ?_
  rintro e w4 ⟨v4, rfl, hown, hbel⟩
  have X_4 := Lib.hid (X_3.out.below hbel)
  have Y_4 := Lib.hid (Y_3.out.below hbel)
  have Z_4 := Lib.hid (Z_3.out.below hbel)
  have A_4 := Lib.hid (A_3.out.below hbel)
  have C_4 := Lib.hid (hown.mono hsz3)
  have B4 := Lib.hid (B3.out.trans (hbel.mono hsz3))
  have hsz4 := B4.out.size
  clear X_3 Y_3 Z_3 A_3 hown hbel
  obtain ⟨gc, cc, rfl, hcc, hccm⟩ := C_4.out.opened (by rw [KC.out]; exact hK1)
  rw [KC.out] at hcc C_4 ⊢
  go_wp2_with fail
  refine (CO.out _ _ _ X_4.out A_4.out.rd).mono ?_
  rintro e w5 ⟨rfl, hbel⟩
  have X_5 := Lib.hid (X_4.out.below hbel)
  have Y_5 := Lib.hid (Y_4.out.below hbel)
  have Z_5 := Lib.hid (Z_4.out.below hbel)
  have A_5 := Lib.hid (A_4.out.below hbel)
  have C_5 := Lib.hid (C_4.out.below hbel)
  have B5 := Lib.hid (B4.out.trans (hbel.mono hsz4))
  have hsz5 := B5.out.size
  clear X_4 Y_4 Z_4 A_4 C_4 hbel
  go_wp2_with fail
  refine (CS1.out _ _ _ _ X_5.out A_5.out.rd Z_5.out).mono ?_
  rintro e w6 ⟨v6, rfl, hown, hbel⟩
  have X_6 := Lib.hid (X_5.out.below hbel)
  have Y_6 := Lib.hid (Y_5.out.below hbel)
  have Z_6 := Lib.hid (Z_5.out.below hbel)
  have A_6 := Lib.hid (A_5.out.below hbel)
  have C_6 := Lib.hid (C_5.out.below hbel)
  have B_6 := Lib.hid (hown.mono hsz5)
  have B6 := Lib.hid (B5.out.trans (hbel.mono hsz5))
  have hsz6 := B6.out.size
  clear X_5 Y_5 Z_5 A_5 C_5 hown hbel
  obtain ⟨gb, cb, rfl, hcb, hcbm⟩ := B_6.out.opened (by rw [LL2.out]; exact hn1)
  rw [LL2.out] at hcb B_6 ⊢
  go_wp2_with fail
  refine (CC2.out _ _ _ X_6.out B_6.out.rd).mono ?_
  rintro e w7 ⟨v7, rfl, hown, hbel⟩
  have X_7 := Lib.hid (X_6.out.below hbel)
  have Y_7 := Lib.hid (Y_6.out.below hbel)
  have Z_7 := Lib.hid (Z_6.out.below hbel)
  have A_7 := Lib.hid (A_6.out.below hbel)
  have C_7 := Lib.hid (C_6.out.below hbel)
  have B_7 := Lib.hid (B_6.out.below hbel)
  have D_7 := Lib.hid (hown.mono hsz6)
  have B7 := Lib.hid (B6.out.trans (hbel.mono hsz6))
  have hsz7 := B7.out.size
  clear X_6 Y_6 Z_6 A_6 C_6 B_6 hown hbel
  obtain ⟨gd', cd, rfl, hcd, hcdm⟩ := D_7.out.opened (by rw [KD.out]; exact hK1)
  rw [KD.out] at hcd D_7 ⊢
  have CCc := Lib.hid (ow_cells C_7.out KC.out)
  have DCc := Lib.hid (ow_cells D_7.out KD.out)
  have c0 := CCc.out 0 hK1
  have d0 := DCc.out 0 hK1
  rw [E1.out] at c0
  rw [E2.out] at d0
  have g1 : decide ((K : Int) = 0) = false := decide_eq_false (by omega)
  have g2 : decide (K = 0) = false := decide_eq_false (by omega)
  have g3 : ((K : Int) == 0) = false := by simp; omega
  have YCw := Lib.hid (fun x (hx : x < N) => cell_below B7.out (YC.out x hx))
  have SCw := Lib.hid (fun x (hx : x < N) => cell_below B7.out (SC.out x hx))
  clear E1 E2 CS CC1 CO CS1 CC2 KC KD
  generalize vl EV = ev at *
  go_wp2
  go_quiet (fail)
  go_wp2
  
  go_loopw [19, 126] (fun _ i wr => ∃ m : Nat, m ≤ K ∧ i = .int .i64 m ∧ Below w7.heap.size w7 wr) (fun _ i _ => K - (intOf i).toNat)
  case atStart => exact ⟨0, by omega, rfl, below_drewN (Below.refl _ _) _⟩
  case round =>
    obtain ⟨m, hm1, rfl, hbel⟩ := hrel
    have HB := Lib.hid hbel
    have hwsz := hbel.size
    clear hbel
    by_cases hml : m < K
    · have c1 : wr.cell? ⟨gc, m, none⟩ = some (.int .u64 (vl (cf RC m))) := cell_below HB.out (CCc.out m hml)
      have d1 : wr.cell? ⟨gd', m, none⟩ = some (.int .u64 (vl (cf RD m))) := cell_below HB.out (DCc.out m hml)
      have hpm := PM.out m hml
      generalize cf RC m = y at *
      generalize cf RD m = z at *
      by_cases hyz : z = y
      · subst hyz
        clear hpm
        generalize vl z = zz at *
        go_wp2
        go_quiet (fail)
        go_wp2
        go_roundw
        case rel => exact ⟨m + 1, by omega, by go_num, below_drewN HB.out _⟩
        case measure => simp [intOf] <;> omega
      · have hz : z = 0 - y := hpm.resolve_left hyz
        have hne : ¬ vl z = vl y := fun e => hyz (vl_inj e)
        have g4 : decide (vl z = vl y) = false := decide_eq_false hne
        have g5 : (vl z == vl y) = false := by simpa using hne
        have g6 : (vl z != vl y) = true := by simpa using hne
        have S0 := Lib.hid (fun w => sub_0y y w)
        rw [← hz] at S0
        clear hpm hyz hz
        generalize vl y = yy at *
        generalize vl z = zz at *
        go_wp2
        go_quiet ((first | (go_at_call 18; exact q_same (S0.out _))))
        go_wp2
        go_roundw
        case rel => exact ⟨m + 1, by omega, by go_num, below_drewN HB.out _⟩
        case measure => simp [intOf] <;> omega
    · obtain rfl : K = m := by omega
      have X9 := Lib.hid (X_7.out.below HB.out)
      have Z9 := Lib.hid (Z_7.out.below HB.out)
      have A9 := Lib.hid (A_7.out.below HB.out)
      have B9 := Lib.hid (B_7.out.below HB.out)
      have BE9 := Lib.hid (B7.out.trans (HB.out.mono hsz7))
      have SC9 := Lib.hid (fun x (hx : x < N) => cell_below HB.out (SCw.out x hx))
      have YC9 := Lib.hid (fun x (hx : x < N) => cell_below HB.out (YCw.out x hx))
      have hs9 := BE9.out.size
      clear PM CCc DCc SCw YCw HB c0 d0 X_7 Z_7 A_7 B_7 B7 hwsz
      obtain ⟨w9, hw9⟩ : ∃ wo : World, wo = wr := ⟨_, rfl⟩
      subst hw9
      go_wp2
      go_loopw [20, 21, 22, 23, 24, 153] (fun bk wh _ _ _ i wr => SmRel w9 ds bs N bk wh i wr) (fun _ _ _ _ _ i _ => N - (intOf i).toNat)
      case atStart => exact ⟨0, by omega, rfl, by rw [BZ.out]; exact Oz.nil _ _ _ _, by rw [WZ.out]; exact Oz.nil _ _ _ _, .inl rfl, Below.refl _ _⟩
      case round =>
        obtain ⟨x, hx1, rfl, hb1, hb2, hap, hbel⟩ := hrel
        have AP := Lib.hid hap
        have OX := Lib.hid hb1
        have OY := Lib.hid hb2
        have HB := Lib.hid hbel
        have hwsz := hbel.size
        clear hb1 hb2 hap hbel
        by_cases hxl : x < N
        · have c2 : wr.cell? ⟨yb, yo + x, none⟩ = some (.int .i64 (gd bs x)) := cell_below HB.out (YC9.out x hxl)
          have c3 : wr.cell? ⟨sb, so + x, none⟩ = some (.int .i64 (nd ds x : Int)) := cell_below HB.out (SC9.out x hxl)
          have hsb := World.block_lt_of_cell? _ _ (SC9.out x hxl)
          simp only at hsb
          obtain ⟨t1, t2⟩ := DD.out x hxl
          obtain ⟨b1, b2⟩ := WB.out x hxl
          have TX := Lib.hid (BS.out x)
          have TY := Lib.hid (WS.out x)
          have LX := Lib.hid (show (bkT ds bs x).length ≤ 1000000 by rw [BL.out]; omega)
          have LY := Lib.hid (show (whT ds bs x).length ≤ 1000000 by rw [WL0.out]; omega)
          generalize nd ds x = d at *
          generalize gd bs x = z at *
          have m1 := Int.emod_nonneg z (show (d : Int) ≠ 0 by omega)
          have m2 := Int.emod_lt_of_pos z (show (0 : Int) < (d : Int) by omega)
          go_wp2_with fail
          refine (rest_any z (d : Int) _ b1 b2 (by omega) (by omega)).mono ?_
          rintro e w' ⟨rfl, rfl⟩
          generalize z % (d : Int) = y at *
          have e1 : IntKind.i64.wrap (-y) = -y := IntWalk.i64_in _ (by omega)
          have e2 : IntKind.i64.wrap (y + (d : Int)) = y + (d : Int) := IntWalk.i64_in _ (by omega)
          clear c2
          go_wp2
          have FX := Lib.hid (show ∀ n, some (wr.heap.size + n) ≠ u20.ownBlock from fun n e => by have := (OX.out.lt _ e.symm).2; omega)
          have FX0 := Lib.hid (show some wr.heap.size ≠ u20.ownBlock from FX.out 0)
          have FS := Lib.hid (show some sb ≠ u20.ownBlock from fun e => by have := (OX.out.lt _ e.symm).1; omega)
          have FT := Lib.hid (show some sb ≠ u21.ownBlock from fun e => by have := (OY.out.lt _ e.symm).1; omega)
          go_region_held3 (fun w' => w'.cell? ⟨sb, so + x, none⟩ = some (.int .i64 (d : Int)))
            (first | go_keep | (rw [G1.cell_far _ (by simp <;> omega) FS.out]; assumption) | (rw [G2.cell_far _ (by have := G1.size; simp at this ⊢; omega) FT.out]; assumption))
            (first | (refine st_app_int _ (by rfl) (.tmp 164) (.tmp 167) (by rfl) w9.heap.size u20 (bkT ds bs x) (-y) w9 _ (by rfl) (by rfl) (OX.out.below (by repeat (first | exact Below.refl _ _ | refine Below.drew ?_ | refine Below.alloc ?_ (by first | exact Nat.le_refl _ | (simp; done) | (simp; omega)) _))) (by first | exact heap_alloc_new _ _ | exact hp2 _ _ _ | exact hp1 _ _ _) (by repeat (first | exact HB.out | refine Below.drew ?_ | refine Below.alloc ?_ (by first | omega | (simp; omega)) _)) (by simp; omega) LX.out ?_; intro v1 w1 O1 B1 G1 A1; have hs1 := B1.size; have OY1 := Oz.kept (OY.out.below (by repeat (first | exact Below.refl _ _ | refine Below.drew ?_ | refine Below.alloc ?_ (by first | exact Nat.le_refl _ | (simp; done) | (simp; omega)) _))) G1 AP.out; have AP1 := Ap.next AP.out (OY.out.below (by repeat (first | exact Below.refl _ _ | refine Below.drew ?_ | refine Below.alloc ?_ (by first | exact Nat.le_refl _ | (simp; done) | (simp; omega)) _))) A1) | (refine st_app_int _ (by rfl) (.tmp 169) (.tmp 176) (by rfl) w9.heap.size u21 (whT ds bs x) (y + (d : Int)) w9 _ (by rfl) (by rfl) (OY1.below (by repeat (first | exact Below.refl _ _ | refine Below.drew ?_ | refine Below.alloc ?_ (by first | exact Nat.le_refl _ | (simp; done) | (simp; omega)) _))) (by first | exact heap_alloc_new _ _ | exact (G1.block _ (by simp <;> omega) (FX.out _)).trans (hp2 _ _ _) | exact (G1.block _ (by simp <;> omega) FX0.out).trans (hp1 _ _ _)) (by repeat (first | exact B1 | refine Below.drew ?_ | refine Below.alloc ?_ (by first | omega | (simp; omega)) _)) (by have := G1.size; simp at this ⊢; omega) LY.out ?_; intro v2 w2 O2 B2 G2 A2; have O1b := Oz.kept (O1.below (by repeat (first | exact Below.refl _ _ | refine Below.drew ?_ | refine Below.alloc ?_ (by first | exact Nat.le_refl _ | (simp; done) | (simp; omega)) _))) G2 (Ap.symm AP1); have AP2 := Ap.symm (Ap.next (Ap.symm AP1) (O1.below (by repeat (first | exact Below.refl _ _ | refine Below.drew ?_ | refine Below.alloc ?_ (by first | exact Nat.le_refl _ | (simp; done) | (simp; omega)) _))) A2)))
          all_goals
            (go_wp2
             go_roundw
             case rel => exact ⟨x + 1, by omega, by go_num, by rw [← TX.out]; exact O1b, by rw [← TY.out]; exact O2, AP2, B2⟩
             case measure => simp [intOf] <;> omega)
        · obtain rfl : N = x := by omega
          have XB := Lib.hid (X9.out.below HB.out)
          have AB := Lib.hid (A9.out.below HB.out)
          have B_7 := Lib.hid (B9.out.below HB.out)
          have BEB := Lib.hid (BE9.out.trans (HB.out.mono hs9))
          have hsb := BEB.out.size
          clear X9 A9 B9 Z9 YC9 SC9 AP DD BS WS BZ WZ HB hs9 BE9
          go_wp2_with fail
          refine (CS2.out _ _ _ _ XB.out B_7.out.rd OX.out.rd).mono ?_
          rintro e wa ⟨va, rfl, hown, hbel⟩
          have OU := Lib.hid (hown.mono hsb)
          have XC := Lib.hid (XB.out.below hbel)
          have AC := Lib.hid (AB.out.below hbel)
          have BC := Lib.hid (B_7.out.below hbel)
          have OYC := Lib.hid (OY.out.below hbel)
          have BEC := Lib.hid (BEB.out.trans (hbel.mono hsb))
          have hsc := BEC.out.size
          obtain ⟨gu, cu, rfl, hcu, hcum⟩ := hown.opened (by rw [LL.out]; exact hn1)
          rw [LL.out] at hcu OU ⊢
          clear hown hbel XB AB B_7 OX OY BEB hsb CS2
          go_wp2_with fail
          refine (CS3.out _ _ _ _ XC.out AC.out.rd OYC.out.rd).mono ?_
          rintro e wb ⟨vb, rfl, hown, hbel⟩
          have OV := Lib.hid (hown.mono hsc)
          have OU2 := Lib.hid (OU.out.below hbel)
          have AD' := Lib.hid (AC.out.below hbel)
          have BD' := Lib.hid (BC.out.below hbel)
          have BED := Lib.hid (BEC.out.trans (hbel.mono hsc))
          have hsd := BED.out.size
          clear hown hbel XC AC BC OYC OU BEC hsc CS3
          go_wp2_with fail
          refine (equal_yes (l2.map vl) _ _ _ OV.out.rd BD'.out.rd).mono ?_
          rintro e wc ⟨rfl, hbel⟩
          have UC := Lib.hid (ow_cells (OU2.out.below hbel) LL.out)
          have AE := Lib.hid (AD'.out.below hbel)
          have BEE := Lib.hid (BED.out.trans (hbel.mono hsd))
          have hse := BEE.out.size
          have ACC := Lib.hid (show ∀ i, i < n → wc.cell? ⟨ga, i, none⟩ = some (.int .u64 (gd la i)) from fun i hi => AE.out.cell (by rw [LA.out]; exact hi))
          clear hbel OV OU2 AD' BD' BED hsd AE
          go_wp2
          go_loopw [27, 207] (fun _ i wr => ∃ m : Nat, m ≤ n ∧ i = .int .i64 m ∧ Below wc.heap.size wc wr) (fun _ i _ => n - (intOf i).toNat)
          case atStart => exact ⟨0, by omega, rfl, Below.refl _ _⟩
          case round =>
            obtain ⟨m, hm1, rfl, hbel⟩ := hrel
            have HB := Lib.hid hbel
            clear hbel
            by_cases hml : m < n
            · have c1 : wr.cell? ⟨gu, m, none⟩ = some (.int .u64 (vl (cf l m))) := cell_below HB.out (UC.out m hml)
              have d1 : wr.cell? ⟨ga, m, none⟩ = some (.int .u64 (gd la m)) := cell_below HB.out (ACC.out m hml)
              rw [GX.out] at c1
              have hb1 := BLA.out.get m
              generalize gd la m = y at *
              have S0 := Lib.hid (fun w => norm_any y w hb1.1 hb1.2)
              generalize vl (toF y) = z at *
              go_wp2
              go_quiet ((first | (go_at_call 30; exact q_same (S0.out _))))
              go_wp2
              go_roundw
              case rel => exact ⟨m + 1, by omega, by go_num, below_drewN HB.out _⟩
              case measure => simp [intOf] <;> omega
            · obtain rfl : n = m := by omega
              go_wp2
              go_ret
              exact ⟨rfl, BEE.out.trans (HB.out.mono hse)⟩
theorem wSealSums (zs xs bs : List Int) (v v2 v3 : Value) (w : World) (h : Rd .i64 w v zs) (h2 : Rd .u64 w v2 xs) (h3 : Rd .i64 w v3 bs) (hw : W64 zs) (hx : B64 xs) (hwb : W64 bs) :
    Calls Try.prog 7 #[v, v2, v3] w (RetV w (.bool true)) := by
  rcases shape_split zs with hn | ⟨ds, rfl, hs, h64⟩
  · exact sm_no zs xs bs v v2 v3 w h h2 h3 hw hn
  obtain ⟨ks, rfl, hk10⟩ := shp_ks hs
  by_cases hl : bs.length = ks.length
  · exact sm_full ks xs bs v v2 v3 w h h2 h3 hw hs hk10 hx hwb h64 hl
  · exact sm_len ks xs bs v v2 v3 w h h2 h3 hw hs hk10 hx hwb h64 hl
end Go.Proofs.Ytjljndnpefdifaa.Gm
