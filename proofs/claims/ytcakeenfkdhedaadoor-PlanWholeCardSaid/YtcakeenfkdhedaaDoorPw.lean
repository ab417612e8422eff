/- The walk of the law PlanWhole. (Its lines are printed by wip/mk_XPw.py.) -/
import Derived.Test.YtcakeenfkdhedaaDoorGe
import Derived.Test.YtcakeenfkdhedaaDoorGd
namespace Go.Proofs.YtcakeenfkdhedaaDoor.Gm
open Go.RowKit
set_option linter.unusedVariables false
def PwA (w : World) (back : Bool) (ks : List Nat) (zs : List Int) (av kv i : Value) (wr : World) : Prop :=
  ∃ (x : Nat) (K : Int), x ≤ ks.length ∧ i = .int .i64 x ∧ kv = .int .i64 K ∧ 0 ≤ K ∧ K ≤ x * 64 ∧ Rd .u64 wr av (alT back ks zs x) ∧ Below w.heap.size w wr
def PwB (w : World) (back : Bool) (ks : List Nat) (zs : List Int) (x lines g cap : Nat) (T : Int) (av kv lv : Value) (wr : World) : Prop :=
  ∃ (left : List T3) (K : Nat), lv = .slice (some ⟨g, 0, none⟩) left.length cap ∧ kv = .int .i64 (K : Int) ∧ (K : Int) + (left.length : Int) ≤ T ∧ LeftOk x lines left ∧ Rd .u64 wr av (pws back ks zs x left) ∧ Ot w.heap.size wr lv left ∧ Below w.heap.size w wr
def lenS : Value → Nat
  | .slice _ n _ => n
  | _ => 0
theorem lit_42 (w : World) : Rd .i64 (w.alloc (.cells #[.int .i64 4, .int .i64 2] 3)) (.slice (some ⟨w.heap.size, 0, none⟩) 2 2) [4, 2] := Rd.lit .i64 w [4, 2] 3 2 rfl (by simp)
theorem pw_none (zs zx zo : List Int) (cut : Int) (back : Bool) (v v2 v3 : Value) (w : World) (h : Rd .i64 w v zs) (hw : W64 zs) (hn : NoShape zs) :
    Calls Tryd.prog 8 #[v, v2, .int .i64 cut, v3, .bool back] w (RetV w (.bool true)) := by
  have L0 := Lib.hid (lit_42 w)
  have hb0 := (Below.refl w.heap.size w).alloc (Nat.le_refl _) (.cells #[.int .i64 4, .int .i64 2] 3)
  have BA := Lib.hid hb0
  have hsA := hb0.size
  have CS := Lib.hid (fun w h => shaped_no zs zx v v2 w h hw hn)
  have X := Lib.hid (h.below hb0)
  clear h hw hn hb0
  go_enter Tryd.func8, Tryd.ntmps8
  go_wp2_with fail
  refine (pw_make _ _ L0.out).mono ?_
  rintro e w1 ⟨v1, rfl, ho, hb⟩
  have O1 := Lib.hid ho
  have X1 := Lib.hid (X.out.below hb)
  have B1 := Lib.hid (BA.out.trans (hb.mono hsA))
  have hs1 := B1.out.size
  clear ho hb
  go_wp2_with fail
  refine (pw_print _ _ O1.out).mono ?_
  rintro e w2 ⟨rfl, hb⟩
  have X2 := Lib.hid (X1.out.below hb)
  have B2 := Lib.hid (B1.out.trans (hb.mono hs1))
  have hs2 := B2.out.size
  clear hb
  go_wp2_with fail
  refine (CS.out _ X2.out).mono ?_
  rintro e w3 ⟨v3, rfl, ho, hb⟩
  have B3 := Lib.hid (B2.out.trans (hb.mono hs2))
  clear ho hb
  go_wp2
  go_ret
  exact ⟨rfl, B3.out⟩

set_option maxHeartbeats 4000000 in
set_option maxRecDepth 100000 in
theorem pw_some_false (ks : List Nat) (zx zo : List Int) (cut : Int) (v v2 v3 : Value) (w : World) (h : Rd .i64 w v (zi (szs ks))) (h2 : Rd .u64 w v2 zx) (h3 : Rd .i64 w v3 zo) (hw : W64 (zi (szs ks))) (hwo : W64 zo) (hc2 : cut ≤ 9223372036854775807) (hs : Shp (szs ks)) (h64 : pr (szs ks) ≤ 64) (hy : B64 zx) (hT : Tb w) :
    Calls Tryd.prog 8 #[v, v2, .int .i64 cut, v3, .bool false] w (RetV w (.bool true)) := by
  have L0 := Lib.hid (lit_42 w)
  have hb0 := (Below.refl w.heap.size w).alloc (Nat.le_refl _) (.cells #[.int .i64 4, .int .i64 2] 3)
  have B0 := Lib.hid hb0
  have hs0 := hb0.size
  have X0 := Lib.hid (h.below hb0)
  have Y0 := Lib.hid (h2.below hb0)
  have T0 := Lib.hid (hT.below hb0)
  have hN0 : 1 ≤ ks.length := by have := hs.len0; rwa [szs_len] at this
  have hN3 : ks.length ≤ 3 := by have := hs.len3; rwa [szs_len] at this
  obtain ⟨n0, hn⟩ : ∃ n0, n0 = pr (szs ks) := ⟨_, rfl⟩
  have hnk : n0 = pk ks := hn
  obtain ⟨A, hA⟩ : ∃ A, A = siz zx n0 := ⟨_, rfl⟩
  have lA : A.length = pk ks := by rw [hA, siz_len]; exact hnk
  have bA : B64 A := by rw [hA]; exact siz_64 hy n0
  obtain ⟨FA, hFA⟩ : ∃ l, l = A.map toF := ⟨_, rfl⟩
  have hn1 : 1 ≤ n0 := by rw [hn]; exact hs.pr1
  have CS := Lib.hid (fun w v v2 h h2 => by have := shaped_yes (szs ks) zx v v2 w h h2 hw hs h64; rwa [← hn, ← hA] at this)
  have C1 := Lib.hid (fun w v v2 h h2 hT => by have := fwd_of (all_ok ks A false v v2 w h h2 hw hs bA lA hT); rwa [← hFA] at this)
  have C2 := Lib.hid (fun w v v2 h h2 hT => by have := inv_of (all_ok ks A true v v2 w h h2 hw hs bA lA hT); rwa [← hFA] at this)
  obtain ⟨N, hN⟩ : ∃ N, N = ks.length := ⟨_, rfl⟩
  have lsz : (szs ks).length = N := by rw [szs_len, hN]
  have CM1 := Lib.hid (fun (hz : cut < 1) w v h => make_cut (szs ks) cut v w h hw hs hz)
  have CM2 := Lib.hid (fun (hz : 1 ≤ cut) w v h => (show Calls Tryd.prog 9 #[v, .int .i64 cut] w (RetPE w (phs (szs ks) cut N) 0) by
    refine (make_any (szs ks) cut v w h hw hs hz hc2).mono ?_
    rintro e w' (⟨_, he⟩ | ⟨⟨x, hx, h65⟩, _⟩)
    · rw [lsz] at he; exact he
    · have h1 := cntT_le (lnX_pos hs hx) (cutX_pos hs hz hx)
      have h2 : lnX (szs ks) x ≤ pr (szs ks) := Nat.div_le_self _ _
      omega))
  have PG := Lib.hid (fun (hz : 1 ≤ cut) x (hx : x < N) => (show RP x (lnX (szs ks) x) (phT (szs ks) cut x) ∧ 1 ≤ (phT (szs ks) cut x).length ∧ (phT (szs ks) cut x).length ≤ 64 by
    have hx' : x < (szs ks).length := by omega
    have h1 := cntT_le (lnX_pos hs hx') (cutX_pos hs hz hx')
    have h3 := cntT_pos (lnX_pos hs hx') (cutX_pos hs hz hx')
    have h2 : lnX (szs ks) x ≤ pr (szs ks) := Nat.div_le_self _ _
    refine ⟨rp_phT hs hz hx', ?_, ?_⟩ <;> rw [phT_len] <;> omega))
  have PL := Lib.hid (phs_len (szs ks) cut N)
  have PP := Lib.hid (fun x (hx : x < N) => pg_phs (szs ks) cut hx)
  have CK := Lib.hid (fun (hz : 1 ≤ cut) B w v v2 h (h2 : OP B w v2 (phs (szs ks) cut N)) => (show Calls Tryd.prog 12 #[v, v2] w (RetV w (.int .i64 0)) by
    refine (pcheck_any (szs ks) _ v v2 w h h2.rps hw hs (fun i hi => by
      rw [PL.out] at hi; rw [PP.out i hi]; have := (PG.out hz i hi).2.2; omega)).mono ?_
    rintro e w' ⟨m, rfl, hk, hb⟩
    refine ⟨?_, hb⟩
    rcases hk with ⟨_, h5 | ⟨x, hx, h5⟩⟩ | ⟨_, _, ⟨_, i, hi, h5⟩ | ⟨rfl, _⟩⟩
    · exact absurd (by rw [PL.out, lsz]) h5
    · rw [PP.out x (by omega)] at h5; exact absurd (PG.out hz x (by omega)).1 h5
    · rw [PL.out] at hi; rw [PP.out i hi] at h5; have := (PG.out hz i hi).2.2; omega
    · rfl))
  have CD := Lib.hid (fun x (hx : x < N) left i (f t : Nat) (hi : i < left.length) (ht : tg left i = ((x : Int), (f : Int), (t : Int))) (hft : f < t) (htl : t ≤ lnX (szs ks) x) (hL : LeftOk x (lnX (szs ks) x) left) w v v2 (h : Rd .i64 w v (zi (szs ks))) (h2 : Rd .u64 w v2 (pws false ks A x left)) (hT : Tb w) => (show Calls Tryd.prog 43 #[v, v2, .agg #[.int .i64 (x : Int), .int .i64 (f : Int), .int .i64 (t : Int)], .bool false] w (RetZE w (pws false ks A x (left.take i ++ left.drop (i + 1))) 0) by
    have hx' : x < ks.length := by omega
    have := do_ok (szs ks) (pws false ks A x left) x (nd ks x) f t _ false v v2 w h h2 hw hs (pws_64 lA bA x left) (pws_len _ _ _ _ _) (by omega) (nd_szs ks hx') hft (by rw [← lnX_szs hs hx']; exact htl) hT rfl
    rw [show pr (szs ks) = pk ks from rfl, (pws_step hx' hi ht hL.2).1] at this
    exact this))
  have PS := Lib.hid (fun (hz : 1 ≤ cut) x (hx : x < N) => (show pws false ks A x (phT (szs ks) cut x) = alT false ks A x from pws_start hs (by omega) (PG.out hz x hx).1 lA))
  have PD := Lib.hid (fun x (hx : x < N) => (show pws false ks A x [] = alT false ks A (x + 1) from pws_done (by omega)))
  have A0 := Lib.hid (alT_zero false ks A)
  have AN := Lib.hid (show alT false ks A N = (WL false ks FA).map vl by rw [hN, hFA]; exact alT_whole hN0)
  have lA2 := Lib.hid (show A.length = n0 by rw [lA, hnk])
  have LZ : (zi (szs ks)).length = N := by rw [zi_len, szs_len, hN]
  obtain ⟨a3, q3, b3, o3, rfl, hk3, hm3, hx3, hc3⟩ := h3.opened
  have HC3 := Lib.hid hc3
  have HZ3 := Lib.hid (show ∀ i, i < zo.length → -9223372036854775808 ≤ gd zo i ∧ gd zo i ≤ 9223372036854775807 from fun i hi => hwo.get hi)
  rw [← hN] at hN0 hN3
  generalize phs (szs ks) cut N = ll at *
  clear h h2 h3 hT hs hw h64 hA hFA lA hnk hn LZ hwo hy hc3 lsz bA hb0 hc2
  have HN := Lib.hid hN
  clear hN
  go_enter Tryd.func8, Tryd.ntmps8
  go_wp2_with fail
  refine (pw_make _ _ L0.out).mono ?_
  rintro e w1 ⟨v1, rfl, ho, hb⟩
  have O1 := Lib.hid ho
  have X1 := Lib.hid (X0.out.below hb)
  have Y1 := Lib.hid (Y0.out.below hb)
  have T1 := Lib.hid (T0.out.below hb)
  have B1 := Lib.hid (B0.out.trans (hb.mono hs0))
  have hs1 := B1.out.size
  clear ho hb L0 X0 Y0 T0 B0
  go_wp2_with fail
  refine (pw_print _ _ O1.out).mono ?_
  rintro e w2 ⟨rfl, hb⟩
  have X2 := Lib.hid (X1.out.below hb)
  have Y2 := Lib.hid (Y1.out.below hb)
  have T2 := Lib.hid (T1.out.below hb)
  have B2 := Lib.hid (B1.out.trans (hb.mono hs1))
  have hs2 := B2.out.size
  clear hb O1 X1 Y1 T1 B1
  go_wp2_with fail
  refine (CS.out _ _ _ X2.out Y2.out).mono ?_
  rintro e w3 ⟨v3, rfl, ho, hb⟩
  have X3 := Lib.hid (X2.out.below hb)
  have T3 := Lib.hid (T2.out.below hb)
  have B3 := Lib.hid (B2.out.trans (hb.mono hs2))
  have hs3 := B3.out.size
  have A3 := Lib.hid (Oz.rd ho)
  clear ho hb X2 Y2 T2 B2 CS
  by_cases hz : 1 ≤ cut
  · clear CM1
    go_wp2_with fail
    refine (CM2.out hz _ _ X3.out).mono ?_
    rintro e w4 ⟨v4, rfl, ho, hb⟩
    have X4 := Lib.hid (X3.out.below hb)
    have A4 := Lib.hid (A3.out.below hb)
    have T4 := Lib.hid (T3.out.below hb)
    have B4 := Lib.hid (B3.out.trans (hb.mono hs3))
    have hs4 := B4.out.size
    have P4 := Lib.hid (OP.mono ho hs3)
    clear ho hb X3 A3 T3 B3 CM2
    go_wp2_with fail
    refine (C1.out _ _ _ X4.out A4.out T4.out).mono ?_
    rintro e w5 ⟨v5, rfl, ho, hb⟩
    have X5 := Lib.hid (X4.out.below hb)
    have A5 := Lib.hid (A4.out.below hb)
    have T5 := Lib.hid (T4.out.below hb)
    have P5 := Lib.hid (P4.out.below hb)
    have B5 := Lib.hid (B4.out.trans (hb.mono hs4))
    have hs5 := B5.out.size
    have W5 := Lib.hid ho.rd
    clear ho hb X4 A4 T4 B4 P4 C1
    clear C2
    obtain ⟨gP, cP, rfl, hcP1, hcP2⟩ := P5.out.opened (by rw [PL.out]; exact hN0)
    rw [PL.out] at hcP1 P5 ⊢
    go_wp2
    go_loopw [13, 19, 21, 22, 23, 24, 25, 75] (fun a k _ _ _ _ _ i wr => PwA w5 false ks A a k i wr) (fun _ _ _ _ _ _ _ i _ => N - (intOf i).toNat)
    case atStart => exact ⟨0, 0, by rw [← HN.out]; omega, rfl, rfl, by omega, by omega, by rw [A0.out]; exact A5.out, Below.refl _ _⟩
    case round =>
      obtain ⟨x, K0, hx1, rfl, rfl, hK0, hK1, hra, hbel⟩ := hrel
      rw [← HN.out] at hx1
      have BO := Lib.hid hbel
      have hso := hbel.size
      have RA0 := Lib.hid hra
      clear hbel hra
      by_cases hxN : x < N
      · obtain ⟨wo, hwo⟩ : ∃ wo : World, wo = wr := ⟨_, rfl⟩
        subst hwo
        obtain ⟨u, hcu, hou⟩ := OP.at P5.out (show x < ll.length by rw [PL.out]; exact hxN)
        rw [PP.out x hxN] at hou
        have cu := cell_below BO.out hcu
        have hou2 := Lib.hid (hou.below BO.out)
        obtain ⟨rpx, l1, l64⟩ := PG.out hz x hxN
        have PSx := PS.out hz x hxN
        have CDx := Lib.hid (CD.out x hxN)
        have PDx := Lib.hid (PD.out x hxN)
        have LO0 := Lib.hid (LeftOk.start rpx)
        generalize phT (szs ks) cut x = l at *
        obtain ⟨ua, uc, rfl, hu1, hu2, hu3⟩ := hou2.out.shape
        obtain ⟨ug, rfl⟩ := hu3 (by omega)
        have CL := Lib.hid (cloneP_any l _ _ hou2.out.rk (fun c e => by cases e) (by omega))
        clear hou hcu hou2 rpx
        go_wp2_with fail
        refine CL.out.mono ?_
        rintro e wc ⟨vc, rfl, hoc, hbc⟩
        obtain ⟨ca, cap, rfl, hc1, hcm, hc3⟩ := hoc.shape
        obtain ⟨g, rfl⟩ := hc3 (by omega)
        have OC := Lib.hid hoc
        have BC0 := Lib.hid hbc
        have hsc0 := hbc.size
        clear hoc hbc CL cu
        have RAc := Lib.hid (show Rd .u64 wc _ (pws false ks A x l) by rw [PSx]; exact RA0.out.below BC0.out)
        clear RA0 PSx
        go_wp2
        go_loopw [13, 19, 22, 23, 24, 25] (fun a k lf _ _ _ wi => PwB wo false ks A x (lnX (szs ks) x) g cap (K0 + l.length) a k lf wi) (fun _ _ lf _ _ _ _ => lenS lf)
        case atStart => exact ⟨l, K0.toNat, rfl, by congr 1; omega, by omega, LO0.out, RAc.out, OC.out, BC0.out⟩
        case round =>
          obtain ⟨left, K, rfl, rfl, hKT, hLO, hra, hot, hbel⟩ := hrel
          have LO := Lib.hid hLO
          have RA := Lib.hid hra
          have OT := Lib.hid hot
          have BC := Lib.hid hbel
          have hsc := hbel.size
          have BW := Lib.hid (BO.out.trans (hbel.mono hso))
          clear hLO hra hot hbel
          obtain ⟨n, hnl⟩ : ∃ n, n = left.length := ⟨_, rfl⟩
          rw [← hnl] at hKT OT ⊢
          have ewK : IntKind.i64.wrap ((K : Int) + 1) = ((K + 1 : Nat) : Int) := IntWalk.i64_in _ (by omega)
          by_cases hn0 : 0 < n
          · by_cases hko : K < zo.length
            · obtain rfl := hx3.resolve_left (by omega)
              have cz := cell_below (B5.out.trans (BW.out.mono hs5)) (HC3.out K hko)
              obtain ⟨z1, z2⟩ := HZ3.out K hko
              have RZ := Lib.hid (fun w => rest_any (gd zo K) (n : Int) w z1 z2 (by omega) (by omega))
              generalize gd zo K = zk at *
              have hm0 := Int.emod_nonneg zk (show (n : Int) ≠ 0 by omega)
              have hm1 := Int.emod_lt_of_pos zk (show (0 : Int) < (n : Int) by omega)
              obtain ⟨i, hi⟩ : ∃ i : Nat, zk % (n : Int) = (i : Int) := ⟨(zk % (n : Int)).toNat, by omega⟩
              rw [hi] at hm1 RZ
              have hin : i < n := by omega
              clear hm0 hm1 hi z1 z2
              obtain ⟨f, t, htg, hft, htl⟩ := LO.out.at (show i < left.length by omega)
              have LO2 := Lib.hid (LO.out.out (show i < left.length by omega))
              have CDi := Lib.hid (fun w v2 (h : Rd .i64 w v (zi (szs ks))) h2 hT => CDx.out left i f t (by omega) htg hft htl LO.out w _ v2 h h2 hT)
              obtain ⟨c0, c1, c2⟩ := Ot.cell OT.out (show i < left.length by omega)
              rw [htg] at c0 c1 c2
              simp only at c0 c1 c2
              have hll := Lib.hid (out_len (show i < left.length by omega))
              have DT := Lib.hid (fun B w h => delete_task B g n cap i left w h (by omega) hin hcm)
              generalize hL2 : left.take i ++ left.drop (i + 1) = left2 at *
              have ewI : IntKind.i64.wrap ((i : Int) + 1) = (i : Int) + 1 := IntWalk.i64_in _ (by omega)
              have HNL := Lib.hid hnl
              clear hL2 htg hft htl hnl
              go_wp2_with fail
              refine (RZ.out _).mono ?_
              rintro e w' ⟨rfl, rfl⟩
              clear RZ cz
              go_wp2_with fail
              refine (CDi.out _ _ (X5.out.below BW.out) RA.out (T5.out.below BW.out)).mono ?_
              rintro e w6 ⟨v6, rfl, ho6, hb6⟩
              have hs6 := hb6.size
              have R6 := Lib.hid ho6
              have OT6 := Lib.hid (OT.out.below hb6)
              have hg6 := OT.out.lt g rfl
              have B6 := Lib.hid (BC.out.trans (hb6.mono hsc))
              clear ho6 hb6 c0 c1 c2 CDi RA OT LO
              go_wp2_with fail
              refine (DT.out _ _ OT6.out (i : Int) (by first | rfl | simp)).mono ?_
              rintro e w7 ⟨rfl, ho7, hon7⟩
              have R7 := Lib.hid (R6.out.only hon7 (fun k e e2 => by have := R6.out.lt k e; omega)).rd
              have B7 := Lib.hid (B6.out.trans (hon7.below B6.out.size (fun k e => by omega)))
              have O7 := Lib.hid ho7
              clear ho7 hon7 R6 OT6 B6 DT
              go_wp2
              go_roundw
              case rel => exact ⟨left2, K + 1, by rw [hll.out, ← HNL.out], by go_num, by have := hll.out; have := HNL.out; omega, LO2.out, R7.out, by first | exact O7.out | (rw [hll.out, ← HNL.out]; exact O7.out), B7.out⟩
              case measure => simp [lenS] <;> omega
            · obtain ⟨i, hi⟩ : ∃ i : Nat, i = 0 := ⟨0, rfl⟩
              have hin : i < n := by omega
              obtain ⟨f, t, htg, hft, htl⟩ := LO.out.at (show i < left.length by omega)
              have LO2 := Lib.hid (LO.out.out (show i < left.length by omega))
              have CDi := Lib.hid (fun w v2 (h : Rd .i64 w v (zi (szs ks))) h2 hT => CDx.out left i f t (by omega) htg hft htl LO.out w _ v2 h h2 hT)
              obtain ⟨c0, c1, c2⟩ := Ot.cell OT.out (show i < left.length by omega)
              rw [htg] at c0 c1 c2
              simp only at c0 c1 c2
              have hll := Lib.hid (out_len (show i < left.length by omega))
              have DT := Lib.hid (fun B w h => delete_task B g n cap i left w h (by omega) hin hcm)
              generalize hL2 : left.take i ++ left.drop (i + 1) = left2 at *
              have ewI : IntKind.i64.wrap ((i : Int) + 1) = (i : Int) + 1 := IntWalk.i64_in _ (by omega)
              have HNL := Lib.hid hnl
              clear hL2 htg hft htl hnl
              subst hi
              simp only [Nat.zero_mul, Nat.zero_add] at c0 c1 c2
              go_wp2_with fail
              refine (CDi.out _ _ (X5.out.below BW.out) RA.out (T5.out.below BW.out)).mono ?_
              rintro e w6 ⟨v6, rfl, ho6, hb6⟩
              have hs6 := hb6.size
              have R6 := Lib.hid ho6
              have OT6 := Lib.hid (OT.out.below hb6)
              have hg6 := OT.out.lt g rfl
              have B6 := Lib.hid (BC.out.trans (hb6.mono hsc))
              clear ho6 hb6 c0 c1 c2 CDi RA OT LO
              go_wp2_with fail
              refine (DT.out _ _ OT6.out 0 (by first | rfl | simp)).mono ?_
              rintro e w7 ⟨rfl, ho7, hon7⟩
              have R7 := Lib.hid (R6.out.only hon7 (fun k e e2 => by have := R6.out.lt k e; omega)).rd
              have B7 := Lib.hid (B6.out.trans (hon7.below B6.out.size (fun k e => by omega)))
              have O7 := Lib.hid ho7
              clear ho7 hon7 R6 OT6 B6 DT
              go_wp2
              go_roundw
              case rel => exact ⟨left2, K + 1, by rw [hll.out, ← HNL.out], by go_num, by have := hll.out; have := HNL.out; omega, LO2.out, R7.out, by first | exact O7.out | (rw [hll.out, ← HNL.out]; exact O7.out), B7.out⟩
              case measure => simp [lenS] <;> omega
          · obtain rfl : n = 0 := by omega
            obtain rfl : left = [] := List.length_eq_zero_iff.1 hnl.symm
            rw [PDx.out] at RA
            have BX := Lib.hid BW.out
            clear BW BC OT LO hnl
            go_wp2
            go_roundw
            case rel => exact ⟨x + 1, K, by rw [← HN.out]; omega, by go_num, rfl, by omega, by omega, RA.out, BX.out⟩
            case measure => simp [intOf] <;> omega
      · obtain rfl : N = x := by omega
        rw [AN.out] at RA0
        have BE := Lib.hid (B5.out.trans (BO.out.mono hs5))
        have hsE := BE.out.size
        go_wp2_with fail
        refine (CK.out hz _ _ _ _ (X5.out.below BO.out) (P5.out.below BO.out)).mono ?_
        rintro e w8 ⟨rfl, hb⟩
        have B8 := Lib.hid (BE.out.trans (hb.mono hsE))
        have hs8 := B8.out.size
        have R8 := Lib.hid (RA0.out.below hb)
        have W8 := Lib.hid ((W5.out.below BO.out).below hb)
        clear hb
        go_wp2_with fail
        refine (equal_yes _ _ _ _ R8.out W8.out).mono ?_
        rintro e w9 ⟨rfl, hb⟩
        have B9 := Lib.hid (B8.out.trans (hb.mono hs8))
        clear hb
        go_wp2
        go_ret
        exact ⟨rfl, B9.out⟩
  · have hz1 : cut < 1 := by omega
    clear CM2
    go_wp2_with fail
    refine (CM1.out hz1 _ _ X3.out).mono ?_
    rintro e w4 ⟨v4, rfl, ho, hb⟩
    have B4 := Lib.hid (B3.out.trans (hb.mono hs3))
    clear ho hb
    go_wp2
    go_ret
    exact ⟨rfl, B4.out⟩

set_option maxHeartbeats 4000000 in
set_option maxRecDepth 100000 in
theorem pw_some_true (ks : List Nat) (zx zo : List Int) (cut : Int) (v v2 v3 : Value) (w : World) (h : Rd .i64 w v (zi (szs ks))) (h2 : Rd .u64 w v2 zx) (h3 : Rd .i64 w v3 zo) (hw : W64 (zi (szs ks))) (hwo : W64 zo) (hc2 : cut ≤ 9223372036854775807) (hs : Shp (szs ks)) (h64 : pr (szs ks) ≤ 64) (hy : B64 zx) (hT : Tb w) :
    Calls Tryd.prog 8 #[v, v2, .int .i64 cut, v3, .bool true] w (RetV w (.bool true)) := by
  have L0 := Lib.hid (lit_42 w)
  have hb0 := (Below.refl w.heap.size w).alloc (Nat.le_refl _) (.cells #[.int .i64 4, .int .i64 2] 3)
  have B0 := Lib.hid hb0
  have hs0 := hb0.size
  have X0 := Lib.hid (h.below hb0)
  have Y0 := Lib.hid (h2.below hb0)
  have T0 := Lib.hid (hT.below hb0)
  have hN0 : 1 ≤ ks.length := by have := hs.len0; rwa [szs_len] at this
  have hN3 : ks.length ≤ 3 := by have := hs.len3; rwa [szs_len] at this
  obtain ⟨n0, hn⟩ : ∃ n0, n0 = pr (szs ks) := ⟨_, rfl⟩
  have hnk : n0 = pk ks := hn
  obtain ⟨A, hA⟩ : ∃ A, A = siz zx n0 := ⟨_, rfl⟩
  have lA : A.length = pk ks := by rw [hA, siz_len]; exact hnk
  have bA : B64 A := by rw [hA]; exact siz_64 hy n0
  obtain ⟨FA, hFA⟩ : ∃ l, l = A.map toF := ⟨_, rfl⟩
  have hn1 : 1 ≤ n0 := by rw [hn]; exact hs.pr1
  have CS := Lib.hid (fun w v v2 h h2 => by have := shaped_yes (szs ks) zx v v2 w h h2 hw hs h64; rwa [← hn, ← hA] at this)
  have C1 := Lib.hid (fun w v v2 h h2 hT => by have := fwd_of (all_ok ks A false v v2 w h h2 hw hs bA lA hT); rwa [← hFA] at this)
  have C2 := Lib.hid (fun w v v2 h h2 hT => by have := inv_of (all_ok ks A true v v2 w h h2 hw hs bA lA hT); rwa [← hFA] at this)
  obtain ⟨N, hN⟩ : ∃ N, N = ks.length := ⟨_, rfl⟩
  have lsz : (szs ks).length = N := by rw [szs_len, hN]
  have CM1 := Lib.hid (fun (hz : cut < 1) w v h => make_cut (szs ks) cut v w h hw hs hz)
  have CM2 := Lib.hid (fun (hz : 1 ≤ cut) w v h => (show Calls Tryd.prog 9 #[v, .int .i64 cut] w (RetPE w (phs (szs ks) cut N) 0) by
    refine (make_any (szs ks) cut v w h hw hs hz hc2).mono ?_
    rintro e w' (⟨_, he⟩ | ⟨⟨x, hx, h65⟩, _⟩)
    · rw [lsz] at he; exact he
    · have h1 := cntT_le (lnX_pos hs hx) (cutX_pos hs hz hx)
      have h2 : lnX (szs ks) x ≤ pr (szs ks) := Nat.div_le_self _ _
      omega))
  have PG := Lib.hid (fun (hz : 1 ≤ cut) x (hx : x < N) => (show RP x (lnX (szs ks) x) (phT (szs ks) cut x) ∧ 1 ≤ (phT (szs ks) cut x).length ∧ (phT (szs ks) cut x).length ≤ 64 by
    have hx' : x < (szs ks).length := by omega
    have h1 := cntT_le (lnX_pos hs hx') (cutX_pos hs hz hx')
    have h3 := cntT_pos (lnX_pos hs hx') (cutX_pos hs hz hx')
    have h2 : lnX (szs ks) x ≤ pr (szs ks) := Nat.div_le_self _ _
    refine ⟨rp_phT hs hz hx', ?_, ?_⟩ <;> rw [phT_len] <;> omega))
  have PL := Lib.hid (phs_len (szs ks) cut N)
  have PP := Lib.hid (fun x (hx : x < N) => pg_phs (szs ks) cut hx)
  have CK := Lib.hid (fun (hz : 1 ≤ cut) B w v v2 h (h2 : OP B w v2 (phs (szs ks) cut N)) => (show Calls Tryd.prog 12 #[v, v2] w (RetV w (.int .i64 0)) by
    refine (pcheck_any (szs ks) _ v v2 w h h2.rps hw hs (fun i hi => by
      rw [PL.out] at hi; rw [PP.out i hi]; have := (PG.out hz i hi).2.2; omega)).mono ?_
    rintro e w' ⟨m, rfl, hk, hb⟩
    refine ⟨?_, hb⟩
    rcases hk with ⟨_, h5 | ⟨x, hx, h5⟩⟩ | ⟨_, _, ⟨_, i, hi, h5⟩ | ⟨rfl, _⟩⟩
    · exact absurd (by rw [PL.out, lsz]) h5
    · rw [PP.out x (by omega)] at h5; exact absurd (PG.out hz x (by omega)).1 h5
    · rw [PL.out] at hi; rw [PP.out i hi] at h5; have := (PG.out hz i hi).2.2; omega
    · rfl))
  have CD := Lib.hid (fun x (hx : x < N) left i (f t : Nat) (hi : i < left.length) (ht : tg left i = ((x : Int), (f : Int), (t : Int))) (hft : f < t) (htl : t ≤ lnX (szs ks) x) (hL : LeftOk x (lnX (szs ks) x) left) w v v2 (h : Rd .i64 w v (zi (szs ks))) (h2 : Rd .u64 w v2 (pws true ks A x left)) (hT : Tb w) => (show Calls Tryd.prog 43 #[v, v2, .agg #[.int .i64 (x : Int), .int .i64 (f : Int), .int .i64 (t : Int)], .bool true] w (RetZE w (pws true ks A x (left.take i ++ left.drop (i + 1))) 0) by
    have hx' : x < ks.length := by omega
    have := do_ok (szs ks) (pws true ks A x left) x (nd ks x) f t _ true v v2 w h h2 hw hs (pws_64 lA bA x left) (pws_len _ _ _ _ _) (by omega) (nd_szs ks hx') hft (by rw [← lnX_szs hs hx']; exact htl) hT rfl
    rw [show pr (szs ks) = pk ks from rfl, (pws_step hx' hi ht hL.2).1] at this
    exact this))
  have PS := Lib.hid (fun (hz : 1 ≤ cut) x (hx : x < N) => (show pws true ks A x (phT (szs ks) cut x) = alT true ks A x from pws_start hs (by omega) (PG.out hz x hx).1 lA))
  have PD := Lib.hid (fun x (hx : x < N) => (show pws true ks A x [] = alT true ks A (x + 1) from pws_done (by omega)))
  have A0 := Lib.hid (alT_zero true ks A)
  have AN := Lib.hid (show alT true ks A N = (WL true ks FA).map vl by rw [hN, hFA]; exact alT_whole hN0)
  have lA2 := Lib.hid (show A.length = n0 by rw [lA, hnk])
  have LZ : (zi (szs ks)).length = N := by rw [zi_len, szs_len, hN]
  obtain ⟨a3, q3, b3, o3, rfl, hk3, hm3, hx3, hc3⟩ := h3.opened
  have HC3 := Lib.hid hc3
  have HZ3 := Lib.hid (show ∀ i, i < zo.length → -9223372036854775808 ≤ gd zo i ∧ gd zo i ≤ 9223372036854775807 from fun i hi => hwo.get hi)
  rw [← hN] at hN0 hN3
  generalize phs (szs ks) cut N = ll at *
  clear h h2 h3 hT hs hw h64 hA hFA lA hnk hn LZ hwo hy hc3 lsz bA hb0 hc2
  have HN := Lib.hid hN
  clear hN
  go_enter Tryd.func8, Tryd.ntmps8
  go_wp2_with fail
  refine (pw_make _ _ L0.out).mono ?_
  rintro e w1 ⟨v1, rfl, ho, hb⟩
  have O1 := Lib.hid ho
  have X1 := Lib.hid (X0.out.below hb)
  have Y1 := Lib.hid (Y0.out.below hb)
  have T1 := Lib.hid (T0.out.below hb)
  have B1 := Lib.hid (B0.out.trans (hb.mono hs0))
  have hs1 := B1.out.size
  clear ho hb L0 X0 Y0 T0 B0
  go_wp2_with fail
  refine (pw_print _ _ O1.out).mono ?_
  rintro e w2 ⟨rfl, hb⟩
  have X2 := Lib.hid (X1.out.below hb)
  have Y2 := Lib.hid (Y1.out.below hb)
  have T2 := Lib.hid (T1.out.below hb)
  have B2 := Lib.hid (B1.out.trans (hb.mono hs1))
  have hs2 := B2.out.size
  clear hb O1 X1 Y1 T1 B1
  go_wp2_with fail
  refine (CS.out _ _ _ X2.out Y2.out).mono ?_
  rintro e w3 ⟨v3, rfl, ho, hb⟩
  have X3 := Lib.hid (X2.out.below hb)
  have T3 := Lib.hid (T2.out.below hb)
  have B3 := Lib.hid (B2.out.trans (hb.mono hs2))
  have hs3 := B3.out.size
  have A3 := Lib.hid (Oz.rd ho)
  clear ho hb X2 Y2 T2 B2 CS
  by_cases hz : 1 ≤ cut
  · clear CM1
    go_wp2_with fail
    refine (CM2.out hz _ _ X3.out).mono ?_
    rintro e w4 ⟨v4, rfl, ho, hb⟩
    have X4 := Lib.hid (X3.out.below hb)
    have A4 := Lib.hid (A3.out.below hb)
    have T4 := Lib.hid (T3.out.below hb)
    have B4 := Lib.hid (B3.out.trans (hb.mono hs3))
    have hs4 := B4.out.size
    have P4 := Lib.hid (OP.mono ho hs3)
    clear ho hb X3 A3 T3 B3 CM2
    go_wp2_with fail
    refine (C1.out _ _ _ X4.out A4.out T4.out).mono ?_
    rintro e w5 ⟨v5, rfl, ho, hb⟩
    have X5 := Lib.hid (X4.out.below hb)
    have A5 := Lib.hid (A4.out.below hb)
    have T5 := Lib.hid (T4.out.below hb)
    have P5 := Lib.hid (P4.out.below hb)
    have B5 := Lib.hid (B4.out.trans (hb.mono hs4))
    have hs5 := B5.out.size
    have W5 := Lib.hid ho.rd
    clear ho hb X4 A4 T4 B4 P4 C1
    go_wp2_with fail
    refine (C2.out _ _ _ X5.out A5.out T5.out).mono ?_
    rintro e w6 ⟨v6, rfl, ho, hb⟩
    have X6 := Lib.hid (X5.out.below hb)
    have A6 := Lib.hid (A5.out.below hb)
    have T6 := Lib.hid (T5.out.below hb)
    have P6 := Lib.hid (P5.out.below hb)
    have B6 := Lib.hid (B5.out.trans (hb.mono hs5))
    have hs6 := B6.out.size
    have W6 := Lib.hid ho.rd
    clear ho hb X5 A5 T5 B5 P5 C2
    obtain ⟨gP, cP, rfl, hcP1, hcP2⟩ := P6.out.opened (by rw [PL.out]; exact hN0)
    rw [PL.out] at hcP1 P6 ⊢
    go_wp2
    go_loopw [13, 19, 21, 22, 23, 24, 25, 75] (fun a k _ _ _ _ _ i wr => PwA w6 true ks A a k i wr) (fun _ _ _ _ _ _ _ i _ => N - (intOf i).toNat)
    case atStart => exact ⟨0, 0, by rw [← HN.out]; omega, rfl, rfl, by omega, by omega, by rw [A0.out]; exact A6.out, Below.refl _ _⟩
    case round =>
      obtain ⟨x, K0, hx1, rfl, rfl, hK0, hK1, hra, hbel⟩ := hrel
      rw [← HN.out] at hx1
      have BO := Lib.hid hbel
      have hso := hbel.size
      have RA0 := Lib.hid hra
      clear hbel hra
      by_cases hxN : x < N
      · obtain ⟨wo, hwo⟩ : ∃ wo : World, wo = wr := ⟨_, rfl⟩
        subst hwo
        obtain ⟨u, hcu, hou⟩ := OP.at P6.out (show x < ll.length by rw [PL.out]; exact hxN)
        rw [PP.out x hxN] at hou
        have cu := cell_below BO.out hcu
        have hou2 := Lib.hid (hou.below BO.out)
        obtain ⟨rpx, l1, l64⟩ := PG.out hz x hxN
        have PSx := PS.out hz x hxN
        have CDx := Lib.hid (CD.out x hxN)
        have PDx := Lib.hid (PD.out x hxN)
        have LO0 := Lib.hid (LeftOk.start rpx)
        generalize phT (szs ks) cut x = l at *
        obtain ⟨ua, uc, rfl, hu1, hu2, hu3⟩ := hou2.out.shape
        obtain ⟨ug, rfl⟩ := hu3 (by omega)
        have CL := Lib.hid (cloneP_any l _ _ hou2.out.rk (fun c e => by cases e) (by omega))
        clear hou hcu hou2 rpx
        go_wp2_with fail
        refine CL.out.mono ?_
        rintro e wc ⟨vc, rfl, hoc, hbc⟩
        obtain ⟨ca, cap, rfl, hc1, hcm, hc3⟩ := hoc.shape
        obtain ⟨g, rfl⟩ := hc3 (by omega)
        have OC := Lib.hid hoc
        have BC0 := Lib.hid hbc
        have hsc0 := hbc.size
        clear hoc hbc CL cu
        have RAc := Lib.hid (show Rd .u64 wc _ (pws true ks A x l) by rw [PSx]; exact RA0.out.below BC0.out)
        clear RA0 PSx
        go_wp2
        go_loopw [13, 19, 22, 23, 24, 25] (fun a k lf _ _ _ wi => PwB wo true ks A x (lnX (szs ks) x) g cap (K0 + l.length) a k lf wi) (fun _ _ lf _ _ _ _ => lenS lf)
        case atStart => exact ⟨l, K0.toNat, rfl, by congr 1; omega, by omega, LO0.out, RAc.out, OC.out, BC0.out⟩
        case round =>
          obtain ⟨left, K, rfl, rfl, hKT, hLO, hra, hot, hbel⟩ := hrel
          have LO := Lib.hid hLO
          have RA := Lib.hid hra
          have OT := Lib.hid hot
          have BC := Lib.hid hbel
          have hsc := hbel.size
          have BW := Lib.hid (BO.out.trans (hbel.mono hso))
          clear hLO hra hot hbel
          obtain ⟨n, hnl⟩ : ∃ n, n = left.length := ⟨_, rfl⟩
          rw [← hnl] at hKT OT ⊢
          have ewK : IntKind.i64.wrap ((K : Int) + 1) = ((K + 1 : Nat) : Int) := IntWalk.i64_in _ (by omega)
          by_cases hn0 : 0 < n
          · by_cases hko : K < zo.length
            · obtain rfl := hx3.resolve_left (by omega)
              have cz := cell_below (B6.out.trans (BW.out.mono hs6)) (HC3.out K hko)
              obtain ⟨z1, z2⟩ := HZ3.out K hko
              have RZ := Lib.hid (fun w => rest_any (gd zo K) (n : Int) w z1 z2 (by omega) (by omega))
              generalize gd zo K = zk at *
              have hm0 := Int.emod_nonneg zk (show (n : Int) ≠ 0 by omega)
              have hm1 := Int.emod_lt_of_pos zk (show (0 : Int) < (n : Int) by omega)
              obtain ⟨i, hi⟩ : ∃ i : Nat, zk % (n : Int) = (i : Int) := ⟨(zk % (n : Int)).toNat, by omega⟩
              rw [hi] at hm1 RZ
              have hin : i < n := by omega
              clear hm0 hm1 hi z1 z2
              obtain ⟨f, t, htg, hft, htl⟩ := LO.out.at (show i < left.length by omega)
              have LO2 := Lib.hid (LO.out.out (show i < left.length by omega))
              have CDi := Lib.hid (fun w v2 (h : Rd .i64 w v (zi (szs ks))) h2 hT => CDx.out left i f t (by omega) htg hft htl LO.out w _ v2 h h2 hT)
              obtain ⟨c0, c1, c2⟩ := Ot.cell OT.out (show i < left.length by omega)
              rw [htg] at c0 c1 c2
              simp only at c0 c1 c2
              have hll := Lib.hid (out_len (show i < left.length by omega))
              have DT := Lib.hid (fun B w h => delete_task B g n cap i left w h (by omega) hin hcm)
              generalize hL2 : left.take i ++ left.drop (i + 1) = left2 at *
              have ewI : IntKind.i64.wrap ((i : Int) + 1) = (i : Int) + 1 := IntWalk.i64_in _ (by omega)
              have HNL := Lib.hid hnl
              clear hL2 htg hft htl hnl
              go_wp2_with fail
              refine (RZ.out _).mono ?_
              rintro e w' ⟨rfl, rfl⟩
              clear RZ cz
              go_wp2_with fail
              refine (CDi.out _ _ (X6.out.below BW.out) RA.out (T6.out.below BW.out)).mono ?_
              rintro e w6 ⟨v6, rfl, ho6, hb6⟩
              have hs6 := hb6.size
              have R6 := Lib.hid ho6
              have OT6 := Lib.hid (OT.out.below hb6)
              have hg6 := OT.out.lt g rfl
              have B6 := Lib.hid (BC.out.trans (hb6.mono hsc))
              clear ho6 hb6 c0 c1 c2 CDi RA OT LO
              go_wp2_with fail
              refine (DT.out _ _ OT6.out (i : Int) (by first | rfl | simp)).mono ?_
              rintro e w7 ⟨rfl, ho7, hon7⟩
              have R7 := Lib.hid (R6.out.only hon7 (fun k e e2 => by have := R6.out.lt k e; omega)).rd
              have B7 := Lib.hid (B6.out.trans (hon7.below B6.out.size (fun k e => by omega)))
              have O7 := Lib.hid ho7
              clear ho7 hon7 R6 OT6 B6 DT
              go_wp2
              go_roundw
              case rel => exact ⟨left2, K + 1, by rw [hll.out, ← HNL.out], by go_num, by have := hll.out; have := HNL.out; omega, LO2.out, R7.out, by first | exact O7.out | (rw [hll.out, ← HNL.out]; exact O7.out), B7.out⟩
              case measure => simp [lenS] <;> omega
            · obtain ⟨i, hi⟩ : ∃ i : Nat, i = 0 := ⟨0, rfl⟩
              have hin : i < n := by omega
              obtain ⟨f, t, htg, hft, htl⟩ := LO.out.at (show i < left.length by omega)
              have LO2 := Lib.hid (LO.out.out (show i < left.length by omega))
              have CDi := Lib.hid (fun w v2 (h : Rd .i64 w v (zi (szs ks))) h2 hT => CDx.out left i f t (by omega) htg hft htl LO.out w _ v2 h h2 hT)
              obtain ⟨c0, c1, c2⟩ := Ot.cell OT.out (show i < left.length by omega)
              rw [htg] at c0 c1 c2
              simp only at c0 c1 c2
              have hll := Lib.hid (out_len (show i < left.length by omega))
              have DT := Lib.hid (fun B w h => delete_task B g n cap i left w h (by omega) hin hcm)
              generalize hL2 : left.take i ++ left.drop (i + 1) = left2 at *
              have ewI : IntKind.i64.wrap ((i : Int) + 1) = (i : Int) + 1 := IntWalk.i64_in _ (by omega)
              have HNL := Lib.hid hnl
              clear hL2 htg hft htl hnl
              subst hi
              simp only [Nat.zero_mul, Nat.zero_add] at c0 c1 c2
              go_wp2_with fail
              refine (CDi.out _ _ (X6.out.below BW.out) RA.out (T6.out.below BW.out)).mono ?_
              rintro e w6 ⟨v6, rfl, ho6, hb6⟩
              have hs6 := hb6.size
              have R6 := Lib.hid ho6
              have OT6 := Lib.hid (OT.out.below hb6)
              have hg6 := OT.out.lt g rfl
              have B6 := Lib.hid (BC.out.trans (hb6.mono hsc))
              clear ho6 hb6 c0 c1 c2 CDi RA OT LO
              go_wp2_with fail
              refine (DT.out _ _ OT6.out 0 (by first | rfl | simp)).mono ?_
              rintro e w7 ⟨rfl, ho7, hon7⟩
              have R7 := Lib.hid (R6.out.only hon7 (fun k e e2 => by have := R6.out.lt k e; omega)).rd
              have B7 := Lib.hid (B6.out.trans (hon7.below B6.out.size (fun k e => by omega)))
              have O7 := Lib.hid ho7
              clear ho7 hon7 R6 OT6 B6 DT
              go_wp2
              go_roundw
              case rel => exact ⟨left2, K + 1, by rw [hll.out, ← HNL.out], by go_num, by have := hll.out; have := HNL.out; omega, LO2.out, R7.out, by first | exact O7.out | (rw [hll.out, ← HNL.out]; exact O7.out), B7.out⟩
              case measure => simp [lenS] <;> omega
          · obtain rfl : n = 0 := by omega
            obtain rfl : left = [] := List.length_eq_zero_iff.1 hnl.symm
            rw [PDx.out] at RA
            have BX := Lib.hid BW.out
            clear BW BC OT LO hnl
            go_wp2
            go_roundw
            case rel => exact ⟨x + 1, K, by rw [← HN.out]; omega, by go_num, rfl, by omega, by omega, RA.out, BX.out⟩
            case measure => simp [intOf] <;> omega
      · obtain rfl : N = x := by omega
        rw [AN.out] at RA0
        have BE := Lib.hid (B6.out.trans (BO.out.mono hs6))
        have hsE := BE.out.size
        go_wp2_with fail
        refine (CK.out hz _ _ _ _ (X6.out.below BO.out) (P6.out.below BO.out)).mono ?_
        rintro e w8 ⟨rfl, hb⟩
        have B8 := Lib.hid (BE.out.trans (hb.mono hsE))
        have hs8 := B8.out.size
        have R8 := Lib.hid (RA0.out.below hb)
        have W8 := Lib.hid ((W6.out.below BO.out).below hb)
        clear hb
        go_wp2_with fail
        refine (equal_yes _ _ _ _ R8.out W8.out).mono ?_
        rintro e w9 ⟨rfl, hb⟩
        have B9 := Lib.hid (B8.out.trans (hb.mono hs8))
        clear hb
        go_wp2
        go_ret
        exact ⟨rfl, B9.out⟩
  · have hz1 : cut < 1 := by omega
    clear CM2
    go_wp2_with fail
    refine (CM1.out hz1 _ _ X3.out).mono ?_
    rintro e w4 ⟨v4, rfl, ho, hb⟩
    have B4 := Lib.hid (B3.out.trans (hb.mono hs3))
    clear ho hb
    go_wp2
    go_ret
    exact ⟨rfl, B4.out⟩
theorem wPlanWhole (zs zx zo : List Int) (cut : Int) (back : Bool) (v v2 v3 : Value) (w : World) (h : Rd .i64 w v zs) (h2 : Rd .u64 w v2 zx) (h3 : Rd .i64 w v3 zo) (hw : W64 zs) (hy : B64 zx) (hwo : W64 zo) (hc2 : cut ≤ 9223372036854775807) (hT : Tb w) :
    Calls Tryd.prog 8 #[v, v2, .int .i64 cut, v3, .bool back] w (RetV w (.bool true)) := by
  rcases shape_split zs with hn | ⟨ds, rfl, hs, h64⟩
  · exact pw_none zs zx zo cut back v v2 v3 w h hw hn
  · obtain ⟨ks, rfl, hk⟩ := shp_ks hs
    cases back
    · exact pw_some_false ks zx zo cut v v2 v3 w h h2 h3 hw hwo hc2 hs h64 hy hT
    · exact pw_some_true ks zx zo cut v v2 v3 w h h2 h3 hw hwo hc2 hs h64 hy hT
end Go.Proofs.YtcakeenfkdhedaaDoor.Gm
