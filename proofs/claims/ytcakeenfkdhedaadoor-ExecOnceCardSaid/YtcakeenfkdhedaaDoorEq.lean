/- The walk of the law ExecOnce. (Its lines are printed by wip/mk_XEq.py.) -/
import Derived.Test.YtcakeenfkdhedaaDoorEo
import Derived.Test.YtcakeenfkdhedaaDoorIx
import Derived.Test.YtcakeenfkdhedaaDoorRj
import Derived.Test.YtcakeenfkdhedaaDoorIp
namespace Go.Proofs.YtcakeenfkdhedaaDoor.Gm
open Go.RowKit
set_option linter.unusedVariables false
theorem eo_none (zs zx : List Int) (cut wk : Int) (v v2 v3 : Value) (w : World) (h : Rd .i64 w v zs) (hw : W64 zs) (hn : NoShape zs) (hT : Tb w) :
    Calls Tryd.prog 6 #[v, v2, .int .i64 cut, .int .i64 wk, v3] w (RetV w (.bool true)) := by
  have CR := Lib.hid (runs_any w hT)
  have CS := Lib.hid (fun w h => shaped_no zs zx v v2 w h hw hn)
  have X := Lib.hid h
  clear h hw hn hT
  go_enter Tryd.func6, Tryd.ntmps6
  go_wp2_with fail
  refine CR.out.mono ?_
  rintro e w1 ⟨rfl, hb⟩
  have X1 := Lib.hid (X.out.below hb)
  have B1 := Lib.hid hb
  have hs1 := hb.size
  clear hb
  go_wp2_with fail
  refine (CS.out _ X1.out).mono ?_
  rintro e w3 ⟨v3, rfl, ho, hb⟩
  have B3 := Lib.hid (B1.out.trans (hb.mono hs1))
  clear ho hb
  go_wp2
  go_ret
  exact ⟨rfl, B3.out⟩
def EoA (w : World) (r : Rn) (C : Nat → Prop) (s0 : RS) (lp : List (Int × Int)) (i : Value) (wr : World) : Prop :=
  ∃ (m : Nat) (M : Nat → Prop), m ≤ lp.length ∧ i = .int .i64 (m : Int) ∧ RunAt wr C M r (runP r.back r.ks r.W r.ll s0 (lp.take m)) ∧ (∀ k, M k → w.heap.size ≤ k) ∧ Below w.heap.size w wr
def EoB (w : World) (ll : List (List T3)) (ph left : Nat) (n i : Value) (wr : World) : Prop :=
  ∃ m : Nat, m ≤ ll.length ∧ i = .int .i64 (m : Int) ∧ n = .int .i64 (nS ll ph left m) ∧ Below w.heap.size w wr
set_option maxHeartbeats 4000000 in
set_option maxRecDepth 100000 in
theorem eo_some (ks : List Nat) (zx : List Int) (cut wk : Int) (lp : List (Int × Int)) (v v2 v3 : Value) (w : World) (h : Rd .i64 w v (zi (szs ks))) (h2 : Rd .u64 w v2 zx) (h3 : Rpi w v3 lp) (hw : W64 (zi (szs ks))) (hc2 : cut ≤ 9223372036854775807) (hk1 : -9223372036854775808 ≤ wk) (hk2 : wk ≤ 9223372036854775807) (hs : Shp (szs ks)) (h64 : pr (szs ks) ≤ 64) (hy : B64 zx) (hT : Tb w) :
    Calls Tryd.prog 6 #[v, v2, .int .i64 cut, .int .i64 wk, v3] w (RetV w (.bool true)) := by
  have X := Lib.hid h
  have Y := Lib.hid h2
  have TW := Lib.hid hT
  have CR := Lib.hid (runs_any w hT)
  have hN0 : 1 ≤ ks.length := by have := hs.len0; rwa [szs_len] at this
  have hN3 : ks.length ≤ 3 := by have := hs.len3; rwa [szs_len] at this
  obtain ⟨A, hA⟩ : ∃ A, A = siz zx (pr (szs ks)) := ⟨_, rfl⟩
  have lA : A.length = pk ks := by rw [hA, siz_len]; rfl
  have bA : B64 A := by rw [hA]; exact siz_64 hy _
  have HLA := Lib.hid lA
  have HBA := Lib.hid bA
  have HW := Lib.hid hw
  have H64 := Lib.hid (show pk ks ≤ 64 from h64)
  have CS := Lib.hid (fun w v v2 h h2 => by have := shaped_yes (szs ks) zx v v2 w h h2 hw hs h64; rwa [← hA] at this)
  have CM1 := Lib.hid (fun (hz : cut < 1) w v h => make_cut (szs ks) cut v w h hw hs hz)
  have CM2 := Lib.hid (fun (hz : 1 ≤ cut) w v h => make_gl ks cut v w h hw hs h64 hz hc2)
  have HGL := Lib.hid (fun (hz : 1 ≤ cut) => gl_phs (cut := cut) hs h64 hz)
  have HPL := Lib.hid (phs_len (szs ks) cut ks.length)
  have CRT := Lib.hid (fun w => rest_any wk 8 w hk1 hk2 (by omega) (by omega))
  obtain ⟨ρ, hρ⟩ : ∃ ρ : Nat, wk % 8 = (ρ : Int) := ⟨(wk % 8).toNat, by have := Int.emod_nonneg wk (show (8 : Int) ≠ 0 by omega); omega⟩
  have hρ8 : ρ < 8 := by have := Int.emod_lt_of_pos wk (show (0 : Int) < 8 by omega); omega
  rw [hρ] at CRT
  obtain ⟨a3, q3, b3, o3, rfl, hk3, hm3, hx3, hc3⟩ := h3
  have HC3 := Lib.hid hc3
  obtain ⟨np, hnp⟩ : ∃ n, n = lp.length := ⟨_, rfl⟩
  have HNP := Lib.hid hnp
  rw [← hnp] at hk3 hx3 ⊢
  generalize phs (szs ks) cut ks.length = ll at *
  clear h h2 hT hs hw h64 hA lA bA hy hc2 hk1 hk2 hρ hc3 hnp
  go_enter Tryd.func6, Tryd.ntmps6
  go_wp2_with fail
  refine CR.out.mono ?_
  rintro e w1 ⟨rfl, hb⟩
  have X1 := Lib.hid (X.out.below hb)
  have Y1 := Lib.hid (Y.out.below hb)
  have B1 := Lib.hid hb
  have hs1 := hb.size
  clear hb X Y CR
  go_wp2_with fail
  refine (CS.out _ _ _ X1.out Y1.out).mono ?_
  rintro e w3 ⟨v3, rfl, ho, hb⟩
  have X3 := Lib.hid (X1.out.below hb)
  have B3 := Lib.hid (B1.out.trans (hb.mono hs1))
  have hs3 := B3.out.size
  have A3 := Lib.hid (Oz.rd ho)
  clear ho hb X1 Y1 B1 CS
  by_cases hp300 : np ≤ 300
  rotate_left
  · have g1 : decide ((300 : Int) < (np : Int)) = true := decide_eq_true (by omega)
    have g2 : decide (300 < np) = true := decide_eq_true (by omega)
    go_wp2
    go_ret
    exact ⟨rfl, B3.out⟩
  have g1 : decide ((300 : Int) < (np : Int)) = false := decide_eq_false (by omega)
  have g2 : decide (300 < np) = false := decide_eq_false (by omega)
  by_cases hz : 1 ≤ cut
  rotate_left
  · go_wp2_with fail
    refine (CM1.out (by omega) _ _ X3.out).mono ?_
    rintro e w4 ⟨v4, rfl, ho, hb⟩
    have B4 := Lib.hid (B3.out.trans (hb.mono hs3))
    obtain ⟨_, _, rfl, _⟩ := ho.shape
    clear ho hb
    go_wp2
    go_ret
    exact ⟨rfl, B4.out⟩
  clear CM1
  have HG := Lib.hid (HGL.out hz)
  go_wp2_with fail
  refine (CM2.out hz _ _ X3.out).mono ?_
  rintro e w4 ⟨v4, rfl, ho, hb⟩
  have X4 := Lib.hid (X3.out.below hb)
  have A4 := Lib.hid (A3.out.below hb)
  have B4 := Lib.hid (B3.out.trans (hb.mono hs3))
  have hs4 := B4.out.size
  have P4 := Lib.hid ho
  obtain ⟨gP, cP, rfl, hcP1, hcP2⟩ := P4.out.opened (by rw [HPL.out]; exact hN0)
  rw [HPL.out] at hcP1 P4 ⊢
  clear ho hb X3 A3 B3 CM2 g1 g2

  go_wp2_with fail
  refine (CRT.out _).mono ?_
  rintro e w5 ⟨rfl, rfl⟩
  have eW : IntKind.i64.wrap ((1 : Int) + (ρ : Int)) = ((ρ + 1 : Nat) : Int) := IntWalk.i64_in _ (by omega) |>.trans (by omega)
  have eW2 := Lib.hid (show (ρ : Int) + 1 = ((ρ + 1 : Nat) : Int) by omega)
  have CN := Lib.hid (xnew_ok ks ll A (ρ + 1) false _ _ _ _ X4.out A4.out P4.out.rps HW.out HG.out HLA.out (by omega) (by omega))
  rw [← eW2.out] at CN
  go_wp2_with fail
  refine CN.out.mono ?_
  rintro e w6 ⟨r, C, M, rfl, hrun, hrW, hbk, hks, hll, hCM, hb⟩
  rw [eW2.out]
  obtain ⟨W, hWW⟩ : ∃ W, W = ρ + 1 := ⟨_, rfl⟩
  have hW1 : 1 ≤ W := by omega
  have hW8 : W ≤ 8 := by omega
  rw [← hWW] at hrW hrun ⊢
  clear eW eW2 CN CRT hWW
  clear hρ8
  have R6 := Lib.hid hrun
  have HRW := Lib.hid hrW
  have HBK := Lib.hid hbk
  have HKS := Lib.hid hks
  have HLL := Lib.hid hll
  have HM6 := Lib.hid (show ∀ k, M k → w4.heap.size ≤ k from fun k hk => hCM k (.inr hk))
  have B46 := Lib.hid hb
  have RI0 := Lib.hid (show RI r.back r.ks A r.W r.ll (st0 W ll A) from by
    rw [hrW, hbk, hks, hll]
    exact st0_inv HG.out HLA.out hW1 (by rw [HPL.out]; exact hN0))
  have HGr := Lib.hid (show GL r.ks r.ll by rw [hks, hll]; exact HG.out)
  have HLAr := Lib.hid (show A.length = pk r.ks by rw [hks]; exact HLA.out)
  have HWr := Lib.hid (show W64 (zi (szs r.ks)) by rw [hks]; exact HW.out)
  have TLT := Lib.hid (show 3 < w4.heap.size from World.block_lt_of_cell? w4 ⟨3, 0, none⟩ ((TW.out.below B4.out) 0 (by omega)))
  have T4 := Lib.hid (TW.out.below B4.out)
  have CST := Lib.hid (fun (wr : World) (s : RS) (M' : Nat → Prop) (p : Int × Int) (h : RunAt wr C M' r s) (hI : RI r.back r.ks A r.W r.ll s) (hb : Below w4.heap.size w4 wr) (hM : ∀ k, M' k → w4.heap.size ≤ k) =>
    xstep_any r s A C M' wr p h hI HGr.out HLAr.out HBA.out HWr.out (T4.out.below hb) (fun h => by have := hM _ h; have := TLT.out; omega) (by rw [HRW.out]; exact hW1) (by rw [HRW.out]; exact hW8))
  obtain ⟨R, hR⟩ : ∃ R, R = r.R := ⟨_, rfl⟩
  have HR := Lib.hid hR
  rw [← hR]
  have hs6 := hb.size
  clear hrun hrW hbk hks hll hCM hb hR

  go_wp2
  go_loopw [17, 18, 19, 20, 21, 22, 23, 24, 25, 63] (fun _ _ _ _ _ _ _ _ _ i wr => EoA w4 r C (st0 W ll A) lp i wr) (fun _ _ _ _ _ _ _ _ _ i _ => np - (intOf i).toNat)
  case atStart => exact ⟨0, M, by omega, rfl, R6.out, HM6.out, B46.out⟩
  case round =>
    obtain ⟨m, M2, hm, rfl, hrun, hM2, hb⟩ := hrel
    rw [← HNP.out] at hm
    have RW := Lib.hid hrun
    have MW := Lib.hid hM2
    have BW := Lib.hid hb
    have hsw := hb.size
    have IW := Lib.hid (runP_inv HGr.out HLAr.out (by rw [HRW.out]; exact hW1) (lp.take m) RI0.out)
    clear hrun hM2 hb
    by_cases hml : m < np
    · obtain rfl := hx3.resolve_left (by omega)
      obtain ⟨c0, c1⟩ := HC3.out m (by rw [← HNP.out]; exact hml)
      have hbw := B4.out.trans (BW.out.mono hs4)
      have c0 := (hbw.cell (p := ⟨b3, _, none⟩) (World.block_lt_of_cell? w _ c0)).trans c0
      have c1 := (hbw.cell (p := ⟨b3, _, none⟩) (World.block_lt_of_cell? w _ c1)).trans c1
      have hal := (Below.refl wr.heap.size wr).alloc (Nat.le_refl _) (.cells #[.int .i64 (kp lp m).1, .int .i64 (kp lp m).2] 43)
      have CS := Lib.hid (CST.out _ _ M2 (kp lp m) (RW.out.bel hal) IW.out (BW.out.trans (hal.mono hsw)) MW.out)
      have HTK := Lib.hid (take_kp (l := lp) (i := m) (by rw [← HNP.out]; exact hml))
      have HAL := Lib.hid hal
      clear hal hbw
      obtain ⟨s7, hs7⟩ : ∃ s7, s7 = stXP r.back r.ks r.W r.ll (runP r.back r.ks r.W r.ll (st0 W ll A) (lp.take m)) (kp lp m) := ⟨_, rfl⟩
      have I7 := Lib.hid (show RI r.back r.ks A r.W r.ll s7 from by rw [hs7]; exact stXP_inv HGr.out HLAr.out (by rw [HRW.out]; exact hW1) IW.out _)
      have HS7 := Lib.hid (show runP r.back r.ks r.W r.ll (st0 W ll A) (lp.take (m + 1)) = s7 from by rw [HTK.out, runP_snoc, hs7])
      rw [← HR.out, ← hs7] at CS
      clear hs7
      unfold pkv at CS
      generalize kp lp m = p at *
      obtain ⟨p1, p2⟩ := p
      simp only at c0 c1 CS
      go_wp2_with fail
      refine CS.out.mono ?_
      rintro e w7 ⟨rfl, M3, hrun, hO, hM⟩
      have hz7 : wr.heap.size ≤ (wr.alloc (.cells #[.int .i64 p1, .int .i64 p2] 43)).heap.size := HAL.out.size
      have R7 := Lib.hid hrun
      have M7 := Lib.hid (show ∀ k, M3 k → w4.heap.size ≤ k from fun k hk => by
        rcases hM k hk with h1 | h1
        · exact MW.out k h1
        · omega)
      have B7 := Lib.hid (BW.out.trans ((HAL.out.mono hsw).trans (hO.below (B := w4.heap.size) (by omega) (fun k hk => MW.out k hk))))
      have hs7 := B7.out.size
      clear hrun hO hM CS c0 c1 hz7 HAL HTK
      have CL := Lib.hid (xlog_any r s7 C M3 w7 R7.out (I7.out.log_le HGr.out))
      rw [← HR.out] at CL
      go_wp2_with fail
      refine CL.out.mono ?_
      rintro e w8 ⟨v8, rfl, ho, hb⟩
      have O8 := Lib.hid ho
      have R8 := Lib.hid (R7.out.bel hb)
      have B8 := Lib.hid (B7.out.trans (hb.mono hs7))
      have hs8 := B8.out.size
      obtain ⟨la, lc, L, rfl, hL, hLc, hLm, hLg⟩ := ho.shapeN
      have HL := Lib.hid hL
      clear ho hb CL B7 R7 hL
      have CF := Lib.hid (xleft_any r s7 C M3 w8 R8.out)
      rw [← HR.out] at CF
      go_wp2_with fail
      refine CF.out.mono ?_
      rintro e w9 ⟨rfl, hb⟩
      have O9 := Lib.hid (O8.out.below hb)
      have R9 := Lib.hid (R8.out.bel hb)
      have B9 := Lib.hid (B8.out.trans (hb.mono hs8))
      have hs9 := B9.out.size
      clear hb CF O8 R8 B8
      have HPH := Lib.hid (show s7.ph ≤ ks.length by rw [← HPL.out, ← HLL.out]; exact I7.out.ph)
      have HL64 := Lib.hid I7.out.left64
      have HCN := Lib.hid (show nS ll s7.ph s7.left ll.length = (s7.log.length : Int) by rw [← HLL.out]; exact I7.out.count)
      have HLA7 := Lib.hid (fun (i : Nat) (hi : i < s7.log.length) => I7.out.logAt HGr.out hi)
      have HL192 := Lib.hid (show L ≤ 1000000 by rw [HL.out]; exact I7.out.log_le HGr.out)
      obtain ⟨ph, hph⟩ : ∃ ph, ph = s7.ph := ⟨_, rfl⟩
      obtain ⟨left, hle⟩ : ∃ left, left = s7.left := ⟨_, rfl⟩
      rw [← hph, ← hle] at HCN ⊢
      rw [← hph] at HPH
      rw [← hle] at HL64
      have HPE := Lib.hid hph
      have HPD := Lib.hid (show decide (s7.ph = r.ll.length) = decide (ph = ks.length) from decide_eq_decide.2 (by rw [HLL.out, HPL.out, hph]))
      clear hph hle
      go_wp2
      go_loopw [21, 22, 23, 79] (fun n _ _ i wq => EoB w9 ll ph left n i wq) (fun _ _ _ i _ => ks.length - (intOf i).toNat)
      case atStart => exact ⟨0, by omega, rfl, rfl, Below.refl _ _⟩
      case round =>
        obtain ⟨k, hk, rfl, rfl, hb⟩ := hrel
        have BQ0 := Lib.hid hb
        have BQ := Lib.hid (B9.out.trans (hb.mono hs9))
        clear hb
        rw [HPL.out] at hk
        by_cases hkN : k < ks.length
        · obtain ⟨u, hcu, hou⟩ := OP.at P4.out (i := k) (by rw [HPL.out]; exact hkN)
          have cu := cell_below BQ.out hcu
          obtain ⟨ua, uc, un, rfl, hun, hu1, hu2, hu3⟩ := hou.shapeN
          have hle := HG.out.le k (by rw [HPL.out]; exact hkN)
          have hbd := nS_bd HG.out ph left k HL64.out (by rw [HPL.out]; omega)
          have hnS : nS ll ph left (k + 1) = if k < ph then nS ll ph left k + (un : Int) else if k = ph then nS ll ph left k + ((un : Int) - left) else nS ll ph left k := by rw [nS, hun]
          rw [← hun] at hle
          have hl64 := HL64.out
          generalize nS ll ph left k = z at *
          have HNS := Lib.hid hnS
          have e1 : IntKind.i64.wrap (z + (un : Int)) = z + (un : Int) := IntWalk.i64_in _ (by omega)
          have e2 : IntKind.i64.wrap ((un : Int) - (left : Int)) = (un : Int) - (left : Int) := IntWalk.i64_in _ (by omega)
          have e3 : IntKind.i64.wrap (z + ((un : Int) - (left : Int))) = z + ((un : Int) - (left : Int)) := IntWalk.i64_in _ (by omega)
          clear hou hcu hun hnS
          have h3 : k < ph ∨ k = ph ∨ ph < k := by omega
          rcases h3 with h3 | rfl | h3
          · have HE := Lib.hid (show nS ll ph left (k + 1) = z + (un : Int) by rw [HNS.out, if_pos h3])
            have g1 : decide ((k : Int) < (ph : Int)) = true := decide_eq_true (by omega)
            have g2 : decide (k < ph) = true := decide_eq_true h3
            go_wp2
            go_roundw
            case rel => exact ⟨k + 1, by rw [HPL.out]; omega, by go_num, by rw [HE.out], BQ0.out⟩
            case measure => simp [intOf] <;> omega
          · have HE := Lib.hid (show nS ll k left (k + 1) = z + ((un : Int) - left) by rw [HNS.out, if_neg (by omega), if_pos rfl])
            go_wp2
            go_roundw
            case rel => exact ⟨k + 1, by rw [HPL.out]; omega, by go_num, by rw [HE.out], BQ0.out⟩
            case measure => simp [intOf] <;> omega
          · have HE := Lib.hid (show nS ll ph left (k + 1) = z by rw [HNS.out, if_neg (by omega), if_neg (by omega)])
            have g1 : decide ((k : Int) < (ph : Int)) = false := decide_eq_false (by omega)
            have g2 : decide (k < ph) = false := decide_eq_false (by omega)
            have g3 : ((k : Int) == (ph : Int)) = false := by rw [Bool.eq_false_iff]; intro h; simp at h; omega
            go_wp2
            go_roundw
            case rel => exact ⟨k + 1, by rw [HPL.out]; omega, by go_num, by rw [HE.out], BQ0.out⟩
            case measure => simp [intOf] <;> omega
        · obtain rfl : ks.length = k := by omega
          have hcn := HCN.out
          rw [HPL.out, ← HL.out] at hcn
          rw [hcn]
          have R10 := Lib.hid (R9.out.bel BQ0.out)
          have O10 := Lib.hid (O9.out.below BQ0.out)
          have B10 := Lib.hid BQ.out
          have hs10 := B10.out.size
          clear hcn BQ BQ0 R9 O9 B9 hk hkN
          have CD := Lib.hid (xdone_any r s7 C M3 _ R10.out)
          rw [← HR.out, HPD.out] at CD
          have DD := Lib.hid (show ∀ b, b = decide (ph = ks.length) → (((ph : Int) == (ks.length : Int)) = b) from by
            rintro b rfl; rw [Bool.eq_iff_iff]; simp; omega)
          have DE := DD.out _ rfl
          generalize decide (ph = ks.length) = bD at *
          go_wp2_with fail
          refine CD.out.mono ?_
          rintro e w11 ⟨rfl, hb⟩
          have R11 := Lib.hid (R10.out.bel hb)
          have O11 := Lib.hid (O10.out.below hb)
          have B11 := Lib.hid (B10.out.trans (hb.mono hs10))
          have hs11 := B11.out.size
          clear hb CD R10 O10 B10
          go_wp2
          go_loopw [24, 25, 116] (fun _ _ i wq => CntB L w11 i wq) (fun _ _ i _ => L - (intOf i).toNat)
          case atStart => exact ⟨0, by omega, rfl, Below.refl _ _⟩
          case round =>
            obtain ⟨j, hj, rfl, hb⟩ := hrel
            by_cases hjL : j < L
            · obtain ⟨gl, rfl⟩ := hLg (by omega)
              have OW := Lib.hid (O11.out.below hb)
              have BZ := Lib.hid hb
              obtain ⟨c0, c1, c2⟩ := OW.out.cell (i := j) (by rw [← HL.out]; exact hjL)
              obtain ⟨hnm, hax, x, hx, hxe, hxm⟩ := HLA7.out j (by rw [← HL.out]; exact hjL)
              rw [HLL.out] at hx hxm
              rw [HPL.out] at hx
              obtain ⟨u, hcu, hou⟩ := OP.at P4.out (i := x) (by rw [HPL.out]; exact hx)
              have hbw := B11.out.trans (hb.mono hs11)
              have cu := cell_below hbw hcu
              have hour := (hou.below hbw).rk
              obtain ⟨ua, uc, un, rfl, hun, hu1, hu2, hu3⟩ := hou.shapeN
              have OU := Lib.hid hour
              have OT := Lib.hid (Ot.take OW.out j (by rw [← HL.out]; omega)).rk
              have HT := Lib.hid (show tg s7.log j = ((tg s7.log j).1, (tg s7.log j).2.1, (tg s7.log j).2.2) from rfl)
              have HNM := Lib.hid hnm
              have HXM := Lib.hid hxm
              have HAX := Lib.hid hax
              have HXE := Lib.hid hxe
              clear hbw hcu hou hour hun hnm hxm hax
              rw [hxe] at c0 HT
              generalize (tg s7.log j).2.1 = y1 at *
              generalize (tg s7.log j).2.2 = y2 at *
              rw [HT.out] at HNM HXM
              clear hxe hb
              have CT := Lib.hid (fun w (h : Rk w (.slice (some ⟨gl, 0, none⟩) j lc) (s7.log.take j)) => containsT_no (s7.log.take j) (x : Int) y1 y2 _ w h HNM.out)
              have CP := Lib.hid (fun w (h : Rk w (.slice ua un uc) (pg ll x)) => containsP_yes (pg ll x) (x : Int) y1 y2 _ w h HXM.out)
              by_cases hj0 : j = 0
              · subst hj0
                go_wp2
                have hal := (Below.refl wr.heap.size wr).alloc (Nat.le_refl _) (.cells #[.int .i64 (x : Int), .int .i64 y1, .int .i64 y2] 56)
                have KB := Blk.new wr 56 #[.int .i64 (x : Int), .int .i64 y1, .int .i64 y2]
                obtain ⟨w5, hw5⟩ : ∃ w5, w5 = wr.alloc (.cells #[.int .i64 (x : Int), .int .i64 y1, .int .i64 y2] 56) := ⟨_, rfl⟩
                obtain ⟨bb, hbb⟩ : ∃ bb, bb = wr.heap.size := ⟨_, rfl⟩
                have cu := (hal.cell (p := ⟨gP, x, none⟩) (World.block_lt_of_cell? wr ⟨gP, x, none⟩ cu)).trans cu
                have T5 := Lib.hid (OT.out.below hal)
                have U5 := Lib.hid (OU.out.below hal)
                have B5 := Lib.hid (BZ.out.trans (hal.mono BZ.out.size))
                rw [← hw5, ← hbb] at KB
                rw [← hw5] at cu T5 U5 B5
                rw [← hw5, ← hbb]
                have b0 : w5.cell? ⟨bb, 0, none⟩ = some (.int .i64 x) := KB.cell 0
                have b1 : w5.cell? ⟨bb, 1, none⟩ = some (.int .i64 y1) := KB.cell 1
                have b2 : w5.cell? ⟨bb, 2, none⟩ = some (.int .i64 y2) := KB.cell 2
                have lb := KB.lt
                have lu := World.block_lt_of_cell? w5 ⟨gP, x, none⟩ cu
                clear hal KB hw5 hbb
                refine wp_region_N [8, 10, 17, 23, 25, 26] [18, 27] (fun w' => w'.cell? ⟨bb, 0, none⟩ = some (.int .i64 x) ∧ w'.cell? ⟨bb, 1, none⟩ = some (.int .i64 y1) ∧ w'.cell? ⟨bb, 2, none⟩ = some (.int .i64 y2) ∧ w'.cell? ⟨gP, x, none⟩ = some (.slice ua un uc)) (by kernel_rfl) ?_
                have hS : w5.drew.cell? ⟨bb, 0, none⟩ = some (.int .i64 x) ∧ w5.drew.cell? ⟨bb, 1, none⟩ = some (.int .i64 y1) ∧ w5.drew.cell? ⟨bb, 2, none⟩ = some (.int .i64 y2) ∧ w5.drew.cell? ⟨gP, x, none⟩ = some (.slice ua un uc) := ⟨b0, b1, b2, cu⟩
                have BD := Lib.hid (B5.out.trans ((below_drewN (Below.refl w5.heap.size w5) 1).mono B5.out.size))
                have TD := Lib.hid (show Rk w5.drew _ _ from T5.out.below (below_drewN (Below.refl w5.heap.size w5) 1))
                have UD := Lib.hid (show Rk w5.drew _ _ from U5.out.below (below_drewN (Below.refl w5.heap.size w5) 1))
                clear T5 U5 B5
                refine wpN_pure (i := 0) (v := ?_) rfl (by kernel_rfl) (by kernel_rfl) (by kernel_rfl) (by kernel_rfl) (fun _ _ _ h => h) (Or.inl ⟨by rfl, ?_⟩) (fun _ => hS) ?_
                rotate_left
                · ((intro w' hw'; (try dsimp only at hw'); go_simp) <;> with_reducible rfl)
                simp only [Act.put, List.setIfInBounds_toArray, List.set_cons_zero, List.set_cons_succ]
                refine wpN_pure (i := 1) (v := ?_) rfl (by kernel_rfl) (by kernel_rfl) (by kernel_rfl) (by kernel_rfl) (fun _ _ _ h => h) (Or.inl ⟨by rfl, ?_⟩) (fun _ => hS) ?_
                rotate_left
                · ((intro w' hw'; (try dsimp only at hw'); go_simp) <;> with_reducible rfl)
                simp only [Act.put, List.setIfInBounds_toArray, List.set_cons_zero, List.set_cons_succ]
                refine wpN_pure (i := 2) (v := ?_) rfl (by kernel_rfl) (by kernel_rfl) (by kernel_rfl) (by kernel_rfl) (fun _ _ _ h => h) (Or.inl ⟨by rfl, ?_⟩) (fun _ => hS) ?_
                rotate_left
                · ((intro w' hw'; (try dsimp only at hw'); go_simp) <;> with_reducible rfl)
                simp only [Act.put, List.setIfInBounds_toArray, List.set_cons_zero, List.set_cons_succ]
                refine wpN_pure (i := 3) (v := undef) rfl (by kernel_rfl) (by kernel_rfl) (by kernel_rfl) (by kernel_rfl) (fun _ _ _ h => h) (Or.inr ⟨by rfl, rfl⟩) (fun _ => hS) ?_
                simp only [Act.put, List.setIfInBounds_toArray, List.set_cons_zero, List.set_cons_succ]
                refine wpN_pure (i := 4) (v := undef) rfl (by kernel_rfl) (by kernel_rfl) (by kernel_rfl) (by kernel_rfl) (fun _ _ _ h => h) (Or.inr ⟨by rfl, rfl⟩) (fun _ => hS) ?_
                simp only [Act.put, List.setIfInBounds_toArray, List.set_cons_zero, List.set_cons_succ]
                refine wpN_pure (i := 5) (v := undef) rfl (by kernel_rfl) (by kernel_rfl) (by kernel_rfl) (by kernel_rfl) (fun _ _ _ h => h) (Or.inr ⟨by rfl, rfl⟩) (fun _ => hS) ?_
                simp only [Act.put, List.setIfInBounds_toArray, List.set_cons_zero, List.set_cons_succ]
                refine wpN_pure (i := 6) (v := undef) rfl (by kernel_rfl) (by kernel_rfl) (by kernel_rfl) (by kernel_rfl) (fun _ _ _ h => h) (Or.inr ⟨by rfl, rfl⟩) (fun _ => hS) ?_
                simp only [Act.put, List.setIfInBounds_toArray, List.set_cons_zero, List.set_cons_succ]
                refine wpN_pure (i := 7) (v := undef) rfl (by kernel_rfl) (by kernel_rfl) (by kernel_rfl) (by kernel_rfl) (fun _ _ _ h => h) (Or.inr ⟨by rfl, rfl⟩) (fun _ => hS) ?_
                simp only [Act.put, List.setIfInBounds_toArray, List.set_cons_zero, List.set_cons_succ]
                refine wpN_pure (i := 8) (v := undef) rfl (by kernel_rfl) (by kernel_rfl) (by kernel_rfl) (by kernel_rfl) (fun _ _ _ h => h) (Or.inr ⟨by rfl, rfl⟩) (fun _ => hS) ?_
                simp only [Act.put, List.setIfInBounds_toArray, List.set_cons_zero, List.set_cons_succ]
                refine wpN_pure (i := 9) (v := undef) rfl (by kernel_rfl) (by kernel_rfl) (by kernel_rfl) (by kernel_rfl) (fun _ _ _ h => h) (Or.inr ⟨by rfl, rfl⟩) (fun _ => hS) ?_
                simp only [Act.put, List.setIfInBounds_toArray, List.set_cons_zero, List.set_cons_succ]
                refine wpN_pure (i := 10) (v := undef) rfl (by kernel_rfl) (by kernel_rfl) (by kernel_rfl) (by kernel_rfl) (fun _ _ _ h => h) (Or.inr ⟨by rfl, rfl⟩) (fun _ => hS) ?_
                simp only [Act.put, List.setIfInBounds_toArray, List.set_cons_zero, List.set_cons_succ]
                refine wpN_pure (i := 11) (v := undef) rfl (by kernel_rfl) (by kernel_rfl) (by kernel_rfl) (by kernel_rfl) (fun _ _ _ h => h) (Or.inr ⟨by rfl, rfl⟩) (fun _ => hS) ?_
                simp only [Act.put, List.setIfInBounds_toArray, List.set_cons_zero, List.set_cons_succ]
                refine wpN_pure (i := 12) (v := ?_) rfl (by kernel_rfl) (by kernel_rfl) (by kernel_rfl) (by kernel_rfl) (fun _ _ _ h => h) (Or.inl ⟨by rfl, ?_⟩) (fun _ => hS) ?_
                rotate_left
                · ((intro w' hw'; (try dsimp only at hw'); go_simp) <;> with_reducible rfl)
                simp only [Act.put, List.setIfInBounds_toArray, List.set_cons_zero, List.set_cons_succ]
                refine wpN_pure (i := 13) (v := ?_) rfl (by kernel_rfl) (by kernel_rfl) (by kernel_rfl) (by kernel_rfl) (fun _ _ _ h => h) (Or.inl ⟨by rfl, ?_⟩) (fun _ => hS) ?_
                rotate_left
                · ((intro w' hw'; (try dsimp only at hw'); go_simp) <;> with_reducible rfl)
                simp only [Act.put, List.setIfInBounds_toArray, List.set_cons_zero, List.set_cons_succ]
                refine wpN_pure (i := 14) (v := ?_) rfl (by kernel_rfl) (by kernel_rfl) (by kernel_rfl) (by kernel_rfl) (fun _ _ _ h => h) (Or.inl ⟨by rfl, ?_⟩) (fun _ => hS) ?_
                rotate_left
                · ((intro w' hw'; (try dsimp only at hw'); go_simp) <;> with_reducible rfl)
                simp only [Act.put, List.setIfInBounds_toArray, List.set_cons_zero, List.set_cons_succ]
                refine wpN_pure (i := 15) (v := ?_) rfl (by kernel_rfl) (by kernel_rfl) (by kernel_rfl) (by kernel_rfl) (fun _ _ _ h => h) (Or.inl ⟨by rfl, ?_⟩) (fun _ => hS) ?_
                rotate_left
                · ((intro w' hw'; (try dsimp only at hw'); go_simp) <;> with_reducible rfl)
                simp only [Act.put, List.setIfInBounds_toArray, List.set_cons_zero, List.set_cons_succ]
                refine wpN_pure (i := 16) (v := ?_) rfl (by kernel_rfl) (by kernel_rfl) (by kernel_rfl) (by kernel_rfl) (fun _ _ _ h => h) (Or.inl ⟨by rfl, ?_⟩) (fun _ => hS) ?_
                rotate_left
                · ((intro w' hw'; (try dsimp only at hw'); go_simp) <;> with_reducible rfl)
                simp only [Act.put, List.setIfInBounds_toArray, List.set_cons_zero, List.set_cons_succ]
                refine wpN_read (i := 17) (v := ?_) rfl (by kernel_rfl) (by kernel_rfl) (by kernel_rfl) (by kernel_rfl) (by kernel_rfl) (fun _ _ _ h => h) (Or.inl ⟨by rfl, ?_⟩) hS ?_
                rotate_left
                · ((intro w' hw'; (try dsimp only at hw'); go_simp) <;> with_reducible rfl)
                simp only [Act.put, List.setIfInBounds_toArray, List.set_cons_zero, List.set_cons_succ]
                refine wpN_oneSG (i := 18) rfl (by rfl) (by kernel_rfl) (fun K hK => ?_)
                go_simp
                refine (CT.out _ TD.out).mono ?_
                rintro e w6 ⟨rfl, hb6⟩
                have c0 := (hb6.cell (p := ⟨bb, 0, none⟩) lb).trans b0
                have c1 := (hb6.cell (p := ⟨bb, 1, none⟩) lb).trans b1
                have c2 := (hb6.cell (p := ⟨bb, 2, none⟩) lb).trans b2
                have cx := (hb6.cell (p := ⟨gP, x, none⟩) lu).trans cu
                have hS6 : w6.cell? ⟨bb, 0, none⟩ = some (.int .i64 x) ∧ w6.cell? ⟨bb, 1, none⟩ = some (.int .i64 y1) ∧ w6.cell? ⟨bb, 2, none⟩ = some (.int .i64 y2) ∧ w6.cell? ⟨gP, x, none⟩ = some (.slice ua un uc) := ⟨c0, c1, c2, cx⟩
                refine ⟨hS6, hK.out _ _ hS6 ?_⟩
                clear hK K hS b0 b1 b2 cu c0 c1 c2 cx
                have hS := hS6
                have U6 := Lib.hid (UD.out.below hb6)
                have B6 := Lib.hid (BD.out.trans (hb6.mono BD.out.size))
                clear hS6 hb6 TD UD BD CT
                refine wpN_pure (i := 19) (v := ?_) rfl (by kernel_rfl) (by kernel_rfl) (by kernel_rfl) (by kernel_rfl) (fun _ _ _ h => h) (Or.inl ⟨by rfl, ?_⟩) (fun _ => hS) ?_
                rotate_left
                · ((intro w' hw'; (try dsimp only at hw'); go_simp) <;> with_reducible rfl)
                simp only [Act.put, List.setIfInBounds_toArray, List.set_cons_zero, List.set_cons_succ]
                refine wpN_pure (i := 20) (v := ?_) rfl (by kernel_rfl) (by kernel_rfl) (by kernel_rfl) (by kernel_rfl) (fun _ _ _ h => h) (Or.inl ⟨by rfl, ?_⟩) (fun _ => hS) ?_
                rotate_left
                · ((intro w' hw'; (try dsimp only at hw'); go_simp) <;> with_reducible rfl)
                simp only [Act.put, List.setIfInBounds_toArray, List.set_cons_zero, List.set_cons_succ]
                refine wpN_pure (i := 21) (v := ?_) rfl (by kernel_rfl) (by kernel_rfl) (by kernel_rfl) (by kernel_rfl) (fun _ _ _ h => h) (Or.inl ⟨by rfl, ?_⟩) (fun _ => hS) ?_
                rotate_left
                · ((intro w' hw'; (try dsimp only at hw'); go_simp) <;> with_reducible rfl)
                simp only [Act.put, List.setIfInBounds_toArray, List.set_cons_zero, List.set_cons_succ]
                refine wpN_pure (i := 22) (v := ?_) rfl (by kernel_rfl) (by kernel_rfl) (by kernel_rfl) (by kernel_rfl) (fun _ _ _ h => h) (Or.inl ⟨by rfl, ?_⟩) (fun _ => hS) ?_
                rotate_left
                · ((intro w' hw'; (try dsimp only at hw'); go_simp) <;> with_reducible rfl)
                simp only [Act.put, List.setIfInBounds_toArray, List.set_cons_zero, List.set_cons_succ]
                refine wpN_read (i := 23) (v := ?_) rfl (by kernel_rfl) (by kernel_rfl) (by kernel_rfl) (by kernel_rfl) (by kernel_rfl) (fun _ _ _ h => h) (Or.inl ⟨by rfl, ?_⟩) hS ?_
                rotate_left
                · ((intro w' hw'; (try dsimp only at hw'); go_simp) <;> with_reducible rfl)
                simp only [Act.put, List.setIfInBounds_toArray, List.set_cons_zero, List.set_cons_succ]
                refine wpN_pure (i := 24) (v := ?_) rfl (by kernel_rfl) (by kernel_rfl) (by kernel_rfl) (by kernel_rfl) (fun _ _ _ h => h) (Or.inl ⟨by rfl, ?_⟩) (fun _ => hS) ?_
                rotate_left
                · ((intro w' hw'; (try dsimp only at hw'); go_simp) <;> with_reducible rfl)
                simp only [Act.put, List.setIfInBounds_toArray, List.set_cons_zero, List.set_cons_succ]
                refine wpN_read (i := 25) (v := ?_) rfl (by kernel_rfl) (by kernel_rfl) (by kernel_rfl) (by kernel_rfl) (by kernel_rfl) (fun _ _ _ h => h) (Or.inl ⟨by rfl, ?_⟩) hS ?_
                rotate_left
                · ((intro w' hw'; (try dsimp only at hw'); go_simp) <;> with_reducible rfl)
                simp only [Act.put, List.setIfInBounds_toArray, List.set_cons_zero, List.set_cons_succ]
                refine wpN_read (i := 26) (v := ?_) rfl (by kernel_rfl) (by kernel_rfl) (by kernel_rfl) (by kernel_rfl) (by kernel_rfl) (fun _ _ _ h => h) (Or.inl ⟨by rfl, ?_⟩) hS ?_
                rotate_left
                · ((intro w' hw'; (try dsimp only at hw'); go_simp) <;> with_reducible rfl)
                simp only [Act.put, List.setIfInBounds_toArray, List.set_cons_zero, List.set_cons_succ]
                refine wpN_oneG (i := 27) rfl (by rfl) (by kernel_rfl) (by kernel_rfl) (fun K hK => ?_)
                go_simp
                refine (CP.out _ U6.out).mono ?_
                rintro e w7 ⟨rfl, hb7⟩
                refine hK.out _ _ ?_
                clear hK K hS
                have B7 := Lib.hid (B6.out.trans (hb7.mono B6.out.size))
                clear hb7 B6 U6 CP
                refine wpN_pure (i := 28) (v := ?_) rfl (by kernel_rfl) (by kernel_rfl) (by kernel_rfl) (by kernel_rfl) (fun _ _ _ h => h) (Or.inl ⟨by rfl, ?_⟩) (fun h => Bool.noConfusion (h.symm.trans (show _ = false by kernel_rfl))) ?_
                rotate_left
                · ((intro w' hw'; (try dsimp only at hw'); go_simp) <;> with_reducible rfl)
                simp only [Act.put, List.setIfInBounds_toArray, List.set_cons_zero, List.set_cons_succ]
                refine wpN_pure (i := 29) (v := ?_) rfl (by kernel_rfl) (by kernel_rfl) (by kernel_rfl) (by kernel_rfl) (fun _ _ _ h => h) (Or.inl ⟨by rfl, ?_⟩) (fun h => Bool.noConfusion (h.symm.trans (show _ = false by kernel_rfl))) ?_
                rotate_left
                · ((intro w' hw'; (try dsimp only at hw'); go_simp) <;> with_reducible rfl)
                simp only [Act.put, List.setIfInBounds_toArray, List.set_cons_zero, List.set_cons_succ]
                refine wpN_done (by kernel_rfl) ?_
                go_wp2
                go_roundw
                case rel => exact ⟨1, by omega, rfl, B7.out⟩
                case measure => simp [intOf] <;> omega
              · obtain ⟨i, hi⟩ : ∃ i, i + 1 = j := ⟨j - 1, by omega⟩
                have hle := HAX.out i hi
                rw [HXE.out] at hle
                obtain ⟨d0, _, _⟩ := OW.out.cell (i := i) (by rw [← HL.out]; omega)
                generalize (tg s7.log i).1 = z0 at *
                have hiL : i < L := by omega
                have ej : IntKind.i64.wrap ((j : Int) - 1) = (i : Int) := by rw [← hi]; exact (IntWalk.i64_in _ (by have := HL192.out; omega)).trans (by omega)
                have hd : decide ((x : Int) < z0) = false := decide_eq_false (by omega)
                have hjp : 0 < j := by omega
                have hjc : j ≤ lc := by omega
                clear hi
                go_wp2
                have hal := (Below.refl wr.heap.size wr).alloc (Nat.le_refl _) (.cells #[.int .i64 (x : Int), .int .i64 y1, .int .i64 y2] 56)
                have KB := Blk.new wr 56 #[.int .i64 (x : Int), .int .i64 y1, .int .i64 y2]
                obtain ⟨w5, hw5⟩ : ∃ w5, w5 = wr.alloc (.cells #[.int .i64 (x : Int), .int .i64 y1, .int .i64 y2] 56) := ⟨_, rfl⟩
                obtain ⟨bb, hbb⟩ : ∃ bb, bb = wr.heap.size := ⟨_, rfl⟩
                have cu := (hal.cell (p := ⟨gP, x, none⟩) (World.block_lt_of_cell? wr ⟨gP, x, none⟩ cu)).trans cu
                have d0 := (hal.cell (p := ⟨gl, i * 3, none⟩) (World.block_lt_of_cell? wr ⟨gl, i * 3, none⟩ d0)).trans d0
                have T5 := Lib.hid (OT.out.below hal)
                have U5 := Lib.hid (OU.out.below hal)
                have B5 := Lib.hid (BZ.out.trans (hal.mono BZ.out.size))
                rw [← hw5, ← hbb] at KB
                rw [← hw5] at cu d0 T5 U5 B5
                rw [← hw5, ← hbb]
                have b0 : w5.cell? ⟨bb, 0, none⟩ = some (.int .i64 x) := KB.cell 0
                have b1 : w5.cell? ⟨bb, 1, none⟩ = some (.int .i64 y1) := KB.cell 1
                have b2 : w5.cell? ⟨bb, 2, none⟩ = some (.int .i64 y2) := KB.cell 2
                have lb := KB.lt
                have lu := World.block_lt_of_cell? w5 ⟨gP, x, none⟩ cu
                clear hal KB hw5 hbb
                refine wp_region_N [8, 10, 17, 23, 25, 26] [18, 27] (fun w' => w'.cell? ⟨bb, 0, none⟩ = some (.int .i64 x) ∧ w'.cell? ⟨bb, 1, none⟩ = some (.int .i64 y1) ∧ w'.cell? ⟨bb, 2, none⟩ = some (.int .i64 y2) ∧ w'.cell? ⟨gP, x, none⟩ = some (.slice ua un uc) ∧ w'.cell? ⟨gl, i * 3, none⟩ = some (.int .i64 z0)) (by kernel_rfl) ?_
                have hS : w5.drew.cell? ⟨bb, 0, none⟩ = some (.int .i64 x) ∧ w5.drew.cell? ⟨bb, 1, none⟩ = some (.int .i64 y1) ∧ w5.drew.cell? ⟨bb, 2, none⟩ = some (.int .i64 y2) ∧ w5.drew.cell? ⟨gP, x, none⟩ = some (.slice ua un uc) ∧ w5.drew.cell? ⟨gl, i * 3, none⟩ = some (.int .i64 z0) := ⟨b0, b1, b2, cu, d0⟩
                have BD := Lib.hid (B5.out.trans ((below_drewN (Below.refl w5.heap.size w5) 1).mono B5.out.size))
                have TD := Lib.hid (show Rk w5.drew _ _ from T5.out.below (below_drewN (Below.refl w5.heap.size w5) 1))
                have UD := Lib.hid (show Rk w5.drew _ _ from U5.out.below (below_drewN (Below.refl w5.heap.size w5) 1))
                clear T5 U5 B5
                refine wpN_pure (i := 0) (v := ?_) rfl (by kernel_rfl) (by kernel_rfl) (by kernel_rfl) (by kernel_rfl) (fun _ _ _ h => h) (Or.inl ⟨by rfl, ?_⟩) (fun _ => hS) ?_
                rotate_left
                · ((intro w' hw'; (try dsimp only at hw'); go_simp) <;> with_reducible rfl)
                simp only [Act.put, List.setIfInBounds_toArray, List.set_cons_zero, List.set_cons_succ]
                refine wpN_pure (i := 1) (v := ?_) rfl (by kernel_rfl) (by kernel_rfl) (by kernel_rfl) (by kernel_rfl) (fun _ _ _ h => h) (Or.inl ⟨by rfl, ?_⟩) (fun _ => hS) ?_
                rotate_left
                · ((intro w' hw'; (try dsimp only at hw'); go_simp) <;> with_reducible rfl)
                simp only [Act.put, List.setIfInBounds_toArray, List.set_cons_zero, List.set_cons_succ]
                refine wpN_pure (i := 2) (v := ?_) rfl (by kernel_rfl) (by kernel_rfl) (by kernel_rfl) (by kernel_rfl) (fun _ _ _ h => h) (Or.inl ⟨by rfl, ?_⟩) (fun _ => hS) ?_
                rotate_left
                · ((intro w' hw'; (try dsimp only at hw'); go_simp) <;> with_reducible rfl)
                simp only [Act.put, List.setIfInBounds_toArray, List.set_cons_zero, List.set_cons_succ]
                refine wpN_pure (i := 3) (v := ?_) rfl (by kernel_rfl) (by kernel_rfl) (by kernel_rfl) (by kernel_rfl) (fun _ _ _ h => h) (Or.inl ⟨by rfl, ?_⟩) (fun _ => hS) ?_
                rotate_left
                · ((intro w' hw'; (try dsimp only at hw'); go_simp) <;> with_reducible rfl)
                simp only [Act.put, List.setIfInBounds_toArray, List.set_cons_zero, List.set_cons_succ]
                refine wpN_pure (i := 4) (v := ?_) rfl (by kernel_rfl) (by kernel_rfl) (by kernel_rfl) (by kernel_rfl) (fun _ _ _ h => h) (Or.inl ⟨by rfl, ?_⟩) (fun _ => hS) ?_
                rotate_left
                · ((intro w' hw'; (try dsimp only at hw'); go_simp) <;> with_reducible rfl)
                simp only [Act.put, List.setIfInBounds_toArray, List.set_cons_zero, List.set_cons_succ]
                refine wpN_pure (i := 5) (v := ?_) rfl (by kernel_rfl) (by kernel_rfl) (by kernel_rfl) (by kernel_rfl) (fun _ _ _ h => h) (Or.inl ⟨by rfl, ?_⟩) (fun _ => hS) ?_
                rotate_left
                · ((intro w' hw'; (try dsimp only at hw'); go_simp) <;> with_reducible rfl)
                simp only [Act.put, List.setIfInBounds_toArray, List.set_cons_zero, List.set_cons_succ]
                refine wpN_pure (i := 6) (v := ?_) rfl (by kernel_rfl) (by kernel_rfl) (by kernel_rfl) (by kernel_rfl) (fun _ _ _ h => h) (Or.inl ⟨by rfl, ?_⟩) (fun _ => hS) ?_
                rotate_left
                · ((intro w' hw'; (try dsimp only at hw'); go_simp) <;> with_reducible rfl)
                simp only [Act.put, List.setIfInBounds_toArray, List.set_cons_zero, List.set_cons_succ]
                refine wpN_pure (i := 7) (v := ?_) rfl (by kernel_rfl) (by kernel_rfl) (by kernel_rfl) (by kernel_rfl) (fun _ _ _ h => h) (Or.inl ⟨by rfl, ?_⟩) (fun _ => hS) ?_
                rotate_left
                · ((intro w' hw'; (try dsimp only at hw'); go_simp) <;> with_reducible rfl)
                simp only [Act.put, List.setIfInBounds_toArray, List.set_cons_zero, List.set_cons_succ]
                refine wpN_read (i := 8) (v := ?_) rfl (by kernel_rfl) (by kernel_rfl) (by kernel_rfl) (by kernel_rfl) (by kernel_rfl) (fun _ _ _ h => h) (Or.inl ⟨by rfl, ?_⟩) hS ?_
                rotate_left
                · ((intro w' hw'; (try dsimp only at hw'); go_simp) <;> with_reducible rfl)
                simp only [Act.put, List.setIfInBounds_toArray, List.set_cons_zero, List.set_cons_succ]
                refine wpN_pure (i := 9) (v := ?_) rfl (by kernel_rfl) (by kernel_rfl) (by kernel_rfl) (by kernel_rfl) (fun _ _ _ h => h) (Or.inl ⟨by rfl, ?_⟩) (fun _ => hS) ?_
                rotate_left
                · ((intro w' hw'; (try dsimp only at hw'); go_simp) <;> with_reducible rfl)
                simp only [Act.put, List.setIfInBounds_toArray, List.set_cons_zero, List.set_cons_succ]
                refine wpN_read (i := 10) (v := ?_) rfl (by kernel_rfl) (by kernel_rfl) (by kernel_rfl) (by kernel_rfl) (by kernel_rfl) (fun _ _ _ h => h) (Or.inl ⟨by rfl, ?_⟩) hS ?_
                rotate_left
                · ((intro w' hw'; (try dsimp only at hw'); go_simp) <;> with_reducible rfl)
                simp only [Act.put, List.setIfInBounds_toArray, List.set_cons_zero, List.set_cons_succ]
                refine wpN_pure (i := 11) (v := ?_) rfl (by kernel_rfl) (by kernel_rfl) (by kernel_rfl) (by kernel_rfl) (fun _ _ _ h => h) (Or.inl ⟨by rfl, ?_⟩) (fun _ => hS) ?_
                rotate_left
                · ((intro w' hw'; (try dsimp only at hw'); go_simp) <;> with_reducible rfl)
                simp only [Act.put, List.setIfInBounds_toArray, List.set_cons_zero, List.set_cons_succ]
                refine wpN_pure (i := 12) (v := ?_) rfl (by kernel_rfl) (by kernel_rfl) (by kernel_rfl) (by kernel_rfl) (fun _ _ _ h => h) (Or.inl ⟨by rfl, ?_⟩) (fun _ => hS) ?_
                rotate_left
                · ((intro w' hw'; (try dsimp only at hw'); go_simp) <;> with_reducible rfl)
                simp only [Act.put, List.setIfInBounds_toArray, List.set_cons_zero, List.set_cons_succ]
                refine wpN_pure (i := 13) (v := ?_) rfl (by kernel_rfl) (by kernel_rfl) (by kernel_rfl) (by kernel_rfl) (fun _ _ _ h => h) (Or.inl ⟨by rfl, ?_⟩) (fun _ => hS) ?_
                rotate_left
                · ((intro w' hw'; (try dsimp only at hw'); go_simp) <;> with_reducible rfl)
                simp only [Act.put, List.setIfInBounds_toArray, List.set_cons_zero, List.set_cons_succ]
                refine wpN_pure (i := 14) (v := ?_) rfl (by kernel_rfl) (by kernel_rfl) (by kernel_rfl) (by kernel_rfl) (fun _ _ _ h => h) (Or.inl ⟨by rfl, ?_⟩) (fun _ => hS) ?_
                rotate_left
                · ((intro w' hw'; (try dsimp only at hw'); go_simp) <;> with_reducible rfl)
                simp only [Act.put, List.setIfInBounds_toArray, List.set_cons_zero, List.set_cons_succ]
                refine wpN_pure (i := 15) (v := ?_) rfl (by kernel_rfl) (by kernel_rfl) (by kernel_rfl) (by kernel_rfl) (fun _ _ _ h => h) (Or.inl ⟨by rfl, ?_⟩) (fun _ => hS) ?_
                rotate_left
                · ((intro w' hw'; (try dsimp only at hw'); go_simp) <;> with_reducible rfl)
                simp only [Act.put, List.setIfInBounds_toArray, List.set_cons_zero, List.set_cons_succ]
                refine wpN_pure (i := 16) (v := ?_) rfl (by kernel_rfl) (by kernel_rfl) (by kernel_rfl) (by kernel_rfl) (fun _ _ _ h => h) (Or.inl ⟨by rfl, ?_⟩) (fun _ => hS) ?_
                rotate_left
                · ((intro w' hw'; (try dsimp only at hw'); go_simp) <;> with_reducible rfl)
                simp only [Act.put, List.setIfInBounds_toArray, List.set_cons_zero, List.set_cons_succ]
                refine wpN_read (i := 17) (v := ?_) rfl (by kernel_rfl) (by kernel_rfl) (by kernel_rfl) (by kernel_rfl) (by kernel_rfl) (fun _ _ _ h => h) (Or.inl ⟨by rfl, ?_⟩) hS ?_
                rotate_left
                · ((intro w' hw'; (try dsimp only at hw'); go_simp) <;> with_reducible rfl)
                simp only [Act.put, List.setIfInBounds_toArray, List.set_cons_zero, List.set_cons_succ]
                refine wpN_oneSG (i := 18) rfl (by rfl) (by kernel_rfl) (fun K hK => ?_)
                go_simp
                refine (CT.out _ TD.out).mono ?_
                rintro e w6 ⟨rfl, hb6⟩
                have c0 := (hb6.cell (p := ⟨bb, 0, none⟩) lb).trans b0
                have c1 := (hb6.cell (p := ⟨bb, 1, none⟩) lb).trans b1
                have c2 := (hb6.cell (p := ⟨bb, 2, none⟩) lb).trans b2
                have cx := (hb6.cell (p := ⟨gP, x, none⟩) lu).trans cu
                have dx := (hb6.cell (p := ⟨gl, i * 3, none⟩) (World.block_lt_of_cell? w5 ⟨gl, i * 3, none⟩ d0)).trans d0
                have hS6 : w6.cell? ⟨bb, 0, none⟩ = some (.int .i64 x) ∧ w6.cell? ⟨bb, 1, none⟩ = some (.int .i64 y1) ∧ w6.cell? ⟨bb, 2, none⟩ = some (.int .i64 y2) ∧ w6.cell? ⟨gP, x, none⟩ = some (.slice ua un uc) ∧ w6.cell? ⟨gl, i * 3, none⟩ = some (.int .i64 z0) := ⟨c0, c1, c2, cx, dx⟩
                refine ⟨hS6, hK.out _ _ hS6 ?_⟩
                clear hK K hS b0 b1 b2 cu c0 c1 c2 cx d0 dx
                have hS := hS6
                have U6 := Lib.hid (UD.out.below hb6)
                have B6 := Lib.hid (BD.out.trans (hb6.mono BD.out.size))
                clear hS6 hb6 TD UD BD CT
                refine wpN_pure (i := 19) (v := ?_) rfl (by kernel_rfl) (by kernel_rfl) (by kernel_rfl) (by kernel_rfl) (fun _ _ _ h => h) (Or.inl ⟨by rfl, ?_⟩) (fun _ => hS) ?_
                rotate_left
                · ((intro w' hw'; (try dsimp only at hw'); go_simp) <;> with_reducible rfl)
                simp only [Act.put, List.setIfInBounds_toArray, List.set_cons_zero, List.set_cons_succ]
                refine wpN_pure (i := 20) (v := ?_) rfl (by kernel_rfl) (by kernel_rfl) (by kernel_rfl) (by kernel_rfl) (fun _ _ _ h => h) (Or.inl ⟨by rfl, ?_⟩) (fun _ => hS) ?_
                rotate_left
                · ((intro w' hw'; (try dsimp only at hw'); go_simp) <;> with_reducible rfl)
                simp only [Act.put, List.setIfInBounds_toArray, List.set_cons_zero, List.set_cons_succ]
                refine wpN_pure (i := 21) (v := ?_) rfl (by kernel_rfl) (by kernel_rfl) (by kernel_rfl) (by kernel_rfl) (fun _ _ _ h => h) (Or.inl ⟨by rfl, ?_⟩) (fun _ => hS) ?_
                rotate_left
                · ((intro w' hw'; (try dsimp only at hw'); go_simp) <;> with_reducible rfl)
                simp only [Act.put, List.setIfInBounds_toArray, List.set_cons_zero, List.set_cons_succ]
                refine wpN_pure (i := 22) (v := ?_) rfl (by kernel_rfl) (by kernel_rfl) (by kernel_rfl) (by kernel_rfl) (fun _ _ _ h => h) (Or.inl ⟨by rfl, ?_⟩) (fun _ => hS) ?_
                rotate_left
                · ((intro w' hw'; (try dsimp only at hw'); go_simp) <;> with_reducible rfl)
                simp only [Act.put, List.setIfInBounds_toArray, List.set_cons_zero, List.set_cons_succ]
                refine wpN_read (i := 23) (v := ?_) rfl (by kernel_rfl) (by kernel_rfl) (by kernel_rfl) (by kernel_rfl) (by kernel_rfl) (fun _ _ _ h => h) (Or.inl ⟨by rfl, ?_⟩) hS ?_
                rotate_left
                · ((intro w' hw'; (try dsimp only at hw'); go_simp) <;> with_reducible rfl)
                simp only [Act.put, List.setIfInBounds_toArray, List.set_cons_zero, List.set_cons_succ]
                refine wpN_pure (i := 24) (v := ?_) rfl (by kernel_rfl) (by kernel_rfl) (by kernel_rfl) (by kernel_rfl) (fun _ _ _ h => h) (Or.inl ⟨by rfl, ?_⟩) (fun _ => hS) ?_
                rotate_left
                · ((intro w' hw'; (try dsimp only at hw'); go_simp) <;> with_reducible rfl)
                simp only [Act.put, List.setIfInBounds_toArray, List.set_cons_zero, List.set_cons_succ]
                refine wpN_read (i := 25) (v := ?_) rfl (by kernel_rfl) (by kernel_rfl) (by kernel_rfl) (by kernel_rfl) (by kernel_rfl) (fun _ _ _ h => h) (Or.inl ⟨by rfl, ?_⟩) hS ?_
                rotate_left
                · ((intro w' hw'; (try dsimp only at hw'); go_simp) <;> with_reducible rfl)
                simp only [Act.put, List.setIfInBounds_toArray, List.set_cons_zero, List.set_cons_succ]
                refine wpN_read (i := 26) (v := ?_) rfl (by kernel_rfl) (by kernel_rfl) (by kernel_rfl) (by kernel_rfl) (by kernel_rfl) (fun _ _ _ h => h) (Or.inl ⟨by rfl, ?_⟩) hS ?_
                rotate_left
                · ((intro w' hw'; (try dsimp only at hw'); go_simp) <;> with_reducible rfl)
                simp only [Act.put, List.setIfInBounds_toArray, List.set_cons_zero, List.set_cons_succ]
                refine wpN_oneG (i := 27) rfl (by rfl) (by kernel_rfl) (by kernel_rfl) (fun K hK => ?_)
                go_simp
                refine (CP.out _ U6.out).mono ?_
                rintro e w7 ⟨rfl, hb7⟩
                refine hK.out _ _ ?_
                clear hK K hS
                have B7 := Lib.hid (B6.out.trans (hb7.mono B6.out.size))
                clear hb7 B6 U6 CP
                refine wpN_pure (i := 28) (v := ?_) rfl (by kernel_rfl) (by kernel_rfl) (by kernel_rfl) (by kernel_rfl) (fun _ _ _ h => h) (Or.inl ⟨by rfl, ?_⟩) (fun h => Bool.noConfusion (h.symm.trans (show _ = false by kernel_rfl))) ?_
                rotate_left
                · ((intro w' hw'; (try dsimp only at hw'); go_simp) <;> with_reducible rfl)
                simp only [Act.put, List.setIfInBounds_toArray, List.set_cons_zero, List.set_cons_succ]
                refine wpN_pure (i := 29) (v := ?_) rfl (by kernel_rfl) (by kernel_rfl) (by kernel_rfl) (by kernel_rfl) (fun _ _ _ h => h) (Or.inl ⟨by rfl, ?_⟩) (fun h => Bool.noConfusion (h.symm.trans (show _ = false by kernel_rfl))) ?_
                rotate_left
                · ((intro w' hw'; (try dsimp only at hw'); go_simp) <;> with_reducible rfl)
                simp only [Act.put, List.setIfInBounds_toArray, List.set_cons_zero, List.set_cons_succ]
                refine wpN_done (by kernel_rfl) ?_
                go_wp2
                go_roundw
                case rel => exact ⟨j + 1, by omega, by go_num, B7.out⟩
                case measure => simp [intOf] <;> omega
            · obtain rfl : L = j := by omega
              have RZ := Lib.hid (R11.out.bel hb)
              have BZ := Lib.hid (B11.out.trans (hb.mono hs11))
              clear hb
              go_wp2
              go_roundw
              case rel => exact ⟨m + 1, M3, by rw [← HNP.out]; omega, by go_num, by rw [HS7.out]; exact RZ.out, M7.out, BZ.out⟩
              case measure => simp [intOf] <;> omega
    · obtain rfl : np = m := by omega
      have BZ := Lib.hid (B4.out.trans (BW.out.mono hs4))
      go_wp2
      go_ret
      exact ⟨rfl, BZ.out⟩
theorem wExecOnce (zs zx : List Int) (cut wk : Int) (lp : List (Int × Int)) (v v2 v3 : Value) (w : World) (h : Rd .i64 w v zs) (h2 : Rd .u64 w v2 zx) (h3 : Rpi w v3 lp) (hw : W64 zs) (hy : B64 zx) (hc2 : cut ≤ 9223372036854775807) (hk1 : -9223372036854775808 ≤ wk) (hk2 : wk ≤ 9223372036854775807) (hT : Tb w) :
    Calls Tryd.prog 6 #[v, v2, .int .i64 cut, .int .i64 wk, v3] w (RetV w (.bool true)) := by
  rcases shape_split zs with hn | ⟨ds, rfl, hs, h64⟩
  · exact eo_none zs zx cut wk v v2 v3 w h hw hn hT
  · obtain ⟨ks, rfl, hk⟩ := shp_ks hs
    exact eo_some ks zx cut wk lp v v2 v3 w h h2 h3 hw hc2 hk1 hk2 hs h64 hy hT
end Go.Proofs.YtcakeenfkdhedaaDoor.Gm
