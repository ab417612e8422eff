/- The walk of the law ExecEnds. (Its lines are printed by wip/mk_XEe.py.) -/
import Derived.Test.YtcakeenfkdhedaaDoorEg
import Derived.Test.YtcakeenfkdhedaaDoorIp
namespace Go.Proofs.YtcakeenfkdhedaaDoor.Gm
open Go.RowKit
set_option linter.unusedVariables false
theorem ee_none (zs zx : List Int) (cut wk : Int) (back : Bool) (v v2 v3 : Value) (w : World) (h : Rd .i64 w v zs) (hw : W64 zs) (hn : NoShape zs) (hT : Tb w) :
    Calls Tryd.prog 7 #[v, v2, .int .i64 cut, .int .i64 wk, .bool back, v3] w (RetV w (.bool true)) := by
  have CR := Lib.hid (runs_any w hT)
  have CS := Lib.hid (fun w h => shaped_no zs zx v v2 w h hw hn)
  have X := Lib.hid h
  clear h hw hn hT
  go_enter Tryd.func7, Tryd.ntmps7
  go_wp2_with fail
  refine CR.out.mono ?_
  rintro e w1 ⟨rfl, hb⟩
  have X1 := Lib.hid (X.out.below hb)
  have B1 := Lib.hid hb
  have hs1 := hb.size
  clear hb
  go_wp2_with fail
  refine (CS.out _ X1.out).mono ?_
  rintro e w3 ⟨v3, rfl, ho, hb⟩
  have B3 := Lib.hid (B1.out.trans (hb.mono hs1))
  clear ho hb
  go_wp2
  go_ret
  exact ⟨rfl, B3.out⟩
def EeA (w : World) (r : Rn) (C : Nat → Prop) (s0 : RS) (lp : List (Int × Int)) (i : Value) (wr : World) : Prop :=
  ∃ (m : Nat) (M : Nat → Prop), m ≤ lp.length ∧ i = .int .i64 (m : Int) ∧ RunAt wr C M r (runP r.back r.ks r.W r.ll s0 (lp.take m)) ∧ (∀ k, M k → w.heap.size ≤ k) ∧ Below w.heap.size w wr
def EeB (w : World) (ll : List (List T3)) (n i : Value) (wr : World) : Prop :=
  ∃ m : Nat, m ≤ ll.length ∧ i = .int .i64 (m : Int) ∧ n = .int .i64 ((ll.take m).flatten.length : Int) ∧ Below w.heap.size w wr
def EeC (w : World) (r : Rn) (C : Nat → Prop) (zs : List Int) (n : Nat) (i : Value) (wr : World) : Prop :=
  ∃ (m : Nat) (s : RS) (M : Nat → Prop), m ≤ n ∧ i = .int .i64 (m : Int) ∧ RunAt wr C M r s ∧ RI r.back r.ks zs r.W r.ll s ∧ remS r.ll s + m ≤ n ∧ (∀ k, M k → w.heap.size ≤ k) ∧ Below w.heap.size w wr
def EeD (w : World) (r : Rn) (C : Nat → Prop) (s : RS) (W : Nat) (i : Value) (wr : World) : Prop :=
  ∃ (m : Nat) (M : Nat → Prop), m ≤ W ∧ i = .int .i64 (m : Int) ∧ RunAt wr C M r (runP r.back r.ks r.W r.ll s (rnd W m)) ∧ (∀ k, M k → w.heap.size ≤ k) ∧ Below w.heap.size w wr
set_option maxHeartbeats 4000000 in
set_option maxRecDepth 100000 in
theorem ee_some_false (ks : List Nat) (zx : List Int) (cut wk : Int) (lp : List (Int × Int)) (v v2 v3 : Value) (w : World) (h : Rd .i64 w v (zi (szs ks))) (h2 : Rd .u64 w v2 zx) (h3 : Rpi w v3 lp) (hw : W64 (zi (szs ks))) (hc2 : cut ≤ 9223372036854775807) (hk1 : -9223372036854775808 ≤ wk) (hk2 : wk ≤ 9223372036854775807) (hs : Shp (szs ks)) (h64 : pr (szs ks) ≤ 64) (hy : B64 zx) (hT : Tb w) :
    Calls Tryd.prog 7 #[v, v2, .int .i64 cut, .int .i64 wk, .bool false, v3] w (RetV w (.bool true)) := by
  have X := Lib.hid h
  have Y := Lib.hid h2
  have TW := Lib.hid hT
  have CR := Lib.hid (runs_any w hT)
  have hN0 : 1 ≤ ks.length := by have := hs.len0; rwa [szs_len] at this
  have hN3 : ks.length ≤ 3 := by have := hs.len3; rwa [szs_len] at this
  obtain ⟨A, hA⟩ : ∃ A, A = siz zx (pr (szs ks)) := ⟨_, rfl⟩
  have lA : A.length = pk ks := by rw [hA, siz_len]; rfl
  have bA : B64 A := by rw [hA]; exact siz_64 hy _
  have HLA := Lib.hid lA
  have HBA := Lib.hid bA
  have HW := Lib.hid hw
  have H64 := Lib.hid (show pk ks ≤ 64 from h64)
  have CS := Lib.hid (fun w v v2 h h2 => by have := shaped_yes (szs ks) zx v v2 w h h2 hw hs h64; rwa [← hA] at this)
  have CM1 := Lib.hid (fun (hz : cut < 1) w v h => make_cut (szs ks) cut v w h hw hs hz)
  have CM2 := Lib.hid (fun (hz : 1 ≤ cut) w v h => make_gl ks cut v w h hw hs h64 hz hc2)
  have HGL := Lib.hid (fun (hz : 1 ≤ cut) => gl_phs (cut := cut) hs h64 hz)
  have HPL := Lib.hid (phs_len (szs ks) cut ks.length)
  have CRT := Lib.hid (fun w => rest_any wk 8 w hk1 hk2 (by omega) (by omega))
  obtain ⟨ρ, hρ⟩ : ∃ ρ : Nat, wk % 8 = (ρ : Int) := ⟨(wk % 8).toNat, by have := Int.emod_nonneg wk (show (8 : Int) ≠ 0 by omega); omega⟩
  have hρ8 : ρ < 8 := by have := Int.emod_lt_of_pos wk (show (0 : Int) < 8 by omega); omega
  rw [hρ] at CRT
  obtain ⟨a3, q3, b3, o3, rfl, hk3, hm3, hx3, hc3⟩ := h3
  have HC3 := Lib.hid hc3
  obtain ⟨np, hnp⟩ : ∃ n, n = lp.length := ⟨_, rfl⟩
  have HNP := Lib.hid hnp
  rw [← hnp] at hk3 hx3 ⊢
  obtain ⟨FA, hFA⟩ : ∃ l, l = A.map toF := ⟨_, rfl⟩
  have C1 := Lib.hid (fun w v v2 h h2 hT => by have := fwd_of (all_ok ks A false v v2 w h h2 hw hs bA lA hT); rwa [← hFA] at this)
  have AN := Lib.hid (show alT false ks A ks.length = (WL false ks FA).map vl by rw [hFA]; exact alT_whole hN0)
  generalize phs (szs ks) cut ks.length = ll at *
  clear h h2 hT hs hw h64 hA lA bA hy hc2 hk1 hk2 hρ hc3 hnp hFA
  go_enter Tryd.func7, Tryd.ntmps7
  go_wp2_with fail
  refine CR.out.mono ?_
  rintro e w1 ⟨rfl, hb⟩
  have X1 := Lib.hid (X.out.below hb)
  have Y1 := Lib.hid (Y.out.below hb)
  have B1 := Lib.hid hb
  have hs1 := hb.size
  clear hb X Y CR
  go_wp2_with fail
  refine (CS.out _ _ _ X1.out Y1.out).mono ?_
  rintro e w3 ⟨v3, rfl, ho, hb⟩
  have X3 := Lib.hid (X1.out.below hb)
  have B3 := Lib.hid (B1.out.trans (hb.mono hs1))
  have hs3 := B3.out.size
  have A3 := Lib.hid (Oz.rd ho)
  clear ho hb X1 Y1 B1 CS
  by_cases hp300 : np ≤ 300
  rotate_left
  · have g1 : decide ((300 : Int) < (np : Int)) = true := decide_eq_true (by omega)
    have g2 : decide (300 < np) = true := decide_eq_true (by omega)
    go_wp2
    go_ret
    exact ⟨rfl, B3.out⟩
  have g1 : decide ((300 : Int) < (np : Int)) = false := decide_eq_false (by omega)
  have g2 : decide (300 < np) = false := decide_eq_false (by omega)
  by_cases hz : 1 ≤ cut
  rotate_left
  · go_wp2_with fail
    refine (CM1.out (by omega) _ _ X3.out).mono ?_
    rintro e w4 ⟨v4, rfl, ho, hb⟩
    have B4 := Lib.hid (B3.out.trans (hb.mono hs3))
    obtain ⟨_, _, rfl, _⟩ := ho.shape
    clear ho hb
    go_wp2
    go_ret
    exact ⟨rfl, B4.out⟩
  clear CM1
  have HG := Lib.hid (HGL.out hz)
  go_wp2_with fail
  refine (CM2.out hz _ _ X3.out).mono ?_
  rintro e w4 ⟨v4, rfl, ho, hb⟩
  have X4 := Lib.hid (X3.out.below hb)
  have A4 := Lib.hid (A3.out.below hb)
  have B4 := Lib.hid (B3.out.trans (hb.mono hs3))
  have hs4 := B4.out.size
  have P4 := Lib.hid ho
  obtain ⟨gP, cP, rfl, hcP1, hcP2⟩ := P4.out.opened (by rw [HPL.out]; exact hN0)
  rw [HPL.out] at hcP1 P4 ⊢
  clear ho hb X3 A3 B3 CM2 g1 g2

  go_wp2_with fail
  refine (CRT.out _).mono ?_
  rintro e w5 ⟨rfl, rfl⟩
  have eW : IntKind.i64.wrap ((1 : Int) + (ρ : Int)) = ((ρ + 1 : Nat) : Int) := IntWalk.i64_in _ (by omega) |>.trans (by omega)
  have eW2 := Lib.hid (show (ρ : Int) + 1 = ((ρ + 1 : Nat) : Int) by omega)
  have CN := Lib.hid (xnew_ok ks ll A (ρ + 1) false _ _ _ _ X4.out A4.out P4.out.rps HW.out HG.out HLA.out (by omega) (by omega))
  rw [← eW2.out] at CN
  go_wp2_with fail
  refine CN.out.mono ?_
  rintro e w6 ⟨r, C, M, rfl, hrun, hrW, hbk, hks, hll, hCM, hb⟩
  rw [eW2.out]
  obtain ⟨W, hWW⟩ : ∃ W, W = ρ + 1 := ⟨_, rfl⟩
  have hW1 : 1 ≤ W := by omega
  have hW8 : W ≤ 8 := by omega
  rw [← hWW] at hrW hrun ⊢
  clear eW eW2 CN CRT hWW
  clear hρ8
  have R6 := Lib.hid hrun
  have HRW := Lib.hid hrW
  have HBK := Lib.hid hbk
  have HKS := Lib.hid hks
  have HLL := Lib.hid hll
  have HM6 := Lib.hid (show ∀ k, M k → w4.heap.size ≤ k from fun k hk => hCM k (.inr hk))
  have B46 := Lib.hid hb
  have RI0 := Lib.hid (show RI r.back r.ks A r.W r.ll (st0 W ll A) from by
    rw [hrW, hbk, hks, hll]
    exact st0_inv HG.out HLA.out hW1 (by rw [HPL.out]; exact hN0))
  have HGr := Lib.hid (show GL r.ks r.ll by rw [hks, hll]; exact HG.out)
  have HLAr := Lib.hid (show A.length = pk r.ks by rw [hks]; exact HLA.out)
  have HWr := Lib.hid (show W64 (zi (szs r.ks)) by rw [hks]; exact HW.out)
  have TLT := Lib.hid (show 3 < w4.heap.size from World.block_lt_of_cell? w4 ⟨3, 0, none⟩ ((TW.out.below B4.out) 0 (by omega)))
  have T4 := Lib.hid (TW.out.below B4.out)
  have CST := Lib.hid (fun (wr : World) (s : RS) (M' : Nat → Prop) (p : Int × Int) (h : RunAt wr C M' r s) (hI : RI r.back r.ks A r.W r.ll s) (hb : Below w4.heap.size w4 wr) (hM : ∀ k, M' k → w4.heap.size ≤ k) =>
    xstep_any r s A C M' wr p h hI HGr.out HLAr.out HBA.out HWr.out (T4.out.below hb) (fun h => by have := hM _ h; have := TLT.out; omega) (by rw [HRW.out]; exact hW1) (by rw [HRW.out]; exact hW8))
  obtain ⟨R, hR⟩ : ∃ R, R = r.R := ⟨_, rfl⟩
  have HR := Lib.hid hR
  rw [← hR]
  have hs6 := hb.size
  clear hrun hrW hbk hks hll hCM hb hR

  go_wp2
  go_loopw [20, 66] (fun _ i wr => EeA w4 r C (st0 W ll A) lp i wr) (fun _ i _ => np - (intOf i).toNat)
  case atStart => exact ⟨0, M, by omega, rfl, R6.out, HM6.out, B46.out⟩
  case round =>
    obtain ⟨m, M2, hm, rfl, hrun, hM2, hb⟩ := hrel
    rw [← HNP.out] at hm
    have RW := Lib.hid hrun
    have MW := Lib.hid hM2
    have BW := Lib.hid hb
    have hsw := hb.size
    have IW := Lib.hid (runP_inv HGr.out HLAr.out (by rw [HRW.out]; exact hW1) (lp.take m) RI0.out)
    clear hrun hM2 hb
    by_cases hml : m < np
    · obtain rfl := hx3.resolve_left (by omega)
      obtain ⟨c0, c1⟩ := HC3.out m (by rw [← HNP.out]; exact hml)
      have hbw := B4.out.trans (BW.out.mono hs4)
      have c0 := (hbw.cell (p := ⟨b3, _, none⟩) (World.block_lt_of_cell? w _ c0)).trans c0
      have c1 := (hbw.cell (p := ⟨b3, _, none⟩) (World.block_lt_of_cell? w _ c1)).trans c1
      have hal := (Below.refl wr.heap.size wr).alloc (Nat.le_refl _) (.cells #[.int .i64 (kp lp m).1, .int .i64 (kp lp m).2] 43)
      have CS := Lib.hid (CST.out _ _ M2 (kp lp m) (RW.out.bel hal) IW.out (BW.out.trans (hal.mono hsw)) MW.out)
      have HTK := Lib.hid (take_kp (l := lp) (i := m) (by rw [← HNP.out]; exact hml))
      have HAL := Lib.hid hal
      clear hal hbw
      rw [← HR.out] at CS
      unfold pkv at CS
      generalize kp lp m = p at *
      obtain ⟨p1, p2⟩ := p
      simp only at c0 c1 CS
      go_wp2_with fail
      refine CS.out.mono ?_
      rintro e w7 ⟨rfl, M3, hrun, hO, hM⟩
      have hz7 : wr.heap.size ≤ (wr.alloc (.cells #[.int .i64 p1, .int .i64 p2] 43)).heap.size := HAL.out.size
      have R7 := Lib.hid hrun
      have M7 := Lib.hid (show ∀ k, M3 k → w4.heap.size ≤ k from fun k hk => by
        rcases hM k hk with h1 | h1
        · exact MW.out k h1
        · omega)
      have B7 := Lib.hid (BW.out.trans ((HAL.out.mono hsw).trans (hO.below (B := w4.heap.size) (by omega) (fun k hk => MW.out k hk))))
      clear hrun hO hM CS c0 c1
      go_wp2
      go_roundw
      case rel => exact ⟨m + 1, M3, by rw [← HNP.out]; omega, by go_num, by rw [HTK.out, runP_snoc]; exact R7.out, M7.out, B7.out⟩
      case measure => simp [intOf] <;> omega
    · obtain rfl : np = m := by omega
      have htk : lp.take np = lp := by rw [HNP.out]; exact List.take_length
      rw [htk] at RW IW
      obtain ⟨s1, hs1e⟩ : ∃ s1, s1 = runP r.back r.ks r.W r.ll (st0 W ll A) lp := ⟨_, rfl⟩
      have hrm : remS r.ll s1 ≤ ll.flatten.length := by
        rw [hs1e]
        have h1 := rem_le HGr.out HLAr.out (by rw [HRW.out]; exact hW1) lp RI0.out
        rw [HLL.out, rem_st0 _ _ _ (by rw [HPL.out]; exact hN0)] at h1
        rw [HLL.out]
        exact h1
      rw [← hs1e] at RW IW
      have HRM := Lib.hid hrm
      clear htk hs1e hrm HC3 hml HNP hx3 hk3 hm3
      have hN1 : ks.length ≤ ks.length := Nat.le_refl _
      go_wp2
      go_loopw [21, 23, 76] (fun n _ i wq => EeB wr ll n i wq) (fun _ _ i _ => ks.length - (intOf i).toNat)
      case atStart => exact ⟨0, by omega, rfl, rfl, Below.refl _ _⟩
      case round =>
        obtain ⟨k, hk, rfl, rfl, hb⟩ := hrel
        have BQ0 := Lib.hid hb
        have BQ := Lib.hid (BW.out.trans (hb.mono hsw))
        clear hb
        rw [HPL.out] at hk
        by_cases hkN : k < ks.length
        · obtain ⟨u, hcu, hou⟩ := OP.at P4.out (i := k) (by rw [HPL.out]; exact hkN)
          have cu := cell_below BQ.out hcu
          obtain ⟨ua, uc, un, rfl, hun, hu1, hu2, hu3⟩ := hou.shapeN
          have hfl := flat_take (ll := ll) (i := k) (by rw [HPL.out]; exact hkN)
          have hf2 := HG.out.flat k
          have hle := HG.out.le k (by rw [HPL.out]; exact hkN)
          rw [← hun] at hfl hle
          obtain ⟨f, hf⟩ : ∃ f, f = (ll.take k).flatten.length := ⟨_, rfl⟩
          rw [← hf] at hfl hf2 ⊢
          have HFL := Lib.hid hfl
          have ew : IntKind.i64.wrap ((f : Int) + (un : Int)) = ((f + un : Nat) : Int) := IntWalk.i64_in _ (by omega) |>.trans (by omega)
          clear hou hcu hfl hun hf
          go_wp2
          go_roundw
          case rel => exact ⟨k + 1, by rw [HPL.out]; omega, by go_num, by rw [HFL.out]; go_num, BQ0.out⟩
          case measure => simp [intOf] <;> omega
        · obtain rfl : ks.length = k := by omega
          have htk : ll.take ks.length = ll := List.take_of_length_le (by rw [HPL.out]; omega)
          have hn192 := HG.out.flat ks.length
          rw [htk] at hn192 ⊢
          have R0 := Lib.hid (RW.out.bel BQ0.out)
          have B0 := Lib.hid BQ.out
          have HNL := Lib.hid (HRM.out)
          obtain ⟨n, hn⟩ : ∃ n, n = ll.flatten.length := ⟨_, rfl⟩
          rw [← hn] at hn192 HNL ⊢
          clear htk hn BQ BQ0 RW BW HRM hkN hk
          go_wp2
          go_loopw [24, 86] (fun _ i wq => EeC w4 r C A n i wq) (fun _ i _ => n - (intOf i).toNat)
          case atStart => exact ⟨0, s1, M2, by omega, rfl, R0.out, IW.out, by have := HNL.out; omega, MW.out, B0.out⟩
          case round =>
            obtain ⟨m, s2, M3, hm, rfl, hrun, hri, hrm, hM3, hb⟩ := hrel
            have R2 := Lib.hid hrun
            have I2 := Lib.hid hri
            have HR2 := Lib.hid hrm
            have MW3 := Lib.hid hM3
            have B2 := Lib.hid hb
            have hs2 := hb.size
            clear hrun hri hrm hM3 hb
            by_cases hmn : m < n
            · go_wp2
              go_loopw [24, 89] (fun _ i wq => EeD w4 r C s2 W i wq) (fun _ i _ => W - (intOf i).toNat)
              case atStart => exact ⟨0, M3, by omega, rfl, by rw [rnd_zero]; exact R2.out, MW3.out, B2.out⟩
              case round =>
                obtain ⟨k, M4, hk, rfl, hrun, hM4, hb⟩ := hrel
                have R4 := Lib.hid hrun
                have MW4 := Lib.hid hM4
                have B4' := Lib.hid hb
                have hs4' := hb.size
                have I4 := Lib.hid (runP_inv HGr.out HLAr.out (by rw [HRW.out]; exact hW1) (rnd W k) I2.out)
                clear hrun hM4 hb
                by_cases hkW : k < W
                · have ek : IntKind.i64.wrap ((k : Int) + 1) = ((k + 1 : Nat) : Int) := IntWalk.i64_in _ (by omega)
                  obtain ⟨q, hq⟩ : ∃ q, q = (k + 1) % W := ⟨_, rfl⟩
                  have em := tmod_mod (k + 1) W q hq
                  have hqW : q < W := by rw [hq]; exact Nat.mod_lt _ (by omega)
                  have HQ := Lib.hid hq
                  have em2 : ((k : Int) + 1) % (W : Int) = (q : Int) := by rw [hq]; rfl
                  have CS := Lib.hid (CST.out _ _ M4 ((k : Int), (q : Int)) R4.out I4.out B4'.out MW4.out)
                  rw [← HR.out] at CS
                  unfold pkv at CS
                  simp only at CS
                  clear hq
                  go_wp2_with fail
                  refine CS.out.mono ?_
                  rintro e w7 ⟨rfl, M5, hrun, hO, hM⟩
                  have R7 := Lib.hid hrun
                  have M7 := Lib.hid (show ∀ k, M5 k → w4.heap.size ≤ k from fun k hk => by
                    rcases hM k hk with h1 | h1
                    · exact MW4.out k h1
                    · omega)
                  have B7 := Lib.hid (B4'.out.trans (hO.below (B := w4.heap.size) hs4' (fun k hk => MW4.out k hk)))
                  clear hrun hO hM CS
                  go_wp2
                  go_roundw
                  case rel => exact ⟨k + 1, M5, by omega, by go_num, by rw [rnd_succ, runP_snoc, ← HQ.out]; exact R7.out, M7.out, B7.out⟩
                  case measure => simp [intOf] <;> omega
                · obtain rfl : W = k := by omega
                  have hdec := round_dec (n := n - m - 1) HGr.out HLAr.out (by rw [HRW.out]; exact hW1) I2.out (by have := HR2.out; omega)
                  rw [HRW.out] at hdec R4 I4
                  have HD := Lib.hid hdec
                  clear hdec
                  go_wp2
                  go_roundw
                  case rel => exact ⟨m + 1, _, M4, by omega, by go_num, R4.out, by rw [HRW.out]; exact I4.out, by have := HD.out; omega, MW4.out, B4'.out⟩
                  case measure => simp [intOf] <;> omega
            · obtain rfl : n = m := by omega
              have hph := rem_zero I2.out (by have := HR2.out; omega)
              have har := I2.out.ar
              rw [arO, if_neg (by omega), hph, HLL.out, HPL.out, HBK.out, HKS.out, AN.out] at har
              have HAR := Lib.hid har
              have HPH := Lib.hid hph
              have HLE := Lib.hid (show s2.ar.length ≤ 1000000 by rw [I2.out.arlen HLAr.out, HKS.out]; have := H64.out; omega)
              have BE := Lib.hid (B4.out.trans (B2.out.mono hs4))
              have hsE := BE.out.size
              have XE := Lib.hid (X4.out.below B2.out)
              have AE := Lib.hid (A4.out.below B2.out)
              have TE := Lib.hid (T4.out.below B2.out)
              clear har hph B2 I2 HR2 MW3
              go_wp2_with fail
              refine (C1.out _ _ _ XE.out AE.out TE.out).mono ?_
              rintro e w5 ⟨v5, rfl, ho, hb⟩
              have W5 := Lib.hid ho.rd
              have R5 := Lib.hid (R2.out.bel hb)
              have B5 := Lib.hid (BE.out.trans (hb.mono hsE))
              have hs5 := B5.out.size
              clear ho hb R2 BE C1
              have CD := Lib.hid (xdone_any r s2 C M3 w5 R5.out)
              rw [decide_eq_true HPH.out, ← HR.out] at CD
              go_wp2_with fail
              refine CD.out.mono ?_
              rintro e w7 ⟨rfl, hb⟩
              have R7 := Lib.hid (R5.out.bel hb)
              have W7 := Lib.hid (W5.out.below hb)
              have B7 := Lib.hid (B5.out.trans (hb.mono hs5))
              have hs7 := B7.out.size
              clear hb CD R5 W5 B5
              have CA := Lib.hid (xarray_any r s2 C M3 w7 R7.out HLE.out)
              rw [← HR.out, HAR.out] at CA
              go_wp2_with fail
              refine CA.out.mono ?_
              rintro e w8 ⟨v8, rfl, ho, hb⟩
              have O8 := Lib.hid ho.rd
              have R8 := Lib.hid (R7.out.bel hb)
              have W8 := Lib.hid (W7.out.below hb)
              have B8 := Lib.hid (B7.out.trans (hb.mono hs7))
              have hs8 := B8.out.size
              clear ho hb CA R7 W7 B7
              go_wp2_with fail
              refine (equal_yes _ _ _ _ O8.out W8.out).mono ?_
              rintro e w9 ⟨rfl, hb⟩
              have R9 := Lib.hid (R8.out.bel hb)
              have B9 := Lib.hid (B8.out.trans (hb.mono hs8))
              have hs9 := B9.out.size
              clear hb O8 W8 R8 B8
              have CF := Lib.hid (xstep_done r s2 C M3 w9 0 0 R9.out HPH.out)
              rw [← HR.out] at CF
              unfold pkv at CF
              go_wp2_with fail
              refine CF.out.mono ?_
              rintro e w10 ⟨rfl, hb⟩
              have B10 := Lib.hid (B9.out.trans (hb.mono hs9))
              clear hb
              go_wp2
              go_ret
              exact ⟨rfl, B10.out⟩
set_option maxHeartbeats 4000000 in
set_option maxRecDepth 100000 in
theorem ee_some_true (ks : List Nat) (zx : List Int) (cut wk : Int) (lp : List (Int × Int)) (v v2 v3 : Value) (w : World) (h : Rd .i64 w v (zi (szs ks))) (h2 : Rd .u64 w v2 zx) (h3 : Rpi w v3 lp) (hw : W64 (zi (szs ks))) (hc2 : cut ≤ 9223372036854775807) (hk1 : -9223372036854775808 ≤ wk) (hk2 : wk ≤ 9223372036854775807) (hs : Shp (szs ks)) (h64 : pr (szs ks) ≤ 64) (hy : B64 zx) (hT : Tb w) :
    Calls Tryd.prog 7 #[v, v2, .int .i64 cut, .int .i64 wk, .bool true, v3] w (RetV w (.bool true)) := by
  have X := Lib.hid h
  have Y := Lib.hid h2
  have TW := Lib.hid hT
  have CR := Lib.hid (runs_any w hT)
  have hN0 : 1 ≤ ks.length := by have := hs.len0; rwa [szs_len] at this
  have hN3 : ks.length ≤ 3 := by have := hs.len3; rwa [szs_len] at this
  obtain ⟨A, hA⟩ : ∃ A, A = siz zx (pr (szs ks)) := ⟨_, rfl⟩
  have lA : A.length = pk ks := by rw [hA, siz_len]; rfl
  have bA : B64 A := by rw [hA]; exact siz_64 hy _
  have HLA := Lib.hid lA
  have HBA := Lib.hid bA
  have HW := Lib.hid hw
  have H64 := Lib.hid (show pk ks ≤ 64 from h64)
  have CS := Lib.hid (fun w v v2 h h2 => by have := shaped_yes (szs ks) zx v v2 w h h2 hw hs h64; rwa [← hA] at this)
  have CM1 := Lib.hid (fun (hz : cut < 1) w v h => make_cut (szs ks) cut v w h hw hs hz)
  have CM2 := Lib.hid (fun (hz : 1 ≤ cut) w v h => make_gl ks cut v w h hw hs h64 hz hc2)
  have HGL := Lib.hid (fun (hz : 1 ≤ cut) => gl_phs (cut := cut) hs h64 hz)
  have HPL := Lib.hid (phs_len (szs ks) cut ks.length)
  have CRT := Lib.hid (fun w => rest_any wk 8 w hk1 hk2 (by omega) (by omega))
  obtain ⟨ρ, hρ⟩ : ∃ ρ : Nat, wk % 8 = (ρ : Int) := ⟨(wk % 8).toNat, by have := Int.emod_nonneg wk (show (8 : Int) ≠ 0 by omega); omega⟩
  have hρ8 : ρ < 8 := by have := Int.emod_lt_of_pos wk (show (0 : Int) < 8 by omega); omega
  rw [hρ] at CRT
  obtain ⟨a3, q3, b3, o3, rfl, hk3, hm3, hx3, hc3⟩ := h3
  have HC3 := Lib.hid hc3
  obtain ⟨np, hnp⟩ : ∃ n, n = lp.length := ⟨_, rfl⟩
  have HNP := Lib.hid hnp
  rw [← hnp] at hk3 hx3 ⊢
  obtain ⟨FA, hFA⟩ : ∃ l, l = A.map toF := ⟨_, rfl⟩
  have C1 := Lib.hid (fun w v v2 h h2 hT => by have := fwd_of (all_ok ks A false v v2 w h h2 hw hs bA lA hT); rwa [← hFA] at this)
  have C2 := Lib.hid (fun w v v2 h h2 hT => by have := inv_of (all_ok ks A true v v2 w h h2 hw hs bA lA hT); rwa [← hFA] at this)
  have AN := Lib.hid (show alT true ks A ks.length = (WL true ks FA).map vl by rw [hFA]; exact alT_whole hN0)
  generalize phs (szs ks) cut ks.length = ll at *
  clear h h2 hT hs hw h64 hA lA bA hy hc2 hk1 hk2 hρ hc3 hnp hFA
  go_enter Tryd.func7, Tryd.ntmps7
  go_wp2_with fail
  refine CR.out.mono ?_
  rintro e w1 ⟨rfl, hb⟩
  have X1 := Lib.hid (X.out.below hb)
  have Y1 := Lib.hid (Y.out.below hb)
  have B1 := Lib.hid hb
  have hs1 := hb.size
  clear hb X Y CR
  go_wp2_with fail
  refine (CS.out _ _ _ X1.out Y1.out).mono ?_
  rintro e w3 ⟨v3, rfl, ho, hb⟩
  have X3 := Lib.hid (X1.out.below hb)
  have B3 := Lib.hid (B1.out.trans (hb.mono hs1))
  have hs3 := B3.out.size
  have A3 := Lib.hid (Oz.rd ho)
  clear ho hb X1 Y1 B1 CS
  by_cases hp300 : np ≤ 300
  rotate_left
  · have g1 : decide ((300 : Int) < (np : Int)) = true := decide_eq_true (by omega)
    have g2 : decide (300 < np) = true := decide_eq_true (by omega)
    go_wp2
    go_ret
    exact ⟨rfl, B3.out⟩
  have g1 : decide ((300 : Int) < (np : Int)) = false := decide_eq_false (by omega)
  have g2 : decide (300 < np) = false := decide_eq_false (by omega)
  by_cases hz : 1 ≤ cut
  rotate_left
  · go_wp2_with fail
    refine (CM1.out (by omega) _ _ X3.out).mono ?_
    rintro e w4 ⟨v4, rfl, ho, hb⟩
    have B4 := Lib.hid (B3.out.trans (hb.mono hs3))
    obtain ⟨_, _, rfl, _⟩ := ho.shape
    clear ho hb
    go_wp2
    go_ret
    exact ⟨rfl, B4.out⟩
  clear CM1
  have HG := Lib.hid (HGL.out hz)
  go_wp2_with fail
  refine (CM2.out hz _ _ X3.out).mono ?_
  rintro e w4 ⟨v4, rfl, ho, hb⟩
  have X4 := Lib.hid (X3.out.below hb)
  have A4 := Lib.hid (A3.out.below hb)
  have B4 := Lib.hid (B3.out.trans (hb.mono hs3))
  have hs4 := B4.out.size
  have P4 := Lib.hid ho
  obtain ⟨gP, cP, rfl, hcP1, hcP2⟩ := P4.out.opened (by rw [HPL.out]; exact hN0)
  rw [HPL.out] at hcP1 P4 ⊢
  clear ho hb X3 A3 B3 CM2 g1 g2

  go_wp2_with fail
  refine (CRT.out _).mono ?_
  rintro e w5 ⟨rfl, rfl⟩
  have eW : IntKind.i64.wrap ((1 : Int) + (ρ : Int)) = ((ρ + 1 : Nat) : Int) := IntWalk.i64_in _ (by omega) |>.trans (by omega)
  have eW2 := Lib.hid (show (ρ : Int) + 1 = ((ρ + 1 : Nat) : Int) by omega)
  have CN := Lib.hid (xnew_ok ks ll A (ρ + 1) true _ _ _ _ X4.out A4.out P4.out.rps HW.out HG.out HLA.out (by omega) (by omega))
  rw [← eW2.out] at CN
  go_wp2_with fail
  refine CN.out.mono ?_
  rintro e w6 ⟨r, C, M, rfl, hrun, hrW, hbk, hks, hll, hCM, hb⟩
  rw [eW2.out]
  obtain ⟨W, hWW⟩ : ∃ W, W = ρ + 1 := ⟨_, rfl⟩
  have hW1 : 1 ≤ W := by omega
  have hW8 : W ≤ 8 := by omega
  rw [← hWW] at hrW hrun ⊢
  clear eW eW2 CN CRT hWW
  clear hρ8
  have R6 := Lib.hid hrun
  have HRW := Lib.hid hrW
  have HBK := Lib.hid hbk
  have HKS := Lib.hid hks
  have HLL := Lib.hid hll
  have HM6 := Lib.hid (show ∀ k, M k → w4.heap.size ≤ k from fun k hk => hCM k (.inr hk))
  have B46 := Lib.hid hb
  have RI0 := Lib.hid (show RI r.back r.ks A r.W r.ll (st0 W ll A) from by
    rw [hrW, hbk, hks, hll]
    exact st0_inv HG.out HLA.out hW1 (by rw [HPL.out]; exact hN0))
  have HGr := Lib.hid (show GL r.ks r.ll by rw [hks, hll]; exact HG.out)
  have HLAr := Lib.hid (show A.length = pk r.ks by rw [hks]; exact HLA.out)
  have HWr := Lib.hid (show W64 (zi (szs r.ks)) by rw [hks]; exact HW.out)
  have TLT := Lib.hid (show 3 < w4.heap.size from World.block_lt_of_cell? w4 ⟨3, 0, none⟩ ((TW.out.below B4.out) 0 (by omega)))
  have T4 := Lib.hid (TW.out.below B4.out)
  have CST := Lib.hid (fun (wr : World) (s : RS) (M' : Nat → Prop) (p : Int × Int) (h : RunAt wr C M' r s) (hI : RI r.back r.ks A r.W r.ll s) (hb : Below w4.heap.size w4 wr) (hM : ∀ k, M' k → w4.heap.size ≤ k) =>
    xstep_any r s A C M' wr p h hI HGr.out HLAr.out HBA.out HWr.out (T4.out.below hb) (fun h => by have := hM _ h; have := TLT.out; omega) (by rw [HRW.out]; exact hW1) (by rw [HRW.out]; exact hW8))
  obtain ⟨R, hR⟩ : ∃ R, R = r.R := ⟨_, rfl⟩
  have HR := Lib.hid hR
  rw [← hR]
  have hs6 := hb.size
  clear hrun hrW hbk hks hll hCM hb hR

  go_wp2
  go_loopw [20, 66] (fun _ i wr => EeA w4 r C (st0 W ll A) lp i wr) (fun _ i _ => np - (intOf i).toNat)
  case atStart => exact ⟨0, M, by omega, rfl, R6.out, HM6.out, B46.out⟩
  case round =>
    obtain ⟨m, M2, hm, rfl, hrun, hM2, hb⟩ := hrel
    rw [← HNP.out] at hm
    have RW := Lib.hid hrun
    have MW := Lib.hid hM2
    have BW := Lib.hid hb
    have hsw := hb.size
    have IW := Lib.hid (runP_inv HGr.out HLAr.out (by rw [HRW.out]; exact hW1) (lp.take m) RI0.out)
    clear hrun hM2 hb
    by_cases hml : m < np
    · obtain rfl := hx3.resolve_left (by omega)
      obtain ⟨c0, c1⟩ := HC3.out m (by rw [← HNP.out]; exact hml)
      have hbw := B4.out.trans (BW.out.mono hs4)
      have c0 := (hbw.cell (p := ⟨b3, _, none⟩) (World.block_lt_of_cell? w _ c0)).trans c0
      have c1 := (hbw.cell (p := ⟨b3, _, none⟩) (World.block_lt_of_cell? w _ c1)).trans c1
      have hal := (Below.refl wr.heap.size wr).alloc (Nat.le_refl _) (.cells #[.int .i64 (kp lp m).1, .int .i64 (kp lp m).2] 43)
      have CS := Lib.hid (CST.out _ _ M2 (kp lp m) (RW.out.bel hal) IW.out (BW.out.trans (hal.mono hsw)) MW.out)
      have HTK := Lib.hid (take_kp (l := lp) (i := m) (by rw [← HNP.out]; exact hml))
      have HAL := Lib.hid hal
      clear hal hbw
      rw [← HR.out] at CS
      unfold pkv at CS
      generalize kp lp m = p at *
      obtain ⟨p1, p2⟩ := p
      simp only at c0 c1 CS
      go_wp2_with fail
      refine CS.out.mono ?_
      rintro e w7 ⟨rfl, M3, hrun, hO, hM⟩
      have hz7 : wr.heap.size ≤ (wr.alloc (.cells #[.int .i64 p1, .int .i64 p2] 43)).heap.size := HAL.out.size
      have R7 := Lib.hid hrun
      have M7 := Lib.hid (show ∀ k, M3 k → w4.heap.size ≤ k from fun k hk => by
        rcases hM k hk with h1 | h1
        · exact MW.out k h1
        · omega)
      have B7 := Lib.hid (BW.out.trans ((HAL.out.mono hsw).trans (hO.below (B := w4.heap.size) (by omega) (fun k hk => MW.out k hk))))
      clear hrun hO hM CS c0 c1
      go_wp2
      go_roundw
      case rel => exact ⟨m + 1, M3, by rw [← HNP.out]; omega, by go_num, by rw [HTK.out, runP_snoc]; exact R7.out, M7.out, B7.out⟩
      case measure => simp [intOf] <;> omega
    · obtain rfl : np = m := by omega
      have htk : lp.take np = lp := by rw [HNP.out]; exact List.take_length
      rw [htk] at RW IW
      obtain ⟨s1, hs1e⟩ : ∃ s1, s1 = runP r.back r.ks r.W r.ll (st0 W ll A) lp := ⟨_, rfl⟩
      have hrm : remS r.ll s1 ≤ ll.flatten.length := by
        rw [hs1e]
        have h1 := rem_le HGr.out HLAr.out (by rw [HRW.out]; exact hW1) lp RI0.out
        rw [HLL.out, rem_st0 _ _ _ (by rw [HPL.out]; exact hN0)] at h1
        rw [HLL.out]
        exact h1
      rw [← hs1e] at RW IW
      have HRM := Lib.hid hrm
      clear htk hs1e hrm HC3 hml HNP hx3 hk3 hm3
      have hN1 : ks.length ≤ ks.length := Nat.le_refl _
      go_wp2
      go_loopw [21, 23, 76] (fun n _ i wq => EeB wr ll n i wq) (fun _ _ i _ => ks.length - (intOf i).toNat)
      case atStart => exact ⟨0, by omega, rfl, rfl, Below.refl _ _⟩
      case round =>
        obtain ⟨k, hk, rfl, rfl, hb⟩ := hrel
        have BQ0 := Lib.hid hb
        have BQ := Lib.hid (BW.out.trans (hb.mono hsw))
        clear hb
        rw [HPL.out] at hk
        by_cases hkN : k < ks.length
        · obtain ⟨u, hcu, hou⟩ := OP.at P4.out (i := k) (by rw [HPL.out]; exact hkN)
          have cu := cell_below BQ.out hcu
          obtain ⟨ua, uc, un, rfl, hun, hu1, hu2, hu3⟩ := hou.shapeN
          have hfl := flat_take (ll := ll) (i := k) (by rw [HPL.out]; exact hkN)
          have hf2 := HG.out.flat k
          have hle := HG.out.le k (by rw [HPL.out]; exact hkN)
          rw [← hun] at hfl hle
          obtain ⟨f, hf⟩ : ∃ f, f = (ll.take k).flatten.length := ⟨_, rfl⟩
          rw [← hf] at hfl hf2 ⊢
          have HFL := Lib.hid hfl
          have ew : IntKind.i64.wrap ((f : Int) + (un : Int)) = ((f + un : Nat) : Int) := IntWalk.i64_in _ (by omega) |>.trans (by omega)
          clear hou hcu hfl hun hf
          go_wp2
          go_roundw
          case rel => exact ⟨k + 1, by rw [HPL.out]; omega, by go_num, by rw [HFL.out]; go_num, BQ0.out⟩
          case measure => simp [intOf] <;> omega
        · obtain rfl : ks.length = k := by omega
          have htk : ll.take ks.length = ll := List.take_of_length_le (by rw [HPL.out]; omega)
          have hn192 := HG.out.flat ks.length
          rw [htk] at hn192 ⊢
          have R0 := Lib.hid (RW.out.bel BQ0.out)
          have B0 := Lib.hid BQ.out
          have HNL := Lib.hid (HRM.out)
          obtain ⟨n, hn⟩ : ∃ n, n = ll.flatten.length := ⟨_, rfl⟩
          rw [← hn] at hn192 HNL ⊢
          clear htk hn BQ BQ0 RW BW HRM hkN hk
          go_wp2
          go_loopw [24, 86] (fun _ i wq => EeC w4 r C A n i wq) (fun _ i _ => n - (intOf i).toNat)
          case atStart => exact ⟨0, s1, M2, by omega, rfl, R0.out, IW.out, by have := HNL.out; omega, MW.out, B0.out⟩
          case round =>
            obtain ⟨m, s2, M3, hm, rfl, hrun, hri, hrm, hM3, hb⟩ := hrel
            have R2 := Lib.hid hrun
            have I2 := Lib.hid hri
            have HR2 := Lib.hid hrm
            have MW3 := Lib.hid hM3
            have B2 := Lib.hid hb
            have hs2 := hb.size
            clear hrun hri hrm hM3 hb
            by_cases hmn : m < n
            · go_wp2
              go_loopw [24, 89] (fun _ i wq => EeD w4 r C s2 W i wq) (fun _ i _ => W - (intOf i).toNat)
              case atStart => exact ⟨0, M3, by omega, rfl, by rw [rnd_zero]; exact R2.out, MW3.out, B2.out⟩
              case round =>
                obtain ⟨k, M4, hk, rfl, hrun, hM4, hb⟩ := hrel
                have R4 := Lib.hid hrun
                have MW4 := Lib.hid hM4
                have B4' := Lib.hid hb
                have hs4' := hb.size
                have I4 := Lib.hid (runP_inv HGr.out HLAr.out (by rw [HRW.out]; exact hW1) (rnd W k) I2.out)
                clear hrun hM4 hb
                by_cases hkW : k < W
                · have ek : IntKind.i64.wrap ((k : Int) + 1) = ((k + 1 : Nat) : Int) := IntWalk.i64_in _ (by omega)
                  obtain ⟨q, hq⟩ : ∃ q, q = (k + 1) % W := ⟨_, rfl⟩
                  have em := tmod_mod (k + 1) W q hq
                  have hqW : q < W := by rw [hq]; exact Nat.mod_lt _ (by omega)
                  have HQ := Lib.hid hq
                  have em2 : ((k : Int) + 1) % (W : Int) = (q : Int) := by rw [hq]; rfl
                  have CS := Lib.hid (CST.out _ _ M4 ((k : Int), (q : Int)) R4.out I4.out B4'.out MW4.out)
                  rw [← HR.out] at CS
                  unfold pkv at CS
                  simp only at CS
                  clear hq
                  go_wp2_with fail
                  refine CS.out.mono ?_
                  rintro e w7 ⟨rfl, M5, hrun, hO, hM⟩
                  have R7 := Lib.hid hrun
                  have M7 := Lib.hid (show ∀ k, M5 k → w4.heap.size ≤ k from fun k hk => by
                    rcases hM k hk with h1 | h1
                    · exact MW4.out k h1
                    · omega)
                  have B7 := Lib.hid (B4'.out.trans (hO.below (B := w4.heap.size) hs4' (fun k hk => MW4.out k hk)))
                  clear hrun hO hM CS
                  go_wp2
                  go_roundw
                  case rel => exact ⟨k + 1, M5, by omega, by go_num, by rw [rnd_succ, runP_snoc, ← HQ.out]; exact R7.out, M7.out, B7.out⟩
                  case measure => simp [intOf] <;> omega
                · obtain rfl : W = k := by omega
                  have hdec := round_dec (n := n - m - 1) HGr.out HLAr.out (by rw [HRW.out]; exact hW1) I2.out (by have := HR2.out; omega)
                  rw [HRW.out] at hdec R4 I4
                  have HD := Lib.hid hdec
                  clear hdec
                  go_wp2
                  go_roundw
                  case rel => exact ⟨m + 1, _, M4, by omega, by go_num, R4.out, by rw [HRW.out]; exact I4.out, by have := HD.out; omega, MW4.out, B4'.out⟩
                  case measure => simp [intOf] <;> omega
            · obtain rfl : n = m := by omega
              have hph := rem_zero I2.out (by have := HR2.out; omega)
              have har := I2.out.ar
              rw [arO, if_neg (by omega), hph, HLL.out, HPL.out, HBK.out, HKS.out, AN.out] at har
              have HAR := Lib.hid har
              have HPH := Lib.hid hph
              have HLE := Lib.hid (show s2.ar.length ≤ 1000000 by rw [I2.out.arlen HLAr.out, HKS.out]; have := H64.out; omega)
              have BE := Lib.hid (B4.out.trans (B2.out.mono hs4))
              have hsE := BE.out.size
              have XE := Lib.hid (X4.out.below B2.out)
              have AE := Lib.hid (A4.out.below B2.out)
              have TE := Lib.hid (T4.out.below B2.out)
              clear har hph B2 I2 HR2 MW3
              go_wp2_with fail
              refine (C1.out _ _ _ XE.out AE.out TE.out).mono ?_
              rintro e w5 ⟨v5, rfl, ho, hb⟩
              have W5 := Lib.hid ho.rd
              have R5 := Lib.hid (R2.out.bel hb)
              have B5 := Lib.hid (BE.out.trans (hb.mono hsE))
              have hs5 := B5.out.size
              have X5 := Lib.hid (XE.out.below hb)
              have A5 := Lib.hid (AE.out.below hb)
              have T5 := Lib.hid (TE.out.below hb)
              clear ho hb R2 BE C1
              clear W5
              go_wp2_with fail
              refine (C2.out _ _ _ X5.out A5.out T5.out).mono ?_
              rintro e w5b ⟨v5b, rfl, ho, hb⟩
              have W5 := Lib.hid ho.rd
              have R5 := Lib.hid (R5.out.bel hb)
              have B5 := Lib.hid (B5.out.trans (hb.mono hs5))
              have hs5 := B5.out.size
              generalize w5b = w5 at *
              clear ho hb C2
              have CD := Lib.hid (xdone_any r s2 C M3 w5 R5.out)
              rw [decide_eq_true HPH.out, ← HR.out] at CD
              go_wp2_with fail
              refine CD.out.mono ?_
              rintro e w7 ⟨rfl, hb⟩
              have R7 := Lib.hid (R5.out.bel hb)
              have W7 := Lib.hid (W5.out.below hb)
              have B7 := Lib.hid (B5.out.trans (hb.mono hs5))
              have hs7 := B7.out.size
              clear hb CD R5 W5 B5
              have CA := Lib.hid (xarray_any r s2 C M3 w7 R7.out HLE.out)
              rw [← HR.out, HAR.out] at CA
              go_wp2_with fail
              refine CA.out.mono ?_
              rintro e w8 ⟨v8, rfl, ho, hb⟩
              have O8 := Lib.hid ho.rd
              have R8 := Lib.hid (R7.out.bel hb)
              have W8 := Lib.hid (W7.out.below hb)
              have B8 := Lib.hid (B7.out.trans (hb.mono hs7))
              have hs8 := B8.out.size
              clear ho hb CA R7 W7 B7
              go_wp2_with fail
              refine (equal_yes _ _ _ _ O8.out W8.out).mono ?_
              rintro e w9 ⟨rfl, hb⟩
              have R9 := Lib.hid (R8.out.bel hb)
              have B9 := Lib.hid (B8.out.trans (hb.mono hs8))
              have hs9 := B9.out.size
              clear hb O8 W8 R8 B8
              have CF := Lib.hid (xstep_done r s2 C M3 w9 0 0 R9.out HPH.out)
              rw [← HR.out] at CF
              unfold pkv at CF
              go_wp2_with fail
              refine CF.out.mono ?_
              rintro e w10 ⟨rfl, hb⟩
              have B10 := Lib.hid (B9.out.trans (hb.mono hs9))
              clear hb
              go_wp2
              go_ret
              exact ⟨rfl, B10.out⟩
theorem wExecEnds (zs zx : List Int) (cut wk : Int) (back : Bool) (lp : List (Int × Int)) (v v2 v3 : Value) (w : World) (h : Rd .i64 w v zs) (h2 : Rd .u64 w v2 zx) (h3 : Rpi w v3 lp) (hw : W64 zs) (hy : B64 zx) (hc2 : cut ≤ 9223372036854775807) (hk1 : -9223372036854775808 ≤ wk) (hk2 : wk ≤ 9223372036854775807) (hT : Tb w) :
    Calls Tryd.prog 7 #[v, v2, .int .i64 cut, .int .i64 wk, .bool back, v3] w (RetV w (.bool true)) := by
  rcases shape_split zs with hn | ⟨ds, rfl, hs, h64⟩
  · exact ee_none zs zx cut wk back v v2 v3 w h hw hn hT
  · obtain ⟨ks, rfl, hk⟩ := shp_ks hs
    cases back
    · exact ee_some_false ks zx cut wk lp v v2 v3 w h h2 h3 hw hc2 hk1 hk2 hs h64 hy hT
    · exact ee_some_true ks zx cut wk lp v v2 v3 w h h2 h3 hw hc2 hk1 hk2 hs h64 hy hT
end Go.Proofs.YtcakeenfkdhedaaDoor.Gm
