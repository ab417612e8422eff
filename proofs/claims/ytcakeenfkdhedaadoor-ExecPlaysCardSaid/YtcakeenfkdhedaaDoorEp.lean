/- The walk of the law ExecPlays: right things. (Its lines are printed by wip/mk_XEp.py.) -/
import Derived.Test.YtcakeenfkdhedaaDoorEpa
import Derived.Test.YtcakeenfkdhedaaDoorEe
import Derived.Test.YtcakeenfkdhedaaDoorTe
import Derived.Deep.CutRange
namespace Go.Proofs.YtcakeenfkdhedaaDoor.Gm
open Go.RowKit
set_option linter.unusedVariables false
theorem CrV.base {w w5 w' : World} {M : Nat → Prop} {c : Cw} {va vd : Value} {u : Nat → Value} {fin : Bool} {s : RS} (h : CrV w5 w' M c va vd u fin s) (hb : Below w.heap.size w w5) : CrV w w' M c va vd u fin s :=
  { h with lo := fun k hk => ⟨Nat.le_trans hb.size (h.lo k hk).1, (h.lo k hk).2⟩, bel := hb.trans (h.bel.mono hb.size) }
def EpA (w : World) (r : Rn) (C : Nat → Prop) (c : Cw) (s0 : RS) (lp : List (Int × Int)) (i : Value) (wr : World) : Prop :=
  ∃ (t : Nat) (M Mc : Nat → Prop) (s : RS), t ≤ lp.length + 1 ∧ i = .int .i64 (t : Int) ∧ s = runP c.back c.ks c.W c.ll s0 (lp.take (t - 1)) ∧ RunAt wr C M r s ∧ CrAt w wr Mc c (decide (s.ph = c.ll.length)) s ∧ (∀ k, M k → w.heap.size ≤ k) ∧ (∀ k, C k ∨ M k → ¬ Mc k) ∧ Below w.heap.size w wr
def EpK (w : World) (r : Rn) (C : Nat → Prop) (c : Cw) (s0 : RS) (lp : List (Int × Int)) (t : Nat) (wx : World) : Prop :=
  ∃ (s7 : RS) (M7 Mc7 : Nat → Prop), Hid (s7 = runP c.back c.ks c.W c.ll s0 (lp.take t)) ∧ Hid (RunAt wx C M7 r s7) ∧ Hid (CrAt w wx Mc7 c (decide (s7.ph = c.ll.length)) s7) ∧ Hid (∀ k, M7 k → w.heap.size ≤ k) ∧ Hid (∀ k, C k ∨ M7 k → ¬ Mc7 k) ∧ Hid (Below w.heap.size w wx)
set_option maxHeartbeats 8000000 in
set_option maxRecDepth 100000 in
theorem ep_ok (ks : List Nat) (ll : List (List T3)) (zs : List Int) (W : Nat) (back : Bool) (lp : List (Int × Int)) (v v2 v3 v5 : Value) (w : World) (h : Rd .i64 w v (zi (szs ks))) (h2 : Rd .u64 w v2 zs) (h3 : RPs w v3 ll) (h5 : Rpi w v5 lp) (hw : W64 (zi (szs ks))) (hg : GL ks ll) (h64 : pk ks ≤ 64) (hzl : zs.length = pk ks) (hzb : B64 zs) (hT : Tb w) (hW1 : 1 ≤ W) (hW8 : W ≤ 8) (hp : lp.length ≤ 200)
    (CP : ∀ v v2 w, Rd .i64 w v (zi (szs ks)) → RPs w v2 ll → Calls Tryd.prog 13 #[v, v2] w (RetV w (.int .i64 0))) :
    Calls Tryd.prog 4 #[v, v2, v3, .int .i64 (W : Int), .bool back, v5] w (RetV w (.bool true)) := by
  have CS := Lib.hid ((rshape_any (zi (szs ks)) v w h hw).mono (R' := fun e w' => e = .returned (.tuple #[.int .i64 (pr (szs ks) : Int), .int .i64 0]) ∧ w = w') (fun e w' he => ⟨he.1.ok hg.shp, he.2⟩))
  rw [show pr (szs ks) = pk ks from rfl] at CS
  have CP := Lib.hid (CP v v3 w h h3)
  have X := Lib.hid h
  have Y := Lib.hid h2
  have Z := Lib.hid h3
  have TW := Lib.hid hT
  have HG := Lib.hid hg
  have HW := Lib.hid hw
  have HZL := Lib.hid hzl
  have HZB := Lib.hid hzb
  have hlen1 : 1 ≤ ll.length := by have := hg.shp.len0; rw [szs_len, ← hg.len] at this; exact this
  have CN := Lib.hid (fun w h h2 h3 => xnew_ok ks ll zs W back v v2 v3 w h h2 h3 hw hg hzl hW1 hW8)
  have CC := Lib.hid (fun w h h2 h3 => newcrew_any ks ll zs W back v v2 v3 w h h2 h3 hg hzl hW1 hW8)
  obtain ⟨a2, c2, rfl, _⟩ := h2.shape
  obtain ⟨a5, c5, b5, o5, rfl, hk5, hm5, hx5, hc5⟩ := h5
  have HC5 := Lib.hid hc5
  obtain ⟨np, hnp⟩ : ∃ n, n = lp.length := ⟨_, rfl⟩
  have HNP := Lib.hid hnp
  rw [← hnp] at hk5 hx5 hp ⊢
  obtain ⟨n, hn⟩ : ∃ n, n = pk ks := ⟨_, rfl⟩
  rw [← hn] at CS h64
  rw [hzl, ← hn] at CN CC Y ⊢
  have HN := Lib.hid hn
  clear h h2 h3 hT hg hw hzl hzb hc5 hnp hn
  have g1 : decide ((64 : Int) < (n : Int)) = false := decide_eq_false (by omega)
  have g1' : decide (64 < n) = false := decide_eq_false (by omega)
  have g2 : decide ((200 : Int) < (np : Int)) = false := decide_eq_false (by omega)
  have g3 : decide (200 < np) = false := decide_eq_false (by omega)
  go_enter Tryd.func4, Tryd.ntmps4
  go_wp2_with fail
  refine CS.out.mono ?_
  rintro e w1 ⟨rfl, rfl⟩
  go_wp2_with fail
  refine CP.out.mono ?_
  rintro e w1 ⟨rfl, hb⟩
  have X1 := Lib.hid (X.out.below hb)
  have Y1 := Lib.hid (Y.out.below hb)
  have Z1 := Lib.hid (Z.out.below hb)
  have B1 := Lib.hid hb
  have hs1 := hb.size
  clear hb CS CP
  go_wp2_with fail
  refine (in_yes (W : Int) 1 8 _ (by omega) (by omega)).mono ?_
  rintro e w' ⟨rfl, rfl⟩
  go_wp2_with fail
  refine (CN.out _ X1.out Y1.out Z1.out).mono ?_
  rintro e w4 ⟨r, C, M, rfl, hrun, hrW, hbk, hks, hll, hCM, hb⟩
  have B4 := Lib.hid (B1.out.trans (hb.mono hs1))
  have X4 := Lib.hid (X1.out.below hb)
  have Y4 := Lib.hid (Y1.out.below hb)
  have Z4 := Lib.hid (Z1.out.below hb)
  have R4 := Lib.hid hrun
  have HRW := Lib.hid hrW
  have HBK := Lib.hid hbk
  have HKS := Lib.hid hks
  have HLL := Lib.hid hll
  have HM4 := Lib.hid (show ∀ k, M k → w.heap.size ≤ k from fun k hk => Nat.le_trans hs1 (hCM k (.inr hk)))
  have hs4 := B4.out.size
  clear hrun hrW hbk hks hll hCM hb CN X1 Y1 Z1 B1
  go_wp2_with fail
  refine (CC.out _ X4.out Y4.out Z4.out).mono ?_
  rintro e w6 ⟨CR, gq, rfl, Mc, va, vd, u, hcr⟩
  have B6 := Lib.hid (B4.out.trans (hcr.bel.mono hs4))
  have hs6 := B6.out.size
  have R6 := Lib.hid (R4.out.bel hcr.bel)
  have DIS := Lib.hid (show ∀ k, C k ∨ M k → ¬ Mc k from fun k hk hc => by have h1 := R4.out.lt k hk; have h2 := (hcr.lo k hc).1; omega)
  have V6 := Lib.hid (hcr.base B4.out)
  have RI0 := Lib.hid (show RI back ks zs W ll (st0 W ll zs) from st0_inv HG.out HZL.out hW1 hlen1)
  have TLT := Lib.hid (show 3 < w.heap.size from World.block_lt_of_cell? w ⟨3, 0, none⟩ (TW.out 0 (by omega)))
  have CST := Lib.hid (fun (wr : World) (s : RS) (M' : Nat → Prop) (p : Int × Int) (h : RunAt wr C M' r s) (hI : RI back ks zs W ll s) (hb : Below w.heap.size w wr) (hM : ∀ k, M' k → w.heap.size ≤ k) => (show Calls Tryd.prog 20 #[.pointer (some ⟨r.R, 0, none⟩), pkv p.1 p.2] wr fun e w' => e = .returned (.int .i64 (stXE W ll s p)) ∧ RunTo C M' r (stXP back ks W ll s p) wr w' from by
    have := xstep_any r s zs C M' wr p h (by rw [HRW.out, HBK.out, HKS.out, HLL.out]; exact hI) (by rw [HKS.out, HLL.out]; exact HG.out) (by rw [HKS.out]; exact HZL.out) HZB.out (by rw [HKS.out]; exact HW.out) (TW.out.below hb) (fun h => by have := hM _ h; have := TLT.out; omega) (by rw [HRW.out]; exact hW1) (by rw [HRW.out]; exact hW8)
    rw [HRW.out, HBK.out, HKS.out, HLL.out] at this
    exact this))
  have CSC := Lib.hid (fun (wr : World) (s : RS) (M' : Nat → Prop) (p : Int × Int) (h : CrAt w wr M' (mkC CR gq W v v3 back ks ll) (decide (s.ph = ll.length)) s) (hI : RI back ks zs W ll s) => cstep_any (mkC CR gq W v v3 back ks ll) s zs M' w wr p h hI HG.out HZL.out HZB.out HW.out Z.out X.out hW1 hW8)
  clear hcr CC X4 Y4 Z4 R4 B4
  go_wp2
  go_loopw [19, 20, 21, 83] (fun _ _ _ i wr => EpA w r C (mkC CR gq W v v3 back ks ll) (st0 W ll zs) lp i wr) (fun _ _ _ i _ => np + 1 - (intOf i).toNat)
  case atStart => exact ⟨0, M, Mc, _, by omega, rfl, rfl, R6.out, ⟨va, vd, u, by
    rw [show decide ((runP (mkC CR gq W v v3 back ks ll).back (mkC CR gq W v v3 back ks ll).ks (mkC CR gq W v v3 back ks ll).W (mkC CR gq W v v3 back ks ll).ll (st0 W ll zs) (lp.take (0 - 1))).ph = (mkC CR gq W v v3 back ks ll).ll.length) = false from decide_eq_false (by show ¬ 0 = ll.length; omega)]
    exact V6.out⟩, HM4.out, DIS.out, B6.out⟩
  case round =>
    obtain ⟨t, M1, Mc1, s, ht, rfl, hst, hrun, hcr, hM, hD, hb⟩ := hrel
    have RW := Lib.hid hrun
    have VW := Lib.hid hcr
    have MW := Lib.hid hM
    have DW := Lib.hid hD
    have BW := Lib.hid hb
    have HST := Lib.hid hst
    rw [← HNP.out] at ht
    clear hrun hcr hM hD hb hst
    by_cases htn : t < np + 1
    rotate_left
    · obtain rfl : t = np + 1 := by omega
      go_wp2
      go_ret
      exact ⟨rfl, BW.out⟩
    have IW := Lib.hid (show RI back ks zs W ll s from by rw [HST.out]; exact runP_inv HG.out HZL.out hW1 _ RI0.out)
    have hsw := BW.out.size
    go_upto_region 16 with fail
    go_cut [83, 104] from 83 to 153 (fun s83 s104 wx => s83 = Value.int .i64 (t : Int) ∧ s104 = Value.bool false ∧ EpK w r C (mkC CR gq W v v3 back ks ll) (st0 W ll zs) lp t wx)
    case first =>
      rcases t with _ | t
      · refine wp_region_N [] [] (fun _ => True) (by kernel_rfl) ?_
        have hS : True := trivial
        refine wpN_pure (i := 0) (v := ?_) rfl (by kernel_rfl) (by kernel_rfl) (by kernel_rfl) (by kernel_rfl) (fun _ _ _ h => h) (Or.inl ⟨by rfl, ?_⟩) (fun _ => hS) ?_
        rotate_left
        · ((intro w' hw'; (try dsimp only at hw'); go_simp) <;> with_reducible rfl)
        simp only [Act.put, List.setIfInBounds_toArray, List.set_cons_zero, List.set_cons_succ]
        refine wpN_pure (i := 1) (v := ?_) rfl (by kernel_rfl) (by kernel_rfl) (by kernel_rfl) (by kernel_rfl) (fun _ _ _ h => h) (Or.inl ⟨by rfl, ?_⟩) (fun _ => hS) ?_
        rotate_left
        · ((intro w' hw'; (try dsimp only at hw'); go_simp) <;> with_reducible rfl)
        simp only [Act.put, List.setIfInBounds_toArray, List.set_cons_zero, List.set_cons_succ]
        refine wpN_pure (i := 2) (v := ?_) rfl (by kernel_rfl) (by kernel_rfl) (by kernel_rfl) (by kernel_rfl) (fun _ _ _ h => h) (Or.inl ⟨by rfl, ?_⟩) (fun _ => hS) ?_
        rotate_left
        · ((intro w' hw'; (try dsimp only at hw'); go_simp) <;> with_reducible rfl)
        simp only [Act.put, List.setIfInBounds_toArray, List.set_cons_zero, List.set_cons_succ]
        refine wpN_pure (i := 3) (v := undef) rfl (by kernel_rfl) (by kernel_rfl) (by kernel_rfl) (by kernel_rfl) (fun _ _ _ h => h) (Or.inr ⟨by rfl, rfl⟩) (fun _ => hS) ?_
        simp only [Act.put, List.setIfInBounds_toArray, List.set_cons_zero, List.set_cons_succ]
        refine wpN_pure (i := 4) (v := undef) rfl (by kernel_rfl) (by kernel_rfl) (by kernel_rfl) (by kernel_rfl) (fun _ _ _ h => h) (Or.inr ⟨by rfl, rfl⟩) (fun _ => hS) ?_
        simp only [Act.put, List.setIfInBounds_toArray, List.set_cons_zero, List.set_cons_succ]
        refine wpN_pure (i := 5) (v := undef) rfl (by kernel_rfl) (by kernel_rfl) (by kernel_rfl) (by kernel_rfl) (fun _ _ _ h => h) (Or.inr ⟨by rfl, rfl⟩) (fun _ => hS) ?_
        simp only [Act.put, List.setIfInBounds_toArray, List.set_cons_zero, List.set_cons_succ]
        refine wpN_pure (i := 6) (v := undef) rfl (by kernel_rfl) (by kernel_rfl) (by kernel_rfl) (by kernel_rfl) (fun _ _ _ h => h) (Or.inr ⟨by rfl, rfl⟩) (fun _ => hS) ?_
        simp only [Act.put, List.setIfInBounds_toArray, List.set_cons_zero, List.set_cons_succ]
        refine wpN_pure (i := 7) (v := undef) rfl (by kernel_rfl) (by kernel_rfl) (by kernel_rfl) (by kernel_rfl) (fun _ _ _ h => h) (Or.inr ⟨by rfl, rfl⟩) (fun _ => hS) ?_
        simp only [Act.put, List.setIfInBounds_toArray, List.set_cons_zero, List.set_cons_succ]
        refine wpN_pure (i := 8) (v := undef) rfl (by kernel_rfl) (by kernel_rfl) (by kernel_rfl) (by kernel_rfl) (fun _ _ _ h => h) (Or.inr ⟨by rfl, rfl⟩) (fun _ => hS) ?_
        simp only [Act.put, List.setIfInBounds_toArray, List.set_cons_zero, List.set_cons_succ]
        refine wpN_pure (i := 9) (v := undef) rfl (by kernel_rfl) (by kernel_rfl) (by kernel_rfl) (by kernel_rfl) (fun _ _ _ h => h) (Or.inr ⟨by rfl, rfl⟩) (fun _ => hS) ?_
        simp only [Act.put, List.setIfInBounds_toArray, List.set_cons_zero, List.set_cons_succ]
        refine wpN_pure (i := 10) (v := undef) rfl (by kernel_rfl) (by kernel_rfl) (by kernel_rfl) (by kernel_rfl) (fun _ _ _ h => h) (Or.inr ⟨by rfl, rfl⟩) (fun _ => hS) ?_
        simp only [Act.put, List.setIfInBounds_toArray, List.set_cons_zero, List.set_cons_succ]
        refine wpN_pure (i := 11) (v := undef) rfl (by kernel_rfl) (by kernel_rfl) (by kernel_rfl) (by kernel_rfl) (fun _ _ _ h => h) (Or.inr ⟨by rfl, rfl⟩) (fun _ => hS) ?_
        simp only [Act.put, List.setIfInBounds_toArray, List.set_cons_zero, List.set_cons_succ]
        refine wpN_pure (i := 12) (v := undef) rfl (by kernel_rfl) (by kernel_rfl) (by kernel_rfl) (by kernel_rfl) (fun _ _ _ h => h) (Or.inr ⟨by rfl, rfl⟩) (fun _ => hS) ?_
        simp only [Act.put, List.setIfInBounds_toArray, List.set_cons_zero, List.set_cons_succ]
        refine wpN_pure (i := 13) (v := undef) rfl (by kernel_rfl) (by kernel_rfl) (by kernel_rfl) (by kernel_rfl) (fun _ _ _ h => h) (Or.inr ⟨by rfl, rfl⟩) (fun _ => hS) ?_
        simp only [Act.put, List.setIfInBounds_toArray, List.set_cons_zero, List.set_cons_succ]
        refine wpN_pure (i := 14) (v := undef) rfl (by kernel_rfl) (by kernel_rfl) (by kernel_rfl) (by kernel_rfl) (fun _ _ _ h => h) (Or.inr ⟨by rfl, rfl⟩) (fun _ => hS) ?_
        simp only [Act.put, List.setIfInBounds_toArray, List.set_cons_zero, List.set_cons_succ]
        refine wpN_pure (i := 15) (v := undef) rfl (by kernel_rfl) (by kernel_rfl) (by kernel_rfl) (by kernel_rfl) (fun _ _ _ h => h) (Or.inr ⟨by rfl, rfl⟩) (fun _ => hS) ?_
        simp only [Act.put, List.setIfInBounds_toArray, List.set_cons_zero, List.set_cons_succ]
        refine wpN_pure (i := 16) (v := undef) rfl (by kernel_rfl) (by kernel_rfl) (by kernel_rfl) (by kernel_rfl) (fun _ _ _ h => h) (Or.inr ⟨by rfl, rfl⟩) (fun _ => hS) ?_
        simp only [Act.put, List.setIfInBounds_toArray, List.set_cons_zero, List.set_cons_succ]
        refine wpN_pure (i := 17) (v := undef) rfl (by kernel_rfl) (by kernel_rfl) (by kernel_rfl) (by kernel_rfl) (fun _ _ _ h => h) (Or.inr ⟨by rfl, rfl⟩) (fun _ => hS) ?_
        simp only [Act.put, List.setIfInBounds_toArray, List.set_cons_zero, List.set_cons_succ]
        refine wpN_pure (i := 18) (v := ?_) rfl (by kernel_rfl) (by kernel_rfl) (by kernel_rfl) (by kernel_rfl) (fun _ _ _ h => h) (Or.inl ⟨by rfl, ?_⟩) (fun _ => hS) ?_
        rotate_left
        · ((intro w' hw'; (try dsimp only at hw'); go_simp) <;> with_reducible rfl)
        simp only [Act.put, List.setIfInBounds_toArray, List.set_cons_zero, List.set_cons_succ]
        refine wpN_done (by kernel_rfl) ?_
        have hbd : Below wr.heap.size wr wr.drew := below_drewN (Below.refl _ _) 1
        have key : EpK w r C (mkC CR gq W v v3 back ks ll) (st0 W ll zs) lp 0 wr.drew := ⟨s, M1, Mc1, Lib.hid HST.out, Lib.hid (RW.out.bel hbd), Lib.hid (by obtain ⟨va1, vd1, u1, hv⟩ := VW.out; exact ⟨va1, vd1, u1, hv.bel' hbd⟩), MW, DW, Lib.hid (BW.out.trans (hbd.mono hsw))⟩
        try (go_wp2_with fail)
        go_meet
        exact ⟨by go_num, rfl, key⟩
      · obtain rfl := hx5.resolve_left (by omega)
        obtain ⟨c0, c1⟩ := HC5.out t (by rw [← HNP.out]; omega)
        have c0 := (BW.out.cell (p := ⟨b5, _, none⟩) (World.block_lt_of_cell? w _ c0)).trans c0
        have c1 := (BW.out.cell (p := ⟨b5, _, none⟩) (World.block_lt_of_cell? w _ c1)).trans c1
        have hbd : Below wr.heap.size wr wr.drew := below_drewN (Below.refl _ _) 1
        have CS1 := Lib.hid (CST.out wr.drew s M1 (kp lp t) (RW.out.bel hbd) IW.out (BW.out.trans (hbd.mono hsw)) MW.out)
        have e1 : IntKind.i64.wrap ((t : Int) + 1 - 1) = (t : Int) := by rw [IntWalk.i64_in _ (by omega)]; omega
        have e2 : IntKind.i64.wrap (t : Int) = (t : Int) := IntWalk.i64_in _ (by omega)
        have e4 : (t : Int) + 1 - 1 = (t : Int) := by omega
        have g5 : decide ((0 : Int) < (t : Int) + 1) = true := decide_eq_true (by omega)
        have htp : t < np := by omega
        have LB5 := Lib.hid (World.block_lt_of_cell? w _ (HC5.out t (by rw [← HNP.out]; omega)).1)
        have HKP := Lib.hid (show stXP back ks W ll s (kp lp t) = stXP back ks W ll s (kp lp t) from rfl)
        obtain ⟨p, hpe⟩ : ∃ p, p = kp lp t := ⟨_, rfl⟩
        have HPE := Lib.hid hpe
        rw [← hpe] at c0 c1 CS1
        clear hpe HKP
        obtain ⟨p1, p2⟩ := p
        simp only at c0 c1 CS1
        unfold pkv at CS1
        refine wp_region_N [8, 15] [9, 16] (fun w' => w'.cell? ⟨b5, o5 + t * 2, none⟩ = some (.int .i64 p1) ∧ w'.cell? ⟨b5, o5 + t * 2 + 1, none⟩ = some (.int .i64 p2)) (by kernel_rfl) ?_
        have hS : wr.drew.cell? ⟨b5, o5 + t * 2, none⟩ = some (.int .i64 p1) ∧ wr.drew.cell? ⟨b5, o5 + t * 2 + 1, none⟩ = some (.int .i64 p2) := ⟨c0, c1⟩
        clear c0 c1
        refine wpN_pure (i := 0) (v := ?_) rfl (by kernel_rfl) (by kernel_rfl) (by kernel_rfl) (by kernel_rfl) (fun _ _ _ h => h) (Or.inl ⟨by rfl, ?_⟩) (fun _ => hS) ?_
        rotate_left
        · ((intro w' hw'; (try dsimp only at hw'); go_simp) <;> with_reducible rfl)
        simp only [Act.put, List.setIfInBounds_toArray, List.set_cons_zero, List.set_cons_succ]
        refine wpN_pure (i := 1) (v := ?_) rfl (by kernel_rfl) (by kernel_rfl) (by kernel_rfl) (by kernel_rfl) (fun _ _ _ h => h) (Or.inl ⟨by rfl, ?_⟩) (fun _ => hS) ?_
        rotate_left
        · ((intro w' hw'; (try dsimp only at hw'); go_simp) <;> with_reducible rfl)
        simp only [Act.put, List.setIfInBounds_toArray, List.set_cons_zero, List.set_cons_succ]
        refine wpN_pure (i := 2) (v := ?_) rfl (by kernel_rfl) (by kernel_rfl) (by kernel_rfl) (by kernel_rfl) (fun _ _ _ h => h) (Or.inl ⟨by rfl, ?_⟩) (fun _ => hS) ?_
        rotate_left
        · ((intro w' hw'; (try dsimp only at hw'); go_simp) <;> with_reducible rfl)
        simp only [Act.put, List.setIfInBounds_toArray, List.set_cons_zero, List.set_cons_succ]
        refine wpN_pure (i := 3) (v := ?_) rfl (by kernel_rfl) (by kernel_rfl) (by kernel_rfl) (by kernel_rfl) (fun _ _ _ h => h) (Or.inl ⟨by rfl, ?_⟩) (fun _ => hS) ?_
        rotate_left
        · ((intro w' hw'; (try dsimp only at hw'); go_simp) <;> with_reducible rfl)
        simp only [Act.put, List.setIfInBounds_toArray, List.set_cons_zero, List.set_cons_succ]
        refine wpN_pure (i := 4) (v := ?_) rfl (by kernel_rfl) (by kernel_rfl) (by kernel_rfl) (by kernel_rfl) (fun _ _ _ h => h) (Or.inl ⟨by rfl, ?_⟩) (fun _ => hS) ?_
        rotate_left
        · ((intro w' hw'; (try dsimp only at hw'); go_simp) <;> with_reducible rfl)
        simp only [Act.put, List.setIfInBounds_toArray, List.set_cons_zero, List.set_cons_succ]
        refine wpN_pure (i := 5) (v := ?_) rfl (by kernel_rfl) (by kernel_rfl) (by kernel_rfl) (by kernel_rfl) (fun _ _ _ h => h) (Or.inl ⟨by rfl, ?_⟩) (fun _ => hS) ?_
        rotate_left
        · ((intro w' hw'; (try dsimp only at hw'); go_simp) <;> with_reducible rfl)
        simp only [Act.put, List.setIfInBounds_toArray, List.set_cons_zero, List.set_cons_succ]
        refine wpN_pure (i := 6) (v := ?_) rfl (by kernel_rfl) (by kernel_rfl) (by kernel_rfl) (by kernel_rfl) (fun _ _ _ h => h) (Or.inl ⟨by rfl, ?_⟩) (fun _ => hS) ?_
        rotate_left
        · ((intro w' hw'; (try dsimp only at hw'); go_simp) <;> with_reducible rfl)
        simp only [Act.put, List.setIfInBounds_toArray, List.set_cons_zero, List.set_cons_succ]
        refine wpN_pure (i := 7) (v := ?_) rfl (by kernel_rfl) (by kernel_rfl) (by kernel_rfl) (by kernel_rfl) (fun _ _ _ h => h) (Or.inl ⟨by rfl, ?_⟩) (fun _ => hS) ?_
        rotate_left
        · ((intro w' hw'; (try dsimp only at hw'); go_simp) <;> with_reducible rfl)
        simp only [Act.put, List.setIfInBounds_toArray, List.set_cons_zero, List.set_cons_succ]
        refine wpN_read (i := 8) (v := ?_) rfl (by kernel_rfl) (by kernel_rfl) (by kernel_rfl) (by kernel_rfl) (by kernel_rfl) (fun _ _ _ h => h) (Or.inl ⟨by rfl, ?_⟩) hS ?_
        rotate_left
        · ((intro w' hw'; (try dsimp only at hw'); go_simp) <;> with_reducible rfl)
        simp only [Act.put, List.setIfInBounds_toArray, List.set_cons_zero, List.set_cons_succ]
        refine wpN_pure (i := 10) (v := ?_) rfl (by kernel_rfl) (by kernel_rfl) (by kernel_rfl) (by kernel_rfl) (fun _ _ _ h => h) (Or.inl ⟨by rfl, ?_⟩) (fun _ => hS) ?_
        rotate_left
        · ((intro w' hw'; (try dsimp only at hw'); go_simp) <;> with_reducible rfl)
        simp only [Act.put, List.setIfInBounds_toArray, List.set_cons_zero, List.set_cons_succ]
        refine wpN_pure (i := 11) (v := ?_) rfl (by kernel_rfl) (by kernel_rfl) (by kernel_rfl) (by kernel_rfl) (fun _ _ _ h => h) (Or.inl ⟨by rfl, ?_⟩) (fun _ => hS) ?_
        rotate_left
        · ((intro w' hw'; (try dsimp only at hw'); go_simp) <;> with_reducible rfl)
        simp only [Act.put, List.setIfInBounds_toArray, List.set_cons_zero, List.set_cons_succ]
        refine wpN_pure (i := 12) (v := ?_) rfl (by kernel_rfl) (by kernel_rfl) (by kernel_rfl) (by kernel_rfl) (fun _ _ _ h => h) (Or.inl ⟨by rfl, ?_⟩) (fun _ => hS) ?_
        rotate_left
        · ((intro w' hw'; (try dsimp only at hw'); go_simp) <;> with_reducible rfl)
        simp only [Act.put, List.setIfInBounds_toArray, List.set_cons_zero, List.set_cons_succ]
        refine wpN_pure (i := 13) (v := ?_) rfl (by kernel_rfl) (by kernel_rfl) (by kernel_rfl) (by kernel_rfl) (fun _ _ _ h => h) (Or.inl ⟨by rfl, ?_⟩) (fun _ => hS) ?_
        rotate_left
        · ((intro w' hw'; (try dsimp only at hw'); go_simp) <;> with_reducible rfl)
        simp only [Act.put, List.setIfInBounds_toArray, List.set_cons_zero, List.set_cons_succ]
        refine wpN_pure (i := 14) (v := ?_) rfl (by kernel_rfl) (by kernel_rfl) (by kernel_rfl) (by kernel_rfl) (fun _ _ _ h => h) (Or.inl ⟨by rfl, ?_⟩) (fun _ => hS) ?_
        rotate_left
        · ((intro w' hw'; (try dsimp only at hw'); go_simp) <;> with_reducible rfl)
        simp only [Act.put, List.setIfInBounds_toArray, List.set_cons_zero, List.set_cons_succ]
        refine wpN_read (i := 15) (v := ?_) rfl (by kernel_rfl) (by kernel_rfl) (by kernel_rfl) (by kernel_rfl) (by kernel_rfl) (fun _ _ _ h => h) (Or.inl ⟨by rfl, ?_⟩) hS ?_
        rotate_left
        · ((intro w' hw'; (try dsimp only at hw'); go_simp) <;> with_reducible rfl)
        simp only [Act.put, List.setIfInBounds_toArray, List.set_cons_zero, List.set_cons_succ]
        refine wpN_oneSG (i := 9) rfl (by rfl) (by kernel_rfl) (fun K hK => ?_)
        go_simp
        refine CS1.out.mono ?_
        rintro e w2 ⟨rfl, M2, hrun, hO, hM2⟩
        have hnb : ¬ M1 b5 := fun h => by have h1 := MW.out _ h; have h2 : b5 < w.heap.size := LB5.out; omega
        have hS2 : w2.cell? ⟨b5, o5 + t * 2, none⟩ = some (.int .i64 p1) ∧ w2.cell? ⟨b5, o5 + t * 2 + 1, none⟩ = some (.int .i64 p2) := ⟨hO.cell' hS.1 hnb, hO.cell' hS.2 hnb⟩
        refine ⟨hS2, hK.out _ _ hS2 ?_⟩
        clear hK K hS hS2 hnb CS1
        have R2 := Lib.hid hrun
        have B2 := Lib.hid ((BW.out.trans (hbd.mono hsw)).trans (hO.below (B := w.heap.size) (by have := hbd.size; omega) (fun k hk => MW.out k hk)))
        have hs2 := B2.out.size
        have hs12 : wr.heap.size ≤ w2.heap.size := Nat.le_trans hbd.size hO.size
        have M2W := Lib.hid (show ∀ k, M2 k → w.heap.size ≤ k from fun k hk => by
          rcases hM2 k hk with h1 | h1
          · exact MW.out k h1
          · have := hbd.size; omega)
        have V2 : CrAt w w2 Mc1 (mkC CR gq W v v3 back ks ll) (decide (s.ph = ll.length)) s := by
          obtain ⟨va1, vd1, u1, hv⟩ := VW.out
          exact ⟨va1, vd1, u1, (hv.bel' hbd).only hO (fun k hk => ⟨MW.out k hk, DW.out k (.inr hk)⟩)⟩
        have LC := Lib.hid (show ∀ k, Mc1 k → k < wr.heap.size from fun k hk => by obtain ⟨_, _, _, hv⟩ := VW.out; exact (hv.lo k hk).2)
        have LCW := Lib.hid (show ∀ k, Mc1 k → w.heap.size ≤ k from fun k hk => by obtain ⟨_, _, _, hv⟩ := VW.out; exact (hv.lo k hk).1)
        have D2 := Lib.hid (show ∀ k, C k ∨ M2 k → ¬ Mc1 k from fun k hk hc => by
          rcases hk with hk | hk
          · exact DW.out k (.inl hk) hc
          · rcases hM2 k hk with h1 | h1
            · exact DW.out k (.inr h1) hc
            · have := LC.out k hc; have := hbd.size; omega)
        have CS2 := Lib.hid (CSC.out w2 s Mc1 (p1, p2) V2 IW.out)
        clear hrun hO hM2 hbd V2 VW DW MW RW BW
        unfold pkv at CS2
        simp only [mkC] at CS2
        refine wpN_oneG (i := 16) rfl (by rfl) (by kernel_rfl) (by kernel_rfl) (fun K hK => ?_)
        go_simp
        refine CS2.out.mono ?_
        rintro e w7 ⟨rfl, Mc2, hcr, hO, hM2⟩
        refine hK.out _ _ ?_
        clear hK K CS2
        refine wpN_pure (i := 17) (v := ?_) rfl (by kernel_rfl) (by kernel_rfl) (by kernel_rfl) (by kernel_rfl) (fun _ _ _ h => h) (Or.inl ⟨by rfl, ?_⟩) (fun h => Bool.noConfusion (h.symm.trans (show _ = false by kernel_rfl))) ?_
        rotate_left
        · ((intro w' hw'; (try dsimp only at hw'); go_simp) <;> with_reducible rfl)
        simp only [Act.put, List.setIfInBounds_toArray, List.set_cons_zero, List.set_cons_succ]
        refine wpN_pure (i := 18) (v := ?_) rfl (by kernel_rfl) (by kernel_rfl) (by kernel_rfl) (by kernel_rfl) (fun _ _ _ h => h) (Or.inl ⟨by rfl, ?_⟩) (fun h => Bool.noConfusion (h.symm.trans (show _ = false by kernel_rfl))) ?_
        rotate_left
        · ((intro w' hw'; (try dsimp only at hw'); go_simp) <;> with_reducible rfl)
        simp only [Act.put, List.setIfInBounds_toArray, List.set_cons_zero, List.set_cons_succ]
        refine wpN_done (by kernel_rfl) ?_
        have key : EpK w r C (mkC CR gq W v v3 back ks ll) (st0 W ll zs) lp (t + 1) w7 := ⟨stXP back ks W ll s (p1, p2), M2, Mc2, Lib.hid (by
          rw [take_kp (l := lp) (i := t) (by rw [← HNP.out]; exact htp), runP_snoc, ← HPE.out]
          rw [show t + 1 - 1 = t from rfl] at HST
          rw [HST.out]; rfl), Lib.hid (R2.out.only hO (fun k hc => ⟨fun h => D2.out k (.inl h) hc, fun h => D2.out k (.inr h) hc⟩)), Lib.hid hcr, M2W, Lib.hid (fun k hk hc => by
          rcases hM2 k hc with h1 | h1
          · exact D2.out k hk h1
          · have := R2.out.lt k hk; omega), Lib.hid (B2.out.trans (hO.below (by omega) (fun k hk => LCW.out k hk)))⟩
        try (go_wp2_with fail)
        go_meet
        exact ⟨by go_num, rfl, key⟩
    case rest =>
      obtain ⟨rfl, rfl, s7, M7, Mc7, S7, R7, V7, M7W, D7, B7⟩ := hcut
      clear RW VW MW DW BW HST IW hsw
      have I7 := Lib.hid (show RI back ks zs W ll s7 from by rw [S7.out]; exact runP_inv HG.out HZL.out hW1 _ RI0.out)
      have CL := Lib.hid (xleft_any r s7 C M7 wc R7.out)
      obtain ⟨va7, vd7, u7, hv⟩ := V7.out
      obtain ⟨aa, ac, rfl, _⟩ := own_shape hv.ar
      obtain ⟨da, dc, rfl, _⟩ := own_shape hv.did
      have hs7 := B7.out.size
      have LAR := Lib.hid (show s7.ar.length ≤ 1000000 by rw [I7.out.arlen HZL.out, ← HN.out]; omega)
      have LLG := Lib.hid (show s7.log.length ≤ 1000000 from I7.out.log_le HG.out)
      obtain ⟨b, hb7⟩ : ∃ b, b = decide (s7.ph = ll.length) := ⟨_, rfl⟩
      obtain ⟨ph, hph⟩ : ∃ ph, ph = s7.ph := ⟨_, rfl⟩
      obtain ⟨lf, hlf⟩ : ∃ lf, lf = s7.left := ⟨_, rfl⟩
      obtain ⟨an, han⟩ : ∃ an, an = s7.ar.length := ⟨_, rfl⟩
      obtain ⟨dn, hdn⟩ : ∃ dn, dn = s7.log.length := ⟨_, rfl⟩
      have HB7 := Lib.hid hb7
      have HPH := Lib.hid hph
      have HLFT := Lib.hid hlf
      have HAN := Lib.hid han
      have HDN := Lib.hid hdn
      rw [← hph, ← hlf] at CL
      clear hb7 hph hlf han hdn
      go_wp2_with fail
      refine CL.out.mono ?_
      rintro e w8 ⟨rfl, hb⟩
      have R8 := Lib.hid (R7.out.bel hb)
      have V8 := Lib.hid (hv.bel' hb)
      have B8 := Lib.hid (B7.out.trans (hb.mono hs7))
      have hs8 := B8.out.size
      clear hv hb CL R7 V7 B7 hs7
      have hS0 : w8.cell? ⟨CR, 8, none⟩ = some (.bool b) ∧ w8.cell? ⟨CR, 5, none⟩ = some (.int .i64 (ph : Int)) ∧ w8.cell? ⟨CR, 6, none⟩ = some (.int .i64 (lf : Int)) ∧ w8.cell? ⟨CR, 1, none⟩ = some (.slice aa an ac) ∧ w8.cell? ⟨CR, 7, none⟩ = some (.slice da dn dc) := ⟨by rw [HB7.out]; exact V8.out.blk.cell 8, by rw [HPH.out]; exact V8.out.blk.cell 5, by rw [HLFT.out]; exact V8.out.blk.cell 6, by rw [HAN.out]; exact V8.out.blk.cell 1, by rw [HDN.out]; exact V8.out.blk.cell 7⟩
      have lC8 : CR < w8.heap.size := V8.out.blk.lt
      have hbd8 : Below w8.heap.size w8 w8.drew := below_drewN (Below.refl _ _) 1
      have R9 := Lib.hid (R8.out.bel hbd8)
      have V9 := Lib.hid (V8.out.bel' hbd8)
      have B9 := Lib.hid (B8.out.trans (hbd8.mono hs8))
      have CD := Lib.hid (xdone_any r s7 C M7 w8.drew R9.out)
      rw [HLL.out, ← HB7.out] at CD
      have lC9 : CR < w8.drew.heap.size := V9.out.blk.lt
      go_wp2_with fail
      refine wp_region_N [5, 12, 20, 29, 39] [1, 25, 30, 35, 40] (fun w' => w'.cell? ⟨CR, 8, none⟩ = some (.bool b) ∧ w'.cell? ⟨CR, 5, none⟩ = some (.int .i64 (ph : Int)) ∧ w'.cell? ⟨CR, 6, none⟩ = some (.int .i64 (lf : Int)) ∧ w'.cell? ⟨CR, 1, none⟩ = some (.slice aa an ac) ∧ w'.cell? ⟨CR, 7, none⟩ = some (.slice da dn dc)) (by kernel_rfl) ?_
      have hS : w8.drew.cell? ⟨CR, 8, none⟩ = some (.bool b) ∧ w8.drew.cell? ⟨CR, 5, none⟩ = some (.int .i64 (ph : Int)) ∧ w8.drew.cell? ⟨CR, 6, none⟩ = some (.int .i64 (lf : Int)) ∧ w8.drew.cell? ⟨CR, 1, none⟩ = some (.slice aa an ac) ∧ w8.drew.cell? ⟨CR, 7, none⟩ = some (.slice da dn dc) := hS0
      clear hS0 hbd8 R8 V8 B8 lC8
      generalize w8.drew = wd at *
      have hsd : w.heap.size ≤ wd.heap.size := B9.out.size
      clear hs8
      refine wpN_pure (i := 0) (v := ?_) rfl (by kernel_rfl) (by kernel_rfl) (by kernel_rfl) (by kernel_rfl) (fun _ _ _ h => h) (Or.inl ⟨by rfl, ?_⟩) (fun _ => hS) ?_
      rotate_left
      · ((intro w' hw'; (try dsimp only at hw'); go_simp) <;> with_reducible rfl)
      simp only [Act.put, List.setIfInBounds_toArray, List.set_cons_zero, List.set_cons_succ]
      refine wpN_pure (i := 2) (v := ?_) rfl (by kernel_rfl) (by kernel_rfl) (by kernel_rfl) (by kernel_rfl) (fun _ _ _ h => h) (Or.inl ⟨by rfl, ?_⟩) (fun _ => hS) ?_
      rotate_left
      · ((intro w' hw'; (try dsimp only at hw'); go_simp) <;> with_reducible rfl)
      simp only [Act.put, List.setIfInBounds_toArray, List.set_cons_zero, List.set_cons_succ]
      refine wpN_pure (i := 3) (v := ?_) rfl (by kernel_rfl) (by kernel_rfl) (by kernel_rfl) (by kernel_rfl) (fun _ _ _ h => h) (Or.inl ⟨by rfl, ?_⟩) (fun _ => hS) ?_
      rotate_left
      · ((intro w' hw'; (try dsimp only at hw'); go_simp) <;> with_reducible rfl)
      simp only [Act.put, List.setIfInBounds_toArray, List.set_cons_zero, List.set_cons_succ]
      refine wpN_pure (i := 4) (v := ?_) rfl (by kernel_rfl) (by kernel_rfl) (by kernel_rfl) (by kernel_rfl) (fun _ _ _ h => h) (Or.inl ⟨by rfl, ?_⟩) (fun _ => hS) ?_
      rotate_left
      · ((intro w' hw'; (try dsimp only at hw'); go_simp) <;> with_reducible rfl)
      simp only [Act.put, List.setIfInBounds_toArray, List.set_cons_zero, List.set_cons_succ]
      refine wpN_read (i := 5) (v := ?_) rfl (by kernel_rfl) (by kernel_rfl) (by kernel_rfl) (by kernel_rfl) (by kernel_rfl) (fun _ _ _ h => h) (Or.inl ⟨by rfl, ?_⟩) hS ?_
      rotate_left
      · ((intro w' hw'; (try dsimp only at hw'); go_simp) <;> with_reducible rfl)
      simp only [Act.put, List.setIfInBounds_toArray, List.set_cons_zero, List.set_cons_succ]
      refine wpN_oneS (i := 1) rfl rfl (by kernel_rfl) (fun K hK => ?_)
      go_simp
      refine CD.out.mono ?_
      rintro e wx ⟨rfl, hb⟩
      have hS2 : wx.cell? ⟨CR, 8, none⟩ = some (.bool b) ∧ wx.cell? ⟨CR, 5, none⟩ = some (.int .i64 (ph : Int)) ∧ wx.cell? ⟨CR, 6, none⟩ = some (.int .i64 (lf : Int)) ∧ wx.cell? ⟨CR, 1, none⟩ = some (.slice aa an ac) ∧ wx.cell? ⟨CR, 7, none⟩ = some (.slice da dn dc) := ⟨(hb.cell (p := ⟨CR, 8, none⟩) lC9).trans hS.1, (hb.cell (p := ⟨CR, 5, none⟩) lC9).trans hS.2.1, (hb.cell (p := ⟨CR, 6, none⟩) lC9).trans hS.2.2.1, (hb.cell (p := ⟨CR, 1, none⟩) lC9).trans hS.2.2.2.1, (hb.cell (p := ⟨CR, 7, none⟩) lC9).trans hS.2.2.2.2⟩
      refine ⟨hS2, hK.out _ _ hS2 ?_⟩
      clear hK K hS CD
      have hS := hS2
      clear hS2
      have R10 := Lib.hid (R9.out.bel hb)
      have V10 := Lib.hid (V9.out.bel' hb)
      have B10 := Lib.hid (B9.out.trans (hb.mono hsd))
      have hsz10 : w.heap.size ≤ wx.heap.size := B10.out.size
      have lC10 : CR < wx.heap.size := V10.out.blk.lt
      clear hb R9 V9 B9 hsd lC9
      have CA := Lib.hid ((xarray_any r s7 C M7 wx R10.out LAR.out).mono (R' := fun e w' => ∃ a c, e = .returned (.slice a an c) ∧ Rd .u64 w' (.slice a an c) s7.ar ∧ Below wx.heap.size wx w') (fun e w' ⟨v, he, ho, hb⟩ => by
        have hr := ho.rd
        obtain ⟨a, c, rfl, _⟩ := own_shape ho
        rw [← HAN.out] at he hr
        exact ⟨a, c, he, hr, hb⟩))
      refine wpN_pure (i := 6) (v := ?_) rfl (by kernel_rfl) (by kernel_rfl) (by kernel_rfl) (by kernel_rfl) (fun _ _ _ h => h) (Or.inl ⟨by rfl, ?_⟩) (fun _ => hS) ?_
      rotate_left
      · ((intro w' hw'; (try dsimp only at hw'); go_simp) <;> with_reducible rfl)
      simp only [Act.put, List.setIfInBounds_toArray, List.set_cons_zero, List.set_cons_succ]
      refine wpN_pure (i := 7) (v := ?_) rfl (by kernel_rfl) (by kernel_rfl) (by kernel_rfl) (by kernel_rfl) (fun _ _ _ h => h) (Or.inl ⟨by rfl, ?_⟩) (fun _ => hS) ?_
      rotate_left
      · ((intro w' hw'; (try dsimp only at hw'); go_simp) <;> with_reducible rfl)
      simp only [Act.put, List.setIfInBounds_toArray, List.set_cons_zero, List.set_cons_succ]
      refine wpN_pure (i := 8) (v := ?_) rfl (by kernel_rfl) (by kernel_rfl) (by kernel_rfl) (by kernel_rfl) (fun _ _ _ h => h) (Or.inl ⟨by rfl, ?_⟩) (fun _ => hS) ?_
      rotate_left
      · ((intro w' hw'; (try dsimp only at hw'); go_simp) <;> with_reducible rfl)
      simp only [Act.put, List.setIfInBounds_toArray, List.set_cons_zero, List.set_cons_succ]
      refine wpN_pure (i := 9) (v := ?_) rfl (by kernel_rfl) (by kernel_rfl) (by kernel_rfl) (by kernel_rfl) (fun _ _ _ h => h) (Or.inl ⟨by rfl, ?_⟩) (fun _ => hS) ?_
      rotate_left
      · ((intro w' hw'; (try dsimp only at hw'); go_simp) <;> with_reducible rfl)
      simp only [Act.put, List.setIfInBounds_toArray, List.set_cons_zero, List.set_cons_succ]
      refine wpN_pure (i := 10) (v := ?_) rfl (by kernel_rfl) (by kernel_rfl) (by kernel_rfl) (by kernel_rfl) (fun _ _ _ h => h) (Or.inl ⟨by rfl, ?_⟩) (fun _ => hS) ?_
      rotate_left
      · ((intro w' hw'; (try dsimp only at hw'); go_simp) <;> with_reducible rfl)
      simp only [Act.put, List.setIfInBounds_toArray, List.set_cons_zero, List.set_cons_succ]
      refine wpN_pure (i := 11) (v := ?_) rfl (by kernel_rfl) (by kernel_rfl) (by kernel_rfl) (by kernel_rfl) (fun _ _ _ h => h) (Or.inl ⟨by rfl, ?_⟩) (fun _ => hS) ?_
      rotate_left
      · ((intro w' hw'; (try dsimp only at hw'); go_simp) <;> with_reducible rfl)
      simp only [Act.put, List.setIfInBounds_toArray, List.set_cons_zero, List.set_cons_succ]
      refine wpN_read (i := 12) (v := ?_) rfl (by kernel_rfl) (by kernel_rfl) (by kernel_rfl) (by kernel_rfl) (by kernel_rfl) (fun _ _ _ h => h) (Or.inl ⟨by rfl, ?_⟩) hS ?_
      rotate_left
      · ((intro w' hw'; (try dsimp only at hw'); go_simp) <;> with_reducible rfl)
      simp only [Act.put, List.setIfInBounds_toArray, List.set_cons_zero, List.set_cons_succ]
      refine wpN_pure (i := 13) (v := ?_) rfl (by kernel_rfl) (by kernel_rfl) (by kernel_rfl) (by kernel_rfl) (fun _ _ _ h => h) (Or.inl ⟨by rfl, ?_⟩) (fun _ => hS) ?_
      rotate_left
      · ((intro w' hw'; (try dsimp only at hw'); go_simp) <;> with_reducible rfl)
      simp only [Act.put, List.setIfInBounds_toArray, List.set_cons_zero, List.set_cons_succ]
      refine wpN_pure (i := 14) (v := ?_) rfl (by kernel_rfl) (by kernel_rfl) (by kernel_rfl) (by kernel_rfl) (fun _ _ _ h => h) (Or.inl ⟨by rfl, ?_⟩) (fun _ => hS) ?_
      rotate_left
      · ((intro w' hw'; (try dsimp only at hw'); go_simp) <;> with_reducible rfl)
      simp only [Act.put, List.setIfInBounds_toArray, List.set_cons_zero, List.set_cons_succ]
      refine wpN_pure (i := 15) (v := ?_) rfl (by kernel_rfl) (by kernel_rfl) (by kernel_rfl) (by kernel_rfl) (fun _ _ _ h => h) (Or.inl ⟨by rfl, ?_⟩) (fun _ => hS) ?_
      rotate_left
      · ((intro w' hw'; (try dsimp only at hw'); go_simp) <;> with_reducible rfl)
      simp only [Act.put, List.setIfInBounds_toArray, List.set_cons_zero, List.set_cons_succ]
      refine wpN_pure (i := 16) (v := ?_) rfl (by kernel_rfl) (by kernel_rfl) (by kernel_rfl) (by kernel_rfl) (fun _ _ _ h => h) (Or.inl ⟨by rfl, ?_⟩) (fun _ => hS) ?_
      rotate_left
      · ((intro w' hw'; (try dsimp only at hw'); go_simp) <;> with_reducible rfl)
      simp only [Act.put, List.setIfInBounds_toArray, List.set_cons_zero, List.set_cons_succ]
      refine wpN_pure (i := 17) (v := ?_) rfl (by kernel_rfl) (by kernel_rfl) (by kernel_rfl) (by kernel_rfl) (fun _ _ _ h => h) (Or.inl ⟨by rfl, ?_⟩) (fun _ => hS) ?_
      rotate_left
      · ((intro w' hw'; (try dsimp only at hw'); go_simp) <;> with_reducible rfl)
      simp only [Act.put, List.setIfInBounds_toArray, List.set_cons_zero, List.set_cons_succ]
      refine wpN_pure (i := 18) (v := ?_) rfl (by kernel_rfl) (by kernel_rfl) (by kernel_rfl) (by kernel_rfl) (fun _ _ _ h => h) (Or.inl ⟨by rfl, ?_⟩) (fun _ => hS) ?_
      rotate_left
      · ((intro w' hw'; (try dsimp only at hw'); go_simp) <;> with_reducible rfl)
      simp only [Act.put, List.setIfInBounds_toArray, List.set_cons_zero, List.set_cons_succ]
      refine wpN_pure (i := 19) (v := ?_) rfl (by kernel_rfl) (by kernel_rfl) (by kernel_rfl) (by kernel_rfl) (fun _ _ _ h => h) (Or.inl ⟨by rfl, ?_⟩) (fun _ => hS) ?_
      rotate_left
      · ((intro w' hw'; (try dsimp only at hw'); go_simp) <;> with_reducible rfl)
      simp only [Act.put, List.setIfInBounds_toArray, List.set_cons_zero, List.set_cons_succ]
      refine wpN_read (i := 20) (v := ?_) rfl (by kernel_rfl) (by kernel_rfl) (by kernel_rfl) (by kernel_rfl) (by kernel_rfl) (fun _ _ _ h => h) (Or.inl ⟨by rfl, ?_⟩) hS ?_
      rotate_left
      · ((intro w' hw'; (try dsimp only at hw'); go_simp) <;> with_reducible rfl)
      simp only [Act.put, List.setIfInBounds_toArray, List.set_cons_zero, List.set_cons_succ]
      refine wpN_pure (i := 21) (v := ?_) rfl (by kernel_rfl) (by kernel_rfl) (by kernel_rfl) (by kernel_rfl) (fun _ _ _ h => h) (Or.inl ⟨by rfl, ?_⟩) (fun _ => hS) ?_
      rotate_left
      · ((intro w' hw'; (try dsimp only at hw'); go_simp) <;> with_reducible rfl)
      simp only [Act.put, List.setIfInBounds_toArray, List.set_cons_zero, List.set_cons_succ]
      refine wpN_pure (i := 22) (v := ?_) rfl (by kernel_rfl) (by kernel_rfl) (by kernel_rfl) (by kernel_rfl) (fun _ _ _ h => h) (Or.inl ⟨by rfl, ?_⟩) (fun _ => hS) ?_
      rotate_left
      · ((intro w' hw'; (try dsimp only at hw'); go_simp) <;> with_reducible rfl)
      simp only [Act.put, List.setIfInBounds_toArray, List.set_cons_zero, List.set_cons_succ]
      refine wpN_pure (i := 23) (v := ?_) rfl (by kernel_rfl) (by kernel_rfl) (by kernel_rfl) (by kernel_rfl) (fun _ _ _ h => h) (Or.inl ⟨by rfl, ?_⟩) (fun _ => hS) ?_
      rotate_left
      · ((intro w' hw'; (try dsimp only at hw'); go_simp) <;> with_reducible rfl)
      simp only [Act.put, List.setIfInBounds_toArray, List.set_cons_zero, List.set_cons_succ]
      refine wpN_pure (i := 24) (v := ?_) rfl (by kernel_rfl) (by kernel_rfl) (by kernel_rfl) (by kernel_rfl) (fun _ _ _ h => h) (Or.inl ⟨by rfl, ?_⟩) (fun _ => hS) ?_
      rotate_left
      · ((intro w' hw'; (try dsimp only at hw'); go_simp) <;> with_reducible rfl)
      simp only [Act.put, List.setIfInBounds_toArray, List.set_cons_zero, List.set_cons_succ]
      refine wpN_pure (i := 26) (v := ?_) rfl (by kernel_rfl) (by kernel_rfl) (by kernel_rfl) (by kernel_rfl) (fun _ _ _ h => h) (Or.inl ⟨by rfl, ?_⟩) (fun _ => hS) ?_
      rotate_left
      · ((intro w' hw'; (try dsimp only at hw'); go_simp) <;> with_reducible rfl)
      simp only [Act.put, List.setIfInBounds_toArray, List.set_cons_zero, List.set_cons_succ]
      refine wpN_pure (i := 27) (v := ?_) rfl (by kernel_rfl) (by kernel_rfl) (by kernel_rfl) (by kernel_rfl) (fun _ _ _ h => h) (Or.inl ⟨by rfl, ?_⟩) (fun _ => hS) ?_
      rotate_left
      · ((intro w' hw'; (try dsimp only at hw'); go_simp) <;> with_reducible rfl)
      simp only [Act.put, List.setIfInBounds_toArray, List.set_cons_zero, List.set_cons_succ]
      refine wpN_pure (i := 28) (v := ?_) rfl (by kernel_rfl) (by kernel_rfl) (by kernel_rfl) (by kernel_rfl) (fun _ _ _ h => h) (Or.inl ⟨by rfl, ?_⟩) (fun _ => hS) ?_
      rotate_left
      · ((intro w' hw'; (try dsimp only at hw'); go_simp) <;> with_reducible rfl)
      simp only [Act.put, List.setIfInBounds_toArray, List.set_cons_zero, List.set_cons_succ]
      refine wpN_read (i := 29) (v := ?_) rfl (by kernel_rfl) (by kernel_rfl) (by kernel_rfl) (by kernel_rfl) (by kernel_rfl) (fun _ _ _ h => h) (Or.inl ⟨by rfl, ?_⟩) hS ?_
      rotate_left
      · ((intro w' hw'; (try dsimp only at hw'); go_simp) <;> with_reducible rfl)
      simp only [Act.put, List.setIfInBounds_toArray, List.set_cons_zero, List.set_cons_succ]
      refine wpN_oneSG (i := 25) rfl (by rfl) (by kernel_rfl) (fun K hK => ?_)
      go_simp
      refine CA.out.mono ?_
      rintro e wy ⟨a8, c8, rfl, hr8, hb⟩
      have hS2 : wy.cell? ⟨CR, 8, none⟩ = some (.bool b) ∧ wy.cell? ⟨CR, 5, none⟩ = some (.int .i64 (ph : Int)) ∧ wy.cell? ⟨CR, 6, none⟩ = some (.int .i64 (lf : Int)) ∧ wy.cell? ⟨CR, 1, none⟩ = some (.slice aa an ac) ∧ wy.cell? ⟨CR, 7, none⟩ = some (.slice da dn dc) := ⟨(hb.cell (p := ⟨CR, 8, none⟩) lC10).trans hS.1, (hb.cell (p := ⟨CR, 5, none⟩) lC10).trans hS.2.1, (hb.cell (p := ⟨CR, 6, none⟩) lC10).trans hS.2.2.1, (hb.cell (p := ⟨CR, 1, none⟩) lC10).trans hS.2.2.2.1, (hb.cell (p := ⟨CR, 7, none⟩) lC10).trans hS.2.2.2.2⟩
      refine ⟨hS2, hK.out _ _ hS2 ?_⟩
      clear hK K hS CA
      have hS := hS2
      clear hS2
      have R11 := Lib.hid (R10.out.bel hb)
      have V11 := Lib.hid (V10.out.bel' hb)
      have B11 := Lib.hid (B10.out.trans (hb.mono hsz10))
      have hsz11 : w.heap.size ≤ wy.heap.size := B11.out.size
      have lC11 : CR < wy.heap.size := V11.out.blk.lt
      have CE := Lib.hid (equal_yes s7.ar (.slice a8 an c8) (.slice aa an ac) wy hr8 (by have := V11.out.ar.rd; rw [← HAN.out] at this; exact this))
      clear hr8
      clear hb R10 V10 B10 hsz10 lC10
      refine wpN_oneSG (i := 30) rfl (by rfl) (by kernel_rfl) (fun K hK => ?_)
      go_simp
      refine CE.out.mono ?_
      rintro e wz ⟨rfl, hb⟩
      have hS2 : wz.cell? ⟨CR, 8, none⟩ = some (.bool b) ∧ wz.cell? ⟨CR, 5, none⟩ = some (.int .i64 (ph : Int)) ∧ wz.cell? ⟨CR, 6, none⟩ = some (.int .i64 (lf : Int)) ∧ wz.cell? ⟨CR, 1, none⟩ = some (.slice aa an ac) ∧ wz.cell? ⟨CR, 7, none⟩ = some (.slice da dn dc) := ⟨(hb.cell (p := ⟨CR, 8, none⟩) lC11).trans hS.1, (hb.cell (p := ⟨CR, 5, none⟩) lC11).trans hS.2.1, (hb.cell (p := ⟨CR, 6, none⟩) lC11).trans hS.2.2.1, (hb.cell (p := ⟨CR, 1, none⟩) lC11).trans hS.2.2.2.1, (hb.cell (p := ⟨CR, 7, none⟩) lC11).trans hS.2.2.2.2⟩
      refine ⟨hS2, hK.out _ _ hS2 ?_⟩
      clear hK K hS CE
      have hS := hS2
      clear hS2
      have R12 := Lib.hid (R11.out.bel hb)
      have V12 := Lib.hid (V11.out.bel' hb)
      have B12 := Lib.hid (B11.out.trans (hb.mono hsz11))
      have hsz12 : w.heap.size ≤ wz.heap.size := B12.out.size
      have lC12 : CR < wz.heap.size := V12.out.blk.lt
      have CG := Lib.hid ((xlog_any r s7 C M7 wz R12.out LLG.out).mono (R' := fun e w' => ∃ a c, e = .returned (.slice a dn c) ∧ Rk w' (.slice a dn c) s7.log ∧ Below wz.heap.size wz w') (fun e w' ⟨v, he, ho, hb⟩ => by
        have hr := Ot.rk ho
        obtain ⟨a, c, rfl, _⟩ := own_shape ho
        rw [← HDN.out] at he hr
        exact ⟨a, c, he, hr, hb⟩))
      clear hb R11 V11 B11 hsz11 lC11
      refine wpN_pure (i := 31) (v := ?_) rfl (by kernel_rfl) (by kernel_rfl) (by kernel_rfl) (by kernel_rfl) (fun _ _ _ h => h) (Or.inl ⟨by rfl, ?_⟩) (fun _ => hS) ?_
      rotate_left
      · ((intro w' hw'; (try dsimp only at hw'); go_simp) <;> with_reducible rfl)
      simp only [Act.put, List.setIfInBounds_toArray, List.set_cons_zero, List.set_cons_succ]
      refine wpN_pure (i := 32) (v := ?_) rfl (by kernel_rfl) (by kernel_rfl) (by kernel_rfl) (by kernel_rfl) (fun _ _ _ h => h) (Or.inl ⟨by rfl, ?_⟩) (fun _ => hS) ?_
      rotate_left
      · ((intro w' hw'; (try dsimp only at hw'); go_simp) <;> with_reducible rfl)
      simp only [Act.put, List.setIfInBounds_toArray, List.set_cons_zero, List.set_cons_succ]
      refine wpN_pure (i := 33) (v := ?_) rfl (by kernel_rfl) (by kernel_rfl) (by kernel_rfl) (by kernel_rfl) (fun _ _ _ h => h) (Or.inl ⟨by rfl, ?_⟩) (fun _ => hS) ?_
      rotate_left
      · ((intro w' hw'; (try dsimp only at hw'); go_simp) <;> with_reducible rfl)
      simp only [Act.put, List.setIfInBounds_toArray, List.set_cons_zero, List.set_cons_succ]
      refine wpN_pure (i := 34) (v := ?_) rfl (by kernel_rfl) (by kernel_rfl) (by kernel_rfl) (by kernel_rfl) (fun _ _ _ h => h) (Or.inl ⟨by rfl, ?_⟩) (fun _ => hS) ?_
      rotate_left
      · ((intro w' hw'; (try dsimp only at hw'); go_simp) <;> with_reducible rfl)
      simp only [Act.put, List.setIfInBounds_toArray, List.set_cons_zero, List.set_cons_succ]
      refine wpN_pure (i := 36) (v := ?_) rfl (by kernel_rfl) (by kernel_rfl) (by kernel_rfl) (by kernel_rfl) (fun _ _ _ h => h) (Or.inl ⟨by rfl, ?_⟩) (fun _ => hS) ?_
      rotate_left
      · ((intro w' hw'; (try dsimp only at hw'); go_simp) <;> with_reducible rfl)
      simp only [Act.put, List.setIfInBounds_toArray, List.set_cons_zero, List.set_cons_succ]
      refine wpN_pure (i := 37) (v := ?_) rfl (by kernel_rfl) (by kernel_rfl) (by kernel_rfl) (by kernel_rfl) (fun _ _ _ h => h) (Or.inl ⟨by rfl, ?_⟩) (fun _ => hS) ?_
      rotate_left
      · ((intro w' hw'; (try dsimp only at hw'); go_simp) <;> with_reducible rfl)
      simp only [Act.put, List.setIfInBounds_toArray, List.set_cons_zero, List.set_cons_succ]
      refine wpN_pure (i := 38) (v := ?_) rfl (by kernel_rfl) (by kernel_rfl) (by kernel_rfl) (by kernel_rfl) (fun _ _ _ h => h) (Or.inl ⟨by rfl, ?_⟩) (fun _ => hS) ?_
      rotate_left
      · ((intro w' hw'; (try dsimp only at hw'); go_simp) <;> with_reducible rfl)
      simp only [Act.put, List.setIfInBounds_toArray, List.set_cons_zero, List.set_cons_succ]
      refine wpN_read (i := 39) (v := ?_) rfl (by kernel_rfl) (by kernel_rfl) (by kernel_rfl) (by kernel_rfl) (by kernel_rfl) (fun _ _ _ h => h) (Or.inl ⟨by rfl, ?_⟩) hS ?_
      rotate_left
      · ((intro w' hw'; (try dsimp only at hw'); go_simp) <;> with_reducible rfl)
      simp only [Act.put, List.setIfInBounds_toArray, List.set_cons_zero, List.set_cons_succ]
      refine wpN_oneSG (i := 35) rfl (by rfl) (by kernel_rfl) (fun K hK => ?_)
      go_simp
      refine CG.out.mono ?_
      rintro e wg ⟨a9, c9, rfl, hr9, hb⟩
      have hS2 : wg.cell? ⟨CR, 8, none⟩ = some (.bool b) ∧ wg.cell? ⟨CR, 5, none⟩ = some (.int .i64 (ph : Int)) ∧ wg.cell? ⟨CR, 6, none⟩ = some (.int .i64 (lf : Int)) ∧ wg.cell? ⟨CR, 1, none⟩ = some (.slice aa an ac) ∧ wg.cell? ⟨CR, 7, none⟩ = some (.slice da dn dc) := ⟨(hb.cell (p := ⟨CR, 8, none⟩) lC12).trans hS.1, (hb.cell (p := ⟨CR, 5, none⟩) lC12).trans hS.2.1, (hb.cell (p := ⟨CR, 6, none⟩) lC12).trans hS.2.2.1, (hb.cell (p := ⟨CR, 1, none⟩) lC12).trans hS.2.2.2.1, (hb.cell (p := ⟨CR, 7, none⟩) lC12).trans hS.2.2.2.2⟩
      refine ⟨hS2, hK.out _ _ hS2 ?_⟩
      clear hK K hS CG
      have hS := hS2
      clear hS2
      have R13 := Lib.hid (R12.out.bel hb)
      have V13 := Lib.hid (V12.out.bel' hb)
      have B13 := Lib.hid (B12.out.trans (hb.mono hsz12))
      have hsz13 : w.heap.size ≤ wg.heap.size := B13.out.size
      have lC13 : CR < wg.heap.size := V13.out.blk.lt
      have CT := Lib.hid (equalT_yes s7.log (.slice a9 dn c9) (.slice da dn dc) wg hr9 (by have := Ot.rk V13.out.did; rw [← HDN.out] at this; exact this))
      clear hr9
      clear hb R12 V12 B12 hsz12 lC12
      refine wpN_oneSG (i := 40) rfl (by rfl) (by kernel_rfl) (fun K hK => ?_)
      go_simp
      refine CT.out.mono ?_
      rintro e wh ⟨rfl, hb⟩
      have hS2 : wh.cell? ⟨CR, 8, none⟩ = some (.bool b) ∧ wh.cell? ⟨CR, 5, none⟩ = some (.int .i64 (ph : Int)) ∧ wh.cell? ⟨CR, 6, none⟩ = some (.int .i64 (lf : Int)) ∧ wh.cell? ⟨CR, 1, none⟩ = some (.slice aa an ac) ∧ wh.cell? ⟨CR, 7, none⟩ = some (.slice da dn dc) := ⟨(hb.cell (p := ⟨CR, 8, none⟩) lC13).trans hS.1, (hb.cell (p := ⟨CR, 5, none⟩) lC13).trans hS.2.1, (hb.cell (p := ⟨CR, 6, none⟩) lC13).trans hS.2.2.1, (hb.cell (p := ⟨CR, 1, none⟩) lC13).trans hS.2.2.2.1, (hb.cell (p := ⟨CR, 7, none⟩) lC13).trans hS.2.2.2.2⟩
      refine ⟨hS2, hK.out _ _ hS2 ?_⟩
      clear hK K hS CT
      have hS := hS2
      clear hS2
      have R14 := Lib.hid (R13.out.bel hb)
      have V14 := Lib.hid (V13.out.bel' hb)
      have B14 := Lib.hid (B13.out.trans (hb.mono hsz13))
      clear hb R13 V13 B13 hsz13 lC13
      refine wpN_pure (i := 41) (v := ?_) rfl (by kernel_rfl) (by kernel_rfl) (by kernel_rfl) (by kernel_rfl) (fun _ _ _ h => h) (Or.inl ⟨by rfl, ?_⟩) (fun _ => hS) ?_
      rotate_left
      · ((intro w' hw'; (try dsimp only at hw'); go_simp) <;> with_reducible rfl)
      simp only [Act.put, List.setIfInBounds_toArray, List.set_cons_zero, List.set_cons_succ]
      refine wpN_pure (i := 42) (v := ?_) rfl (by kernel_rfl) (by kernel_rfl) (by kernel_rfl) (by kernel_rfl) (fun _ _ _ h => h) (Or.inl ⟨by rfl, ?_⟩) (fun _ => hS) ?_
      rotate_left
      · ((intro w' hw'; (try dsimp only at hw'); go_simp) <;> with_reducible rfl)
      simp only [Act.put, List.setIfInBounds_toArray, List.set_cons_zero, List.set_cons_succ]
      refine wpN_done (by kernel_rfl) ?_
      go_wp2
      go_roundw
      case rel => exact ⟨t + 1, M7, Mc7, s7, by have := HNP.out; omega, by go_num, S7.out, R14.out, ⟨_, _, u7, by
        show CrV w wh Mc7 (mkC CR gq W v v3 back ks ll) _ _ u7 (decide (s7.ph = ll.length)) s7
        exact V14.out⟩, M7W.out, D7.out, B14.out⟩
      case measure => simp [intOf] <;> omega
end Go.Proofs.YtcakeenfkdhedaaDoor.Gm
