/- The walk of the law ManyProducts. (Its lines are printed by wip/mk_XLmp.py.) -/
import Derived.Test.YtkcfnbfkbmgchaaDoorFl
import Derived.Test.YtkcfnbfkbmgchaaDoorMc
namespace Go.Proofs.YtkcfnbfkbmgchaaDoor.Gm
open Go.RowKit
set_option linter.unusedVariables false
theorem cys_WL {ks : List Nat} (hk : ∀ k ∈ ks, k ≤ 32) (l m : List F) {p : Nat} (hp : p < pk ks) : cf (WL false ks (cysL ks l m)) p = cf (WL false ks l) p * cf (WL false ks m) p := by
  rw [cf_WL _ _ _ hp, cf_WL _ _ _ hp, cf_WL _ _ _ hp, WT_congr (b := cycs ks (cf l) (cf m)) (fun i hi => cf_cysL _ _ _ hi), cycs_WT hk]
theorem WT_one (k : Nat) (a : Nat → F) (p : Nat) : WT false [k] a p = tr false k a p := by
  rw [WT_tr, pk_nil, Nat.div_one, Nat.mod_one]
  exact tr_congr (fun i _ => by rw [WT_nil0]; simp) p
theorem pk_row (k : Nat) : pk [k] = 2 ^ k := by rw [pk_cons, pk_nil, Nat.mul_one]
theorem pk_two (k m : Nat) : pk [k, m] = 2 ^ k * 2 ^ m := by rw [pk_cons, pk_row]
/-- all products of two lists, up to m -/
@[irreducible] def ouT (l m : List F) (Q t : Nat) : List F := (List.range t).map fun p => cf l (p / Q) * cf m (p % Q)
theorem ouT_zero (l m : List F) (Q : Nat) : ouT l m Q 0 = [] := by unfold ouT; rfl
theorem ouT_len (l m : List F) (Q t : Nat) : (ouT l m Q t).length = t := by unfold ouT; simp
theorem ouT_succ (l m : List F) {Q u v : Nat} (hv : v < Q) : ouT l m Q (u * Q + v + 1) = ouT l m Q (u * Q + v) ++ [cf l u * cf m v] := by
  unfold ouT
  rw [List.range_succ, List.map_append, List.map_singleton, blk_div hv, blk_mod hv]
theorem cf_ouT (l m : List F) (Q : Nat) {t p : Nat} (hp : p < t) : cf (ouT l m Q t) p = cf l (p / Q) * cf m (p % Q) := by unfold ouT; exact cf_ofFn _ hp
theorem outer_WL (a b : Nat) (l m : List F) {u v : Nat} (hu : u < 2 ^ a) (hv : v < 2 ^ b) :
    cf (WL false [a, b] (ouT l m (2 ^ b) (2 ^ a * 2 ^ b))) (u * 2 ^ b + v) = cf (trL false a l) u * cf (trL false b m) v := by
  have hp : u * 2 ^ b + v < 2 ^ a * 2 ^ b := by
    have := Nat.mul_le_mul_right (2 ^ b) (show u + 1 ≤ 2 ^ a from hu)
    rw [Nat.add_mul, Nat.one_mul] at this
    omega
  rw [cf_WL _ _ _ (by rw [pk_two]; exact hp), cf_trL _ _ _ hu, cf_trL _ _ _ hv, WT_tr, pk_row, blk_div hv, blk_mod hv]
  rw [tr_congr (b := fun i => tr false b (cf m) v * cf l i) (fun i hi => ?_)]
  · rw [tr_fwd, dft_smul, ← tr_fwd]
    generalize tr false b (cf m) v = x
    generalize tr false a (cf l) u = y
    grind
  · rw [WT_one, tr_congr (b := fun r => cf l i * cf m r) (fun r hr => ?_)]
    · rw [tr_fwd, dft_smul, ← tr_fwd]
      generalize tr false b (cf m) v = x
      grind
    · have hir : i * 2 ^ b + r < 2 ^ a * 2 ^ b := by
        have := Nat.mul_le_mul_right (2 ^ b) (show i + 1 ≤ 2 ^ a from hi)
        rw [Nat.add_mul, Nat.one_mul] at this
        omega
      rw [cf_ouT _ _ _ hir, blk_div hr, blk_mod hr]
theorem wf_i64z {n : Int} (h : -9223372036854775808 ≤ n ∧ n ≤ 9223372036854775807) : (Lit.int .i64 n).wf = true := by
  simp [Lit.wf, IntKind.min, IntKind.max, IntKind.signed, IntKind.bits]; omega
theorem tmod4 (i : Int) : -4 < i.tmod 4 ∧ i.tmod 4 < 4 := ⟨Int.lt_tmod_of_pos i (by omega), Int.tmod_lt_of_pos i (by omega)⟩
def MpA (ws : World) (n : Nat) (i : Value) (wr : World) : Prop := ∃ m : Nat, m ≤ n ∧ i = .int .i64 m ∧ Below ws.heap.size ws wr
def MpB (ws : World) (l m : List F) (P Q : Nat) (out i : Value) (wr : World) : Prop := ∃ u : Nat, u ≤ P ∧ i = .int .i64 u ∧ Ow ws.heap.size wr out (ouT l m Q (u * Q)) ∧ Below ws.heap.size ws wr
def MpC (ws : World) (l m : List F) (Q u : Nat) (out i : Value) (wr : World) : Prop := ∃ v : Nat, v ≤ Q ∧ i = .int .i64 v ∧ Ow ws.heap.size wr out (ouT l m Q (u * Q + v)) ∧ Below ws.heap.size ws wr
set_option maxHeartbeats 8000000 in
set_option maxRecDepth 100000 in
theorem mp_none (zs : List Int) (zx zy : List Int) (i j : Int) (v v2 v3 : Value) (w : World) (h : Rd .i64 w v zs) (hw : W64 zs) (hn : NoShape zs) (h2 : Rd .u64 w v2 zx) (h3 : Rd .u64 w v3 zy) (hx : B64 zx) (hy : B64 zy) (hT : Tb w) :
    Calls Tryd.prog 10 #[v, v2, v3, .int .i64 i, .int .i64 j] w (RetV w (.bool true)) := by
  have X := Lib.hid h
  have CS := Lib.hid (fun w v v2 h => shaped_no zs zx v v2 w h hw hn)
  have X1 := Lib.hid h2
  have X2 := Lib.hid h3
  have T := Lib.hid hT
  have CF := Lib.hid (fun w hT => flat_any w hT)
  obtain ⟨ti0, ti1⟩ := tmod4 i
  obtain ⟨tj0, tj1⟩ := tmod4 j
  have eti : IntKind.i64.wrap (i.tmod 4) = i.tmod 4 := IntWalk.i64_in _ (by omega)
  have etj : IntKind.i64.wrap (j.tmod 4) = j.tmod 4 := IntWalk.i64_in _ (by omega)
  obtain ⟨k1, hk1⟩ : ∃ k, k = i.tmod 4 := ⟨_, rfl⟩
  obtain ⟨k2, hk2⟩ : ∃ k, k = j.tmod 4 := ⟨_, rfl⟩
  rw [← hk1] at ti0 ti1
  rw [← hk2] at tj0 tj1
  have hj1 := kk_le k1
  have hj2 := kk_le k2
  obtain ⟨P, hP⟩ : ∃ P, P = 2 ^ kk k1 := ⟨_, rfl⟩
  obtain ⟨Q, hQ⟩ : ∃ Q, Q = 2 ^ kk k2 := ⟨_, rfl⟩
  have hP1 : 1 ≤ P := by rw [hP]; exact Nat.two_pow_pos _
  have hQ1 : 1 ≤ Q := by rw [hQ]; exact Nat.two_pow_pos _
  have hP64 : P ≤ 64 := by rw [hP]; exact Nat.pow_le_pow_right (by omega) hj1
  have hQ64 : Q ≤ 64 := by rw [hQ]; exact Nat.pow_le_pow_right (by omega) hj2
  obtain ⟨pz, hpz⟩ : ∃ A, A = siz zx P := ⟨_, rfl⟩
  obtain ⟨qz, hqz⟩ : ∃ A, A = siz zy Q := ⟨_, rfl⟩
  have lpz : pz.length = P := by rw [hpz, siz_len]
  have lqz : qz.length = Q := by rw [hqz, siz_len]
  have bpz : B64 pz := by rw [hpz]; exact siz_64 hx P
  have bqz : B64 qz := by rw [hqz]; exact siz_64 hy Q
  have CP := Lib.hid (fun w v h => by have := sized_any zx v k1 w h (by omega) (by omega); rwa [← hP, ← hpz, hk1] at this)
  have CQ := Lib.hid (fun w v h => by have := sized_any zy v k2 w h (by omega) (by omega); rwa [← hQ, ← hqz, hk2] at this)
  clear hk1 hk2
  generalize kk k1 = a at *
  generalize kk k2 = b at *
  obtain ⟨FP, hFP⟩ : ∃ l, l = pz.map toF := ⟨_, rfl⟩
  obtain ⟨FQ, hFQ⟩ : ∃ l, l = qz.map toF := ⟨_, rfl⟩
  obtain ⟨fp, hfp⟩ : ∃ l, l = trL false a FP := ⟨_, rfl⟩
  obtain ⟨fq, hfq⟩ : ∃ l, l = trL false b FQ := ⟨_, rfl⟩
  obtain ⟨ou, hou⟩ : ∃ l, l = ouT FP FQ Q (P * Q) := ⟨_, rfl⟩
  obtain ⟨fo, hfo⟩ : ∃ l, l = WL false [a, b] ou := ⟨_, rfl⟩
  have CFP := Lib.hid (fun w v h hT => by have := nfwd_ok a pz v w h bpz (by omega) (lpz.trans hP) hT; rwa [← hFP, ← hfp] at this)
  have CFQ := Lib.hid (fun w v h hT => by have := nfwd_ok b qz v w h bqz (by omega) (lqz.trans hQ) hT; rwa [← hFQ, ← hfq] at this)
  have hpk : pk [a, b] = P * Q := by rw [pk_two, hP, hQ]
  have lou : ou.length = P * Q := by rw [hou, ouT_len]
  have CFO := Lib.hid (show P * Q ≤ 1024 → ∀ w v v2, Rd .i64 w v [(P : Int), (Q : Int)] → Rd .u64 w v2 (ou.map vl) → Tb w → Calls Tryd.prog 40 #[v, v2] w (RetLE w fo 0) from fun hle w v v2 h h2 hT => by
    have hzi : zi (szs [a, b]) = [(P : Int), (Q : Int)] := by rw [hP, hQ]; rfl
    have hs : Shp (szs [a, b]) := ⟨by simp [szs], by simp [szs], fun d hd => by
      obtain ⟨k, _, rfl⟩ := List.mem_map.1 hd
      exact ⟨k, rfl⟩, by show pk [a, b] ≤ 1024; rw [hpk]; exact hle⟩
    have := fwd_of (all_ok [a, b] (ou.map vl) false v v2 w (by rw [hzi]; exact h) h2 (by
      rw [hzi]
      intro z hz
      have : z = (P : Int) ∨ z = (Q : Int) := by simpa using hz
      exact wf_i64z (by rcases this with rfl | rfl <;> omega)) hs (B64.vl _) (by rw [List.length_map, lou, hpk]) hT)
    rw [map_toF_vl, ← hfo] at this
    exact this)
  have OW := Lib.hid (show ∀ u v, u < P → v < Q → cf fo (u * Q + v) = cf fp u * cf fq v from fun u v hu hv => by
    rw [hfo, hou, hfp, hfq, hP, hQ]
    rw [hP] at hu
    rw [hQ] at hv
    exact outer_WL a b FP FQ hu hv)
  have LFO := Lib.hid (show fo.length = P * Q by rw [hfo, WL_len, hpk])
  have LOU := Lib.hid lou
  have LFP := Lib.hid (show fp.length = P by rw [hfp, trL_len, hP])
  have LFQ := Lib.hid (show fq.length = Q by rw [hfq, trL_len, hQ])
  have GP := Lib.hid (fun m => (show cf FP m = toF (gd pz m) by rw [hFP, cf_map]))
  have GQ := Lib.hid (fun m => (show cf FQ m = toF (gd qz m) by rw [hFQ, cf_map]))
  have LPZ := Lib.hid lpz
  have LQZ := Lib.hid lqz
  have OZ := Lib.hid (ouT_zero FP FQ Q)
  have OS := Lib.hid (fun u v (hv : v < Q) => ouT_succ FP FQ (u := u) hv)
  have OL := Lib.hid (fun t => ouT_len FP FQ Q t)
  have HOU := Lib.hid hou
  have hPQ : P * Q ≤ 4096 := Nat.mul_le_mul hP64 hQ64
  clear h h2 h3 hT hw hn hP hQ hpz hqz hFP hFQ hfp hfq hou hfo hpk lou lpz lqz
  have B0 := Lib.hid (Below.refl w.heap.size w)
  have hsz0 : w.heap.size ≤ w.heap.size := Nat.le_refl _
  go_enter Tryd.func10, Tryd.ntmps10
  go_wp2_with fail
  refine (CF.out _ T.out).mono ?_
  rintro e w1 ⟨rfl, hbel⟩
  have X_1 := Lib.hid (X.out.below hbel)
  have X1_1 := Lib.hid (X1.out.below hbel)
  have X2_1 := Lib.hid (X2.out.below hbel)
  have T_1 := Lib.hid (T.out.below hbel)
  have B1 := Lib.hid (B0.out.trans (hbel.mono hsz0))
  have hsz1 := B1.out.size
  clear X X1 X2 T hbel
  go_wp2_with fail
  refine (CS.out _ _ _ X_1.out).mono ?_
  rintro e w2 ⟨v2', rfl, hown, hbel⟩
  have X_2 := Lib.hid (X_1.out.below hbel)
  have X1_2 := Lib.hid (X1_1.out.below hbel)
  have X2_2 := Lib.hid (X2_1.out.below hbel)
  have T_2 := Lib.hid (T_1.out.below hbel)
  have B2 := Lib.hid (B1.out.trans (hbel.mono hsz1))
  have hsz2 := B2.out.size
  clear X_1 X1_1 X2_1 T_1 hown hbel
  go_wp2_with fail
  refine (CS.out _ _ _ X_2.out).mono ?_
  rintro e w3 ⟨v3', rfl, hown, hbel⟩
  have X_3 := Lib.hid (X_2.out.below hbel)
  have X1_3 := Lib.hid (X1_2.out.below hbel)
  have X2_3 := Lib.hid (X2_2.out.below hbel)
  have T_3 := Lib.hid (T_2.out.below hbel)
  have B3 := Lib.hid (B2.out.trans (hbel.mono hsz2))
  have hsz3 := B3.out.size
  clear X_2 X1_2 X2_2 T_2 hown hbel
  go_wp2_with fail
  refine (CP.out _ _ X1_3.out).mono ?_
  rintro e w4 ⟨v4, rfl, hown, hbel⟩
  have T_4 := Lib.hid (T_3.out.below hbel)
  have X1_4 := Lib.hid (X1_3.out.below hbel)
  have X2_4 := Lib.hid (X2_3.out.below hbel)
  have p_4 := Lib.hid (hown.mono hsz3)
  have B4 := Lib.hid (B3.out.trans (hbel.mono hsz3))
  have hsz4 := B4.out.size
  clear T_3 X1_3 X2_3 hown hbel
  go_wp2_with fail
  refine (CQ.out _ _ X2_4.out).mono ?_
  rintro e w5 ⟨v5, rfl, hown, hbel⟩
  have T_5 := Lib.hid (T_4.out.below hbel)
  have X1_5 := Lib.hid (X1_4.out.below hbel)
  have X2_5 := Lib.hid (X2_4.out.below hbel)
  have p_5 := Lib.hid (p_4.out.below hbel)
  have q_5 := Lib.hid (hown.mono hsz4)
  have B5 := Lib.hid (B4.out.trans (hbel.mono hsz4))
  have hsz5 := B5.out.size
  clear T_4 X1_4 X2_4 p_4 hown hbel
  obtain ⟨gp, cpp, rfl, hcp, hmp⟩ := p_5.out.opened (by rw [LPZ.out]; exact hP1)
  rw [LPZ.out] at hcp p_5 ⊢
  obtain ⟨gq, cpq, rfl, hcq, hmq⟩ := q_5.out.opened (by rw [LQZ.out]; exact hQ1)
  rw [LQZ.out] at hcq q_5 ⊢
  go_wp2
  go_loopw [26, 28, 30, 114] (fun out _ _ i wr => MpB w5 FP FQ P Q out i wr) (fun _ _ _ i _ => P - (intOf i).toNat)
  case atStart => exact ⟨0, by omega, rfl, by rw [Nat.zero_mul, OZ.out]; exact Ow.nil _ _, Below.refl _ _⟩
  case round =>
    obtain ⟨u, hu, rfl, hown, hbel⟩ := hrel
    have OO := Lib.hid hown
    have HB := Lib.hid hbel
    clear hown hbel
    by_cases hul : u < P
    · have c1' : wr.cell? ⟨gp, u, none⟩ = some (.int .u64 (gd pz u)) := (p_5.out.below HB.out).cell (by rw [LPZ.out]; exact hul)
      have hbu := bpz.get u
      have GPu := Lib.hid (GP.out u)
      obtain ⟨wo, hwo⟩ : ∃ wo : World, wo = wr := ⟨_, rfl⟩
      subst hwo
      go_wp2
      go_loopw [26, 30, 120] (fun out _ i wr => MpC w5 FP FQ Q u out i wr) (fun _ _ i _ => Q - (intOf i).toNat)
      case atStart => exact ⟨0, by omega, rfl, OO.out, HB.out⟩
      case round =>
        obtain ⟨x, hx', rfl, hown, hbel⟩ := hrel
        have O2 := Lib.hid hown
        have H2 := Lib.hid hbel
        have hsz2 := hbel.size
        clear hown hbel
        by_cases hxl : x < Q
        · have c2' : wr.cell? ⟨gq, x, none⟩ = some (.int .u64 (gd qz x)) := (q_5.out.below H2.out).cell (by rw [LQZ.out]; exact hxl)
          have hbx := bqz.get x
          have OSx := OS.out u x hxl
          rw [GPu.out, GQ.out x] at OSx
          have OSx := Lib.hid OSx
          have hll : (ouT FP FQ Q (u * Q + x)).length ≤ 1000000 := by
            rw [OL.out]
            have := Nat.mul_le_mul (show u ≤ 64 by omega) hQ64
            omega
          have OSx2 := OSx.out
          clear OSx
          have OSx := Lib.hid OSx2
          clear OSx2
          obtain ⟨t, ht⟩ : ∃ t, t = u * Q + x := ⟨_, rfl⟩
          have HTT := Lib.hid ht
          rw [← ht] at OSx O2 hll
          clear ht
          generalize gd pz u = yu at *
          generalize gd qz x = yx at *
          go_wp2_with fail
          refine (mul_any yu yx _ hbu.1 hbu.2 hbx.1 hbx.2).mono ?_
          rintro e w' ⟨rfl, rfl⟩
          go_wp2_with (at_builtin; refine wl_app _ rfl (.tmp 124) (.tmp 128) rfl w5.heap.size _ (ouT FP FQ Q t) (toF yu * toF yx) w5 rfl rfl O2.out H2.out hsz2 hll ?_)
          intro v8 w8 hown8 hbel8
          rw [← OSx.out] at hown8
          have O8 := Lib.hid hown8
          have B8' := Lib.hid hbel8
          clear hown8 hbel8 c2'
          go_wp2
          go_roundw
          case rel => exact ⟨x + 1, by omega, by go_num, by have := O8.out; rw [HTT.out] at this; exact this, B8'.out⟩
          case measure => simp [intOf] <;> omega
        · obtain rfl : Q = x := by omega
          go_wp2
          go_roundw
          case rel => exact ⟨u + 1, by omega, by go_num, by rw [Nat.add_mul, Nat.one_mul]; exact O2.out, H2.out⟩
          case measure => simp [intOf] <;> omega
    · obtain rfl : P = u := by omega
      rw [← HOU.out] at OO
      have T_M := Lib.hid (T_5.out.below HB.out)
      have p_M := Lib.hid (p_5.out.below HB.out)
      have q_M := Lib.hid (q_5.out.below HB.out)
      have O_M := Lib.hid (OO.out.mono hsz5)
      have BM := Lib.hid (B5.out.trans (HB.out.mono hsz5))
      have hszM := BM.out.size
      clear OO HB T_5 X1_5 X2_5 p_5 q_5
      obtain ⟨go, cpo, rfl, hco, hmo⟩ := Ow.opened O_M.out (by rw [LOU.out]; exact Nat.mul_pos hP1 hQ1)
      rw [LOU.out] at hco O_M ⊢
      obtain ⟨t, ht⟩ : ∃ t, t = P * Q := ⟨_, rfl⟩
      have HTT := Lib.hid ht
      rw [← ht] at CFO hPQ LFO LOU hco O_M ⊢
      clear ht
      by_cases hbig : 1024 < t
      · have hbi : (1024 : Int) < (t : Int) := by omega
        have hal := Lib.hid ((Below.refl wr.heap.size wr).alloc (Nat.le_refl _) (.cells #[.int .i64 P, .int .i64 Q] 3))
        go_wp2
        go_ret
        exact ⟨rfl, BM.out.trans (hal.out.mono hszM)⟩
      have hle : t ≤ 1024 := by omega
      have hbd : decide ((1024 : Int) < (t : Int)) = false := by rw [decide_eq_false_iff_not]; omega
      have CFO2 := Lib.hid (CFO.out hle)
      have hal := (Below.refl wr.heap.size wr).alloc (Nat.le_refl _) (.cells #[.int .i64 P, .int .i64 Q] 3)
      have lit : Rd .i64 (wr.alloc (.cells #[.int .i64 P, .int .i64 Q] 3)) (.slice (some ⟨wr.heap.size, 0, none⟩) 2 2) [(P : Int), (Q : Int)] := Rd.lit .i64 wr [(P : Int), (Q : Int)] 3 2 rfl (by simp)
      have LIT := Lib.hid lit
      have T_N := Lib.hid (T_M.out.below hal)
      have p_N := Lib.hid (p_M.out.below hal)
      have q_N := Lib.hid (q_M.out.below hal)
      have o_N := Lib.hid (O_M.out.below hal)
      have BN := Lib.hid (BM.out.trans (hal.mono hszM))
      have hszN := BN.out.size
      clear hal lit T_M p_M q_M O_M CFO hbig
      go_wp2_with fail
      refine (CFO2.out _ _ _ LIT.out (Ow.rd o_N.out) T_N.out).mono ?_
      rintro e w6 ⟨v6, rfl, hown, hbel⟩
      have T_6 := Lib.hid (T_N.out.below hbel)
      have p_6 := Lib.hid (p_N.out.below hbel)
      have q_6 := Lib.hid (q_N.out.below hbel)
      have o_6 := Lib.hid (o_N.out.below hbel)
      have fo_6 := Lib.hid (hown.mono hszN)
      have B6 := Lib.hid (BN.out.trans (hbel.mono hszN))
      have hsz6 := B6.out.size
      clear T_N p_N q_N o_N hown hbel
      clear LIT
      go_wp2_with fail
      refine (CFP.out _ _ p_6.out.rd T_6.out).mono ?_
      rintro e w7 ⟨v7, rfl, hown, hbel⟩
      have T_7 := Lib.hid (T_6.out.below hbel)
      have p_7 := Lib.hid (p_6.out.below hbel)
      have q_7 := Lib.hid (q_6.out.below hbel)
      have o_7 := Lib.hid (o_6.out.below hbel)
      have fo_7 := Lib.hid (fo_6.out.below hbel)
      have fp_7 := Lib.hid (hown.mono hsz6)
      have B7 := Lib.hid (B6.out.trans (hbel.mono hsz6))
      have hsz7 := B7.out.size
      clear T_6 p_6 q_6 o_6 fo_6 hown hbel
      go_wp2_with fail
      refine (CFQ.out _ _ q_7.out.rd T_7.out).mono ?_
      rintro e w8 ⟨v8, rfl, hown, hbel⟩
      have T_8 := Lib.hid (T_7.out.below hbel)
      have p_8 := Lib.hid (p_7.out.below hbel)
      have q_8 := Lib.hid (q_7.out.below hbel)
      have o_8 := Lib.hid (o_7.out.below hbel)
      have fo_8 := Lib.hid (fo_7.out.below hbel)
      have fp_8 := Lib.hid (fp_7.out.below hbel)
      have fq_8 := Lib.hid (hown.mono hsz7)
      have B8 := Lib.hid (B7.out.trans (hbel.mono hsz7))
      have hsz8 := B8.out.size
      clear T_7 p_7 q_7 o_7 fo_7 fp_7 hown hbel
      have hPQ0 : 1 ≤ t := by rw [HTT.out]; exact Nat.mul_pos hP1 hQ1
      obtain ⟨gfo, cpfo, rfl, hcfo, hmfo⟩ := Ow.opened fo_8.out (by rw [LFO.out]; exact hPQ0)
      rw [LFO.out] at hcfo fo_8 ⊢
      obtain ⟨gfp, cpfp, rfl, hcfp, hmfp⟩ := Ow.opened fp_8.out (by rw [LFP.out]; exact hP1)
      rw [LFP.out] at hcfp fp_8 ⊢
      obtain ⟨gfq, cpfq, rfl, hcfq, hmfq⟩ := Ow.opened fq_8.out (by rw [LFQ.out]; exact hQ1)
      rw [LFQ.out] at hcfq fq_8 ⊢
      go_wp2
      go_loopw [38, 39, 158] (fun _ _ i wr => MpA w8 P i wr) (fun _ _ i _ => P - (intOf i).toNat)
      case atStart => exact ⟨0, by omega, rfl, Below.refl _ _⟩
      case round =>
        obtain ⟨u, hu, rfl, hbel⟩ := hrel
        have HB := Lib.hid hbel
        clear hbel
        by_cases hul : u < P
        · obtain ⟨wo, hwo⟩ : ∃ wo : World, wo = wr := ⟨_, rfl⟩
          go_wp2
          go_loopw [39, 163] (fun _ i wr => MpA w8 Q i wr) (fun _ i _ => Q - (intOf i).toNat)
          case atStart => exact ⟨0, by omega, rfl, HB.out⟩
          case round =>
            obtain ⟨x, hx', rfl, hbel⟩ := hrel
            have H2 := Lib.hid hbel
            clear hbel
            by_cases hxl : x < Q
            · have hin : u * Q + x < t := by
                rw [HTT.out]
                have := Nat.mul_le_mul_right Q (show u + 1 ≤ P from hul)
                rw [Nat.add_mul, Nat.one_mul] at this
                omega
              have c1' : wr.cell? ⟨gfo, u * Q + x, none⟩ = some (.int .u64 (vl (cf fp u * cf fq x))) := by
                rw [← OW.out u x hul hxl]; exact Ow.cell (l := fo) (cap := cpfo) (by rw [LFO.out]; exact fo_8.out.below H2.out) (by rw [LFO.out]; exact hin)
              have c2' : wr.cell? ⟨gfp, u, none⟩ = some (.int .u64 (vl (cf fp u))) := Ow.cell (l := fp) (cap := cpfp) (by rw [LFP.out]; exact fp_8.out.below H2.out) (by rw [LFP.out]; exact hul)
              have c3' : wr.cell? ⟨gfq, x, none⟩ = some (.int .u64 (vl (cf fq x))) := Ow.cell (l := fq) (cap := cpfq) (by rw [LFQ.out]; exact fq_8.out.below H2.out) (by rw [LFQ.out]; exact hxl)
              have huQ := Nat.mul_le_mul (show u ≤ 64 by omega) hQ64
              have em : (u : Int) * (Q : Int) = ((u * Q : Nat) : Int) := by rw [Int.natCast_mul]
              generalize u * Q = r at *
              have ew1 : IntKind.i64.wrap ((u : Int) * (Q : Int)) = (r : Int) := by rw [em]; exact wrap_nat (by omega)
              have ew2 : IntKind.i64.wrap ((r : Int) + (x : Int)) = ((r + x : Nat) : Int) := by rw [show (r : Int) + (x : Int) = ((r + x : Nat) : Int) by omega]; exact wrap_nat (by omega)
              have em2 : (r : Int) + (x : Int) = ((r + x : Nat) : Int) := by omega
              generalize r + x = s at *
              generalize cf fp u = y1 at *
              generalize cf fq x = y2 at *
              go_wp2
              go_quiet ((first | (go_at_call 18; exact q_same (mul_F y1 y2 _))))
              have H3 := Lib.hid (below_drewN H2.out nq)
              clear c1' c2' c3' H2
              go_wp2
              go_roundw
              case rel => exact ⟨x + 1, by omega, by go_num, H3.out⟩
              case measure => simp [intOf] <;> omega
            · obtain rfl : Q = x := by omega
              go_wp2
              go_roundw
              case rel => exact ⟨u + 1, by omega, by go_num, H2.out⟩
              case measure => simp [intOf] <;> omega
        · obtain rfl : P = u := by omega
          have BE := Lib.hid (B8.out.trans (HB.out.mono hsz8))
          go_wp2
          go_ret
          exact ⟨rfl, BE.out⟩
set_option maxHeartbeats 8000000 in
set_option maxRecDepth 100000 in
theorem mp_some (ks : List Nat) (zx zy : List Int) (i j : Int) (v v2 v3 : Value) (w : World) (h : Rd .i64 w v (zi (szs ks))) (hw : W64 (zi (szs ks))) (hs : Shp (szs ks)) (h64 : pr (szs ks) ≤ 64) (hk10 : ∀ k ∈ ks, k ≤ 10) (h2 : Rd .u64 w v2 zx) (h3 : Rd .u64 w v3 zy) (hx : B64 zx) (hy : B64 zy) (hT : Tb w) :
    Calls Tryd.prog 10 #[v, v2, v3, .int .i64 i, .int .i64 j] w (RetV w (.bool true)) := by
  have X := Lib.hid h
  obtain ⟨n, hn⟩ : ∃ n, n = pr (szs ks) := ⟨_, rfl⟩
  have hnk : n = pk ks := hn
  have hn1 : 1 ≤ n := by rw [hn]; exact hs.pr1
  obtain ⟨A, hA⟩ : ∃ A, A = siz zx n := ⟨_, rfl⟩
  obtain ⟨Bz, hB⟩ : ∃ A, A = siz zy n := ⟨_, rfl⟩
  have lA : A.length = n := by rw [hA, siz_len]
  have lB : Bz.length = n := by rw [hB, siz_len]
  have bA : B64 A := by rw [hA]; exact siz_64 hx n
  have bB : B64 Bz := by rw [hB]; exact siz_64 hy n
  obtain ⟨FA, hFA⟩ : ∃ l, l = A.map toF := ⟨_, rfl⟩
  obtain ⟨FB, hFB⟩ : ∃ l, l = Bz.map toF := ⟨_, rfl⟩
  obtain ⟨c, hc⟩ : ∃ l, l = cysL ks FA FB := ⟨_, rfl⟩
  obtain ⟨fa, hfa⟩ : ∃ l, l = WL false ks FA := ⟨_, rfl⟩
  obtain ⟨fb, hfb⟩ : ∃ l, l = WL false ks FB := ⟨_, rfl⟩
  obtain ⟨fc, hfc⟩ : ∃ l, l = WL false ks c := ⟨_, rfl⟩
  have lc : c.length = n := by rw [hc, cysL_len, hnk]
  have CS1 := Lib.hid (fun w v v2 h h2 => by have := shaped_yes (szs ks) zx v v2 w h h2 hw hs h64; rwa [← hn, ← hA] at this)
  have CS2 := Lib.hid (fun w v v2 h h2 => by have := shaped_yes (szs ks) zy v v2 w h h2 hw hs h64; rwa [← hn, ← hB] at this)
  have CC := Lib.hid (fun w v v2 v3 h h2 h3 hT => by have := mcyc_ok ks A Bz v v2 v3 w h h2 h3 hw hs hk10 bA bB (lA.trans hnk) (lB.trans hnk) hT; rwa [← hFA, ← hFB, ← hc] at this)
  have C1 := Lib.hid (fun w v v2 h h2 hT => by have := fwd_of (all_ok ks A false v v2 w h h2 hw hs bA (lA.trans hnk) hT); rwa [← hFA, ← hfa] at this)
  have C2 := Lib.hid (fun w v v2 h h2 hT => by have := fwd_of (all_ok ks Bz false v v2 w h h2 hw hs bB (lB.trans hnk) hT); rwa [← hFB, ← hfb] at this)
  have C3 := Lib.hid (fun w v v2 h h2 hT => by have := fwd_of (all_ok ks (c.map vl) false v v2 w h h2 hw hs (B64.vl c) (by rw [List.length_map, lc]; exact hnk) hT); rwa [map_toF_vl, ← hfc] at this)
  have FC := Lib.hid (fun m (hm : m < n) => (show cf fc m = cf fa m * cf fb m by rw [hfc, hc, hfa, hfb]; exact cys_WL (fun k hk => by have := hk10 k hk; omega) FA FB (by rw [← hnk]; exact hm)))
  have LA := Lib.hid lA
  have LB := Lib.hid lB
  have LC := Lib.hid lc
  have LFA := Lib.hid (show fa.length = n by rw [hfa, WL_len, hnk])
  have LFB := Lib.hid (show fb.length = n by rw [hfb, WL_len, hnk])
  have LFC := Lib.hid (show fc.length = n by rw [hfc, WL_len, hnk])
  have X1 := Lib.hid h2
  have X2 := Lib.hid h3
  have T := Lib.hid hT
  have CF := Lib.hid (fun w hT => flat_any w hT)
  obtain ⟨ti0, ti1⟩ := tmod4 i
  obtain ⟨tj0, tj1⟩ := tmod4 j
  have eti : IntKind.i64.wrap (i.tmod 4) = i.tmod 4 := IntWalk.i64_in _ (by omega)
  have etj : IntKind.i64.wrap (j.tmod 4) = j.tmod 4 := IntWalk.i64_in _ (by omega)
  obtain ⟨k1, hk1⟩ : ∃ k, k = i.tmod 4 := ⟨_, rfl⟩
  obtain ⟨k2, hk2⟩ : ∃ k, k = j.tmod 4 := ⟨_, rfl⟩
  rw [← hk1] at ti0 ti1
  rw [← hk2] at tj0 tj1
  have hj1 := kk_le k1
  have hj2 := kk_le k2
  obtain ⟨P, hP⟩ : ∃ P, P = 2 ^ kk k1 := ⟨_, rfl⟩
  obtain ⟨Q, hQ⟩ : ∃ Q, Q = 2 ^ kk k2 := ⟨_, rfl⟩
  have hP1 : 1 ≤ P := by rw [hP]; exact Nat.two_pow_pos _
  have hQ1 : 1 ≤ Q := by rw [hQ]; exact Nat.two_pow_pos _
  have hP64 : P ≤ 64 := by rw [hP]; exact Nat.pow_le_pow_right (by omega) hj1
  have hQ64 : Q ≤ 64 := by rw [hQ]; exact Nat.pow_le_pow_right (by omega) hj2
  obtain ⟨pz, hpz⟩ : ∃ A, A = siz zx P := ⟨_, rfl⟩
  obtain ⟨qz, hqz⟩ : ∃ A, A = siz zy Q := ⟨_, rfl⟩
  have lpz : pz.length = P := by rw [hpz, siz_len]
  have lqz : qz.length = Q := by rw [hqz, siz_len]
  have bpz : B64 pz := by rw [hpz]; exact siz_64 hx P
  have bqz : B64 qz := by rw [hqz]; exact siz_64 hy Q
  have CP := Lib.hid (fun w v h => by have := sized_any zx v k1 w h (by omega) (by omega); rwa [← hP, ← hpz, hk1] at this)
  have CQ := Lib.hid (fun w v h => by have := sized_any zy v k2 w h (by omega) (by omega); rwa [← hQ, ← hqz, hk2] at this)
  clear hk1 hk2
  generalize kk k1 = a at *
  generalize kk k2 = b at *
  obtain ⟨FP, hFP⟩ : ∃ l, l = pz.map toF := ⟨_, rfl⟩
  obtain ⟨FQ, hFQ⟩ : ∃ l, l = qz.map toF := ⟨_, rfl⟩
  obtain ⟨fp, hfp⟩ : ∃ l, l = trL false a FP := ⟨_, rfl⟩
  obtain ⟨fq, hfq⟩ : ∃ l, l = trL false b FQ := ⟨_, rfl⟩
  obtain ⟨ou, hou⟩ : ∃ l, l = ouT FP FQ Q (P * Q) := ⟨_, rfl⟩
  obtain ⟨fo, hfo⟩ : ∃ l, l = WL false [a, b] ou := ⟨_, rfl⟩
  have CFP := Lib.hid (fun w v h hT => by have := nfwd_ok a pz v w h bpz (by omega) (lpz.trans hP) hT; rwa [← hFP, ← hfp] at this)
  have CFQ := Lib.hid (fun w v h hT => by have := nfwd_ok b qz v w h bqz (by omega) (lqz.trans hQ) hT; rwa [← hFQ, ← hfq] at this)
  have hpk : pk [a, b] = P * Q := by rw [pk_two, hP, hQ]
  have lou : ou.length = P * Q := by rw [hou, ouT_len]
  have CFO := Lib.hid (show P * Q ≤ 1024 → ∀ w v v2, Rd .i64 w v [(P : Int), (Q : Int)] → Rd .u64 w v2 (ou.map vl) → Tb w → Calls Tryd.prog 40 #[v, v2] w (RetLE w fo 0) from fun hle w v v2 h h2 hT => by
    have hzi : zi (szs [a, b]) = [(P : Int), (Q : Int)] := by rw [hP, hQ]; rfl
    have hs : Shp (szs [a, b]) := ⟨by simp [szs], by simp [szs], fun d hd => by
      obtain ⟨k, _, rfl⟩ := List.mem_map.1 hd
      exact ⟨k, rfl⟩, by show pk [a, b] ≤ 1024; rw [hpk]; exact hle⟩
    have := fwd_of (all_ok [a, b] (ou.map vl) false v v2 w (by rw [hzi]; exact h) h2 (by
      rw [hzi]
      intro z hz
      have : z = (P : Int) ∨ z = (Q : Int) := by simpa using hz
      exact wf_i64z (by rcases this with rfl | rfl <;> omega)) hs (B64.vl _) (by rw [List.length_map, lou, hpk]) hT)
    rw [map_toF_vl, ← hfo] at this
    exact this)
  have OW := Lib.hid (show ∀ u v, u < P → v < Q → cf fo (u * Q + v) = cf fp u * cf fq v from fun u v hu hv => by
    rw [hfo, hou, hfp, hfq, hP, hQ]
    rw [hP] at hu
    rw [hQ] at hv
    exact outer_WL a b FP FQ hu hv)
  have LFO := Lib.hid (show fo.length = P * Q by rw [hfo, WL_len, hpk])
  have LOU := Lib.hid lou
  have LFP := Lib.hid (show fp.length = P by rw [hfp, trL_len, hP])
  have LFQ := Lib.hid (show fq.length = Q by rw [hfq, trL_len, hQ])
  have GP := Lib.hid (fun m => (show cf FP m = toF (gd pz m) by rw [hFP, cf_map]))
  have GQ := Lib.hid (fun m => (show cf FQ m = toF (gd qz m) by rw [hFQ, cf_map]))
  have LPZ := Lib.hid lpz
  have LQZ := Lib.hid lqz
  have OZ := Lib.hid (ouT_zero FP FQ Q)
  have OS := Lib.hid (fun u v (hv : v < Q) => ouT_succ FP FQ (u := u) hv)
  have OL := Lib.hid (fun t => ouT_len FP FQ Q t)
  have HOU := Lib.hid hou
  have hPQ : P * Q ≤ 4096 := Nat.mul_le_mul hP64 hQ64
  clear h h2 h3 hT hw hs h64 hA hB hFA hFB hc hfa hfb hfc lA lB lc hn hnk hP hQ hpz hqz hFP hFQ hfp hfq hou hfo hpk lou lpz lqz
  have B0 := Lib.hid (Below.refl w.heap.size w)
  have hsz0 : w.heap.size ≤ w.heap.size := Nat.le_refl _
  go_enter Tryd.func10, Tryd.ntmps10
  go_wp2_with fail
  refine (CF.out _ T.out).mono ?_
  rintro e w1 ⟨rfl, hbel⟩
  have X_1 := Lib.hid (X.out.below hbel)
  have X1_1 := Lib.hid (X1.out.below hbel)
  have X2_1 := Lib.hid (X2.out.below hbel)
  have T_1 := Lib.hid (T.out.below hbel)
  have B1 := Lib.hid (B0.out.trans (hbel.mono hsz0))
  have hsz1 := B1.out.size
  clear X X1 X2 T hbel
  go_wp2_with fail
  refine (CS1.out _ _ _ X_1.out X1_1.out).mono ?_
  rintro e w2 ⟨v2', rfl, hown, hbel⟩
  have X_2 := Lib.hid (X_1.out.below hbel)
  have X1_2 := Lib.hid (X1_1.out.below hbel)
  have X2_2 := Lib.hid (X2_1.out.below hbel)
  have T_2 := Lib.hid (T_1.out.below hbel)
  have A_2 := Lib.hid (hown.mono hsz1)
  have B2 := Lib.hid (B1.out.trans (hbel.mono hsz1))
  have hsz2 := B2.out.size
  clear X_1 X1_1 X2_1 T_1 hown hbel
  go_wp2_with fail
  refine (CS2.out _ _ _ X_2.out X2_2.out).mono ?_
  rintro e w3 ⟨v3', rfl, hown, hbel⟩
  have X_3 := Lib.hid (X_2.out.below hbel)
  have X1_3 := Lib.hid (X1_2.out.below hbel)
  have X2_3 := Lib.hid (X2_2.out.below hbel)
  have T_3 := Lib.hid (T_2.out.below hbel)
  have A_3 := Lib.hid (A_2.out.below hbel)
  have B_3 := Lib.hid (hown.mono hsz2)
  have B3 := Lib.hid (B2.out.trans (hbel.mono hsz2))
  have hsz3 := B3.out.size
  clear X_2 X1_2 X2_2 T_2 A_2 hown hbel
  obtain ⟨gA, cpA, rfl, hcA, hmA⟩ := A_3.out.opened (by rw [LA.out]; exact hn1)
  rw [LA.out] at hcA A_3 ⊢
  go_wp2_with fail
  refine (CC.out _ _ _ _ X_3.out A_3.out.rd B_3.out.rd T_3.out).mono ?_
  rintro e w4 ⟨v4, rfl, hown, hbel⟩
  have X_4 := Lib.hid (X_3.out.below hbel)
  have X1_4 := Lib.hid (X1_3.out.below hbel)
  have X2_4 := Lib.hid (X2_3.out.below hbel)
  have T_4 := Lib.hid (T_3.out.below hbel)
  have A_4 := Lib.hid (A_3.out.below hbel)
  have B_4 := Lib.hid (B_3.out.below hbel)
  have c_4 := Lib.hid (hown.mono hsz3)
  have B4 := Lib.hid (B3.out.trans (hbel.mono hsz3))
  have hsz4 := B4.out.size
  clear X_3 X1_3 X2_3 T_3 A_3 B_3 hown hbel
  go_wp2_with fail
  refine (C1.out _ _ _ X_4.out A_4.out.rd T_4.out).mono ?_
  rintro e w5 ⟨v5, rfl, hown, hbel⟩
  have X_5 := Lib.hid (X_4.out.below hbel)
  have X1_5 := Lib.hid (X1_4.out.below hbel)
  have X2_5 := Lib.hid (X2_4.out.below hbel)
  have T_5 := Lib.hid (T_4.out.below hbel)
  have A_5 := Lib.hid (A_4.out.below hbel)
  have B_5 := Lib.hid (B_4.out.below hbel)
  have c_5 := Lib.hid (c_4.out.below hbel)
  have fa_5 := Lib.hid (hown.mono hsz4)
  have B5 := Lib.hid (B4.out.trans (hbel.mono hsz4))
  have hsz5 := B5.out.size
  clear X_4 X1_4 X2_4 T_4 A_4 B_4 c_4 hown hbel
  go_wp2_with fail
  refine (C2.out _ _ _ X_5.out B_5.out.rd T_5.out).mono ?_
  rintro e w6 ⟨v6, rfl, hown, hbel⟩
  have X_6 := Lib.hid (X_5.out.below hbel)
  have X1_6 := Lib.hid (X1_5.out.below hbel)
  have X2_6 := Lib.hid (X2_5.out.below hbel)
  have T_6 := Lib.hid (T_5.out.below hbel)
  have A_6 := Lib.hid (A_5.out.below hbel)
  have B_6 := Lib.hid (B_5.out.below hbel)
  have c_6 := Lib.hid (c_5.out.below hbel)
  have fa_6 := Lib.hid (fa_5.out.below hbel)
  have fb_6 := Lib.hid (hown.mono hsz5)
  have B6 := Lib.hid (B5.out.trans (hbel.mono hsz5))
  have hsz6 := B6.out.size
  clear X_5 X1_5 X2_5 T_5 A_5 B_5 c_5 fa_5 hown hbel
  go_wp2_with fail
  refine (C3.out _ _ _ X_6.out (Ow.rd c_6.out) T_6.out).mono ?_
  rintro e w7 ⟨v7, rfl, hown, hbel⟩
  have X_7 := Lib.hid (X_6.out.below hbel)
  have X1_7 := Lib.hid (X1_6.out.below hbel)
  have X2_7 := Lib.hid (X2_6.out.below hbel)
  have T_7 := Lib.hid (T_6.out.below hbel)
  have A_7 := Lib.hid (A_6.out.below hbel)
  have B_7 := Lib.hid (B_6.out.below hbel)
  have c_7 := Lib.hid (c_6.out.below hbel)
  have fa_7 := Lib.hid (fa_6.out.below hbel)
  have fb_7 := Lib.hid (fb_6.out.below hbel)
  have fc_7 := Lib.hid (hown.mono hsz6)
  have B7 := Lib.hid (B6.out.trans (hbel.mono hsz6))
  have hsz7 := B7.out.size
  clear X_6 X1_6 X2_6 T_6 A_6 B_6 c_6 fa_6 fb_6 hown hbel
  obtain ⟨gfa, cpfa, rfl, hcfa, hmfa⟩ := Ow.opened fa_7.out (by rw [LFA.out]; exact hn1)
  rw [LFA.out] at hcfa fa_7 ⊢
  obtain ⟨gfb, cpfb, rfl, hcfb, hmfb⟩ := Ow.opened fb_7.out (by rw [LFB.out]; exact hn1)
  rw [LFB.out] at hcfb fb_7 ⊢
  obtain ⟨gfc, cpfc, rfl, hcfc, hmfc⟩ := Ow.opened fc_7.out (by rw [LFC.out]; exact hn1)
  rw [LFC.out] at hcfc fc_7 ⊢
  go_wp2
  go_loopw [23, 82] (fun _ i wr => MpA w7 n i wr) (fun _ i _ => n - (intOf i).toNat)
  case atStart => exact ⟨0, by omega, rfl, Below.refl _ _⟩
  case round =>
    obtain ⟨m, hm, rfl, hbel⟩ := hrel
    have HB := Lib.hid hbel
    clear hbel
    by_cases hml : m < n
    · have c1' : wr.cell? ⟨gfc, m, none⟩ = some (.int .u64 (vl (cf fa m * cf fb m))) := by
        rw [← FC.out m hml]; exact Ow.cell (l := fc) (cap := cpfc) (by rw [LFC.out]; exact fc_7.out.below HB.out) (by rw [LFC.out]; exact hml)
      have c2' : wr.cell? ⟨gfa, m, none⟩ = some (.int .u64 (vl (cf fa m))) := Ow.cell (l := fa) (cap := cpfa) (by rw [LFA.out]; exact fa_7.out.below HB.out) (by rw [LFA.out]; exact hml)
      have c3' : wr.cell? ⟨gfb, m, none⟩ = some (.int .u64 (vl (cf fb m))) := Ow.cell (l := fb) (cap := cpfb) (by rw [LFB.out]; exact fb_7.out.below HB.out) (by rw [LFB.out]; exact hml)
      generalize cf fa m = y1 at *
      generalize cf fb m = y2 at *
      go_wp2
      go_quiet ((first | (go_at_call 18; exact q_same (mul_F y1 y2 _))))
      have HB2 := Lib.hid (below_drewN HB.out nq)
      clear c1' c2' c3' HB
      go_wp2
      go_roundw
      case rel => exact ⟨m + 1, by omega, by go_num, HB2.out⟩
      case measure => simp [intOf] <;> omega
    · obtain rfl : n = m := by omega
      have T_K := Lib.hid (T_7.out.below HB.out)
      have X1_K := Lib.hid (X1_7.out.below HB.out)
      have X2_K := Lib.hid (X2_7.out.below HB.out)
      have BK := Lib.hid (B7.out.trans (HB.out.mono hsz7))
      have hszK := BK.out.size
      clear HB X_7 X1_7 X2_7 T_7 A_7 B_7 c_7 fa_7 fb_7 fc_7
      go_wp2_with fail
      refine (CP.out _ _ X1_K.out).mono ?_
      rintro e w8 ⟨v8, rfl, hown, hbel⟩
      have T_8 := Lib.hid (T_K.out.below hbel)
      have X1_8 := Lib.hid (X1_K.out.below hbel)
      have X2_8 := Lib.hid (X2_K.out.below hbel)
      have p_8 := Lib.hid (hown.mono hszK)
      have B8 := Lib.hid (BK.out.trans (hbel.mono hszK))
      have hsz8 := B8.out.size
      clear T_K X1_K X2_K hown hbel
      go_wp2_with fail
      refine (CQ.out _ _ X2_8.out).mono ?_
      rintro e w9 ⟨v9, rfl, hown, hbel⟩
      have T_9 := Lib.hid (T_8.out.below hbel)
      have X1_9 := Lib.hid (X1_8.out.below hbel)
      have X2_9 := Lib.hid (X2_8.out.below hbel)
      have p_9 := Lib.hid (p_8.out.below hbel)
      have q_9 := Lib.hid (hown.mono hsz8)
      have B9 := Lib.hid (B8.out.trans (hbel.mono hsz8))
      have hsz9 := B9.out.size
      clear T_8 X1_8 X2_8 p_8 hown hbel
      obtain ⟨gp, cpp, rfl, hcp, hmp⟩ := p_9.out.opened (by rw [LPZ.out]; exact hP1)
      rw [LPZ.out] at hcp p_9 ⊢
      obtain ⟨gq, cpq, rfl, hcq, hmq⟩ := q_9.out.opened (by rw [LQZ.out]; exact hQ1)
      rw [LQZ.out] at hcq q_9 ⊢
      go_wp2
      go_loopw [26, 28, 30, 114] (fun out _ _ i wr => MpB w9 FP FQ P Q out i wr) (fun _ _ _ i _ => P - (intOf i).toNat)
      case atStart => exact ⟨0, by omega, rfl, by rw [Nat.zero_mul, OZ.out]; exact Ow.nil _ _, Below.refl _ _⟩
      case round =>
        obtain ⟨u, hu, rfl, hown, hbel⟩ := hrel
        have OO := Lib.hid hown
        have HB := Lib.hid hbel
        clear hown hbel
        by_cases hul : u < P
        · have c1' : wr.cell? ⟨gp, u, none⟩ = some (.int .u64 (gd pz u)) := (p_9.out.below HB.out).cell (by rw [LPZ.out]; exact hul)
          have hbu := bpz.get u
          have GPu := Lib.hid (GP.out u)
          obtain ⟨wo, hwo⟩ : ∃ wo : World, wo = wr := ⟨_, rfl⟩
          subst hwo
          go_wp2
          go_loopw [26, 30, 120] (fun out _ i wr => MpC w9 FP FQ Q u out i wr) (fun _ _ i _ => Q - (intOf i).toNat)
          case atStart => exact ⟨0, by omega, rfl, OO.out, HB.out⟩
          case round =>
            obtain ⟨x, hx', rfl, hown, hbel⟩ := hrel
            have O2 := Lib.hid hown
            have H2 := Lib.hid hbel
            have hsz2 := hbel.size
            clear hown hbel
            by_cases hxl : x < Q
            · have c2' : wr.cell? ⟨gq, x, none⟩ = some (.int .u64 (gd qz x)) := (q_9.out.below H2.out).cell (by rw [LQZ.out]; exact hxl)
              have hbx := bqz.get x
              have OSx := OS.out u x hxl
              rw [GPu.out, GQ.out x] at OSx
              have OSx := Lib.hid OSx
              have hll : (ouT FP FQ Q (u * Q + x)).length ≤ 1000000 := by
                rw [OL.out]
                have := Nat.mul_le_mul (show u ≤ 64 by omega) hQ64
                omega
              have OSx2 := OSx.out
              clear OSx
              have OSx := Lib.hid OSx2
              clear OSx2
              obtain ⟨t, ht⟩ : ∃ t, t = u * Q + x := ⟨_, rfl⟩
              have HTT := Lib.hid ht
              rw [← ht] at OSx O2 hll
              clear ht
              generalize gd pz u = yu at *
              generalize gd qz x = yx at *
              go_wp2_with fail
              refine (mul_any yu yx _ hbu.1 hbu.2 hbx.1 hbx.2).mono ?_
              rintro e w' ⟨rfl, rfl⟩
              go_wp2_with (at_builtin; refine wl_app _ rfl (.tmp 124) (.tmp 128) rfl w9.heap.size _ (ouT FP FQ Q t) (toF yu * toF yx) w9 rfl rfl O2.out H2.out hsz2 hll ?_)
              intro v8 w8 hown8 hbel8
              rw [← OSx.out] at hown8
              have O8 := Lib.hid hown8
              have B8' := Lib.hid hbel8
              clear hown8 hbel8 c2'
              go_wp2
              go_roundw
              case rel => exact ⟨x + 1, by omega, by go_num, by have := O8.out; rw [HTT.out] at this; exact this, B8'.out⟩
              case measure => simp [intOf] <;> omega
            · obtain rfl : Q = x := by omega
              go_wp2
              go_roundw
              case rel => exact ⟨u + 1, by omega, by go_num, by rw [Nat.add_mul, Nat.one_mul]; exact O2.out, H2.out⟩
              case measure => simp [intOf] <;> omega
        · obtain rfl : P = u := by omega
          rw [← HOU.out] at OO
          have T_M := Lib.hid (T_9.out.below HB.out)
          have p_M := Lib.hid (p_9.out.below HB.out)
          have q_M := Lib.hid (q_9.out.below HB.out)
          have O_M := Lib.hid (OO.out.mono hsz9)
          have BM := Lib.hid (B9.out.trans (HB.out.mono hsz9))
          have hszM := BM.out.size
          clear OO HB T_9 X1_9 X2_9 p_9 q_9
          obtain ⟨go, cpo, rfl, hco, hmo⟩ := Ow.opened O_M.out (by rw [LOU.out]; exact Nat.mul_pos hP1 hQ1)
          rw [LOU.out] at hco O_M ⊢
          obtain ⟨t, ht⟩ : ∃ t, t = P * Q := ⟨_, rfl⟩
          have HTT := Lib.hid ht
          rw [← ht] at CFO hPQ LFO LOU hco O_M ⊢
          clear ht
          by_cases hbig : 1024 < t
          · have hbi : (1024 : Int) < (t : Int) := by omega
            have hal := Lib.hid ((Below.refl wr.heap.size wr).alloc (Nat.le_refl _) (.cells #[.int .i64 P, .int .i64 Q] 3))
            go_wp2
            go_ret
            exact ⟨rfl, BM.out.trans (hal.out.mono hszM)⟩
          have hle : t ≤ 1024 := by omega
          have hbd : decide ((1024 : Int) < (t : Int)) = false := by rw [decide_eq_false_iff_not]; omega
          have CFO2 := Lib.hid (CFO.out hle)
          have hal := (Below.refl wr.heap.size wr).alloc (Nat.le_refl _) (.cells #[.int .i64 P, .int .i64 Q] 3)
          have lit : Rd .i64 (wr.alloc (.cells #[.int .i64 P, .int .i64 Q] 3)) (.slice (some ⟨wr.heap.size, 0, none⟩) 2 2) [(P : Int), (Q : Int)] := Rd.lit .i64 wr [(P : Int), (Q : Int)] 3 2 rfl (by simp)
          have LIT := Lib.hid lit
          have T_N := Lib.hid (T_M.out.below hal)
          have p_N := Lib.hid (p_M.out.below hal)
          have q_N := Lib.hid (q_M.out.below hal)
          have o_N := Lib.hid (O_M.out.below hal)
          have BN := Lib.hid (BM.out.trans (hal.mono hszM))
          have hszN := BN.out.size
          clear hal lit T_M p_M q_M O_M CFO hbig
          go_wp2_with fail
          refine (CFO2.out _ _ _ LIT.out (Ow.rd o_N.out) T_N.out).mono ?_
          rintro e w10 ⟨v10, rfl, hown, hbel⟩
          have T_10 := Lib.hid (T_N.out.below hbel)
          have p_10 := Lib.hid (p_N.out.below hbel)
          have q_10 := Lib.hid (q_N.out.below hbel)
          have o_10 := Lib.hid (o_N.out.below hbel)
          have fo_10 := Lib.hid (hown.mono hszN)
          have B10 := Lib.hid (BN.out.trans (hbel.mono hszN))
          have hsz10 := B10.out.size
          clear T_N p_N q_N o_N hown hbel
          clear LIT
          go_wp2_with fail
          refine (CFP.out _ _ p_10.out.rd T_10.out).mono ?_
          rintro e w11 ⟨v11, rfl, hown, hbel⟩
          have T_11 := Lib.hid (T_10.out.below hbel)
          have p_11 := Lib.hid (p_10.out.below hbel)
          have q_11 := Lib.hid (q_10.out.below hbel)
          have o_11 := Lib.hid (o_10.out.below hbel)
          have fo_11 := Lib.hid (fo_10.out.below hbel)
          have fp_11 := Lib.hid (hown.mono hsz10)
          have B11 := Lib.hid (B10.out.trans (hbel.mono hsz10))
          have hsz11 := B11.out.size
          clear T_10 p_10 q_10 o_10 fo_10 hown hbel
          go_wp2_with fail
          refine (CFQ.out _ _ q_11.out.rd T_11.out).mono ?_
          rintro e w12 ⟨v12, rfl, hown, hbel⟩
          have T_12 := Lib.hid (T_11.out.below hbel)
          have p_12 := Lib.hid (p_11.out.below hbel)
          have q_12 := Lib.hid (q_11.out.below hbel)
          have o_12 := Lib.hid (o_11.out.below hbel)
          have fo_12 := Lib.hid (fo_11.out.below hbel)
          have fp_12 := Lib.hid (fp_11.out.below hbel)
          have fq_12 := Lib.hid (hown.mono hsz11)
          have B12 := Lib.hid (B11.out.trans (hbel.mono hsz11))
          have hsz12 := B12.out.size
          clear T_11 p_11 q_11 o_11 fo_11 fp_11 hown hbel
          have hPQ0 : 1 ≤ t := by rw [HTT.out]; exact Nat.mul_pos hP1 hQ1
          obtain ⟨gfo, cpfo, rfl, hcfo, hmfo⟩ := Ow.opened fo_12.out (by rw [LFO.out]; exact hPQ0)
          rw [LFO.out] at hcfo fo_12 ⊢
          obtain ⟨gfp, cpfp, rfl, hcfp, hmfp⟩ := Ow.opened fp_12.out (by rw [LFP.out]; exact hP1)
          rw [LFP.out] at hcfp fp_12 ⊢
          obtain ⟨gfq, cpfq, rfl, hcfq, hmfq⟩ := Ow.opened fq_12.out (by rw [LFQ.out]; exact hQ1)
          rw [LFQ.out] at hcfq fq_12 ⊢
          go_wp2
          go_loopw [38, 39, 158] (fun _ _ i wr => MpA w12 P i wr) (fun _ _ i _ => P - (intOf i).toNat)
          case atStart => exact ⟨0, by omega, rfl, Below.refl _ _⟩
          case round =>
            obtain ⟨u, hu, rfl, hbel⟩ := hrel
            have HB := Lib.hid hbel
            clear hbel
            by_cases hul : u < P
            · obtain ⟨wo, hwo⟩ : ∃ wo : World, wo = wr := ⟨_, rfl⟩
              go_wp2
              go_loopw [39, 163] (fun _ i wr => MpA w12 Q i wr) (fun _ i _ => Q - (intOf i).toNat)
              case atStart => exact ⟨0, by omega, rfl, HB.out⟩
              case round =>
                obtain ⟨x, hx', rfl, hbel⟩ := hrel
                have H2 := Lib.hid hbel
                clear hbel
                by_cases hxl : x < Q
                · have hin : u * Q + x < t := by
                    rw [HTT.out]
                    have := Nat.mul_le_mul_right Q (show u + 1 ≤ P from hul)
                    rw [Nat.add_mul, Nat.one_mul] at this
                    omega
                  have c1' : wr.cell? ⟨gfo, u * Q + x, none⟩ = some (.int .u64 (vl (cf fp u * cf fq x))) := by
                    rw [← OW.out u x hul hxl]; exact Ow.cell (l := fo) (cap := cpfo) (by rw [LFO.out]; exact fo_12.out.below H2.out) (by rw [LFO.out]; exact hin)
                  have c2' : wr.cell? ⟨gfp, u, none⟩ = some (.int .u64 (vl (cf fp u))) := Ow.cell (l := fp) (cap := cpfp) (by rw [LFP.out]; exact fp_12.out.below H2.out) (by rw [LFP.out]; exact hul)
                  have c3' : wr.cell? ⟨gfq, x, none⟩ = some (.int .u64 (vl (cf fq x))) := Ow.cell (l := fq) (cap := cpfq) (by rw [LFQ.out]; exact fq_12.out.below H2.out) (by rw [LFQ.out]; exact hxl)
                  have huQ := Nat.mul_le_mul (show u ≤ 64 by omega) hQ64
                  have em : (u : Int) * (Q : Int) = ((u * Q : Nat) : Int) := by rw [Int.natCast_mul]
                  generalize u * Q = r at *
                  have ew1 : IntKind.i64.wrap ((u : Int) * (Q : Int)) = (r : Int) := by rw [em]; exact wrap_nat (by omega)
                  have ew2 : IntKind.i64.wrap ((r : Int) + (x : Int)) = ((r + x : Nat) : Int) := by rw [show (r : Int) + (x : Int) = ((r + x : Nat) : Int) by omega]; exact wrap_nat (by omega)
                  have em2 : (r : Int) + (x : Int) = ((r + x : Nat) : Int) := by omega
                  generalize r + x = s at *
                  generalize cf fp u = y1 at *
                  generalize cf fq x = y2 at *
                  go_wp2
                  go_quiet ((first | (go_at_call 18; exact q_same (mul_F y1 y2 _))))
                  have H3 := Lib.hid (below_drewN H2.out nq)
                  clear c1' c2' c3' H2
                  go_wp2
                  go_roundw
                  case rel => exact ⟨x + 1, by omega, by go_num, H3.out⟩
                  case measure => simp [intOf] <;> omega
                · obtain rfl : Q = x := by omega
                  go_wp2
                  go_roundw
                  case rel => exact ⟨u + 1, by omega, by go_num, H2.out⟩
                  case measure => simp [intOf] <;> omega
            · obtain rfl : P = u := by omega
              have BE := Lib.hid (B12.out.trans (HB.out.mono hsz12))
              go_wp2
              go_ret
              exact ⟨rfl, BE.out⟩
theorem wManyProducts (zs zx zy : List Int) (i j : Int) (v v2 v3 : Value) (w : World) (h : Rd .i64 w v zs) (hw : W64 zs) (h2 : Rd .u64 w v2 zx) (h3 : Rd .u64 w v3 zy) (hx : B64 zx) (hy : B64 zy) (hT : Tb w) :
    Calls Tryd.prog 10 #[v, v2, v3, .int .i64 i, .int .i64 j] w (RetV w (.bool true)) := by
  rcases shape_split zs with hn | ⟨ds, rfl, hs, h64⟩
  · exact mp_none zs zx zy i j v v2 v3 w h hw hn h2 h3 hx hy hT
  · obtain ⟨ks, rfl, hk⟩ := shp_ks hs
    exact mp_some ks zx zy i j v v2 v3 w h hw hs h64 hk h2 h3 hx hy hT
end Go.Proofs.YtkcfnbfkbmgchaaDoor.Gm
