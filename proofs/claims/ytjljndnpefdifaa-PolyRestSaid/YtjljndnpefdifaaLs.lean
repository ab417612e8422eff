/- The walk of the law PolyRest. (Its lines are printed by wip/mk_XLs.py.) -/
import Derived.Test.YtjljndnpefdifaaPd
import Derived.Test.YtjljndnpefdifaaPt
import Derived.Test.YtjljndnpefdifaaShort
import Derived.Test.YtjljndnpefdifaaRp
import Derived.Test.YtjljndnpefdifaaBd
namespace Go.Proofs.Ytjljndnpefdifaa.Gm
open Go.RowKit
theorem divres_value {fa fb q r : List F} (h : DivRes fa fb q r) (x : F) : evl q x * evl fb x + evl r x = evl fa x := by
  rw [← evl_mulL, ← evl_addL, ← evl_strip (addL _ _), h.2.2.1, evl_strip]
theorem toF_m1' : toF 18446744069414584320 = -1 := by
  apply vl_inj
  have : (-1 : F) = 0 - 1 := by grind
  rw [this, vl_sub, vl_zero, vl_one, vl_toF]; rfl
theorem strip_pair (x : F) : strip [x, 1] = [x, 1] := strip_of (.inr (by show (1 : F) ≠ 0; exact one_ne))
theorem lit_a : strip ([18446744069414584320, 0, 1].map toF) = [-1, 0, 1] := by
  show strip [toF 18446744069414584320, toF 0, toF 1] = _
  rw [toF_m1', toF_zero, toF_one]
  exact strip_of (.inr (by show (1 : F) ≠ 0; exact one_ne))
theorem lit_b : strip ([1, 1].map toF) = [1, 1] := by
  show strip [toF 1, toF 1] = _
  rw [toF_one]; exact strip_pair 1
/-- a rest of at most one number is the value -/
theorem rest_value {fa q r : List F} (x : F) (h : DivRes fa [0 - x, 1] q r) : (r = [] ∧ evl fa x = 0) ∨ (∃ y, r = [y] ∧ evl fa x = y) := by
  have hv := divres_value h x
  rw [evl_two] at hv
  have h0 : evl q x * (0 - x + 1 * x) = 0 := by grind
  have hl := h.2.2.2.1
  match r, hl with
  | [], _ => left; rw [evl_nil] at hv; exact ⟨rfl, by grind⟩
  | [y], _ => right; rw [evl_one] at hv; exact ⟨y, rfl, by grind⟩
  | _ :: _ :: _, hl => exfalso; simp at hl; omega
theorem lit_div {q r : List F} (h : DivRes [-1, 0, 1] [1, 1] q r) : r = [] ∧ q = [-1, 1] := by
  have e1 : ([1, 1] : List F) = [0 - (-1), 1] := by congr 1; grind
  have h' := h
  rw [e1] at h'
  have h3 : evl [-1, 0, 1] (-1) = (0 : F) := by
    unfold evl ev; show S (0+1+1+1) _ = _
    rw [S_succ, S_succ, S_succ, S_zero, pow_succ, pow_succ, pow_zero]; simp only [cf]
    show 0 + (-1 : F) * 1 + 0 * (1 * -1) + 1 * (1 * -1 * -1) = 0; grind
  have hr : r = [] := by
    rcases rest_value (-1) h' with ⟨hr, _⟩ | ⟨y, hr, hy⟩
    · exact hr
    · rw [h3] at hy
      subst hy
      have := strip_normal h.2.1
      rcases this with e | e
      · exact e
      · rw [hr] at e; exact absurd rfl e
  refine ⟨hr, ?_⟩
  subst hr
  have hs : strip ([-1, 0, 1] : List F) = [-1, 0, 1] := strip_of (.inr (by show (1 : F) ≠ 0; exact one_ne))
  have hp := h.2.2.1
  rw [hs] at hp
  have hc : ∀ k, cv (cf q) (cf [1, 1]) k = cf [-1, 0, 1] k := fun k => by
    rw [← hp, cf_strip, cf_addL, cf_mulL, cf_nil]; grind
  have hq0 : q ≠ [] := by
    intro e
    have := hc 0
    rw [e] at this
    unfold cv at this
    rw [S_succ, S_zero, cf_nil] at this
    exact one_ne (by have h5 : cf ([-1, 0, 1] : List F) 0 = -1 := rfl; grind)
  have hlen : q.length = 2 := by
    have h1 : mulL q [1, 1] = strip (addL (mulL q [1, 1]) []) := by
      exact (mulL_normal h.1 (strip_pair 1)).symm.trans (strip_eq (fun k => by rw [cf_addL, cf_nil]; generalize cf (mulL q [1, 1]) k = u; grind))
    have h2 := mulL_len hq0 (show ([1, 1] : List F) ≠ [] by simp)
    rw [h1, hp] at h2
    simp at h2; omega
  match q, hlen with
  | [u, t], _ =>
    have c0 := hc 0
    have c1 := hc 1
    unfold cv at c0 c1
    rw [S_succ, S_zero] at c0
    rw [S_succ, S_succ, S_zero] at c1
    have c0' : 0 + u * 1 = (-1 : F) := c0
    have c1' : 0 + u * 1 + t * 1 = (0 : F) := c1
    have e2 : u = -1 := by grind
    have e3 : t = 1 := by grind
    rw [e2, e3]
theorem lit_q : ([-1, 1] : List F).map vl = [18446744069414584320, 1] := by
  show [vl (-1), vl 1] = _
  rw [vl_minus, vl_one]
set_option maxHeartbeats 4000000 in
set_option maxRecDepth 100000 in
theorem wPolyRest (za zb : List Int) (v v2 : Value) (x : Int) (w : World) (h : Rd .u64 w v za) (h2 : Rd .u64 w v2 zb) (hz : B64 za) (hy : B64 zb) (wx : (Lit.int .u64 x).wf = true) :
    Calls Try.prog 5 #[v, v2, .int .u64 x] w (RetV w (.bool true)) := by
  obtain ⟨x0, x1⟩ := u64_bounds wx
  clear wx
  obtain ⟨a1, k1, rfl, hk1, hm1⟩ := h.shape
  obtain ⟨a2, k2, rfl, hk2, hm2⟩ := h2.shape
  have X := Lib.hid h
  have Y := Lib.hid h2
  clear h h2
  obtain ⟨az, haz⟩ : ∃ az, az = za.take 60 := ⟨_, rfl⟩
  obtain ⟨bz, hbz⟩ : ∃ bz, bz = zb.take 60 := ⟨_, rfl⟩
  have Haz := Lib.hid haz
  have Hbz := Lib.hid hbz
  have la : az.length ≤ 60 := by rw [haz, List.length_take]; omega
  have lb : bz.length ≤ 60 := by rw [hbz, List.length_take]; omega
  have ba : B64 az := by rw [haz]; exact hz.take 60
  have bb : B64 bz := by rw [hbz]; exact hy.take 60
  clear haz hbz
  obtain ⟨fa, hfa⟩ : ∃ fa, fa = strip (az.map toF) := ⟨_, rfl⟩
  obtain ⟨fb, hfb⟩ : ∃ fb, fb = strip (bz.map toF) := ⟨_, rfl⟩
  have Fa := Lib.hid hfa
  have Fb := Lib.hid hfb
  have lfa : fa.length ≤ 60 := by rw [hfa]; have := strip_len (az.map toF); rw [List.length_map] at this; omega
  have lfb : fb.length ≤ 60 := by rw [hfb]; have := strip_len (bz.map toF); rw [List.length_map] at this; omega
  have Ev := Lib.hid (show evl (az.map toF) (toF x) = evl fa (toF x) by rw [hfa, evl_strip])
  have SFa := Lib.hid (show strip fa = fa by rw [hfa]; exact strip_strip _)
  have SFb := Lib.hid (show strip fb = fb by rw [hfb]; exact strip_strip _)
  have E0 := Lib.hid (fun (he : fb.length ≤ 0) => show (strip (bz.map toF)).length ≤ 0 by rw [← hfb]; exact he)
  have E1 := Lib.hid (fun (he : 0 < fb.length) => show 0 < (strip (bz.map toF)).length by rw [← hfb]; exact he)
  clear hfa hfb
  have lit1 : Rd .u64 (w.alloc (.cells #[.int .u64 18446744069414584320, .int .u64 0, .int .u64 1] 27)) (.slice (some ⟨w.heap.size, 0, none⟩) 3 3) [18446744069414584320, 0, 1] := Rd.lit .u64 w [18446744069414584320, 0, 1] 27 3 rfl (by simp)
  have lit2 : Rd .u64 ((w.alloc (.cells #[.int .u64 18446744069414584320, .int .u64 0, .int .u64 1] 27)).alloc (.cells #[.int .u64 1, .int .u64 1] 27)) (.slice (some ⟨w.heap.size + 1, 0, none⟩) 2 2) [1, 1] := by have h := Rd.lit .u64 (w.alloc (.cells #[.int .u64 18446744069414584320, .int .u64 0, .int .u64 1] 27)) [1, 1] 27 2 rfl (by simp); rw [show (w.alloc (.cells #[.int .u64 18446744069414584320, .int .u64 0, .int .u64 1] 27)).heap.size = w.heap.size + 1 by simp] at h; exact h
  have Lit1 := Lib.hid (lit1.alloc (.cells #[.int .u64 1, .int .u64 1] 27))
  have Lit2 := Lib.hid lit2
  have Bl := Lib.hid (((Below.refl w.heap.size w).alloc (Nat.le_refl _) (.cells #[.int .u64 18446744069414584320, .int .u64 0, .int .u64 1] 27)).alloc (by simp) (.cells #[.int .u64 1, .int .u64 1] 27))
  have b1 : B64 [18446744069414584320, 0, 1] := by intro z hz; simp at hz; omega
  have b2 : B64 [1, 1] := by intro z hz; simp at hz; omega
  have lp : 0 < (strip ([1, 1].map toF)).length := by rw [lit_b]; simp
  clear lit1 lit2
  go_enter Try.func5, Try.ntmps5
  go_wp2_with fail
  refine (div_any [18446744069414584320, 0, 1] [1, 1] _ _ _ Lit1.out Lit2.out b1 b2 (by simp) (by simp) lp).mono ?_
  rintro e w1 ⟨q0, r0, hD, vq, vr, rfl, hown, hown2, hbel⟩
  rw [lit_a, lit_b] at hD
  obtain ⟨rfl, rfl⟩ := lit_div hD
  have PR := Lib.hid hown2
  obtain ⟨ar, cr, rfl, _, _⟩ := PR.out.shape
  have P1 := Lib.hid (hown.mono (B' := w.heap.size) (by simp; omega))
  have B1 := Lib.hid (Bl.out.trans (hbel.mono (B' := w.heap.size) (by simp; omega)))
  have X1 := Lib.hid (X.out.below B1.out)
  have Y1 := Lib.hid (Y.out.below B1.out)
  have hsz1 := B1.out.size
  clear hown hown2 hbel Lit1 Lit2 Bl X Y hD PR
  have lit3 : Rd .u64 (w1.alloc (.cells #[.int .u64 18446744069414584320, .int .u64 1] 27)) (.slice (some ⟨w1.heap.size, 0, none⟩) 2 2) [18446744069414584320, 1] := Rd.lit .u64 w1 [18446744069414584320, 1] 27 2 rfl (by simp)
  have Lit3 := Lib.hid lit3
  have Pq := Lib.hid (by have h := (P1.out.below ((Below.refl w1.heap.size w1).alloc (Nat.le_refl _) (.cells #[.int .u64 18446744069414584320, .int .u64 1] 27))).rd; rw [lit_q] at h; exact h)
  have Xq := Lib.hid (X1.out.alloc (.cells #[.int .u64 18446744069414584320, .int .u64 1] 27))
  have Yq := Lib.hid (Y1.out.alloc (.cells #[.int .u64 18446744069414584320, .int .u64 1] 27))
  have Bq := Lib.hid (B1.out.alloc hsz1 (.cells #[.int .u64 18446744069414584320, .int .u64 1] 27))
  clear lit3 P1 X1 Y1
  go_wp2_with fail
  refine (equal_yes [18446744069414584320, 1] _ _ _ Pq.out Lit3.out).mono ?_
  rintro e w2 ⟨rfl, hbel⟩
  have X_0 := Lib.hid (Xq.out.below hbel)
  have Y_0 := Lib.hid (Yq.out.below hbel)
  have B0 := Lib.hid (Bq.out.trans (hbel.mono (B' := w.heap.size) (by simp; omega)))
  have hsz0 : w.heap.size ≤ w2.heap.size := B0.out.size
  clear hbel Xq Yq Bq Pq Lit3 B1 hsz1 lp
  go_wp2_with fail
  refine (short_z za 60 60 _ _ X_0.out (by omega) rfl).mono ?_
  rintro e w' ⟨⟨vSA, rfl, hr⟩, rfl⟩
  rw [← Haz.out] at hr
  have SA := Lib.hid hr
  clear hr X_0
  obtain ⟨qSA, cSA, rfl, _, _⟩ := SA.out.shape
  go_wp2_with fail
  refine (short_z zb 60 60 _ _ Y_0.out (by omega) rfl).mono ?_
  rintro e w' ⟨⟨vSB, rfl, hr⟩, rfl⟩
  rw [← Hbz.out] at hr
  have SB := Lib.hid hr
  clear hr Y_0
  obtain ⟨qSB, cSB, rfl, _, _⟩ := SB.out.shape
  go_wp2_with fail
  refine (sub_0x x _ x0 x1).mono ?_
  rintro e w' ⟨rfl, rfl⟩
  have lin : strip (([0 - toF x, 1].map vl).map toF) = [0 - toF x, 1] := by rw [map_toF_vl]; exact strip_pair _
  have lp2 : 0 < (strip (([0 - toF x, 1].map vl).map toF)).length := by rw [lin]; simp
  have Lin := Lib.hid lin
  clear lin
  go_wp2_with fail
  refine (div_any az ([0 - toF x, 1].map vl) _ _ _ (SA.out.alloc _) (Rd.lit2 w2 (0 - toF x)) ba (B64.vl _) (by omega) (by simp) lp2).mono ?_
  rintro e w3 ⟨q1, r1, hD, vq, vr, rfl, hown, hown2, hbel⟩
  rw [← Fa.out, Lin.out] at hD
  have hRV := rest_value (toF x) hD
  have hB3 : Below w2.heap.size w2 w3 := ((Below.refl w2.heap.size w2).alloc (Nat.le_refl _) (.cells #[.int .u64 (vl (0 - toF x)), .int .u64 1] 27)).trans (hbel.mono (B' := w2.heap.size) (by simp))
  have R3 := Lib.hid (hown2.mono (B' := w.heap.size) (by simp; omega))
  have SA3 := Lib.hid (SA.out.below hB3)
  have SB3 := Lib.hid (SB.out.below hB3)
  have B3 := Lib.hid (B0.out.trans (hB3.mono hsz0))
  have hsz3 := B3.out.size
  clear hown hown2 hbel hB3 SA SB B0 hsz0 hD lp2
  by_cases c3 : fb.length ≤ 0
  · rcases hRV with ⟨rfl, hRV⟩ | ⟨y, rfl, hRV⟩
    · have RV := Lib.hid hRV
      clear hRV
      go_wp2_with fail
      refine (eval_any az _ x _ SA3.out ba (by omega) x0 x1).mono ?_
      rintro e w4 ⟨rfl, hbel⟩
      have SA_4 := Lib.hid (SA3.out.below hbel)
      have SB_4 := Lib.hid (SB3.out.below hbel)
      have R_4 := Lib.hid (R3.out.below hbel)
      have B4 := Lib.hid (B3.out.trans (hbel.mono hsz3))
      have hsz4 := B4.out.size
      clear SA3 SB3 R3 hbel
      rw [Ev.out]
      rw [RV.out, vl_zero]
      obtain ⟨qR, cR, rfl, _, _⟩ := R_4.out.shape
      go_wp2_with fail
      refine (div_none az bz _ _ _ SA_4.out SB_4.out ba bb (by omega) (by omega) (E0.out c3)).mono ?_
      rintro e w5 ⟨v5a, v5b, rfl, hown, hown2, hbel⟩
      have SA_5 := Lib.hid (SA_4.out.below hbel)
      have SB_5 := Lib.hid (SB_4.out.below hbel)
      have R_5 := Lib.hid (R_4.out.below hbel)
      have Q2_5 := Lib.hid (hown.mono hsz4)
      have R2_5 := Lib.hid (hown2.mono hsz4)
      have B5 := Lib.hid (B4.out.trans (hbel.mono hsz4))
      have hsz5 := B5.out.size
      clear SA_4 SB_4 R_4 hown hown2 hbel
      go_wp2
      go_ret
      exact ⟨rfl, B5.out⟩
    · have RV := Lib.hid hRV
      clear hRV
      go_wp2_with fail
      refine (eval_any az _ x _ SA3.out ba (by omega) x0 x1).mono ?_
      rintro e w4 ⟨rfl, hbel⟩
      have SA_4 := Lib.hid (SA3.out.below hbel)
      have SB_4 := Lib.hid (SB3.out.below hbel)
      have R_4 := Lib.hid (R3.out.below hbel)
      have B4 := Lib.hid (B3.out.trans (hbel.mono hsz3))
      have hsz4 := B4.out.size
      clear SA3 SB3 R3 hbel
      rw [Ev.out]
      rw [RV.out]
      obtain ⟨gr, cr1, rfl, _, _, _, _⟩ := R_4.out.block (by simp)
      have hr0 := Ow.cell' R_4.out (by simp) (i := 0) (by simp)
      go_wp2_with fail
      refine (div_none az bz _ _ _ SA_4.out SB_4.out ba bb (by omega) (by omega) (E0.out c3)).mono ?_
      rintro e w5 ⟨v5a, v5b, rfl, hown, hown2, hbel⟩
      have SA_5 := Lib.hid (SA_4.out.below hbel)
      have SB_5 := Lib.hid (SB_4.out.below hbel)
      have R_5 := Lib.hid (R_4.out.below hbel)
      have Q2_5 := Lib.hid (hown.mono hsz4)
      have R2_5 := Lib.hid (hown2.mono hsz4)
      have B5 := Lib.hid (B4.out.trans (hbel.mono hsz4))
      have hsz5 := B5.out.size
      clear SA_4 SB_4 R_4 hown hown2 hbel
      go_wp2
      go_ret
      exact ⟨rfl, B5.out⟩
  · have c4 : 0 < fb.length := by omega
    rcases hRV with ⟨rfl, hRV⟩ | ⟨y, rfl, hRV⟩
    · have RV := Lib.hid hRV
      clear hRV
      go_wp2_with fail
      refine (eval_any az _ x _ SA3.out ba (by omega) x0 x1).mono ?_
      rintro e w4 ⟨rfl, hbel⟩
      have SA_4 := Lib.hid (SA3.out.below hbel)
      have SB_4 := Lib.hid (SB3.out.below hbel)
      have R_4 := Lib.hid (R3.out.below hbel)
      have B4 := Lib.hid (B3.out.trans (hbel.mono hsz3))
      have hsz4 := B4.out.size
      clear SA3 SB3 R3 hbel
      rw [Ev.out]
      rw [RV.out, vl_zero]
      obtain ⟨qR, cR, rfl, _, _⟩ := R_4.out.shape
      go_wp2_with fail
      refine (div_any az bz _ _ _ SA_4.out SB_4.out ba bb (by omega) (by omega) (E1.out c4)).mono ?_
      rintro e w5 ⟨q2, r2, hD, v5a, v5b, rfl, hown, hown2, hbel⟩
      have SA_5 := Lib.hid (SA_4.out.below hbel)
      have SB_5 := Lib.hid (SB_4.out.below hbel)
      have R_5 := Lib.hid (R_4.out.below hbel)
      have Q2_5 := Lib.hid (hown.mono hsz4)
      have R2_5 := Lib.hid (hown2.mono hsz4)
      have B5 := Lib.hid (B4.out.trans (hbel.mono hsz4))
      have hsz5 := B5.out.size
      clear SA_4 SB_4 R_4 hown hown2 hbel
      rw [← Fa.out, ← Fb.out] at hD
      obtain ⟨hD1, hD2, hD3, hD4, hD5, hD6⟩ := hD
      have lq : (q2.map vl).length + bz.length ≤ 2048 := by rw [List.length_map]; omega
      have lr : (r2.map vl).length ≤ 2048 := by rw [List.length_map]; omega
      have lp3 : ((mulL q2 fb).map vl).length ≤ 2048 := by rw [List.length_map]; have := mulL_le q2 fb; omega
      have D1 := Lib.hid hD1
      have D3 := Lib.hid hD3
      clear hD1 hD2 hD3
      go_wp2_with fail
      refine (pmul_any (q2.map vl) bz _ _ _ Q2_5.out.rd SB_5.out (B64.vl q2) bb lq).mono ?_
      rintro e w6 ⟨v6, rfl, hown, hbel⟩
      rw [map_toF_vl, D1.out, ← Fb.out] at hown
      have SA_6 := Lib.hid (SA_5.out.below hbel)
      have SB_6 := Lib.hid (SB_5.out.below hbel)
      have R_6 := Lib.hid (R_5.out.below hbel)
      have Q2_6 := Lib.hid (Q2_5.out.below hbel)
      have R2_6 := Lib.hid (R2_5.out.below hbel)
      have M_6 := Lib.hid (hown.mono hsz5)
      have B6 := Lib.hid (B5.out.trans (hbel.mono hsz5))
      have hsz6 := B6.out.size
      clear SA_5 SB_5 R_5 Q2_5 R2_5 hown hbel
      go_wp2_with fail
      refine (padd_any ((mulL q2 fb).map vl) (r2.map vl) _ _ _ M_6.out.rd R2_6.out.rd (B64.vl _) (B64.vl r2) lp3 lr).mono ?_
      rintro e w7 ⟨v7, rfl, hown, hbel⟩
      rw [map_toF_vl, map_toF_vl, D3.out, SFa.out] at hown
      have SA_7 := Lib.hid (SA_6.out.below hbel)
      have SB_7 := Lib.hid (SB_6.out.below hbel)
      have R_7 := Lib.hid (R_6.out.below hbel)
      have Q2_7 := Lib.hid (Q2_6.out.below hbel)
      have R2_7 := Lib.hid (R2_6.out.below hbel)
      have M_7 := Lib.hid (M_6.out.below hbel)
      have S_7 := Lib.hid (hown.mono hsz6)
      have B7 := Lib.hid (B6.out.trans (hbel.mono hsz6))
      have hsz7 := B7.out.size
      clear SA_6 SB_6 R_6 Q2_6 R2_6 M_6 hown hbel
      go_wp2_with fail
      refine (pnorm_any az _ _ SA_7.out ba (by omega)).mono ?_
      rintro e w8 ⟨v8, rfl, hown, hbel⟩
      rw [← Fa.out] at hown
      have SA_8 := Lib.hid (SA_7.out.below hbel)
      have SB_8 := Lib.hid (SB_7.out.below hbel)
      have R_8 := Lib.hid (R_7.out.below hbel)
      have Q2_8 := Lib.hid (Q2_7.out.below hbel)
      have R2_8 := Lib.hid (R2_7.out.below hbel)
      have M_8 := Lib.hid (M_7.out.below hbel)
      have S_8 := Lib.hid (S_7.out.below hbel)
      have NA_8 := Lib.hid (hown.mono hsz7)
      have B8 := Lib.hid (B7.out.trans (hbel.mono hsz7))
      have hsz8 := B8.out.size
      clear SA_7 SB_7 R_7 Q2_7 R2_7 M_7 S_7 hown hbel
      go_wp2_with fail
      refine (equal_yes (fa.map vl) _ _ _ S_8.out.rd NA_8.out.rd).mono ?_
      rintro e w9 ⟨rfl, hbel⟩
      have SA_9 := Lib.hid (SA_8.out.below hbel)
      have SB_9 := Lib.hid (SB_8.out.below hbel)
      have R_9 := Lib.hid (R_8.out.below hbel)
      have Q2_9 := Lib.hid (Q2_8.out.below hbel)
      have R2_9 := Lib.hid (R2_8.out.below hbel)
      have M_9 := Lib.hid (M_8.out.below hbel)
      have S_9 := Lib.hid (S_8.out.below hbel)
      have NA_9 := Lib.hid (NA_8.out.below hbel)
      have B9 := Lib.hid (B8.out.trans (hbel.mono hsz8))
      have hsz9 := B9.out.size
      clear SA_8 SB_8 R_8 Q2_8 R2_8 M_8 S_8 NA_8 hbel
      go_wp2
      go_ret
      exact ⟨rfl, B9.out⟩
    · have RV := Lib.hid hRV
      clear hRV
      go_wp2_with fail
      refine (eval_any az _ x _ SA3.out ba (by omega) x0 x1).mono ?_
      rintro e w4 ⟨rfl, hbel⟩
      have SA_4 := Lib.hid (SA3.out.below hbel)
      have SB_4 := Lib.hid (SB3.out.below hbel)
      have R_4 := Lib.hid (R3.out.below hbel)
      have B4 := Lib.hid (B3.out.trans (hbel.mono hsz3))
      have hsz4 := B4.out.size
      clear SA3 SB3 R3 hbel
      rw [Ev.out]
      rw [RV.out]
      obtain ⟨gr, cr1, rfl, _, _, _, _⟩ := R_4.out.block (by simp)
      have hr0 := Ow.cell' R_4.out (by simp) (i := 0) (by simp)
      go_wp2_with fail
      refine (div_any az bz _ _ _ SA_4.out SB_4.out ba bb (by omega) (by omega) (E1.out c4)).mono ?_
      rintro e w5 ⟨q2, r2, hD, v5a, v5b, rfl, hown, hown2, hbel⟩
      have SA_5 := Lib.hid (SA_4.out.below hbel)
      have SB_5 := Lib.hid (SB_4.out.below hbel)
      have R_5 := Lib.hid (R_4.out.below hbel)
      have Q2_5 := Lib.hid (hown.mono hsz4)
      have R2_5 := Lib.hid (hown2.mono hsz4)
      have B5 := Lib.hid (B4.out.trans (hbel.mono hsz4))
      have hsz5 := B5.out.size
      clear SA_4 SB_4 R_4 hown hown2 hbel
      rw [← Fa.out, ← Fb.out] at hD
      obtain ⟨hD1, hD2, hD3, hD4, hD5, hD6⟩ := hD
      have lq : (q2.map vl).length + bz.length ≤ 2048 := by rw [List.length_map]; omega
      have lr : (r2.map vl).length ≤ 2048 := by rw [List.length_map]; omega
      have lp3 : ((mulL q2 fb).map vl).length ≤ 2048 := by rw [List.length_map]; have := mulL_le q2 fb; omega
      have D1 := Lib.hid hD1
      have D3 := Lib.hid hD3
      clear hD1 hD2 hD3
      go_wp2_with fail
      refine (pmul_any (q2.map vl) bz _ _ _ Q2_5.out.rd SB_5.out (B64.vl q2) bb lq).mono ?_
      rintro e w6 ⟨v6, rfl, hown, hbel⟩
      rw [map_toF_vl, D1.out, ← Fb.out] at hown
      have SA_6 := Lib.hid (SA_5.out.below hbel)
      have SB_6 := Lib.hid (SB_5.out.below hbel)
      have R_6 := Lib.hid (R_5.out.below hbel)
      have Q2_6 := Lib.hid (Q2_5.out.below hbel)
      have R2_6 := Lib.hid (R2_5.out.below hbel)
      have M_6 := Lib.hid (hown.mono hsz5)
      have B6 := Lib.hid (B5.out.trans (hbel.mono hsz5))
      have hsz6 := B6.out.size
      clear SA_5 SB_5 R_5 Q2_5 R2_5 hown hbel
      go_wp2_with fail
      refine (padd_any ((mulL q2 fb).map vl) (r2.map vl) _ _ _ M_6.out.rd R2_6.out.rd (B64.vl _) (B64.vl r2) lp3 lr).mono ?_
      rintro e w7 ⟨v7, rfl, hown, hbel⟩
      rw [map_toF_vl, map_toF_vl, D3.out, SFa.out] at hown
      have SA_7 := Lib.hid (SA_6.out.below hbel)
      have SB_7 := Lib.hid (SB_6.out.below hbel)
      have R_7 := Lib.hid (R_6.out.below hbel)
      have Q2_7 := Lib.hid (Q2_6.out.below hbel)
      have R2_7 := Lib.hid (R2_6.out.below hbel)
      have M_7 := Lib.hid (M_6.out.below hbel)
      have S_7 := Lib.hid (hown.mono hsz6)
      have B7 := Lib.hid (B6.out.trans (hbel.mono hsz6))
      have hsz7 := B7.out.size
      clear SA_6 SB_6 R_6 Q2_6 R2_6 M_6 hown hbel
      go_wp2_with fail
      refine (pnorm_any az _ _ SA_7.out ba (by omega)).mono ?_
      rintro e w8 ⟨v8, rfl, hown, hbel⟩
      rw [← Fa.out] at hown
      have SA_8 := Lib.hid (SA_7.out.below hbel)
      have SB_8 := Lib.hid (SB_7.out.below hbel)
      have R_8 := Lib.hid (R_7.out.below hbel)
      have Q2_8 := Lib.hid (Q2_7.out.below hbel)
      have R2_8 := Lib.hid (R2_7.out.below hbel)
      have M_8 := Lib.hid (M_7.out.below hbel)
      have S_8 := Lib.hid (S_7.out.below hbel)
      have NA_8 := Lib.hid (hown.mono hsz7)
      have B8 := Lib.hid (B7.out.trans (hbel.mono hsz7))
      have hsz8 := B8.out.size
      clear SA_7 SB_7 R_7 Q2_7 R2_7 M_7 S_7 hown hbel
      go_wp2_with fail
      refine (equal_yes (fa.map vl) _ _ _ S_8.out.rd NA_8.out.rd).mono ?_
      rintro e w9 ⟨rfl, hbel⟩
      have SA_9 := Lib.hid (SA_8.out.below hbel)
      have SB_9 := Lib.hid (SB_8.out.below hbel)
      have R_9 := Lib.hid (R_8.out.below hbel)
      have Q2_9 := Lib.hid (Q2_8.out.below hbel)
      have R2_9 := Lib.hid (R2_8.out.below hbel)
      have M_9 := Lib.hid (M_8.out.below hbel)
      have S_9 := Lib.hid (S_8.out.below hbel)
      have NA_9 := Lib.hid (NA_8.out.below hbel)
      have B9 := Lib.hid (B8.out.trans (hbel.mono hsz8))
      have hsz9 := B9.out.size
      clear SA_8 SB_8 R_8 Q2_8 R2_8 M_8 S_8 NA_8 hbel
      go_wp2
      go_ret
      exact ⟨rfl, B9.out⟩
end Go.Proofs.Ytjljndnpefdifaa.Gm
