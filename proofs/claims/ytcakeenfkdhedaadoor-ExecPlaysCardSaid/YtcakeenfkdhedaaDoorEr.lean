/- goldkeep.runs. -/
import Derived.Test.YtcakeenfkdhedaaDoorEw
import Derived.Test.YtcakeenfkdhedaaDoorFl
namespace Go.Proofs.YtcakeenfkdhedaaDoor.Gm
open Go.RowKit
set_option linter.unusedVariables false
/-- what is made is right -/
theorem gl_phs {ks : List Nat} {cut : Int} (hs : Shp (szs ks)) (h64 : pr (szs ks) ≤ 64) (hc : 1 ≤ cut) : GL ks (phs (szs ks) cut ks.length) := by
  have hl := phs_len (szs ks) cut ks.length
  refine ⟨hs, hl, fun x hx => ?_, fun x hx => ?_⟩
  · rw [hl] at hx
    rw [pg_phs _ _ hx]
    exact rp_phT hs hc (by rw [szs_len]; exact hx)
  · rw [hl] at hx
    rw [pg_phs _ _ hx, phT_len]
    have hx' : x < (szs ks).length := by rw [szs_len]; exact hx
    have h1 := cntT_le (lnX_pos hs hx') (cutX_pos hs hc hx')
    have h2 : lnX (szs ks) x ≤ pr (szs ks) := Nat.div_le_self _ _
    omega
theorem make_gl (ks : List Nat) (cut : Int) (v : Value) (w : World) (h : Rd .i64 w v (zi (szs ks))) (hw : W64 (zi (szs ks))) (hs : Shp (szs ks)) (h64 : pr (szs ks) ≤ 64) (hc : 1 ≤ cut) (hc2 : cut ≤ 9223372036854775807) :
    Calls Tryd.prog 9 #[v, .int .i64 cut] w (RetPE w (phs (szs ks) cut ks.length) 0) := by
  refine (make_any (szs ks) cut v w h hw hs hc hc2).mono ?_
  rintro e w' (⟨_, he⟩ | ⟨⟨x, hx, h65⟩, _⟩)
  · rw [szs_len] at he; exact he
  · have h1 := cntT_le (lnX_pos hs hx) (cutX_pos hs hc hx)
    have h2 : lnX (szs ks) x ≤ pr (szs ks) := Nat.div_le_self _ _
    omega
theorem rem_st0 (W : Nat) (ll : List (List T3)) (zs : List Int) (hN : 1 ≤ ll.length) : remS ll (st0 W ll zs) = ll.flatten.length := by
  unfold remS st0
  show (pg ll 0).length + (ll.drop 1).flatten.length = _
  rcases ll with _ | ⟨l, r⟩
  · exact absurd hN (by simp)
  · rw [pg_lt (by simp)]; simp
theorem rem_22 : (phs (szs [1, 1]) 1 2).flatten.length = 4 := by
  rw [show (2 : Nat) = 1 + 1 from rfl, phs_succ, show (1 : Nat) = 0 + 1 from rfl, phs_succ, phs_zero]
  simp only [List.nil_append, List.cons_append, List.flatten_cons, List.flatten_nil, List.append_nil, List.length_append, phT_len]
  decide +kernel
def RuRel (w : World) (r : Rn) (C : Nat → Prop) (zs : List Int) (i : Value) (wr : World) : Prop :=
  ∃ (m : Nat) (s : RS) (M : Nat → Prop), m ≤ 4 ∧ i = .int .i64 (m : Int) ∧ RunAt wr C M r s ∧ RI r.back r.ks zs r.W r.ll s ∧ remS r.ll s + m = 4 ∧ (∀ k, M k → w.heap.size ≤ k) ∧ Below w.heap.size w wr
theorem step_10 {ks : List Nat} {zs : List Int} {ll : List (List T3)} {s : RS} {back : Bool} (h : RI back ks zs 2 ll s) (h0 : 0 < remS ll s) : stXE 2 ll s (1, 0) = 0 ∧ remS ll (stXP back ks 2 ll s (1, 0)) + 1 = remS ll s := by
  have hx : s.ph < ll.length := by
    apply Classical.byContradiction
    intro hn
    have h1 := h.ph
    have h2 := h.zero (by omega)
    unfold remS at h0
    rw [h2, List.drop_of_length_le (by omega)] at h0
    simp at h0
  refine ⟨by unfold stXE; rw [if_neg (by omega), if_pos (by decide)], ?_⟩
  have e : stXP back ks 2 ll s (1, 0) = stX back ks 2 ll s 1 0 := by unfold stXP; rw [if_pos ⟨hx, by decide⟩]; rfl
  rw [e]
  refine (rem_stX h hx 1 0).2 ?_
  obtain ⟨i, hi, hq⟩ := some_q h hx
  obtain rfl | rfl : i = 0 ∨ i = 1 := by omega
  · exact .inr ⟨by omega, hq⟩
  · exact .inl hq
set_option maxHeartbeats 2000000 in
theorem runs_any (w : World) (hT : Tb w) : Calls Tryd.prog 28 #[] w (RetV w (.bool true)) := by
  have hb0 := (Below.refl w.heap.size w).alloc (Nat.le_refl _) (.cells #[.int .i64 2, .int .i64 2] 3)
  have L0 : Rd .i64 (w.alloc (.cells #[.int .i64 2, .int .i64 2] 3)) (.slice (some ⟨w.heap.size, 0, none⟩) 2 2) (zi (szs [1, 1])) := Rd.lit .i64 w [2, 2] 3 2 rfl (by simp)
  have CM := Lib.hid (make_gl [1, 1] 1 _ _ L0 w22 shp_22 (by decide) (by decide) (by decide))
  have HG := Lib.hid (gl_phs (cut := 1) shp_22 (by decide) (by decide))
  have HR4 := Lib.hid rem_22
  have HN := Lib.hid (phs_len (szs [1, 1]) 1 2)
  have B0 := Lib.hid hb0
  have TW := Lib.hid hT
  have hs0 := hb0.size
  have TLT := Lib.hid (show 3 < w.heap.size from World.block_lt_of_cell? w ⟨3, 0, none⟩ (hT 0 (by omega)))
  clear hb0 L0 hT
  change Hid (GL [1, 1] (phs (szs [1, 1]) 1 2)) at HG
  change Hid (Calls Tryd.prog 9 _ _ (RetPE _ (phs (szs [1, 1]) 1 2) 0)) at CM
  generalize phs (szs [1, 1]) 1 2 = ll at *
  go_enter Tryd.func28, Tryd.ntmps28
  go_wp2_with fail
  refine CM.out.mono ?_
  rintro e w1 ⟨v1, rfl, ho, hb⟩
  obtain ⟨a1, q1, rfl, _⟩ := ho.shape
  have P1 := Lib.hid ho
  have B1 := Lib.hid (B0.out.trans (hb.mono hs0))
  have hs1 := B1.out.size
  rw [HN.out] at P1 ⊢
  clear ho hb CM B0
  have lit1 : Rd .i64 ((w1.alloc (.cells #[.int .i64 2, .int .i64 2] 3)).alloc (.cells #[.int .u64 1, .int .u64 2, .int .u64 3, .int .u64 4] 52)) (.slice (some ⟨w1.heap.size, 0, none⟩) 2 2) (zi (szs [1, 1])) := (Rd.lit .i64 w1 [2, 2] 3 2 rfl (by simp)).alloc _
  have lit2 : Rd .u64 ((w1.alloc (.cells #[.int .i64 2, .int .i64 2] 3)).alloc (.cells #[.int .u64 1, .int .u64 2, .int .u64 3, .int .u64 4] 52)) (.slice (some ⟨w1.heap.size + 1, 0, none⟩) 4 4) [1, 2, 3, 4] := by
    have h := Rd.lit .u64 (w1.alloc (.cells #[.int .i64 2, .int .i64 2] 3)) [1, 2, 3, 4] 52 4 rfl (by simp)
    simpa using h
  have hal := ((Below.refl w1.heap.size w1).alloc (Nat.le_refl _) (.cells #[.int .i64 2, .int .i64 2] 3)).alloc (by simp) (.cells #[.int .u64 1, .int .u64 2, .int .u64 3, .int .u64 4] 52)
  have P2 := P1.out.rps.below hal
  have CN := Lib.hid (xnew_ok [1, 1] ll [1, 2, 3, 4] 2 false _ _ _ _ lit1 lit2 P2 w22 HG.out rfl (by omega) (by omega))
  have HAL := Lib.hid hal
  clear lit1 lit2 hal P2
  go_wp2_with fail
  refine CN.out.mono ?_
  rintro e w2 ⟨r, C, M, rfl, hrun, hW, hbk, hks, hll, hCM, hb⟩
  have hz12 : w1.heap.size ≤ ((w1.alloc (.cells #[.int .i64 2, .int .i64 2] 3)).alloc (.cells #[.int .u64 1, .int .u64 2, .int .u64 3, .int .u64 4] 52)).heap.size := HAL.out.size
  have RU := Lib.hid hrun
  have HW := Lib.hid hW
  have HBK := Lib.hid hbk
  have HKS := Lib.hid hks
  have HLL := Lib.hid hll
  have HM := Lib.hid (show ∀ k, M k → w.heap.size ≤ k from fun k hk => by have := hCM k (.inr hk); omega)
  have B2 := Lib.hid (B1.out.trans ((HAL.out.trans (hb.mono hz12)).mono hs1))
  have CD := Lib.hid (xdone_any r _ C M w2 hrun)
  have RI0 := Lib.hid (show RI r.back r.ks [1, 2, 3, 4] r.W r.ll (st0 2 ll [1, 2, 3, 4]) from by
    rw [hW, hbk, hks, hll]
    exact st0_inv HG.out rfl (by omega) (by rw [HN.out]; omega))
  have hd : (decide ((st0 2 ll [1, 2, 3, 4]).ph = r.ll.length)) = false := by
    rw [hll, HN.out]; rfl
  rw [hd] at CD
  obtain ⟨R, hR⟩ : ∃ R, R = r.R := ⟨_, rfl⟩
  have HR := Lib.hid hR
  rw [← hR] at CD ⊢
  have hs2 := B2.out.size
  clear hrun hW hbk hks hll hCM hb hz12 HAL CN hR hd P1 B1
  go_wp2_with fail
  refine CD.out.mono ?_
  rintro e w3 ⟨rfl, hb⟩
  have R3 := Lib.hid (RU.out.bel hb)
  have B3 := Lib.hid (B2.out.trans (hb.mono hs2))
  have hs3 := B3.out.size
  clear hb CD RU B2
  go_wp2
  go_loopw [23] (fun i wr => RuRel w r C [1, 2, 3, 4] i wr) (fun i _ => 4 - (intOf i).toNat)
  case atStart => exact ⟨0, _, M, by omega, rfl, R3.out, RI0.out, by rw [HLL.out, rem_st0 _ _ _ (by rw [HN.out]; omega), HR4.out], HM.out, B3.out⟩
  case round =>
    obtain ⟨m, s, M2, hm, rfl, hrun, hri, hrem, hM2, hb⟩ := hrel
    have RW := Lib.hid hrun
    have IW := Lib.hid hri
    have MW := Lib.hid hM2
    have BW := Lib.hid hb
    have hsw := hb.size
    clear hrun hri hM2 hb
    by_cases hml : m < 4
    · have IW2 := IW.out
      rw [HW.out] at IW2
      obtain ⟨e1, e2⟩ := step_10 IW2 (by omega)
      have e1' : stXE r.W r.ll s (1, 0) = 0 := by rw [HW.out]; exact e1
      have CS := Lib.hid (xstep_any r s [1, 2, 3, 4] C M2 wr (1, 0) RW.out IW.out (by rw [HKS.out, HLL.out]; exact HG.out) (by rw [HKS.out]; rfl) (by intro z hz; simp at hz; omega) (by rw [HKS.out]; exact w22) (TW.out.below BW.out) (fun h => by have := MW.out _ h; have := TLT.out; omega) (by rw [HW.out]; omega) (by rw [HW.out]; omega))
      rw [e1', ← HR.out] at CS
      have E2 := Lib.hid e2
      clear e1 e2 e1' IW2
      go_wp2_with fail
      refine CS.out.mono ?_
      rintro e w4 ⟨rfl, M3, hrun, hO, hM⟩
      have R4 := Lib.hid hrun
      have M4 := Lib.hid (show ∀ k, M3 k → w.heap.size ≤ k from fun k hk => by
        rcases hM k hk with h1 | h1
        · exact MW.out k h1
        · omega)
      have B4 := Lib.hid (BW.out.trans (hO.below (B := w.heap.size) hsw (fun k hk => MW.out k hk)))
      have I4 := Lib.hid (stXP_inv (p := (1, 0)) (by rw [HKS.out, HLL.out]; exact HG.out) (by rw [HKS.out]; rfl) (by rw [HW.out]; omega) IW.out)
      clear hrun hO hM CS
      go_wp2
      go_roundw
      case rel => exact ⟨m + 1, _, M3, by omega, by go_num, R4.out, I4.out, by have := E2.out; rw [HW.out]; omega, M4.out, B4.out⟩
      case measure => simp [intOf] <;> omega
    · obtain rfl : m = 4 := by omega
      have hph := rem_zero IW.out (by omega)
      have CD := Lib.hid (xdone_any r s C M2 wr RW.out)
      rw [decide_eq_true hph, ← HR.out] at CD
      have har := IW.out.ar
      rw [arO, if_neg (by omega), hph, HLL.out, HN.out, HBK.out, HKS.out, show (2 : Nat) = ([1, 1] : List Nat).length from rfl, alT_whole (by decide), flat_list] at har
      have HAR := Lib.hid har
      have HLE := Lib.hid (show s.ar.length ≤ 1000000 by rw [har]; decide)
      clear har hph
      go_wp2_with fail
      refine CD.out.mono ?_
      rintro e w4 ⟨rfl, hb⟩
      have R4 := Lib.hid (RW.out.bel hb)
      have B4 := Lib.hid (BW.out.trans (hb.mono hsw))
      have hs4 := B4.out.size
      clear hb CD
      have CA := Lib.hid (xarray_any r s C M2 w4 R4.out HLE.out)
      rw [← HR.out, HAR.out] at CA
      go_wp2_with fail
      refine CA.out.mono ?_
      rintro e w5 ⟨v5, rfl, ho, hb⟩
      have O5 := Lib.hid ho.rd
      have B5 := Lib.hid (B4.out.trans (hb.mono hs4))
      have hs5 := B5.out.size
      clear ho hb CA
      go_wp2_with fail
      have hL := Rd.lit .u64 w5 [10, 18446744069414584319, 18446744069414584317, 0] 52 4 rfl (by simp)
      have hal := (Below.refl w5.heap.size w5).alloc (Nat.le_refl _) (.cells ([10, 18446744069414584319, 18446744069414584317, 0].map (Value.int .u64)).toArray 52)
      refine (equal_yes [10, 18446744069414584319, 18446744069414584317, 0] _ _ _ (O5.out.below hal) hL).mono ?_
      rintro e w6 ⟨rfl, hb2⟩
      have B6 := Lib.hid (B5.out.trans ((hal.trans (hb2.mono (by simp))).mono hs5))
      clear hL hal hb2
      go_wp2
      go_ret
      exact ⟨rfl, B6.out⟩
end Go.Proofs.YtcakeenfkdhedaaDoor.Gm
