/- conv.Cyclic, conv.Skew. -/
import Derived.Test.YtkcfnbfkbmgchaaDoorVt
namespace Go.Proofs.YtkcfnbfkbmgchaaDoor.Gm
open Go.RowKit
set_option linter.unusedVariables false
theorem cyc_len (zs ys : List Int) (v v2 : Value) (w : World) (h : Rd .u64 w v zs) (h2 : Rd .u64 w v2 ys) (hne : zs.length ≠ ys.length) :
    Calls Tryd.prog 27 #[v, v2] w (RetLE w [] 5) := by
  obtain ⟨a, cap, rfl, hcap, hm⟩ := h.shape
  obtain ⟨a2, cap2, rfl, hcap2, hm2⟩ := h2.shape
  have hb : ((zs.length : Int) != (ys.length : Int)) = true := by rw [bne_iff_ne]; omega
  have hb2 : (zs.length != ys.length) = true := by rw [bne_iff_ne]; exact hne
  clear h h2 hne
  go_enter Tryd.func27, Tryd.ntmps27
  go_wp2
  go_ret2
  exact ⟨_, rfl, Ow.nil _ _, Below.refl _ _⟩
theorem cyc_eq (zs ys : List Int) (v v2 : Value) (w : World) (L : List F) (n : Int) (h : Rd .u64 w v zs) (h2 : Rd .u64 w v2 ys) (he : zs.length = ys.length)
    (hC : ∀ w, Rd .u64 w v zs → Rd .u64 w v2 ys → Tb w → Calls Tryd.prog 68 #[v, v2] w (RetLE w L n)) (hT : Tb w) :
    Calls Tryd.prog 27 #[v, v2] w (RetLE w L n) := by
  have CT := Lib.hid (hC w h h2 hT)
  obtain ⟨a, cap, rfl, hcap, hm⟩ := h.shape
  obtain ⟨a2, cap2, rfl, hcap2, hm2⟩ := h2.shape
  clear h h2 hC hT
  rw [← he] at CT ⊢
  clear he
  go_enter Tryd.func27, Tryd.ntmps27
  go_wp2_with fail
  refine CT.out.mono ?_
  rintro e w1 ⟨v1, rfl, ho, hb⟩
  have O1 := Lib.hid ho
  have B1 := Lib.hid hb
  clear ho hb
  go_wp2
  go_ret2
  exact ⟨_, rfl, O1.out, B1.out⟩
theorem cyc_ok (k : Nat) (zs ys : List Int) (v v2 : Value) (w : World) (h : Rd .u64 w v zs) (h2 : Rd .u64 w v2 ys) (hz : B64 zs) (hy : B64 ys) (hk : k ≤ 10) (hl : zs.length = 2 ^ k) (hl2 : ys.length = 2 ^ k) (hT : Tb w) :
    Calls Tryd.prog 27 #[v, v2] w (RetLE w (cycL k (zs.map toF) (ys.map toF)) 0) :=
  cyc_eq zs ys v v2 w _ 0 h h2 (hl.trans hl2.symm) (fun w h h2 hT => times_ok k zs ys v v2 w h h2 hz hy hk hl hl2 hT) hT
theorem cyc_bad (zs ys : List Int) (v v2 : Value) (w : World) (h : Rd .u64 w v zs) (h2 : Rd .u64 w v2 ys) (he : zs.length = ys.length) (hl : ∀ k : Nat, k ≤ 10 → zs.length ≠ 2 ^ k) (hT : Tb w) :
    Calls Tryd.prog 27 #[v, v2] w (RetLE w [] 5) :=
  cyc_eq zs ys v v2 w _ 5 h h2 he (fun w h h2 hT => times_bad zs v v2 w h hl hT) hT
theorem skew_len (zs ys : List Int) (v v2 : Value) (w : World) (h : Rd .u64 w v zs) (h2 : Rd .u64 w v2 ys) (hne : zs.length ≠ ys.length) :
    Calls Tryd.prog 28 #[v, v2] w (RetLE w [] 5) := by
  obtain ⟨a, cap, rfl, hcap, hm⟩ := h.shape
  obtain ⟨a2, cap2, rfl, hcap2, hm2⟩ := h2.shape
  have hb : ((zs.length : Int) != (ys.length : Int)) = true := by rw [bne_iff_ne]; omega
  have hb2 : (zs.length != ys.length) = true := by rw [bne_iff_ne]; exact hne
  clear h h2 hne
  go_enter Tryd.func28, Tryd.ntmps28
  go_wp2
  go_ret2
  exact ⟨_, rfl, Ow.nil _ _, Below.refl _ _⟩
/-- the skew product of lists -/
def skL (k : Nat) (l m : List F) : List F := twL (cycL k (twL l (root (k + 1)) (2 ^ k)) (twL m (root (k + 1)) (2 ^ k))) (inv (root (k + 1))) (2 ^ k)
theorem skL_len (k : Nat) (l m : List F) : (skL k l m).length = 2 ^ k := by unfold skL; rw [twL_len, cycL_len]
theorem cf_skL {k : Nat} (hk : k ≤ 20) {l m : List F} (hl : l.length = 2 ^ k) (hm : m.length = 2 ^ k) {i : Nat} (hi : i < 2 ^ k) : cf (skL k l m) i = cv (cf l) (cf m) i - cv (cf l) (cf m) (i + 2 ^ k) := by
  unfold skL
  rw [cf_twL _ _ _ (by rw [cycL_len]; exact hi), if_pos hi, cf_cycL _ _ _ hi]
  rw [← skew_eq hk (fun j hj => cf_ge (l := l) (by omega)) (fun j hj => cf_ge (l := m) (by omega)) hi, tr_cyc hk _ _ hi]
  congr 1
  refine S_congr (fun j hj => ?_)
  rw [cf_twL _ _ _ (by omega), if_pos hj, cf_twL _ _ _ (by rw [hm]; exact Nat.mod_lt _ (Nat.two_pow_pos k)), if_pos (Nat.mod_lt _ (Nat.two_pow_pos k))]
/-- behind the search for a size -/
theorem skew_from (zs ys : List Int) (v v2 : Value) (w : World) (c : Nat) (L : List F) (n : Int) (h : Rd .u64 w v zs) (h2 : Rd .u64 w v2 ys) (he : zs.length = ys.length) (hc : c ≤ 44) (hc1 : zs.length ≤ 2 ^ c) (hc2 : ∀ d, d < c → 2 ^ d < zs.length)
    (P : World → Prop) (hP : P w)
    (hroot : (∃ r q : F, (∀ w, Calls Tryd.prog 16 #[.int .i64 ((c + 1 : Nat) : Int)] w fun e w' => e = .returned (.tuple #[.int .u64 (vl r), .int .i64 0]) ∧ w = w') ∧
        (∀ w, Calls Tryd.prog 63 #[.int .u64 (vl r)] w fun e w' => e = .returned (.tuple #[.int .u64 (vl q), .int .i64 0]) ∧ w = w') ∧
        zs.length ≤ 4294967296 ∧ B64 zs ∧ B64 ys ∧ (∀ w w', Below w.heap.size w w' → P w → P w') ∧
        ((n = 5 ∧ L = [] ∧ ∀ v v2 w, P w → Rd .u64 w v ((twL (zs.map toF) r zs.length).map vl) → Calls Tryd.prog 68 #[v, v2] w (RetLE w [] 5)) ∨
         (n = 0 ∧ ∃ M, M.length = zs.length ∧ L = twL M q zs.length ∧ ∀ v v2 w, P w → Rd .u64 w v ((twL (zs.map toF) r zs.length).map vl) → Rd .u64 w v2 ((twL (ys.map toF) r ys.length).map vl) → Calls Tryd.prog 68 #[v, v2] w (RetLE w M 0)))) ∨
      (n = 5 ∧ L = [] ∧ 32 < (c + 1 : Nat))) :
    Calls Tryd.prog 28 #[v, v2] w (RetLE w L n) := by
  have X := Lib.hid h
  have Y := Lib.hid h2
  have HP := Lib.hid hP
  obtain ⟨a, cap, rfl, hcap, hm⟩ := h.shape
  obtain ⟨a2, cap2, rfl, hcap2, hm2⟩ := h2.shape
  have HE := Lib.hid he
  obtain ⟨N, hN⟩ : ∃ N, N = zs.length := ⟨_, rfl⟩
  have HN := Lib.hid hN
  have hN2 := hN.trans he
  have HN2 := Lib.hid hN2
  rw [← hN] at hc1 hc2 hcap hroot ⊢
  rw [← hN2] at hcap2 hroot ⊢
  have HC2 := Lib.hid hc2
  have HC1 := Lib.hid hc1
  have HRT := Lib.hid hroot
  have hN44 : N ≤ 17592186044416 := Nat.le_trans hc1 (Nat.le_trans (Nat.pow_le_pow_right (by omega) hc) (by omega))
  clear h h2 hP he hN hN2 hroot hc1 hc2
  go_enter Tryd.func28, Tryd.ntmps28
  go_wp2
  go_loop [6] (fun k => ∃ d : Nat, d ≤ c ∧ k = .int .i64 d) (fun k => c - (intOf k).toNat)
  case atStart => exact ⟨0, Nat.zero_le _, rfl⟩
  case round =>
    obtain ⟨d, hd, rfl⟩ := hrel
    have e1 := wrap_two d (by omega)
    have e2 : IntKind.i64.wrap (1 * 2 ^ d) = ((2 ^ d : Nat) : Int) := by rw [Int.one_mul]; exact e1
    by_cases hdc : d < c
    · have hlt := HC2.out d hdc
      have hlt2 : ((2 ^ d : Nat) : Int) < (N : Int) := by omega
      clear hlt
      generalize ((2 ^ d : Nat) : Int) = p at *
      go_wp2
      go_round
      case rel => exact ⟨d + 1, by omega, by go_num⟩
      case measure => simp [intOf] <;> omega
    · obtain rfl : c = d := by omega
      have hge : ¬ ((2 ^ c : Nat) : Int) < (N : Int) := by have := HC1.out; omega
      have hge2 : decide (((2 ^ c : Nat) : Int) < (N : Int)) = false := by rw [decide_eq_false_iff_not]; exact hge
      generalize ((2 ^ c : Nat) : Int) = p at *
      rcases HRT.out with ⟨r, q, h1, h2, hNB, bz, bY, hPB, hrest⟩ | ⟨rfl, rfl, hbig⟩
      · have C1 := Lib.hid h1
        have C2 := Lib.hid h2
        have CP := Lib.hid hPB
        have CR := Lib.hid hrest
        clear HRT h1 h2 hPB hrest
        go_wp2_with fail
        refine (C1.out _).mono ?_
        rintro e w' ⟨rfl, rfl⟩
        go_wp2_with fail
        refine (twist_any zs _ r _ (by rw [HN.out]; exact X.out) bz (by rw [← HN.out]; exact hNB)).mono ?_
        rintro e w1 ⟨v1, rfl, ho, hb⟩
        rw [← HN.out] at ho
        have O1 := Lib.hid ho
        have B1 := Lib.hid hb
        have hs1 := hb.size
        have Y1 := Lib.hid (Y.out.below hb)
        have P1 := Lib.hid (CP.out _ _ hb HP.out)
        clear ho hb
        go_wp2_with fail
        refine (twist_any ys _ r _ (by rw [HN2.out]; exact Y1.out) bY (by rw [← HN2.out]; exact hNB)).mono ?_
        rintro e w2 ⟨v2, rfl, ho, hb⟩
        rw [← HN2.out] at ho
        have O2 := Lib.hid (ho.mono hs1)
        have O3 := Lib.hid (O1.out.below hb)
        have B2 := Lib.hid (B1.out.trans (hb.mono hs1))
        have hs2 := B2.out.size
        have P2 := Lib.hid (CP.out _ _ hb P1.out)
        clear ho hb O1 B1 Y1 P1
        rcases CR.out with ⟨rfl, rfl, hT⟩ | ⟨rfl, M, hM, rfl, hT⟩
        · have CT := Lib.hid (hT v1 v2 w2 P2.out O3.out.rd)
          clear hT
          go_wp2_with fail
          refine CT.out.mono ?_
          rintro e w3 ⟨v3, rfl, ho, hb⟩
          have B3 := Lib.hid (B2.out.trans (hb.mono hs2))
          clear ho hb
          go_wp2
          go_ret2
          exact ⟨_, rfl, Ow.nil _ _, B3.out⟩
        · have CT := Lib.hid (hT v1 v2 w2 P2.out O3.out.rd O2.out.rd)
          have HM := Lib.hid hM
          clear hT hM
          go_wp2_with fail
          refine CT.out.mono ?_
          rintro e w3 ⟨v3, rfl, ho, hb⟩
          have O4 := Lib.hid (Ow.rd ho)
          have B3 := Lib.hid (B2.out.trans (hb.mono hs2))
          have hs3 := B3.out.size
          clear ho hb
          go_wp2_with fail
          refine (C2.out _).mono ?_
          rintro e w' ⟨rfl, rfl⟩
          go_wp2_with fail
          refine (twist_any (M.map vl) v3 q _ O4.out (B64.vl M) (by rw [List.length_map, HM.out]; exact hNB)).mono ?_
          rintro e w4 ⟨v4, rfl, ho, hb⟩
          rw [map_toF_vl, List.length_map, HM.out] at ho
          have O5 := Lib.hid (ho.mono hs3)
          have B4 := Lib.hid (B3.out.trans (hb.mono hs3))
          clear ho hb
          go_wp2
          go_ret2
          exact ⟨_, rfl, O5.out, B4.out⟩
      · go_wp2_with fail
        refine (root_no ((c + 1 : Nat) : Int) _ (by omega)).mono ?_
        rintro e w' ⟨rfl, rfl⟩
        go_wp2
        go_ret2
        exact ⟨_, rfl, Ow.nil _ _, Below.refl _ _⟩
theorem inv_root (k : Nat) (w : World) : Calls Tryd.prog 63 #[.int .u64 (vl (root k))] w fun e w' => e = .returned (.tuple #[.int .u64 (vl (inv (root k))), .int .i64 0]) ∧ w = w' := by
  have := inv_any (vl (root k)) w (vl_lo _) (vl_64 _) (by rw [toF_vl]; exact root_ne k)
  rwa [toF_vl] at this
theorem skew_ok (k : Nat) (zs ys : List Int) (v v2 : Value) (w : World) (h : Rd .u64 w v zs) (h2 : Rd .u64 w v2 ys) (hz : B64 zs) (hy : B64 ys) (hk : k ≤ 10) (hl : zs.length = 2 ^ k) (hl2 : ys.length = 2 ^ k) (hT : Tb w) :
    Calls Tryd.prog 28 #[v, v2] w (RetLE w (skL k (zs.map toF) (ys.map toF)) 0) := by
  have hk2 : 2 ^ k ≤ 2 ^ 10 := Nat.pow_le_pow_right (by omega) hk
  have e1 : (twL (zs.map toF) (root (k + 1)) zs.length).length = 2 ^ k := by rw [twL_len, List.length_map, hl]
  have e2 : (twL (ys.map toF) (root (k + 1)) ys.length).length = 2 ^ k := by rw [twL_len, List.length_map, hl2]
  refine skew_from zs ys v v2 w k (skL k (zs.map toF) (ys.map toF)) 0 h h2 (hl.trans hl2.symm) (by omega) (by omega) (fun d hd => by rw [hl]; exact Nat.pow_lt_pow_right (by omega) hd) Tb hT (.inl ⟨root (k + 1), inv (root (k + 1)), fun w => root_any (k + 1) w (by omega), fun w => inv_root (k + 1) w, by omega, hz, hy, fun w w' hb hT => hT.below hb, .inr ⟨rfl, cycL k (twL (zs.map toF) (root (k + 1)) (2 ^ k)) (twL (ys.map toF) (root (k + 1)) (2 ^ k)), by rw [cycL_len, hl], by rw [hl]; rfl, fun v v2 w hT h h2 => ?_⟩⟩)
  have := times_ok k _ _ v v2 w h h2 (B64.vl _) (B64.vl _) hk (by rw [List.length_map]; exact e1) (by rw [List.length_map]; exact e2) hT
  rwa [map_toF_vl, map_toF_vl, hl, hl2] at this
theorem first_pow (N : Nat) : ∀ c, N ≤ 2 ^ c → ∃ d, d ≤ c ∧ N ≤ 2 ^ d ∧ ∀ e, e < d → 2 ^ e < N
  | 0, h => ⟨0, Nat.le_refl _, h, fun e he => absurd he (by omega)⟩
  | c + 1, h => by
    by_cases h1 : N ≤ 2 ^ c
    · obtain ⟨d, h2, h3, h4⟩ := first_pow N c h1
      exact ⟨d, by omega, h3, h4⟩
    · refine ⟨c + 1, Nat.le_refl _, h, fun e he => ?_⟩
      have := Nat.pow_le_pow_right (show 0 < 2 by omega) (show e ≤ c by omega)
      omega
theorem skew_bad (zs ys : List Int) (v v2 : Value) (w : World) (h : Rd .u64 w v zs) (h2 : Rd .u64 w v2 ys) (hz : B64 zs) (hy : B64 ys) (he : zs.length = ys.length) (hl : ∀ k : Nat, k ≤ 10 → zs.length ≠ 2 ^ k) (hN : zs.length ≤ 17592186044416) (hT : Tb w) :
    Calls Tryd.prog 28 #[v, v2] w (RetLE w [] 5) := by
  obtain ⟨c, hc, h3, h4⟩ := first_pow zs.length 44 (by omega)
  by_cases hc31 : c ≤ 31
  · have hp := Nat.pow_le_pow_right (show 0 < 2 by omega) hc31
    refine skew_from zs ys v v2 w c [] 5 h h2 he hc h3 h4 Tb hT (.inl ⟨root (c + 1), inv (root (c + 1)), fun w => root_any (c + 1) w (by omega), fun w => inv_root (c + 1) w, by omega, hz, hy, fun w w' hb hT => hT.below hb, .inl ⟨rfl, rfl, fun v v2 w hT h => ?_⟩⟩)
    exact times_bad _ v v2 w h (fun k hk => by rw [List.length_map, twL_len, List.length_map]; exact hl k hk) hT
  · exact skew_from zs ys v v2 w c [] 5 h h2 he hc h3 h4 Tb hT (.inr ⟨rfl, rfl, by omega⟩)
end Go.Proofs.YtkcfnbfkbmgchaaDoor.Gm
