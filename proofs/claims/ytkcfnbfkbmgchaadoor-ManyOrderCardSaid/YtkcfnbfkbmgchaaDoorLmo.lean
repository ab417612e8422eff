/- The walk of the law ManyOrder. (Its lines are printed by wip/mk_XLmo.py.) -/
import Derived.Test.YtkcfnbfkbmgchaaDoorFl
namespace Go.Proofs.YtkcfnbfkbmgchaaDoor.Gm
open Go.RowKit
set_option linter.unusedVariables false
theorem WL_back {ks : List Nat} (hk : ∀ k ∈ ks, k ≤ 20) {l : List F} (hl : l.length = pk ks) (b : Bool) : WL (!b) ks (WL b ks l) = l := by
  refine ext_cf (by rw [WL_len, hl]) (fun i hi => ?_)
  rw [WL_len] at hi
  rw [cf_WL _ _ _ hi, WT_congr (b := WT b ks (cf l)) (fun j hj => cf_WL _ _ _ hj), WT_back ks hk _ b _ hi]
def MoA (ws : World) (ks : List Nat) (zs : List Int) (N : Nat) (cv i : Value) (wr : World) : Prop :=
  ∃ j : Nat, j ≤ N ∧ i = .int .i64 ((N : Int) - 1 - (j : Int)) ∧ Rd .u64 wr cv (raT false ks zs j) ∧ Below ws.heap.size ws wr
def MoB (ws : World) (n : Nat) (i : Value) (wr : World) : Prop := ∃ m : Nat, m ≤ n ∧ i = .int .i64 m ∧ Below ws.heap.size ws wr
theorem mo_none (zs zx : List Int) (v v2 : Value) (w : World) (h : Rd .i64 w v zs) (h2 : Rd .u64 w v2 zx) (hw : W64 zs) (hn : NoShape zs) (hT : Tb w) :
    Calls Tryd.prog 9 #[v, v2] w (RetV w (.bool true)) := by
  have CF := Lib.hid (flat_any w hT)
  have CS := Lib.hid (fun w h => shaped_no zs zx v v2 w h hw hn)
  have X := Lib.hid h
  clear h h2 hw hn hT
  go_enter Tryd.func9, Tryd.ntmps9
  go_wp2_with fail
  refine CF.out.mono ?_
  rintro e w1 ⟨rfl, hb⟩
  have hs1 := hb.size
  have B1 := Lib.hid hb
  have X1 := Lib.hid (X.out.below hb)
  clear hb
  go_wp2_with fail
  refine (CS.out _ X1.out).mono ?_
  rintro e w2 ⟨v3, rfl, ho, hb⟩
  have B2 := Lib.hid (B1.out.trans (hb.mono hs1))
  clear ho hb
  go_wp2
  go_ret
  exact ⟨rfl, B2.out⟩
set_option maxHeartbeats 8000000 in
set_option maxRecDepth 100000 in
theorem mo_some (ks : List Nat) (zx : List Int) (v v2 : Value) (w : World) (h : Rd .i64 w v (zi (szs ks))) (h2 : Rd .u64 w v2 zx) (hw : W64 (zi (szs ks))) (hs : Shp (szs ks)) (h64 : pr (szs ks) ≤ 64) (hk10 : ∀ k ∈ ks, k ≤ 10) (hy : B64 zx) (hT : Tb w) :
    Calls Tryd.prog 9 #[v, v2] w (RetV w (.bool true)) := by
  have X := Lib.hid h
  have Y := Lib.hid h2
  have T := Lib.hid hT
  have h0 : 1 ≤ ks.length := by have := hs.len0; rwa [szs_len] at this
  have h3 : ks.length ≤ 3 := by have := hs.len3; rwa [szs_len] at this
  obtain ⟨n, hn⟩ : ∃ n, n = pr (szs ks) := ⟨_, rfl⟩
  have hnk : n = pk ks := hn
  have hn1 : 1 ≤ n := by rw [hn]; exact hs.pr1
  obtain ⟨A, hA⟩ : ∃ A, A = siz zx n := ⟨_, rfl⟩
  have lA : A.length = n := by rw [hA, siz_len]
  have bA : B64 A := by rw [hA]; exact siz_64 hy n
  obtain ⟨FA, hFA⟩ : ∃ l, l = A.map toF := ⟨_, rfl⟩
  have lFA : FA.length = n := by rw [hFA, List.length_map, lA]
  obtain ⟨f, hf⟩ : ∃ l, l = WL false ks FA := ⟨_, rfl⟩
  have lf : f.length = n := by rw [hf, WL_len, hnk]
  have E1 : WL true ks f = FA := by rw [hf]; exact WL_back (fun k hk => by have := hk10 k hk; omega) (lFA.trans hnk) false
  obtain ⟨a1, q1, rfl, hk1, hm1⟩ := h.shape
  obtain ⟨a2, q2, rfl, hk2, hm2⟩ := h2.shape
  have LZ : (zi (szs ks)).length = ks.length := by rw [zi_len, szs_len]
  obtain ⟨N, hN⟩ : ∃ N, N = ks.length := ⟨_, rfl⟩
  have CF := Lib.hid (fun w hT => flat_any w hT)
  have CS := Lib.hid (fun w v v2 h h2 => by have := shaped_yes (szs ks) zx v v2 w h h2 hw hs h64; rwa [← hn, ← hA] at this)
  have C1 := Lib.hid (fun w v v2 h h2 hT => by have := fwd_of (all_ok ks A false v v2 w h h2 hw hs bA (lA.trans hnk) hT); rwa [← hFA, ← hf] at this)
  have C2 := Lib.hid (fun w v v2 h h2 hT => by have := inv_of (all_ok ks (f.map vl) true v v2 w h h2 hw hs (B64.vl f) (by rw [List.length_map, lf]; exact hnk) hT); rwa [map_toF_vl, E1] at this)
  have C3 := Lib.hid (fun j (hj : j < N) w v v2 h h2 hT => (show Calls Tryd.prog 39 #[v, v2, .int .i64 ((N : Int) - 1 - (j : Int)), .bool false] w (RetZE w (raT false ks A (j + 1)) 0) by
    rw [raT_succ]
    exact malong_ok (szs ks) (raT false ks A j) (ks.length - 1 - j) (nd ks (ks.length - 1 - j)) false v v2 _ w h h2 hw hs (raT_64 (lA.trans hnk) bA j) (raT_len (lA.trans hnk) j) (by rw [szs_len]; omega) (nd_szs ks (by omega)) hT (by omega)))
  have RW := Lib.hid (show raT false ks A N = f.map vl by rw [hN, hf, hFA]; exact raT_whole h0)
  have RZ := Lib.hid (raT_zero false ks A)
  have FAm := Lib.hid (fun m => (show cf FA m = toF (gd A m) by rw [hFA, cf_map]))
  have LA := Lib.hid lA
  have LFA := Lib.hid lFA
  rw [LZ, ← hN] at hk1 ⊢
  rw [← hN] at h0 h3
  have X2 := Lib.hid (show Rd .i64 w (.slice a1 N q1) (zi (szs ks)) by rw [hN, ← LZ]; exact X.out)
  clear h h2 hT hw hs h64 hA hFA hf E1 lA lFA lf LZ X hn hnk
  have hNi : IntKind.i64.wrap ((N : Int) - 1) = (N : Int) - 1 := IntWalk.i64_in _ (by omega)
  clear hN
  have B0 := Lib.hid (Below.refl w.heap.size w)
  have hsz0 : w.heap.size ≤ w.heap.size := Nat.le_refl _
  go_enter Tryd.func9, Tryd.ntmps9
  go_wp2_with fail
  refine (CF.out _ T.out).mono ?_
  rintro e w1 ⟨rfl, hbel⟩
  have X_1 := Lib.hid (X2.out.below hbel)
  have Y_1 := Lib.hid (Y.out.below hbel)
  have T_1 := Lib.hid (T.out.below hbel)
  have B1 := Lib.hid (B0.out.trans (hbel.mono hsz0))
  have hsz1 := B1.out.size
  clear X2 Y T hbel
  go_wp2_with fail
  refine (CS.out _ _ _ X_1.out Y_1.out).mono ?_
  rintro e w2 ⟨v2, rfl, hown, hbel⟩
  have X_2 := Lib.hid (X_1.out.below hbel)
  have Y_2 := Lib.hid (Y_1.out.below hbel)
  have T_2 := Lib.hid (T_1.out.below hbel)
  have A_2 := Lib.hid (hown.mono hsz1)
  have B2 := Lib.hid (B1.out.trans (hbel.mono hsz1))
  have hsz2 := B2.out.size
  clear X_1 Y_1 T_1 hown hbel
  obtain ⟨gA, cpA, rfl, hcA, hmA⟩ := A_2.out.opened (by rw [LA.out]; exact hn1)
  rw [LA.out] at hcA A_2 ⊢
  go_wp2_with fail
  refine (C1.out _ _ _ X_2.out A_2.out.rd T_2.out).mono ?_
  rintro e w3 ⟨v3, rfl, hown, hbel⟩
  have X_3 := Lib.hid (X_2.out.below hbel)
  have Y_3 := Lib.hid (Y_2.out.below hbel)
  have T_3 := Lib.hid (T_2.out.below hbel)
  have A_3 := Lib.hid (A_2.out.below hbel)
  have f_3 := Lib.hid (hown.mono hsz2)
  have B3 := Lib.hid (B2.out.trans (hbel.mono hsz2))
  have hsz3 := B3.out.size
  clear X_2 Y_2 T_2 A_2 hown hbel
  go_wp2_with fail
  refine (C2.out _ _ _ X_3.out (Ow.rd f_3.out) T_3.out).mono ?_
  rintro e w4 ⟨v4, rfl, hown, hbel⟩
  have X_4 := Lib.hid (X_3.out.below hbel)
  have Y_4 := Lib.hid (Y_3.out.below hbel)
  have T_4 := Lib.hid (T_3.out.below hbel)
  have A_4 := Lib.hid (A_3.out.below hbel)
  have f_4 := Lib.hid (f_3.out.below hbel)
  have b_4 := Lib.hid (hown.mono hsz3)
  have B4 := Lib.hid (B3.out.trans (hbel.mono hsz3))
  have hsz4 := B4.out.size
  clear X_3 Y_3 T_3 A_3 f_3 hown hbel
  obtain ⟨gb, cpb, rfl, hcb, hmb⟩ := Ow.opened b_4.out (by rw [LFA.out]; exact hn1)
  rw [LFA.out] at hcb b_4 ⊢
  go_wp2
  go_loopw [11, 12] (fun c i wr => MoA w4 ks A N c i wr) (fun _ i _ => (intOf i + 1).toNat)
  case atStart => exact ⟨0, by omega, by simp, by rw [RZ.out]; exact A_4.out.rd, Below.refl _ _⟩
  case round =>
    obtain ⟨j, hj, rfl, hrd, hbel⟩ := hrel
    have OR := Lib.hid hrd
    have HB := Lib.hid hbel
    have hwsz := hbel.size
    clear hrd hbel
    by_cases hjN : j < N
    · have CM := Lib.hid (C3.out j hjN _ _ _ (X_4.out.below HB.out) OR.out (T_4.out.below HB.out))
      have hge : (0 : Int) ≤ (N : Int) - 1 - (j : Int) := by omega
      obtain ⟨i, hi⟩ : ∃ i : Int, i = (N : Int) - 1 - (j : Int) := ⟨_, rfl⟩
      rw [← hi] at CM hge ⊢
      have hi2 : i ≤ 3 := by omega
      have HI := Lib.hid hi
      have ewi : IntKind.i64.wrap (i - 1) = i - 1 := IntWalk.i64_in _ (by omega)
      clear hi
      go_wp2_with fail
      refine CM.out.mono ?_
      rintro e w8 ⟨v8, rfl, ho, hb⟩
      have O8 := Lib.hid ho.rd
      have B8' := Lib.hid (HB.out.trans (hb.mono hwsz))
      clear ho hb
      go_wp2
      go_roundw
      case rel => exact ⟨j + 1, by omega, by have := HI.out; first | (congr 1; omega) | (simp; omega), O8.out, B8'.out⟩
      case measure => have := HI.out; simp [intOf] <;> omega
    · obtain rfl : N = j := by omega
      rw [RW.out] at OR
      have hlt : ¬ (0 : Int) ≤ (N : Int) - 1 - (N : Int) := by omega
      have hltd : decide ((0 : Int) ≤ (N : Int) - 1 - (N : Int)) = false := by rw [decide_eq_false_iff_not]; exact hlt
      have hneg : (N : Int) - 1 - (N : Int) = -1 := by omega
      rw [hneg] at hlt hltd ⊢
      have A_M := Lib.hid (A_4.out.below HB.out)
      have f_M := Lib.hid (f_4.out.below HB.out)
      have b_M := Lib.hid (b_4.out.below HB.out)
      have T_M := Lib.hid (T_4.out.below HB.out)
      have BM := Lib.hid (B4.out.trans (HB.out.mono hsz4))
      have hszM := BM.out.size
      clear HB X_4 Y_4 T_4 A_4 f_4 b_4
      go_wp2_with fail
      refine (equal_yes (f.map vl) _ _ _ OR.out (Ow.rd f_M.out)).mono ?_
      rintro e w5 ⟨rfl, hbel⟩
      have A_5 := Lib.hid (A_M.out.below hbel)
      have f_5 := Lib.hid (f_M.out.below hbel)
      have b_5 := Lib.hid (b_M.out.below hbel)
      have T_5 := Lib.hid (T_M.out.below hbel)
      have c_5 := Lib.hid (OR.out.below hbel)
      have B5 := Lib.hid (BM.out.trans (hbel.mono hszM))
      have hsz5 := B5.out.size
      clear A_M f_M b_M T_M OR hbel
      go_wp2
      go_loopw [13, 65] (fun _ i wr => MoB w5 n i wr) (fun _ i _ => n - (intOf i).toNat)
      case atStart => exact ⟨0, by omega, rfl, Below.refl _ _⟩
      case round =>
        obtain ⟨m, hm, rfl, hbel⟩ := hrel
        have HB := Lib.hid hbel
        clear hbel
        by_cases hml : m < n
        · have c1' : wr.cell? ⟨gA, m, none⟩ = some (.int .u64 (gd A m)) := (A_5.out.below HB.out).cell (by rw [LA.out]; exact hml)
          have c2' : wr.cell? ⟨gb, m, none⟩ = some (.int .u64 (vl (toF (gd A m)))) := by
            rw [← FAm.out]; exact Ow.cell (l := FA) (cap := cpb) (by rw [LFA.out]; exact b_5.out.below HB.out) (by rw [LFA.out]; exact hml)
          have hba := bA.get m
          generalize gd A m = x at *
          go_wp2
          go_quiet ((first | (go_at_call 26; exact q_same (norm_any _ _ hba.1 hba.2))))
          have HB2 := Lib.hid (below_drewN HB.out nq)
          clear c1' c2' HB
          go_wp2
          go_roundw
          case rel => exact ⟨m + 1, by omega, by go_num, HB2.out⟩
          case measure => simp [intOf] <;> omega
        · obtain rfl : n = m := by omega
          have BE := Lib.hid (B5.out.trans (HB.out.mono hsz5))
          go_wp2
          go_ret
          exact ⟨rfl, BE.out⟩
theorem wManyOrder (zs zx : List Int) (v v2 : Value) (w : World) (h : Rd .i64 w v zs) (h2 : Rd .u64 w v2 zx) (hw : W64 zs) (hy : B64 zx) (hT : Tb w) :
    Calls Tryd.prog 9 #[v, v2] w (RetV w (.bool true)) := by
  rcases shape_split zs with hn | ⟨ds, rfl, hs, h64⟩
  · exact mo_none zs zx v v2 w h h2 hw hn hT
  · obtain ⟨ks, rfl, hk⟩ := shp_ks hs
    exact mo_some ks zx v v2 w h h2 hw hs h64 hk hy hT
end Go.Proofs.YtkcfnbfkbmgchaaDoor.Gm
