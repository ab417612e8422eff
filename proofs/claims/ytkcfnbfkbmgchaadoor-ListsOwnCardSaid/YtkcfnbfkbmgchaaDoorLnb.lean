/- The walk of the law NttBack. (Its lines are printed by wip/mk_XLnb.py.) -/
import Derived.Test.YtkcfnbfkbmgchaaDoorSz
namespace Go.Proofs.YtkcfnbfkbmgchaaDoor.Gm
open Go.RowKit
set_option linter.unusedVariables false
theorem nfwd_F {k : Nat} {l : List F} {B : Nat} {v : Value} {w : World} (h : Ow B w v l) (hk : k ≤ 10) (hl : l.length = 2 ^ k) (hT : Tb w) : Calls Tryd.prog 15 #[v] w (RetLE w (trL false k l) 0) := by
  have := nfwd_ok k (l.map vl) v w h.rd (B64.vl l) hk (by rw [List.length_map]; exact hl) hT
  rwa [map_toF_vl] at this
theorem ninv_F {k : Nat} {l : List F} {B : Nat} {v : Value} {w : World} (h : Ow B w v l) (hk : k ≤ 10) (hl : l.length = 2 ^ k) (hT : Tb w) : Calls Tryd.prog 22 #[v] w (RetLE w (trL true k l) 0) := by
  have := ninv_ok k (l.map vl) v w h.rd (B64.vl l) hk (by rw [List.length_map]; exact hl) hT
  rwa [map_toF_vl] at this
theorem trL_back {k : Nat} (hk : k ≤ 10) {l : List F} (hl : l.length = 2 ^ k) (b : Bool) : trL (!b) k (trL b k l) = l := by
  refine ext_cf (by rw [trL_len, hl]) (fun i hi => ?_)
  rw [trL_len] at hi
  rw [cf_trL _ _ _ hi, tr_congr (b := tr b k (cf l)) (fun j hj => cf_trL _ _ _ hj), tr_back (by omega) _ hi]
/-- c times the one, and the other, up to m -/
@[irreducible] def smL (c : F) (l l2 : List F) (n m : Nat) : List F := (List.range n).map fun p => if p < m then c * cf l p + cf l2 p else 0
theorem smL_len (c : F) (l l2 : List F) (n m : Nat) : (smL c l l2 n m).length = n := by unfold smL; simp
theorem cf_smL (c : F) (l l2 : List F) (n m : Nat) {p : Nat} (hp : p < n) : cf (smL c l l2 n m) p = if p < m then c * cf l p + cf l2 p else 0 := by unfold smL; exact cf_ofFn _ hp
theorem smL_zero (c : F) (l l2 : List F) (n : Nat) : smL c l l2 n 0 = List.replicate n 0 := by
  refine ext_cf (by rw [smL_len]; simp) (fun i hi => ?_)
  rw [smL_len] at hi
  rw [cf_smL _ _ _ _ _ hi, if_neg (by omega), cf_replicate]
theorem smL_step (c : F) (l l2 : List F) (n : Nat) {m : Nat} (hm : m < n) : (smL c l l2 n m).set m (c * cf l m + cf l2 m) = smL c l l2 n (m + 1) := by
  refine ext_cf (by rw [List.length_set, smL_len, smL_len]) (fun p hp => ?_)
  rw [List.length_set, smL_len] at hp
  rw [cf_set _ _ _ _ (by rw [smL_len]; exact hm), cf_smL _ _ _ _ _ hp, cf_smL _ _ _ _ _ hp]
  by_cases h : m = p
  · subst h; rw [if_pos rfl, if_pos (by omega)]
  · rw [if_neg h]
    by_cases h2 : p < m
    · rw [if_pos h2, if_pos (by omega)]
    · rw [if_neg h2, if_neg (by omega)]
theorem trL_sm {k : Nat} (c : F) (l l2 : List F) {p : Nat} (hp : p < 2 ^ k) : cf (trL false k (smL c l l2 (2 ^ k) (2 ^ k))) p = c * cf (trL false k l) p + cf (trL false k l2) p := by
  rw [cf_trL _ _ _ hp, cf_trL _ _ _ hp, cf_trL _ _ _ hp, tr_congr (b := fun i => c * cf l i + cf l2 i) (fun i hi => by rw [cf_smL _ _ _ _ _ hi, if_pos hi]), tr_fwd, tr_fwd, tr_fwd, dft_add, dft_smul]
def NbA (ws : World) (c : F) (l l2 : List F) (n g : Nat) (i : Value) (wr : World) : Prop :=
  ∃ m : Nat, m ≤ n ∧ i = .int .i64 m ∧ Ow ws.heap.size wr (.slice (some ⟨g, 0, none⟩) n n) (smL c l l2 n m) ∧ Below ws.heap.size ws wr
def NbB (ws : World) (n : Nat) (i : Value) (wr : World) : Prop := ∃ m : Nat, m ≤ n ∧ i = .int .i64 m ∧ Below ws.heap.size ws wr
set_option maxHeartbeats 4000000 in
set_option maxRecDepth 100000 in
theorem wNttBack (za zb : List Int) (k c : Int) (v v2 : Value) (w : World) (h : Rd .u64 w v za) (h2 : Rd .u64 w v2 zb) (hz : B64 za) (hy : B64 zb) (k0 : -9223372036854775808 ≤ k) (k1 : k ≤ 9223372036854775807)
    (c0 : 0 ≤ c) (c1 : c < 18446744073709551616) (hT : Tb w) :
    Calls Tryd.prog 5 #[v, v2, .int .i64 k, .int .u64 c] w (RetV w (.bool true)) := by
  obtain ⟨a1, q1, rfl, hk1, hm1⟩ := h.shape
  obtain ⟨a2, q2, rfl, hk2, hm2⟩ := h2.shape
  have X := Lib.hid h
  have Y := Lib.hid h2
  have T := Lib.hid hT
  obtain ⟨n, hn⟩ : ∃ n, n = 2 ^ kk k := ⟨_, rfl⟩
  have hj := kk_le k
  have hn1 : 1 ≤ n := by rw [hn]; exact Nat.two_pow_pos _
  have hn64 : n ≤ 64 := by rw [hn]; exact Nat.pow_le_pow_right (by omega) hj
  have hnm : n ≤ 1000000 := by omega
  obtain ⟨A, hA⟩ : ∃ A, A = siz za n := ⟨_, rfl⟩
  obtain ⟨Bz, hB⟩ : ∃ B, B = siz zb n := ⟨_, rfl⟩
  have lA : A.length = n := by rw [hA, siz_len]
  have lB : Bz.length = n := by rw [hB, siz_len]
  have bA : B64 A := by rw [hA]; exact siz_64 hz n
  have bB : B64 Bz := by rw [hB]; exact siz_64 hy n
  have CA := Lib.hid (fun w v h => by have := sized_any za v k w h k0 k1; rwa [← hn, ← hA] at this)
  have CB := Lib.hid (fun w v h => by have := sized_any zb v k w h k0 k1; rwa [← hn, ← hB] at this)
  generalize kk k = j at *
  obtain ⟨FA, hFA⟩ : ∃ l, l = A.map toF := ⟨_, rfl⟩
  obtain ⟨FB, hFB⟩ : ∃ l, l = Bz.map toF := ⟨_, rfl⟩
  have lFA : FA.length = 2 ^ j := by rw [hFA, List.length_map, lA, hn]
  have lFB : FB.length = 2 ^ j := by rw [hFB, List.length_map, lB, hn]
  obtain ⟨f, hf⟩ : ∃ l, l = trL false j FA := ⟨_, rfl⟩
  obtain ⟨ja, hja⟩ : ∃ l, l = trL true j FA := ⟨_, rfl⟩
  obtain ⟨fb, hfb⟩ : ∃ l, l = trL false j FB := ⟨_, rfl⟩
  obtain ⟨sm, hsm⟩ : ∃ l, l = smL (toF c) FA FB n n := ⟨_, rfl⟩
  obtain ⟨fs, hfs⟩ : ∃ l, l = trL false j sm := ⟨_, rfl⟩
  have lf : f.length = 2 ^ j := by rw [hf, trL_len]
  have lja : ja.length = 2 ^ j := by rw [hja, trL_len]
  have lsm : sm.length = 2 ^ j := by rw [hsm, smL_len, hn]
  have E1 : trL true j f = FA := by rw [hf]; exact trL_back (by omega) lFA false
  have E2 : trL false j ja = FA := by rw [hja]; exact trL_back (by omega) lFA true
  have hj10 : j ≤ 10 := by omega
  have C1 := Lib.hid (fun w v h hT => by have := nfwd_ok j A v w h bA hj10 (lA.trans hn) hT; rwa [← hFA, ← hf] at this)
  have C2 := Lib.hid (fun w B v h hT => by have := @ninv_F j f B v w h hj10 lf hT; rwa [E1] at this)
  have C3 := Lib.hid (fun w v h hT => by have := ninv_ok j A v w h bA hj10 (lA.trans hn) hT; rwa [← hFA, ← hja] at this)
  have C4 := Lib.hid (fun w B v h hT => by have := @nfwd_F j ja B v w h hj10 lja hT; rwa [E2] at this)
  have C5 := Lib.hid (fun w v h hT => by have := nfwd_ok j Bz v w h bB hj10 (lB.trans hn) hT; rwa [← hFB, ← hfb] at this)
  have C6 := Lib.hid (fun w B v h hT => by have := @nfwd_F j sm B v w h hj10 lsm hT; rwa [← hfs] at this)
  have SZ := Lib.hid (smL_zero (toF c) FA FB n)
  have SS := Lib.hid (fun m hm => (smL_step (toF c) FA FB n (m := m) hm))
  have SL := Lib.hid (fun m => smL_len (toF c) FA FB n m)
  have FAm := Lib.hid (fun m => (show cf FA m = toF (gd A m) by rw [hFA, cf_map]))
  have FBm := Lib.hid (fun m => (show cf FB m = toF (gd Bz m) by rw [hFB, cf_map]))
  have FS := Lib.hid (fun m (hm : m < n) => (show cf fs m = toF c * cf f m + cf fb m by rw [hfs, hsm, hf, hfb, hn]; exact trL_sm _ _ _ (by rw [← hn]; exact hm)))
  have LA := Lib.hid lA
  have LB := Lib.hid lB
  have LF := Lib.hid (lf.trans hn.symm)
  have LFA := Lib.hid (lFA.trans hn.symm)
  have LFB := Lib.hid (show fb.length = n by rw [hfb, trL_len, hn])
  have LFS := Lib.hid (show fs.length = n by rw [hfs, trL_len, hn])
  have HSM := Lib.hid hsm
  clear h h2 hT hA hB hFA hFB hf hja hfb hsm hfs lf lja lsm E1 E2 lFA lFB lA lB hn
  have B0 := Lib.hid (Below.refl w.heap.size w)
  have hsz0 : w.heap.size ≤ w.heap.size := Nat.le_refl _
  go_enter Tryd.func5, Tryd.ntmps5
  go_wp2_with fail
  refine (four_any _ T.out).mono ?_
  rintro e w1 ⟨rfl, hbel⟩
  have X_1 := Lib.hid (X.out.below hbel)
  have Y_1 := Lib.hid (Y.out.below hbel)
  have T_1 := Lib.hid (T.out.below hbel)
  have B1 := Lib.hid (B0.out.trans (hbel.mono hsz0))
  have hsz1 := B1.out.size
  clear X Y T hbel
  go_wp2_with fail
  refine (CA.out _ _ X_1.out).mono ?_
  rintro e w2 ⟨v2, rfl, hown, hbel⟩
  have X_2 := Lib.hid (X_1.out.below hbel)
  have Y_2 := Lib.hid (Y_1.out.below hbel)
  have T_2 := Lib.hid (T_1.out.below hbel)
  have A_2 := Lib.hid (hown.mono hsz1)
  have B2 := Lib.hid (B1.out.trans (hbel.mono hsz1))
  have hsz2 := B2.out.size
  clear X_1 Y_1 T_1 hown hbel
  go_wp2_with fail
  refine (CB.out _ _ Y_2.out).mono ?_
  rintro e w3 ⟨v3, rfl, hown, hbel⟩
  have X_3 := Lib.hid (X_2.out.below hbel)
  have Y_3 := Lib.hid (Y_2.out.below hbel)
  have T_3 := Lib.hid (T_2.out.below hbel)
  have A_3 := Lib.hid (A_2.out.below hbel)
  have B_3 := Lib.hid (hown.mono hsz2)
  have B3 := Lib.hid (B2.out.trans (hbel.mono hsz2))
  have hsz3 := B3.out.size
  clear X_2 Y_2 T_2 A_2 hown hbel
  obtain ⟨ga, ca, rfl, hca, hma⟩ := A_3.out.opened (by rw [LA.out]; exact hn1)
  obtain ⟨gb, cb, rfl, hcb, hmb⟩ := B_3.out.opened (by rw [LB.out]; exact hn1)
  rw [LA.out] at hca A_3 ⊢
  rw [LB.out] at hcb B_3 ⊢
  go_wp2_with fail
  refine (C1.out _ _ A_3.out.rd T_3.out).mono ?_
  rintro e w4 ⟨v4, rfl, hown, hbel⟩
  have X_4 := Lib.hid (X_3.out.below hbel)
  have Y_4 := Lib.hid (Y_3.out.below hbel)
  have T_4 := Lib.hid (T_3.out.below hbel)
  have A_4 := Lib.hid (A_3.out.below hbel)
  have B_4 := Lib.hid (B_3.out.below hbel)
  have f_4 := Lib.hid (hown.mono hsz3)
  have B4 := Lib.hid (B3.out.trans (hbel.mono hsz3))
  have hsz4 := B4.out.size
  clear X_3 Y_3 T_3 A_3 B_3 hown hbel
  go_wp2_with fail
  refine (C2.out _ _ _ f_4.out T_4.out).mono ?_
  rintro e w5 ⟨v5, rfl, hown, hbel⟩
  have X_5 := Lib.hid (X_4.out.below hbel)
  have Y_5 := Lib.hid (Y_4.out.below hbel)
  have T_5 := Lib.hid (T_4.out.below hbel)
  have A_5 := Lib.hid (A_4.out.below hbel)
  have B_5 := Lib.hid (B_4.out.below hbel)
  have f_5 := Lib.hid (f_4.out.below hbel)
  have i_5 := Lib.hid (hown.mono hsz4)
  have B5 := Lib.hid (B4.out.trans (hbel.mono hsz4))
  have hsz5 := B5.out.size
  clear X_4 Y_4 T_4 A_4 B_4 f_4 hown hbel
  go_wp2_with fail
  refine (C3.out _ _ A_5.out.rd T_5.out).mono ?_
  rintro e w6 ⟨v6, rfl, hown, hbel⟩
  have X_6 := Lib.hid (X_5.out.below hbel)
  have Y_6 := Lib.hid (Y_5.out.below hbel)
  have T_6 := Lib.hid (T_5.out.below hbel)
  have A_6 := Lib.hid (A_5.out.below hbel)
  have B_6 := Lib.hid (B_5.out.below hbel)
  have f_6 := Lib.hid (f_5.out.below hbel)
  have i_6 := Lib.hid (i_5.out.below hbel)
  have j_6 := Lib.hid (hown.mono hsz5)
  have B6 := Lib.hid (B5.out.trans (hbel.mono hsz5))
  have hsz6 := B6.out.size
  clear X_5 Y_5 T_5 A_5 B_5 f_5 i_5 hown hbel
  go_wp2_with fail
  refine (C4.out _ _ _ j_6.out T_6.out).mono ?_
  rintro e w7 ⟨v7, rfl, hown, hbel⟩
  have X_7 := Lib.hid (X_6.out.below hbel)
  have Y_7 := Lib.hid (Y_6.out.below hbel)
  have T_7 := Lib.hid (T_6.out.below hbel)
  have A_7 := Lib.hid (A_6.out.below hbel)
  have B_7 := Lib.hid (B_6.out.below hbel)
  have f_7 := Lib.hid (f_6.out.below hbel)
  have i_7 := Lib.hid (i_6.out.below hbel)
  have j_7 := Lib.hid (j_6.out.below hbel)
  have l_7 := Lib.hid (hown.mono hsz6)
  have B7 := Lib.hid (B6.out.trans (hbel.mono hsz6))
  have hsz7 := B7.out.size
  clear X_6 Y_6 T_6 A_6 B_6 f_6 i_6 j_6 hown hbel
  obtain ⟨gf, cpf, rfl, hcf, hmf⟩ := f_7.out.opened (by rw [LF.out]; exact hn1)
  rw [LF.out] at hcf f_7 ⊢
  obtain ⟨gi, cpi, rfl, hci, hmi⟩ := i_7.out.opened (by rw [LFA.out]; exact hn1)
  rw [LFA.out] at hci i_7 ⊢
  go_wp2_with fail
  refine (equal_yes (FA.map vl) _ _ _ i_7.out.rd l_7.out.rd).mono ?_
  rintro e w8 ⟨rfl, hbel⟩
  have X_8 := Lib.hid (X_7.out.below hbel)
  have Y_8 := Lib.hid (Y_7.out.below hbel)
  have T_8 := Lib.hid (T_7.out.below hbel)
  have A_8 := Lib.hid (A_7.out.below hbel)
  have B_8 := Lib.hid (B_7.out.below hbel)
  have f_8 := Lib.hid (f_7.out.below hbel)
  have i_8 := Lib.hid (i_7.out.below hbel)
  have j_8 := Lib.hid (j_7.out.below hbel)
  have l_8 := Lib.hid (l_7.out.below hbel)
  have B8 := Lib.hid (B7.out.trans (hbel.mono hsz7))
  have hsz8 := B8.out.size
  clear X_7 Y_7 T_7 A_7 B_7 f_7 i_7 j_7 l_7 hbel
  go_wp2_with (refine wl_make _ rfl (.tmp 74) (.tmp 74) rfl w8.heap.size _ _ n w8 rfl rfl rfl rfl hnm (Below.refl _ _) (Nat.le_refl _) ?_)
  intro g wm _ hown hbel
  have O1 := Lib.hid hown
  have M1 := Lib.hid hbel
  clear hown hbel
  go_wp2
  go_loopw [20, 78] (fun _ i wr => NbA w8 (toF c) FA FB n g i wr) (fun _ i _ => n - (intOf i).toNat)
  case atStart => exact ⟨0, by omega, rfl, by rw [SZ.out]; exact O1.out, M1.out⟩
  case round =>
    obtain ⟨m, hm, rfl, hown, hbel⟩ := hrel
    have OO := Lib.hid hown
    have HB := Lib.hid hbel
    have hwsz := hbel.size
    clear hown hbel O1 M1
    by_cases hml : m < n
    · have hca := A_8.out.below HB.out
      have c1' : wr.cell? ⟨ga, m, none⟩ = some (.int .u64 (gd A m)) := hca.cell (by rw [LA.out]; exact hml)
      have c2' : wr.cell? ⟨gb, m, none⟩ = some (.int .u64 (gd Bz m)) := (B_8.out.below HB.out).cell (by rw [LB.out]; exact hml)
      have c3' : wr.cell? ⟨gi, m, none⟩ = some (.int .u64 (vl (toF (gd A m)))) := by
        rw [← FAm.out]; exact Ow.cell (l := FA) (cap := cpi) (by rw [LFA.out]; exact i_8.out.below HB.out) (by rw [LFA.out]; exact hml)
      have hba := bA.get m
      have hbb := bB.get m
      have SM := Lib.hid (SS.out m hml)
      have LM := Lib.hid (SL.out m)
      rw [FAm.out, FBm.out] at SM
      generalize gd A m = x at *
      generalize gd Bz m = y at *
      clear hca
      go_wp2
      go_quiet ((first | (go_at_call 26; exact q_same (norm_any _ _ hba.1 hba.2))))
      have c1'' : (wr.drewN nq).cell? ⟨ga, m, none⟩ = some (.int .u64 x) := c1'
      have c2'' : (wr.drewN nq).cell? ⟨gb, m, none⟩ = some (.int .u64 y) := c2'
      have O2 := Lib.hid (OO.out.drewN nq)
      have HB2 := Lib.hid (below_drewN HB.out nq)
      clear c1' c2' c3' OO HB hwsz
      generalize wr.drewN nq = w2 at *
      go_wp2
      go_still_tail 14, (by kernel_rfl)
      still_call (s_same (mul_any _ _ _ c0 c1 hba.1 hba.2))
      repeat still_step
      still_call (s_same (add_Fx _ _ _ hbb.1 hbb.2))
      repeat still_step
      refine wpStill_nil ?_
      change wpList _ _ _ _ _ w2.drew
      go_wp2_with (refine wl_store _ rfl (.tmp 104) (.tmp 103) rfl w8.heap.size g m n n (smL (toF c) FA FB n m) (toF c * toF x + toF y) w8 rfl rfl (Ow.drewN O2.out 1) LM.out hml (below_drewN HB2.out 1) ?_)
      intro w3 hown3 hbel3 _
      rw [SM.out] at hown3
      have O3 := Lib.hid hown3
      have B3 := Lib.hid hbel3
      clear hown3 hbel3
      go_wp2
      go_roundw
      case rel => exact ⟨m + 1, by omega, by go_num, O3.out, B3.out⟩
      case measure => simp [intOf] <;> omega
    · obtain rfl : n = m := by omega
      rw [← HSM.out] at OO
      have OS := Lib.hid OO.out
      have HB0 := Lib.hid HB.out
      clear OO HB
      skip
      have T_L := Lib.hid (T_8.out.below HB0.out)
      have A_L := Lib.hid (A_8.out.below HB0.out)
      have B_L := Lib.hid (B_8.out.below HB0.out)
      have f_L := Lib.hid (f_8.out.below HB0.out)
      have S_L := Lib.hid (OS.out.mono hsz8)
      have BL := Lib.hid (B8.out.trans (HB0.out.mono hsz8))
      have hszL := BL.out.size
      clear OS HB0 X_8 Y_8 T_8 A_8 B_8 f_8 i_8 j_8 l_8
      go_wp2_with fail
      refine (C5.out _ _ B_L.out.rd T_L.out).mono ?_
      rintro e w9 ⟨v9, rfl, hown, hbel⟩
      have T_9 := Lib.hid (T_L.out.below hbel)
      have A_9 := Lib.hid (A_L.out.below hbel)
      have B_9 := Lib.hid (B_L.out.below hbel)
      have f_9 := Lib.hid (f_L.out.below hbel)
      have S_9 := Lib.hid (S_L.out.below hbel)
      have fb_9 := Lib.hid (hown.mono hszL)
      have B9 := Lib.hid (BL.out.trans (hbel.mono hszL))
      have hsz9 := B9.out.size
      clear T_L A_L B_L f_L S_L hown hbel
      go_wp2_with fail
      refine (C6.out _ _ _ S_9.out T_9.out).mono ?_
      rintro e w10 ⟨v10, rfl, hown, hbel⟩
      have T_10 := Lib.hid (T_9.out.below hbel)
      have A_10 := Lib.hid (A_9.out.below hbel)
      have B_10 := Lib.hid (B_9.out.below hbel)
      have f_10 := Lib.hid (f_9.out.below hbel)
      have S_10 := Lib.hid (S_9.out.below hbel)
      have fb_10 := Lib.hid (fb_9.out.below hbel)
      have fs_10 := Lib.hid (hown.mono hsz9)
      have B10 := Lib.hid (B9.out.trans (hbel.mono hsz9))
      have hsz10 := B10.out.size
      clear T_9 A_9 B_9 f_9 S_9 fb_9 hown hbel
      obtain ⟨gfb, cpfb, rfl, hcfb, hmfb⟩ := fb_10.out.opened (by rw [LFB.out]; exact hn1)
      rw [LFB.out] at hcfb fb_10 ⊢
      obtain ⟨gfs, cpfs, rfl, hcfs, hmfs⟩ := fs_10.out.opened (by rw [LFS.out]; exact hn1)
      rw [LFS.out] at hcfs fs_10 ⊢
      go_wp2
      go_loopw [24, 118] (fun _ i wr => NbB w10 n i wr) (fun _ i _ => n - (intOf i).toNat)
      case atStart => exact ⟨0, by omega, rfl, Below.refl _ _⟩
      case round =>
        obtain ⟨m, hm, rfl, hbel⟩ := hrel
        have HB := Lib.hid hbel
        clear hbel
        by_cases hml : m < n
        · have c1' : wr.cell? ⟨gfs, m, none⟩ = some (.int .u64 (vl (toF c * cf f m + cf fb m))) := by
            rw [← FS.out m hml]; exact Ow.cell (l := fs) (cap := cpfs) (by rw [LFS.out]; exact fs_10.out.below HB.out) (by rw [LFS.out]; exact hml)
          have c2' : wr.cell? ⟨gf, m, none⟩ = some (.int .u64 (vl (cf f m))) := Ow.cell (l := f) (cap := cpf) (by rw [LF.out]; exact f_10.out.below HB.out) (by rw [LF.out]; exact hml)
          have c3' : wr.cell? ⟨gfb, m, none⟩ = some (.int .u64 (vl (cf fb m))) := Ow.cell (l := fb) (cap := cpfb) (by rw [LFB.out]; exact fb_10.out.below HB.out) (by rw [LFB.out]; exact hml)
          generalize cf f m = x at *
          generalize cf fb m = y at *
          go_wp2
          go_quiet ((first | (go_at_call 18; exact q_same (mul_xF c x _ c0 c1)) | (go_at_call 19; exact q_same (add_F (toF c * x) y _))))
          have HB2 := Lib.hid (below_drewN HB.out nq)
          clear c1' c2' c3' HB
          go_wp2
          go_roundw
          case rel => exact ⟨m + 1, by omega, by go_num, HB2.out⟩
          case measure => simp [intOf] <;> omega
        · obtain rfl : n = m := by omega
          have BE := Lib.hid (B10.out.trans (HB.out.mono hsz10))
          go_wp2
          go_ret
          exact ⟨rfl, BE.out⟩
end Go.Proofs.YtkcfnbfkbmgchaaDoor.Gm
