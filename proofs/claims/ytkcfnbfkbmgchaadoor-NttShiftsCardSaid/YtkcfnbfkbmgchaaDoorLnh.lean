/- The walk of the law NttShifts. (Its lines are printed by wip/mk_XLnh.py.) -/
import Derived.Test.YtkcfnbfkbmgchaaDoorSh1
import Derived.Test.YtkcfnbfkbmgchaaDoorLnb
namespace Go.Proofs.YtkcfnbfkbmgchaaDoor.Gm
open Go.RowKit
set_option linter.unusedVariables false
theorem shift_list {j : Nat} (A : List Int) (hl : A.length = 2 ^ j) (hj : j ≤ 10) {m : Nat} (hm : m < 2 ^ j) :
    cf (trL false j ((scat (2 ^ j) (fun p => (p + (2 ^ j - 1)) % 2 ^ j) (gd A) (2 ^ j)).map toF)) m = cf (trL false j (A.map toF)) m * root j ^ m := by
  rw [cf_trL _ _ _ hm, cf_trL _ _ _ hm, tr_fwd, tr_fwd, ← dft_on (root_pow j (by omega)) (Nat.two_pow_pos j)]
  refine dft_congr (fun i hi => ?_) m
  rw [cf_map, cf_map, gd_scat _ _ _ _ hi, if_pos (Nat.mod_lt _ (Nat.two_pow_pos j))]
theorem round_list {j : Nat} (A B : List Int) (hl : A.length = 2 ^ j) (hl2 : B.length = 2 ^ j) (hj : j ≤ 10) :
    S (2 ^ j) (fun i => cf (trL false j (A.map toF)) i * cf (trL false j ((scat (2 ^ j) (fun p => (2 ^ j - p) % 2 ^ j) (gd B) (2 ^ j)).map toF)) i) = S (2 ^ j) (fun i => toF (gd A i) * toF (gd B i)) * cast (2 ^ j) := by
  have hr := rt_root j (by omega)
  have h := parseval hr (mul_inv (root j) (root_ne j)) (fun i => toF (gd A i)) (fun i => toF (gd B i))
  rw [← h]
  refine S_congr (fun i hi => ?_)
  rw [cf_trL _ _ _ hi, cf_trL _ _ _ hi, tr_fwd, tr_fwd]
  congr 1
  · exact dft_congr (fun p _ => cf_map A p) i
  · refine dft_congr (fun p hp => ?_) i
    rw [cf_map, gd_scat _ _ _ _ hp, if_pos (Nat.mod_lt _ (Nat.two_pow_pos j))]
def NhA (ws : World) (n g1 g2 : Nat) (t1 t2 : Nat → Nat) (v1 v2 : Nat → Int) (i : Value) (wr : World) : Prop :=
  ∃ m : Nat, m ≤ n ∧ i = .int .i64 m ∧ Oz .u64 25 ws.heap.size wr (.slice (some ⟨g1, 0, none⟩) n n) (scat n t1 v1 m) ∧ Oz .u64 25 ws.heap.size wr (.slice (some ⟨g2, 0, none⟩) n n) (scat n t2 v2 m) ∧ Below ws.heap.size ws wr
def NhB (ws : World) (n : Nat) (r : F) (i t : Value) (wr : World) : Prop := ∃ m : Nat, m ≤ n ∧ i = .int .i64 m ∧ t = .int .u64 (vl (r ^ m)) ∧ Below ws.heap.size ws wr
def NhC (ws : World) (n : Nat) (f g : Nat → F) (i l r : Value) (wr : World) : Prop := ∃ m : Nat, m ≤ n ∧ i = .int .i64 m ∧ l = .int .u64 (vl (S m f)) ∧ r = .int .u64 (vl (S m g)) ∧ Below ws.heap.size ws wr
set_option maxHeartbeats 8000000 in
set_option maxRecDepth 100000 in
theorem wNttShifts (za zb : List Int) (k : Int) (v v2 : Value) (w : World) (h : Rd .u64 w v za) (h2 : Rd .u64 w v2 zb) (hz : B64 za) (hy : B64 zb) (k0 : -9223372036854775808 ≤ k) (k1 : k ≤ 9223372036854775807) (hT : Tb w) :
    Calls Tryd.prog 3 #[v, v2, .int .i64 k] w (RetV w (.bool true)) := by
  obtain ⟨a1, q1, rfl, hk1, hm1⟩ := h.shape
  obtain ⟨a2, q2, rfl, hk2, hm2⟩ := h2.shape
  have X := Lib.hid h
  have Y := Lib.hid h2
  have T := Lib.hid hT
  obtain ⟨n, hn⟩ : ∃ n, n = 2 ^ kk k := ⟨_, rfl⟩
  have hj := kk_le k
  have hn1 : 1 ≤ n := by rw [hn]; exact Nat.two_pow_pos _
  have hn64 : n ≤ 64 := by rw [hn]; exact Nat.pow_le_pow_right (by omega) hj
  have hnm : n ≤ 1000000 := by omega
  obtain ⟨A, hA⟩ : ∃ A, A = siz za n := ⟨_, rfl⟩
  obtain ⟨Bz, hB⟩ : ∃ B, B = siz zb n := ⟨_, rfl⟩
  have lA : A.length = n := by rw [hA, siz_len]
  have lB : Bz.length = n := by rw [hB, siz_len]
  have bA : B64 A := by rw [hA]; exact siz_64 hz n
  have bB : B64 Bz := by rw [hB]; exact siz_64 hy n
  have CA := Lib.hid (fun w v h => by have := sized_any za v k w h k0 k1; rwa [← hn, ← hA] at this)
  have CB := Lib.hid (fun w v h => by have := sized_any zb v k w h k0 k1; rwa [← hn, ← hB] at this)
  generalize kk k = j at *
  have hj10 : j ≤ 10 := by omega
  obtain ⟨t1, ht1⟩ : ∃ t : Nat → Nat, t = fun p => (p + (n - 1)) % n := ⟨_, rfl⟩
  obtain ⟨t2, ht2⟩ : ∃ t : Nat → Nat, t = fun p => (n - p) % n := ⟨_, rfl⟩
  obtain ⟨on, hon⟩ : ∃ l, l = scat n t1 (gd A) n := ⟨_, rfl⟩
  obtain ⟨ro, hro⟩ : ∃ l, l = scat n t2 (gd Bz) n := ⟨_, rfl⟩
  have lon : on.length = 2 ^ j := by rw [hon, scat_len, hn]
  have lro : ro.length = 2 ^ j := by rw [hro, scat_len, hn]
  have bon : B64 on := by rw [hon]; exact scat_64 (fun i => bA.get i) n
  have bro : B64 ro := by rw [hro]; exact scat_64 (fun i => bB.get i) n
  obtain ⟨f, hf⟩ : ∃ l, l = trL false j (A.map toF) := ⟨_, rfl⟩
  obtain ⟨fo, hfo⟩ : ∃ l, l = trL false j (on.map toF) := ⟨_, rfl⟩
  obtain ⟨fr, hfr⟩ : ∃ l, l = trL false j (ro.map toF) := ⟨_, rfl⟩
  have C1 := Lib.hid (fun w v h hT => by have := nfwd_ok j A v w h bA hj10 (lA.trans hn) hT; rwa [← hf] at this)
  have C2 := Lib.hid (fun w v h hT => by have := nfwd_ok j on v w h bon hj10 lon hT; rwa [← hfo] at this)
  have C3 := Lib.hid (fun w v h hT => by have := nfwd_ok j ro v w h bro hj10 lro hT; rwa [← hfr] at this)
  have CLG := Lib.hid (fun w => rlog_pow j (n : Int) w hj10 (by rw [hn]))
  obtain ⟨r, hr⟩ : ∃ r, r = root j := ⟨_, rfl⟩
  have CRT := Lib.hid (fun w => by have := root_any j w (by omega); rwa [← hr] at this)
  have FO := Lib.hid (show ∀ m, m < n → cf fo m = cf f m * r ^ m from fun m hm => by
    subst ht1; rw [hfo, hf, hr, hon, hn]; exact shift_list A (lA.trans hn) hj10 (by rw [← hn]; exact hm))
  have PS := Lib.hid (show S n (fun i => cf f i * cf fr i) = S n (fun i => toF (gd A i) * toF (gd Bz i)) * toF (n : Int) by
    subst ht2; rw [hfr, hf, hro, ← cast_toF, hn]; exact round_list A Bz (lA.trans hn) (lB.trans hn) hj10)
  have S1 := Lib.hid (show ∀ m, m < n → (m + 1) % n < n ∧ (scat n t1 (gd A) m).set ((m + 1) % n) (gd A m) = scat n t1 (gd A) (m + 1) from fun m hm => by
    have hlt := Nat.mod_lt (m + 1) (show n > 0 by omega)
    refine ⟨hlt, ?_⟩
    subst ht1
    exact scat_step (s := fun i => (i + 1) % n) (gd A) hm hlt (on_inv hm) (fun p hp => on_inv2 hp))
  have S2 := Lib.hid (show ∀ m, m < n → (n - m) % n < n ∧ (scat n t2 (gd Bz) m).set ((n - m) % n) (gd Bz m) = scat n t2 (gd Bz) (m + 1) from fun m hm => by
    have hlt := Nat.mod_lt (n - m) (show n > 0 by omega)
    refine ⟨hlt, ?_⟩
    subst ht2
    exact scat_step (s := fun i => (n - i) % n) (gd Bz) hm hlt (rd_inv hm) (fun p hp => rd_inv hp))
  have Z1 := Lib.hid (scat_zero n t1 (gd A))
  have Z2 := Lib.hid (scat_zero n t2 (gd Bz))
  have L1 := Lib.hid (fun m => scat_len n t1 (gd A) m)
  have L2 := Lib.hid (fun m => scat_len n t2 (gd Bz) m)
  have HON := Lib.hid hon
  have HRO := Lib.hid hro
  have LA := Lib.hid lA
  have LB := Lib.hid lB
  have LF := Lib.hid (show f.length = n by rw [hf, trL_len, hn])
  have LFO := Lib.hid (show fo.length = n by rw [hfo, trL_len, hn])
  have LFR := Lib.hid (show fr.length = n by rw [hfr, trL_len, hn])
  have LON := Lib.hid (lon.trans hn.symm)
  have LRO := Lib.hid (lro.trans hn.symm)
  have hmk := run_mk n hnm
  have ew : IntKind.u64.wrap (n : Int) = (n : Int) := IntWalk.u64_in _ (by omega)
  clear h h2 hT hA hB hf hfo hfr hon hro lon lro bon bro lA lB hn hr ht1 ht2
  have B0 := Lib.hid (Below.refl w.heap.size w)
  have hsz0 : w.heap.size ≤ w.heap.size := Nat.le_refl _
  go_enter Tryd.func3, Tryd.ntmps3
  go_wp2_with fail
  refine (four_any _ T.out).mono ?_
  rintro e w1 ⟨rfl, hbel⟩
  have X_1 := Lib.hid (X.out.below hbel)
  have Y_1 := Lib.hid (Y.out.below hbel)
  have T_1 := Lib.hid (T.out.below hbel)
  have B1 := Lib.hid (B0.out.trans (hbel.mono hsz0))
  have hsz1 := B1.out.size
  clear X Y T hbel
  go_wp2_with fail
  refine (CA.out _ _ X_1.out).mono ?_
  rintro e w2 ⟨v2, rfl, hown, hbel⟩
  have X_2 := Lib.hid (X_1.out.below hbel)
  have Y_2 := Lib.hid (Y_1.out.below hbel)
  have T_2 := Lib.hid (T_1.out.below hbel)
  have A_2 := Lib.hid (hown.mono hsz1)
  have B2 := Lib.hid (B1.out.trans (hbel.mono hsz1))
  have hsz2 := B2.out.size
  clear X_1 Y_1 T_1 hown hbel
  go_wp2_with fail
  refine (CB.out _ _ Y_2.out).mono ?_
  rintro e w3 ⟨v3, rfl, hown, hbel⟩
  have X_3 := Lib.hid (X_2.out.below hbel)
  have Y_3 := Lib.hid (Y_2.out.below hbel)
  have T_3 := Lib.hid (T_2.out.below hbel)
  have A_3 := Lib.hid (A_2.out.below hbel)
  have B_3 := Lib.hid (hown.mono hsz2)
  have B3 := Lib.hid (B2.out.trans (hbel.mono hsz2))
  have hsz3 := B3.out.size
  clear X_2 Y_2 T_2 A_2 hown hbel
  obtain ⟨gA, cpA, rfl, hcA, hmA⟩ := A_3.out.opened (by rw [LA.out]; exact hn1)
  rw [LA.out] at hcA A_3 ⊢
  obtain ⟨gB, cpB, rfl, hcB, hmB⟩ := B_3.out.opened (by rw [LB.out]; exact hn1)
  rw [LB.out] at hcB B_3 ⊢
  obtain ⟨x, hx⟩ : ∃ x, x = w3.heap.size := ⟨_, rfl⟩
  obtain ⟨y, hy⟩ : ∃ y, y = w3.heap.size + 1 := ⟨_, rfl⟩
  have P1 := Lib.hid (show Oz .u64 25 w3.heap.size (((w3.alloc (.cells (madeCells #[.int .u64 0] n) 25)).alloc (.cells (madeCells #[.int .u64 0] n) 25)).drew) (.slice (some ⟨x, 0, none⟩) n n) (List.replicate n 0) by rw [hx]; exact ((oz_made _ n w3 (Nat.le_refl _) hnm).alloc _).drew)
  have P2 := Lib.hid (show Oz .u64 25 w3.heap.size (((w3.alloc (.cells (madeCells #[.int .u64 0] n) 25)).alloc (.cells (madeCells #[.int .u64 0] n) 25)).drew) (.slice (some ⟨y, 0, none⟩) n n) (List.replicate n 0) by
    have h := oz_made w3.heap.size n (w3.alloc (.cells (madeCells #[.int .u64 0] n) 25)) (by simp) hnm
    rw [hy]
    simpa using h.drew)
  have M0 := Lib.hid (below_drewN (((Below.refl w3.heap.size w3).alloc (Nat.le_refl _) (.cells (madeCells #[.int .u64 0] n) 25)).alloc (by simp) (.cells (madeCells #[.int .u64 0] n) 25)) 1)
  have hxy : x ≠ y := by omega
  go_wp2
  go_region
  · rw [← hy, ← hx]
    have Q1 : Oz .u64 25 w3.heap.size (((w3.alloc (.cells (madeCells #[.int .u64 0] n) 25)).alloc (.cells (madeCells #[.int .u64 0] n) 25)).drew) (.slice (some ⟨x, 0, none⟩) n n) (scat n t1 (gd A) 0) := by rw [Z1.out]; exact P1.out
    have Q2 : Oz .u64 25 w3.heap.size (((w3.alloc (.cells (madeCells #[.int .u64 0] n) 25)).alloc (.cells (madeCells #[.int .u64 0] n) 25)).drew) (.slice (some ⟨y, 0, none⟩) n n) (scat n t2 (gd Bz) 0) := by rw [Z2.out]; exact P2.out
    have R1 := Lib.hid Q1
    have R2 := Lib.hid Q2
    have M1 : Below w3.heap.size w3 (((w3.alloc (.cells (madeCells #[.int .u64 0] n) 25)).alloc (.cells (madeCells #[.int .u64 0] n) 25)).drew) := M0.out
    have M2 := Lib.hid M1
    clear Q1 Q2 P1 P2 M0 M1 hx hy hmk
    generalize (((w3.alloc (.cells (madeCells #[.int .u64 0] n) 25)).alloc (.cells (madeCells #[.int .u64 0] n) 25)).drew) = wq at *
    go_wp2
    go_loopw [12, 42] (fun _ i wr => NhA w3 n x y t1 t2 (gd A) (gd Bz) i wr) (fun _ i _ => n - (intOf i).toNat)
    case atStart => exact ⟨0, by omega, rfl, R1.out, R2.out, M2.out⟩
    case round =>
      obtain ⟨m, hm, rfl, ho1, ho2, hbel⟩ := hrel
      have O1 := Lib.hid ho1
      have O2 := Lib.hid ho2
      have HB := Lib.hid hbel
      have hwsz := hbel.size
      clear ho1 ho2 hbel R1 R2 M2
      by_cases hml : m < n
      · have c1' : wr.cell? ⟨gA, m, none⟩ = some (.int .u64 (gd A m)) := (A_3.out.below HB.out).cell (by rw [LA.out]; exact hml)
        have c2' : wr.cell? ⟨gB, m, none⟩ = some (.int .u64 (gd Bz m)) := (B_3.out.below HB.out).cell (by rw [LB.out]; exact hml)
        obtain ⟨hlt1, hst1⟩ := S1.out m hml
        obtain ⟨hlt2, hst2⟩ := S2.out m hml
        have HS1 := Lib.hid hst1
        have HS2 := Lib.hid hst2
        have e1 : ((m : Int) + 1).tmod (n : Int) = (((m + 1) % n : Nat) : Int) := by rw [show (m : Int) + 1 = ((m + 1 : Nat) : Int) by omega]; exact nat_rem _ _
        have e2 : ((n : Int) - (m : Int)).tmod (n : Int) = (((n - m) % n : Nat) : Int) := by rw [show (n : Int) - (m : Int) = ((n - m : Nat) : Int) by omega]; exact nat_rem _ _
        have hn0 : ¬ n = 0 := by omega
        have ew1 : IntKind.i64.wrap ((m : Int) + 1) = (m : Int) + 1 := IntWalk.i64_in _ (by omega)
        have ew2 : IntKind.i64.wrap ((n : Int) - (m : Int)) = (n : Int) - (m : Int) := IntWalk.i64_in _ (by omega)
        have LM1 := Lib.hid (L1.out m)
        have LM2 := Lib.hid (L2.out m)
        clear hst1 hst2
        generalize (m + 1) % n = p1 at *
        generalize (n - m) % n = p2 at *
        have w1' : IntKind.i64.wrap (p1 : Int) = (p1 : Int) := wrap_nat (by omega)
        have w2' : IntKind.i64.wrap (p2 : Int) = (p2 : Int) := wrap_nat (by omega)
        go_wp2
        go_still_tail 10, (by kernel_rfl)
        repeat still_step
        try refine wpStill_nil ?_
        change wpList _ _ _ _ _ wr.drew
        go_wp2_with (refine wl_storeI .u64 25 _ rfl (.tmp 54) (.tmp 53) (fun _ => rfl) rfl w3.heap.size x p1 n n (scat n t1 (gd A) m) (gd A m) rfl rfl O1.out.drew LM1.out hlt1 ?_)
        intro w5 hown5 ho5 hs5
        rw [HS1.out] at hown5
        have O3 := Lib.hid hown5
        have O4 := Lib.hid (O2.out.drew.only ho5 (fun gg e eg => by
          have e1 : y = gg := by simpa [Value.ownBlock] using e
          omega))
        have hgB1 := O1.out.base.1
        have hgB2 := O2.out.base.1
        have B3 := Lib.hid ((below_drewN HB.out 1).trans (ho5.below hwsz (fun gg e => by omega)))
        have hwsz3 := B3.out.size
        have c2'' : w5.cell? ⟨gB, m, none⟩ = some (.int .u64 (gd Bz m)) := (B_3.out.below B3.out).cell (by rw [LB.out]; exact hml)
        clear hown5 ho5 hs5 c1' c2' O1 O2 HB
        go_wp2
        go_still_tail 11, (by kernel_rfl)
        repeat still_step
        try refine wpStill_nil ?_
        change wpList _ _ _ _ _ w5.drew
        go_wp2_with (refine wl_storeI .u64 25 _ rfl (.tmp 65) (.tmp 64) (fun _ => rfl) rfl w3.heap.size y p2 n n (scat n t2 (gd Bz) m) (gd Bz m) rfl rfl O4.out.drew LM2.out hlt2 ?_)
        intro w6 hown6 ho6 hs6
        rw [HS2.out] at hown6
        have O5 := Lib.hid hown6
        have O6 := Lib.hid (O3.out.drew.only ho6 (fun gg e eg => by
          have e1 : x = gg := by simpa [Value.ownBlock] using e
          omega))
        have B4 := Lib.hid ((below_drewN B3.out 1).trans (ho6.below hwsz3 (fun gg e => by omega)))
        clear hown6 ho6 hs6 O3 O4 B3
        go_wp2
        go_roundw
        case rel => exact ⟨m + 1, by omega, by go_num, O6.out, O5.out, B4.out⟩
        case measure => simp [intOf] <;> omega
      · obtain rfl : n = m := by omega
        rw [← HON.out] at O1
        rw [← HRO.out] at O2
        have HB0 := Lib.hid HB.out
        have AL := Lib.hid (A_3.out.below HB.out)
        have BLL := Lib.hid (B_3.out.below HB.out)
        have TL := Lib.hid (T_3.out.below HB.out)
        have ONL := Lib.hid (O1.out.mono hsz3)
        have ROL := Lib.hid (O2.out.mono hsz3)
        have BL := Lib.hid (B3.out.trans (HB.out.mono hsz3))
        have hszL := BL.out.size
        clear O1 O2 HB HB0 X_3 Y_3 T_3 A_3 B_3
        go_wp2_with fail
        refine (C1.out _ _ AL.out.rd TL.out).mono ?_
        rintro e w4 ⟨v4, rfl, hown, hbel⟩
        have A_4 := Lib.hid (AL.out.below hbel)
        have B_4 := Lib.hid (BLL.out.below hbel)
        have T_4 := Lib.hid (TL.out.below hbel)
        have on_4 := Lib.hid (ONL.out.below hbel)
        have ro_4 := Lib.hid (ROL.out.below hbel)
        have f_4 := Lib.hid (hown.mono hszL)
        have B4 := Lib.hid (BL.out.trans (hbel.mono hszL))
        have hsz4 := B4.out.size
        clear AL BLL TL ONL ROL hown hbel
        go_wp2_with fail
        refine (C2.out _ _ on_4.out.rd T_4.out).mono ?_
        rintro e w5 ⟨v5, rfl, hown, hbel⟩
        have A_5 := Lib.hid (A_4.out.below hbel)
        have B_5 := Lib.hid (B_4.out.below hbel)
        have T_5 := Lib.hid (T_4.out.below hbel)
        have on_5 := Lib.hid (on_4.out.below hbel)
        have ro_5 := Lib.hid (ro_4.out.below hbel)
        have f_5 := Lib.hid (f_4.out.below hbel)
        have fo_5 := Lib.hid (hown.mono hsz4)
        have B5 := Lib.hid (B4.out.trans (hbel.mono hsz4))
        have hsz5 := B5.out.size
        clear A_4 B_4 T_4 on_4 ro_4 f_4 hown hbel
        obtain ⟨gf, cpf, rfl, hcf, hmf⟩ := f_5.out.opened (by rw [LF.out]; exact hn1)
        rw [LF.out] at hcf f_5 ⊢
        obtain ⟨gfo, cpfo, rfl, hcfo, hmfo⟩ := fo_5.out.opened (by rw [LFO.out]; exact hn1)
        rw [LFO.out] at hcfo fo_5 ⊢
        go_wp2_with fail
        refine (CLG.out _).mono ?_
        rintro e w' ⟨rfl, rfl⟩
        go_wp2_with fail
        refine (CRT.out _).mono ?_
        rintro e w' ⟨rfl, rfl⟩
        go_wp2
        go_loopw [19, 20, 85] (fun t _ i wr => NhB w5 n r i t wr) (fun _ _ i _ => n - (intOf i).toNat)
        case atStart => exact ⟨0, by omega, rfl, by rw [pow_zero, vl_one], Below.refl _ _⟩
        case round =>
          obtain ⟨m, hm, rfl, rfl, hbel⟩ := hrel
          have HB := Lib.hid hbel
          clear hbel
          by_cases hml : m < n
          · have c1' : wr.cell? ⟨gfo, m, none⟩ = some (.int .u64 (vl (cf f m * r ^ m))) := by
              rw [← FO.out m hml]; exact Ow.cell (l := fo) (cap := cpfo) (by rw [LFO.out]; exact fo_5.out.below HB.out) (by rw [LFO.out]; exact hml)
            have c2' : wr.cell? ⟨gf, m, none⟩ = some (.int .u64 (vl (cf f m))) := Ow.cell (l := f) (cap := cpf) (by rw [LF.out]; exact f_5.out.below HB.out) (by rw [LF.out]; exact hml)
            generalize cf f m = z at *
            go_wp2
            go_quiet ((first | (go_at_call 18; exact q_same (mul_F z (r ^ m) _))))
            have HB2 := Lib.hid (below_drewN HB.out nq)
            clear c1' c2' HB
            go_wp2_with fail
            refine (mul_F (r ^ m) r _).mono ?_
            rintro e w' ⟨rfl, rfl⟩
            rw [← pow_succ]
            go_wp2
            go_roundw
            case rel => exact ⟨m + 1, by omega, by go_num, rfl, HB2.out⟩
            case measure => simp [intOf] <;> omega
          · obtain rfl : n = m := by omega
            have A_M := Lib.hid (A_5.out.below HB.out)
            have B_M := Lib.hid (B_5.out.below HB.out)
            have T_M := Lib.hid (T_5.out.below HB.out)
            have ro_M := Lib.hid (ro_5.out.below HB.out)
            have f_M := Lib.hid (f_5.out.below HB.out)
            have BM := Lib.hid (B5.out.trans (HB.out.mono hsz5))
            have hszM := BM.out.size
            clear HB A_5 B_5 T_5 on_5 ro_5 f_5 fo_5
            go_wp2_with fail
            refine (C3.out _ _ ro_M.out.rd T_M.out).mono ?_
            rintro e w6 ⟨v6, rfl, hown, hbel⟩
            have A_6 := Lib.hid (A_M.out.below hbel)
            have B_6 := Lib.hid (B_M.out.below hbel)
            have T_6 := Lib.hid (T_M.out.below hbel)
            have ro_6 := Lib.hid (ro_M.out.below hbel)
            have f_6 := Lib.hid (f_M.out.below hbel)
            have fr_6 := Lib.hid (hown.mono hszM)
            have B6 := Lib.hid (BM.out.trans (hbel.mono hszM))
            have hsz6 := B6.out.size
            clear A_M B_M T_M ro_M f_M hown hbel
            obtain ⟨gfr, cpfr, rfl, hcfr, hmfr⟩ := fr_6.out.opened (by rw [LFR.out]; exact hn1)
            rw [LFR.out] at hcfr fr_6 ⊢
            go_wp2
            go_loopw [23, 24, 25, 110] (fun l q _ i wr => NhC w6 n (fun i => toF (gd A i) * toF (gd Bz i)) (fun i => cf f i * cf fr i) i l q wr) (fun _ _ _ i _ => n - (intOf i).toNat)
            case atStart => exact ⟨0, by omega, rfl, by rw [S_zero, vl_zero], by rw [S_zero, vl_zero], Below.refl _ _⟩
            case round =>
              obtain ⟨m, hm, rfl, rfl, rfl, hbel⟩ := hrel
              have HB := Lib.hid hbel
              clear hbel
              by_cases hml : m < n
              · have c1' : wr.cell? ⟨gA, m, none⟩ = some (.int .u64 (gd A m)) := (A_6.out.below HB.out).cell (by rw [LA.out]; exact hml)
                have c2' : wr.cell? ⟨gB, m, none⟩ = some (.int .u64 (gd Bz m)) := (B_6.out.below HB.out).cell (by rw [LB.out]; exact hml)
                have c3' : wr.cell? ⟨gf, m, none⟩ = some (.int .u64 (vl (cf f m))) := Ow.cell (l := f) (cap := cpf) (by rw [LF.out]; exact f_6.out.below HB.out) (by rw [LF.out]; exact hml)
                have c4' : wr.cell? ⟨gfr, m, none⟩ = some (.int .u64 (vl (cf fr m))) := Ow.cell (l := fr) (cap := cpfr) (by rw [LFR.out]; exact fr_6.out.below HB.out) (by rw [LFR.out]; exact hml)
                have hba := bA.get m
                have hbb := bB.get m
                have SA := Lib.hid (S_succ m (fun i => toF (gd A i) * toF (gd Bz i)))
                have SB := Lib.hid (S_succ m (fun i => cf f i * cf fr i))
                have SA2 := Lib.hid (show S (m + 1) (fun i => toF (gd A i) * toF (gd Bz i)) = S m (fun i => toF (gd A i) * toF (gd Bz i)) + toF (gd A m) * toF (gd Bz m) from SA.out)
                have SB2 := Lib.hid (show S (m + 1) (fun i => cf f i * cf fr i) = S m (fun i => cf f i * cf fr i) + cf f m * cf fr m from SB.out)
                clear SA SB
                generalize S m (fun i => toF (gd A i) * toF (gd Bz i)) = sa at *
                generalize S m (fun i => cf f i * cf fr i) = sb at *
                generalize gd A m = za' at *
                generalize gd Bz m = zb' at *
                generalize cf f m = z1 at *
                generalize cf fr m = z2 at *
                go_wp2
                go_quiet ((first | (go_at_call 18; exact q_same (mul_any za' zb' _ hba.1 hba.2 hbb.1 hbb.2)) | (go_at_call 19; exact q_same (add_F sa (toF za' * toF zb') _))))
                have c3'' : (wr.drewN nq).cell? ⟨gf, m, none⟩ = some (.int .u64 (vl z1)) := c3'
                have c4'' : (wr.drewN nq).cell? ⟨gfr, m, none⟩ = some (.int .u64 (vl z2)) := c4'
                have HB2 := Lib.hid (below_drewN HB.out nq)
                clear c1' c2' c3' c4' HB
                generalize wr.drewN nq = w9 at *
                go_wp2
                go_quiet ((first | (go_at_call 18; exact q_same (mul_F z1 z2 _)) | (go_at_call 19; exact q_same (add_F sb (z1 * z2) _))))
                have HB3 := Lib.hid (below_drewN HB2.out nq)
                clear c3'' c4'' HB2
                go_wp2
                go_roundw
                case rel => exact ⟨m + 1, by omega, by go_num, by rw [SA2.out], by rw [SB2.out], HB3.out⟩
                case measure => simp [intOf] <;> omega
              · obtain rfl : n = m := by omega
                have BE := Lib.hid (B6.out.trans (HB.out.mono hsz6))
                rw [PS.out]
                generalize S n (fun i => toF (gd A i) * toF (gd Bz i)) = sa at *
                go_wp2_with fail
                refine (mul_Fx sa (n : Int) _ (by omega) (by omega)).mono ?_
                rintro e w' ⟨rfl, rfl⟩
                go_wp2
                go_ret
                exact ⟨rfl, BE.out⟩
  · rw [← hy, ← hx]
    have Q1 : Oz .u64 25 w3.heap.size (((w3.alloc (.cells (madeCells #[.int .u64 0] n) 25)).alloc (.cells (madeCells #[.int .u64 0] n) 25)).drew) (.slice (some ⟨y, 0, none⟩) n n) (scat n t1 (gd A) 0) := by rw [Z1.out]; exact P2.out
    have Q2 : Oz .u64 25 w3.heap.size (((w3.alloc (.cells (madeCells #[.int .u64 0] n) 25)).alloc (.cells (madeCells #[.int .u64 0] n) 25)).drew) (.slice (some ⟨x, 0, none⟩) n n) (scat n t2 (gd Bz) 0) := by rw [Z2.out]; exact P1.out
    have R1 := Lib.hid Q1
    have R2 := Lib.hid Q2
    have M1 : Below w3.heap.size w3 (((w3.alloc (.cells (madeCells #[.int .u64 0] n) 25)).alloc (.cells (madeCells #[.int .u64 0] n) 25)).drew) := M0.out
    have M2 := Lib.hid M1
    clear Q1 Q2 P1 P2 M0 M1 hx hy hmk
    generalize (((w3.alloc (.cells (madeCells #[.int .u64 0] n) 25)).alloc (.cells (madeCells #[.int .u64 0] n) 25)).drew) = wq at *
    go_wp2
    go_loopw [12, 42] (fun _ i wr => NhA w3 n y x t1 t2 (gd A) (gd Bz) i wr) (fun _ i _ => n - (intOf i).toNat)
    case atStart => exact ⟨0, by omega, rfl, R1.out, R2.out, M2.out⟩
    case round =>
      obtain ⟨m, hm, rfl, ho1, ho2, hbel⟩ := hrel
      have O1 := Lib.hid ho1
      have O2 := Lib.hid ho2
      have HB := Lib.hid hbel
      have hwsz := hbel.size
      clear ho1 ho2 hbel R1 R2 M2
      by_cases hml : m < n
      · have c1' : wr.cell? ⟨gA, m, none⟩ = some (.int .u64 (gd A m)) := (A_3.out.below HB.out).cell (by rw [LA.out]; exact hml)
        have c2' : wr.cell? ⟨gB, m, none⟩ = some (.int .u64 (gd Bz m)) := (B_3.out.below HB.out).cell (by rw [LB.out]; exact hml)
        obtain ⟨hlt1, hst1⟩ := S1.out m hml
        obtain ⟨hlt2, hst2⟩ := S2.out m hml
        have HS1 := Lib.hid hst1
        have HS2 := Lib.hid hst2
        have e1 : ((m : Int) + 1).tmod (n : Int) = (((m + 1) % n : Nat) : Int) := by rw [show (m : Int) + 1 = ((m + 1 : Nat) : Int) by omega]; exact nat_rem _ _
        have e2 : ((n : Int) - (m : Int)).tmod (n : Int) = (((n - m) % n : Nat) : Int) := by rw [show (n : Int) - (m : Int) = ((n - m : Nat) : Int) by omega]; exact nat_rem _ _
        have hn0 : ¬ n = 0 := by omega
        have ew1 : IntKind.i64.wrap ((m : Int) + 1) = (m : Int) + 1 := IntWalk.i64_in _ (by omega)
        have ew2 : IntKind.i64.wrap ((n : Int) - (m : Int)) = (n : Int) - (m : Int) := IntWalk.i64_in _ (by omega)
        have LM1 := Lib.hid (L1.out m)
        have LM2 := Lib.hid (L2.out m)
        clear hst1 hst2
        generalize (m + 1) % n = p1 at *
        generalize (n - m) % n = p2 at *
        have w1' : IntKind.i64.wrap (p1 : Int) = (p1 : Int) := wrap_nat (by omega)
        have w2' : IntKind.i64.wrap (p2 : Int) = (p2 : Int) := wrap_nat (by omega)
        go_wp2
        go_still_tail 10, (by kernel_rfl)
        repeat still_step
        try refine wpStill_nil ?_
        change wpList _ _ _ _ _ wr.drew
        go_wp2_with (refine wl_storeI .u64 25 _ rfl (.tmp 54) (.tmp 53) (fun _ => rfl) rfl w3.heap.size y p1 n n (scat n t1 (gd A) m) (gd A m) rfl rfl O1.out.drew LM1.out hlt1 ?_)
        intro w5 hown5 ho5 hs5
        rw [HS1.out] at hown5
        have O3 := Lib.hid hown5
        have O4 := Lib.hid (O2.out.drew.only ho5 (fun gg e eg => by
          have e1 : x = gg := by simpa [Value.ownBlock] using e
          omega))
        have hgB1 := O1.out.base.1
        have hgB2 := O2.out.base.1
        have B3 := Lib.hid ((below_drewN HB.out 1).trans (ho5.below hwsz (fun gg e => by omega)))
        have hwsz3 := B3.out.size
        have c2'' : w5.cell? ⟨gB, m, none⟩ = some (.int .u64 (gd Bz m)) := (B_3.out.below B3.out).cell (by rw [LB.out]; exact hml)
        clear hown5 ho5 hs5 c1' c2' O1 O2 HB
        go_wp2
        go_still_tail 11, (by kernel_rfl)
        repeat still_step
        try refine wpStill_nil ?_
        change wpList _ _ _ _ _ w5.drew
        go_wp2_with (refine wl_storeI .u64 25 _ rfl (.tmp 65) (.tmp 64) (fun _ => rfl) rfl w3.heap.size x p2 n n (scat n t2 (gd Bz) m) (gd Bz m) rfl rfl O4.out.drew LM2.out hlt2 ?_)
        intro w6 hown6 ho6 hs6
        rw [HS2.out] at hown6
        have O5 := Lib.hid hown6
        have O6 := Lib.hid (O3.out.drew.only ho6 (fun gg e eg => by
          have e1 : y = gg := by simpa [Value.ownBlock] using e
          omega))
        have B4 := Lib.hid ((below_drewN B3.out 1).trans (ho6.below hwsz3 (fun gg e => by omega)))
        clear hown6 ho6 hs6 O3 O4 B3
        go_wp2
        go_roundw
        case rel => exact ⟨m + 1, by omega, by go_num, O6.out, O5.out, B4.out⟩
        case measure => simp [intOf] <;> omega
      · obtain rfl : n = m := by omega
        rw [← HON.out] at O1
        rw [← HRO.out] at O2
        have HB0 := Lib.hid HB.out
        have AL := Lib.hid (A_3.out.below HB.out)
        have BLL := Lib.hid (B_3.out.below HB.out)
        have TL := Lib.hid (T_3.out.below HB.out)
        have ONL := Lib.hid (O1.out.mono hsz3)
        have ROL := Lib.hid (O2.out.mono hsz3)
        have BL := Lib.hid (B3.out.trans (HB.out.mono hsz3))
        have hszL := BL.out.size
        clear O1 O2 HB HB0 X_3 Y_3 T_3 A_3 B_3
        go_wp2_with fail
        refine (C1.out _ _ AL.out.rd TL.out).mono ?_
        rintro e w4 ⟨v4, rfl, hown, hbel⟩
        have A_4 := Lib.hid (AL.out.below hbel)
        have B_4 := Lib.hid (BLL.out.below hbel)
        have T_4 := Lib.hid (TL.out.below hbel)
        have on_4 := Lib.hid (ONL.out.below hbel)
        have ro_4 := Lib.hid (ROL.out.below hbel)
        have f_4 := Lib.hid (hown.mono hszL)
        have B4 := Lib.hid (BL.out.trans (hbel.mono hszL))
        have hsz4 := B4.out.size
        clear AL BLL TL ONL ROL hown hbel
        go_wp2_with fail
        refine (C2.out _ _ on_4.out.rd T_4.out).mono ?_
        rintro e w5 ⟨v5, rfl, hown, hbel⟩
        have A_5 := Lib.hid (A_4.out.below hbel)
        have B_5 := Lib.hid (B_4.out.below hbel)
        have T_5 := Lib.hid (T_4.out.below hbel)
        have on_5 := Lib.hid (on_4.out.below hbel)
        have ro_5 := Lib.hid (ro_4.out.below hbel)
        have f_5 := Lib.hid (f_4.out.below hbel)
        have fo_5 := Lib.hid (hown.mono hsz4)
        have B5 := Lib.hid (B4.out.trans (hbel.mono hsz4))
        have hsz5 := B5.out.size
        clear A_4 B_4 T_4 on_4 ro_4 f_4 hown hbel
        obtain ⟨gf, cpf, rfl, hcf, hmf⟩ := f_5.out.opened (by rw [LF.out]; exact hn1)
        rw [LF.out] at hcf f_5 ⊢
        obtain ⟨gfo, cpfo, rfl, hcfo, hmfo⟩ := fo_5.out.opened (by rw [LFO.out]; exact hn1)
        rw [LFO.out] at hcfo fo_5 ⊢
        go_wp2_with fail
        refine (CLG.out _).mono ?_
        rintro e w' ⟨rfl, rfl⟩
        go_wp2_with fail
        refine (CRT.out _).mono ?_
        rintro e w' ⟨rfl, rfl⟩
        go_wp2
        go_loopw [19, 20, 85] (fun t _ i wr => NhB w5 n r i t wr) (fun _ _ i _ => n - (intOf i).toNat)
        case atStart => exact ⟨0, by omega, rfl, by rw [pow_zero, vl_one], Below.refl _ _⟩
        case round =>
          obtain ⟨m, hm, rfl, rfl, hbel⟩ := hrel
          have HB := Lib.hid hbel
          clear hbel
          by_cases hml : m < n
          · have c1' : wr.cell? ⟨gfo, m, none⟩ = some (.int .u64 (vl (cf f m * r ^ m))) := by
              rw [← FO.out m hml]; exact Ow.cell (l := fo) (cap := cpfo) (by rw [LFO.out]; exact fo_5.out.below HB.out) (by rw [LFO.out]; exact hml)
            have c2' : wr.cell? ⟨gf, m, none⟩ = some (.int .u64 (vl (cf f m))) := Ow.cell (l := f) (cap := cpf) (by rw [LF.out]; exact f_5.out.below HB.out) (by rw [LF.out]; exact hml)
            generalize cf f m = z at *
            go_wp2
            go_quiet ((first | (go_at_call 18; exact q_same (mul_F z (r ^ m) _))))
            have HB2 := Lib.hid (below_drewN HB.out nq)
            clear c1' c2' HB
            go_wp2_with fail
            refine (mul_F (r ^ m) r _).mono ?_
            rintro e w' ⟨rfl, rfl⟩
            rw [← pow_succ]
            go_wp2
            go_roundw
            case rel => exact ⟨m + 1, by omega, by go_num, rfl, HB2.out⟩
            case measure => simp [intOf] <;> omega
          · obtain rfl : n = m := by omega
            have A_M := Lib.hid (A_5.out.below HB.out)
            have B_M := Lib.hid (B_5.out.below HB.out)
            have T_M := Lib.hid (T_5.out.below HB.out)
            have ro_M := Lib.hid (ro_5.out.below HB.out)
            have f_M := Lib.hid (f_5.out.below HB.out)
            have BM := Lib.hid (B5.out.trans (HB.out.mono hsz5))
            have hszM := BM.out.size
            clear HB A_5 B_5 T_5 on_5 ro_5 f_5 fo_5
            go_wp2_with fail
            refine (C3.out _ _ ro_M.out.rd T_M.out).mono ?_
            rintro e w6 ⟨v6, rfl, hown, hbel⟩
            have A_6 := Lib.hid (A_M.out.below hbel)
            have B_6 := Lib.hid (B_M.out.below hbel)
            have T_6 := Lib.hid (T_M.out.below hbel)
            have ro_6 := Lib.hid (ro_M.out.below hbel)
            have f_6 := Lib.hid (f_M.out.below hbel)
            have fr_6 := Lib.hid (hown.mono hszM)
            have B6 := Lib.hid (BM.out.trans (hbel.mono hszM))
            have hsz6 := B6.out.size
            clear A_M B_M T_M ro_M f_M hown hbel
            obtain ⟨gfr, cpfr, rfl, hcfr, hmfr⟩ := fr_6.out.opened (by rw [LFR.out]; exact hn1)
            rw [LFR.out] at hcfr fr_6 ⊢
            go_wp2
            go_loopw [23, 24, 25, 110] (fun l q _ i wr => NhC w6 n (fun i => toF (gd A i) * toF (gd Bz i)) (fun i => cf f i * cf fr i) i l q wr) (fun _ _ _ i _ => n - (intOf i).toNat)
            case atStart => exact ⟨0, by omega, rfl, by rw [S_zero, vl_zero], by rw [S_zero, vl_zero], Below.refl _ _⟩
            case round =>
              obtain ⟨m, hm, rfl, rfl, rfl, hbel⟩ := hrel
              have HB := Lib.hid hbel
              clear hbel
              by_cases hml : m < n
              · have c1' : wr.cell? ⟨gA, m, none⟩ = some (.int .u64 (gd A m)) := (A_6.out.below HB.out).cell (by rw [LA.out]; exact hml)
                have c2' : wr.cell? ⟨gB, m, none⟩ = some (.int .u64 (gd Bz m)) := (B_6.out.below HB.out).cell (by rw [LB.out]; exact hml)
                have c3' : wr.cell? ⟨gf, m, none⟩ = some (.int .u64 (vl (cf f m))) := Ow.cell (l := f) (cap := cpf) (by rw [LF.out]; exact f_6.out.below HB.out) (by rw [LF.out]; exact hml)
                have c4' : wr.cell? ⟨gfr, m, none⟩ = some (.int .u64 (vl (cf fr m))) := Ow.cell (l := fr) (cap := cpfr) (by rw [LFR.out]; exact fr_6.out.below HB.out) (by rw [LFR.out]; exact hml)
                have hba := bA.get m
                have hbb := bB.get m
                have SA := Lib.hid (S_succ m (fun i => toF (gd A i) * toF (gd Bz i)))
                have SB := Lib.hid (S_succ m (fun i => cf f i * cf fr i))
                have SA2 := Lib.hid (show S (m + 1) (fun i => toF (gd A i) * toF (gd Bz i)) = S m (fun i => toF (gd A i) * toF (gd Bz i)) + toF (gd A m) * toF (gd Bz m) from SA.out)
                have SB2 := Lib.hid (show S (m + 1) (fun i => cf f i * cf fr i) = S m (fun i => cf f i * cf fr i) + cf f m * cf fr m from SB.out)
                clear SA SB
                generalize S m (fun i => toF (gd A i) * toF (gd Bz i)) = sa at *
                generalize S m (fun i => cf f i * cf fr i) = sb at *
                generalize gd A m = za' at *
                generalize gd Bz m = zb' at *
                generalize cf f m = z1 at *
                generalize cf fr m = z2 at *
                go_wp2
                go_quiet ((first | (go_at_call 18; exact q_same (mul_any za' zb' _ hba.1 hba.2 hbb.1 hbb.2)) | (go_at_call 19; exact q_same (add_F sa (toF za' * toF zb') _))))
                have c3'' : (wr.drewN nq).cell? ⟨gf, m, none⟩ = some (.int .u64 (vl z1)) := c3'
                have c4'' : (wr.drewN nq).cell? ⟨gfr, m, none⟩ = some (.int .u64 (vl z2)) := c4'
                have HB2 := Lib.hid (below_drewN HB.out nq)
                clear c1' c2' c3' c4' HB
                generalize wr.drewN nq = w9 at *
                go_wp2
                go_quiet ((first | (go_at_call 18; exact q_same (mul_F z1 z2 _)) | (go_at_call 19; exact q_same (add_F sb (z1 * z2) _))))
                have HB3 := Lib.hid (below_drewN HB2.out nq)
                clear c3'' c4'' HB2
                go_wp2
                go_roundw
                case rel => exact ⟨m + 1, by omega, by go_num, by rw [SA2.out], by rw [SB2.out], HB3.out⟩
                case measure => simp [intOf] <;> omega
              · obtain rfl : n = m := by omega
                have BE := Lib.hid (B6.out.trans (HB.out.mono hsz6))
                rw [PS.out]
                generalize S n (fun i => toF (gd A i) * toF (gd Bz i)) = sa at *
                go_wp2_with fail
                refine (mul_Fx sa (n : Int) _ (by omega) (by omega)).mono ?_
                rintro e w' ⟨rfl, rfl⟩
                go_wp2
                go_ret
                exact ⟨rfl, BE.out⟩
end Go.Proofs.YtkcfnbfkbmgchaaDoor.Gm
