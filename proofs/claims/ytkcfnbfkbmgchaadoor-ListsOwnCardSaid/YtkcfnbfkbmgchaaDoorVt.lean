/- conv.times, conv.twist. -/
import Derived.Test.YtkcfnbfkbmgchaaDoorLnb
import Derived.Test.YtkcfnbfkbmgchaaDoorPla
namespace Go.Proofs.YtkcfnbfkbmgchaaDoor.Gm
open Go.RowKit
set_option linter.unusedVariables false
/-- number by number, up to m -/
@[irreducible] def prL (l l2 : List F) (m : Nat) : List F := (List.range l.length).map fun p => if p < m then cf l p * cf l2 p else cf l p
theorem prL_len (l l2 : List F) (m : Nat) : (prL l l2 m).length = l.length := by unfold prL; simp
theorem cf_prL (l l2 : List F) (m : Nat) {p : Nat} (hp : p < l.length) : cf (prL l l2 m) p = if p < m then cf l p * cf l2 p else cf l p := by unfold prL; exact cf_ofFn _ hp
theorem prL_zero (l l2 : List F) : prL l l2 0 = l := by
  refine ext_cf (prL_len _ _ _) (fun i hi => ?_)
  rw [prL_len] at hi
  rw [cf_prL _ _ _ hi, if_neg (by omega)]
theorem prL_at (l l2 : List F) {m : Nat} (hm : m < l.length) : cf (prL l l2 m) m = cf l m := by rw [cf_prL _ _ _ hm, if_neg (by omega)]
theorem prL_step (l l2 : List F) {m : Nat} (hm : m < l.length) : (prL l l2 m).set m (cf l m * cf l2 m) = prL l l2 (m + 1) := by
  refine ext_cf (by rw [List.length_set, prL_len, prL_len]) (fun p hp => ?_)
  rw [List.length_set, prL_len] at hp
  rw [cf_set _ _ _ _ (by rw [prL_len]; exact hm), cf_prL _ _ _ hp, cf_prL _ _ _ hp]
  by_cases h : m = p
  · subst h; rw [if_pos rfl, if_pos (by omega)]
  · rw [if_neg h]
    by_cases h2 : p < m
    · rw [if_pos h2, if_pos (by omega)]
    · rw [if_neg h2, if_neg (by omega)]
/-- the cyclic product of lists -/
@[irreducible] def cycL (k : Nat) (l m : List F) : List F := (List.range (2 ^ k)).map (cyc (2 ^ k) (cf l) (cf m))
theorem cycL_len (k : Nat) (l m : List F) : (cycL k l m).length = 2 ^ k := by unfold cycL; simp
theorem cf_cycL (k : Nat) (l m : List F) {p : Nat} (hp : p < 2 ^ k) : cf (cycL k l m) p = cyc (2 ^ k) (cf l) (cf m) p := by unfold cycL; exact cf_ofFn _ hp
theorem times_list {k : Nat} (hk : k ≤ 20) (l m : List F) : trL true k (prL (trL false k l) (trL false k m) (2 ^ k)) = cycL k l m := by
  refine ext_cf (by rw [trL_len, cycL_len]) (fun i hi => ?_)
  rw [trL_len] at hi
  rw [cf_trL _ _ _ hi, cf_cycL _ _ _ hi, ← tr_cyc hk _ _ hi]
  refine tr_congr (fun j hj => ?_) i
  rw [cf_prL _ _ _ (by rw [trL_len]; exact hj), if_pos hj, cf_trL _ _ _ hj, cf_trL _ _ _ hj]
def TmRel (w : World) (n g cp : Nat) (l l2 : List F) (v2 : Value) (i : Value) (wr : World) : Prop :=
  ∃ m : Nat, m ≤ n ∧ i = .int .i64 m ∧ Ow w.heap.size wr (.slice (some ⟨g, 0, none⟩) n cp) (prL l l2 m) ∧ Ow w.heap.size wr v2 l2 ∧ Below w.heap.size w wr
set_option maxHeartbeats 2000000 in
set_option maxRecDepth 100000 in
theorem times_ok (k : Nat) (zs ys : List Int) (v v2 : Value) (w : World) (h : Rd .u64 w v zs) (h2 : Rd .u64 w v2 ys) (hz : B64 zs) (hy : B64 ys) (hk : k ≤ 10) (hl : zs.length = 2 ^ k) (hl2 : ys.length = 2 ^ k) (hT : Tb w) :
    Calls Tryd.prog 68 #[v, v2] w (RetLE w (cycL k (zs.map toF) (ys.map toF)) 0) := by
  rw [← times_list (by omega)]
  have HR := Lib.hid h
  have HR2 := Lib.hid h2
  have HT := Lib.hid hT
  obtain ⟨f, hf⟩ : ∃ l, l = trL false k (zs.map toF) := ⟨_, rfl⟩
  obtain ⟨g, hg⟩ : ∃ l, l = trL false k (ys.map toF) := ⟨_, rfl⟩
  obtain ⟨n, hn⟩ : ∃ n, n = 2 ^ k := ⟨_, rfl⟩
  have hn1 : 1 ≤ n := by rw [hn]; exact Nat.two_pow_pos _
  have hk2 : 2 ^ k ≤ 2 ^ 10 := Nat.pow_le_pow_right (by omega) hk
  have hn2 : n ≤ 1024 := by omega
  obtain ⟨a, cap, rfl, hcap, hm⟩ := h.shape
  obtain ⟨a2, cap2, rfl, hcap2, hm2⟩ := h2.shape
  have C1 := Lib.hid (fun w v h hT => by have := nfwd_ok k zs v w h hz hk hl hT; rwa [← hf] at this)
  have C2 := Lib.hid (fun w v h hT => by have := nfwd_ok k ys v w h hy hk hl2 hT; rwa [← hg] at this)
  have LF := Lib.hid (show f.length = n by rw [hf, trL_len, hn])
  have LG := Lib.hid (show g.length = n by rw [hg, trL_len, hn])
  have C3 := Lib.hid (fun w B v h hT => @ninv_F k (prL f g n) B v w h hk (by rw [prL_len, LF.out, hn]) hT)
  have PZ := Lib.hid (prL_zero f g)
  have PL := Lib.hid (fun m => (prL_len f g m).trans LF.out)
  have PS := Lib.hid (fun m (hm : m < n) => prL_step f g (m := m) (by rw [LF.out]; exact hm))
  have PA := Lib.hid (fun m (hm : m < n) => prL_at f g (m := m) (by rw [LF.out]; exact hm))
  rw [← hf, ← hg, ← hn]
  clear h h2 hT hf hg hn hl hl2 hk2
  go_enter Tryd.func68, Tryd.ntmps68
  go_wp2_with fail
  refine (C1.out _ _ HR.out HT.out).mono ?_
  rintro e w1 ⟨v1, rfl, ho, hb⟩
  have O1 := Lib.hid ho
  have B1 := Lib.hid hb
  have hs1 := hb.size
  have T1 := Lib.hid (HT.out.below hb)
  have R1 := Lib.hid (HR2.out.below hb)
  clear ho hb
  go_wp2_with fail
  refine (C2.out _ _ R1.out T1.out).mono ?_
  rintro e w2 ⟨v2, rfl, ho, hb⟩
  obtain ⟨gx, cpx, rfl, hcx, hmx⟩ := O1.out.opened (by rw [LF.out]; exact hn1)
  obtain ⟨gy, cpy, rfl, hcy, hmy⟩ := Ow.opened ho (by rw [LG.out]; exact hn1)
  have O2 := O1.out.below hb
  have O3 := Ow.mono (l := g) ho hs1
  rw [← PZ.out] at O2
  rw [LF.out] at hcx
  rw [PL.out] at O2
  rw [LG.out] at hcy O3
  have O2 := Lib.hid O2
  have O3 := Lib.hid O3
  have B2 := Lib.hid (B1.out.trans (hb.mono hs1))
  have T2 := Lib.hid (T1.out.below hb)
  have hw1 := O1.out.base.2
  have hgy := (Ow.base ho).1
  have hne : gx ≠ gy := by omega
  clear ho hb O1 B1 T1 R1
  rw [LF.out, LG.out]
  go_wp2
  go_loopw [9, 28] (fun _ i wr => TmRel w n gx cpx f g (.slice (some ⟨gy, 0, none⟩) n cpy) i wr) (fun _ i _ => n - (intOf i).toNat)
  case atStart => exact ⟨0, by omega, rfl, O2.out, O3.out, B2.out⟩
  case round =>
    obtain ⟨m, hm1, rfl, ho1, ho2, hbel⟩ := hrel
    have OO := Lib.hid ho1
    have OP := Lib.hid ho2
    have HB := Lib.hid hbel
    have hwsz := hbel.size
    clear ho1 ho2 hbel O2 O3 B2
    by_cases hml : m < n
    · have LM := Lib.hid (PL.out m)
      have c1 : wr.cell? ⟨gx, m, none⟩ = some (.int .u64 (vl (cf f m))) := by
        rw [← PA.out m hml]; exact Ow.cell (l := prL f g m) (cap := cpx) (by rw [LM.out]; exact OO.out) (by rw [LM.out]; exact hml)
      have c2 : wr.cell? ⟨gy, m, none⟩ = some (.int .u64 (vl (cf g m))) := Ow.cell (l := g) (cap := cpy) (by rw [LG.out]; exact OP.out) (by rw [LG.out]; exact hml)
      have SM := Lib.hid (PS.out m hml)
      generalize cf f m = x at *
      generalize cf g m = y at *
      go_wp2
      go_still_tail 12, (by kernel_rfl)
      still_call (s_same (mul_F x y _))
      repeat still_step
      try refine wpStill_nil ?_
      change wpList _ _ _ _ _ wr.drew
      go_wp2_with (refine wl_storeF _ rfl (.tmp 42) (.tmp 41) rfl w.heap.size gx m n cpx (prL f g m) (x * y) rfl rfl (Ow.drewN OO.out 1) LM.out hml ?_)
      intro w3 hown3 ho3 hs3
      rw [SM.out] at hown3
      have hgB := OO.out.base.1
      have O4 := Lib.hid hown3
      have O5 := Ow.only (OP.out.drewN 1) ho3 (fun gg e eg => by
        have e1 : gy = gg := by simpa [Value.ownBlock] using e
        omega)
      have B3 := Lib.hid ((below_drewN HB.out 1).trans (ho3.below hwsz (fun gg e => by omega)))
      clear hown3 ho3 hs3 c1 c2
      go_wp2
      go_roundw
      case rel => exact ⟨m + 1, by omega, by go_num, O4.out, O5, B3.out⟩
      case measure => simp [intOf] <;> omega
    · obtain rfl : n = m := by omega
      have T3 := Lib.hid (HT.out.below HB.out)
      go_wp2_with fail
      refine (C3.out _ _ _ OO.out T3.out).mono ?_
      rintro e w4 ⟨v4, rfl, ho, hb⟩
      have O6 := Lib.hid (Ow.mono (l := trL true k (prL f g n)) ho hwsz)
      have B4 := Lib.hid (HB.out.trans (hb.mono hwsz))
      clear ho hb
      go_wp2
      go_ret2
      exact ⟨_, rfl, O6.out, B4.out⟩
theorem times_bad (zs : List Int) (v v2 : Value) (w : World) (h : Rd .u64 w v zs) (hl : ∀ k : Nat, k ≤ 10 → zs.length ≠ 2 ^ k) (hT : Tb w) :
    Calls Tryd.prog 68 #[v, v2] w (RetLE w [] 5) := by
  have CB := Lib.hid (nfwd_bad zs v w h hl hT)
  clear h hl hT
  go_enter Tryd.func68, Tryd.ntmps68
  go_wp2_with fail
  refine CB.out.mono ?_
  rintro e w1 ⟨v1, rfl, ho, hb⟩
  have B1 := Lib.hid hb
  clear ho hb
  go_wp2
  go_ret2
  exact ⟨_, rfl, Ow.nil _ _, B1.out⟩
/-- twisted -/
@[irreducible] def twL (l : List F) (y : F) (m : Nat) : List F := (List.range l.length).map fun p => if p < m then cf l p * y ^ p else 0
theorem twL_len (l : List F) (y : F) (m : Nat) : (twL l y m).length = l.length := by unfold twL; simp
theorem cf_twL (l : List F) (y : F) (m : Nat) {p : Nat} (hp : p < l.length) : cf (twL l y m) p = if p < m then cf l p * y ^ p else 0 := by unfold twL; exact cf_ofFn _ hp
theorem twL_zero (l : List F) (y : F) : twL l y 0 = List.replicate l.length 0 := by
  refine ext_cf (by rw [twL_len]; simp) (fun i hi => ?_)
  rw [twL_len] at hi
  rw [cf_twL _ _ _ hi, if_neg (by omega), cf_replicate]
theorem twL_step (l : List F) (y : F) {m : Nat} (hm : m < l.length) : (twL l y m).set m (cf l m * y ^ m) = twL l y (m + 1) := by
  refine ext_cf (by rw [List.length_set, twL_len, twL_len]) (fun p hp => ?_)
  rw [List.length_set, twL_len] at hp
  rw [cf_set _ _ _ _ (by rw [twL_len]; exact hm), cf_twL _ _ _ hp, cf_twL _ _ _ hp]
  by_cases h : m = p
  · subst h; rw [if_pos rfl, if_pos (by omega)]
  · rw [if_neg h]
    by_cases h2 : p < m
    · rw [if_pos h2, if_pos (by omega)]
    · rw [if_neg h2, if_neg (by omega)]
def TwRel (w : World) (n g : Nat) (l : List F) (y : F) (t i : Value) (wr : World) : Prop :=
  ∃ m : Nat, m ≤ n ∧ i = .int .i64 m ∧ t = .int .u64 (vl (y ^ m)) ∧ Ow w.heap.size wr (.slice (some ⟨g, 0, none⟩) n n) (twL l y m) ∧ Below w.heap.size w wr
set_option maxHeartbeats 2000000 in
set_option maxRecDepth 100000 in
theorem twist_any (zs : List Int) (v : Value) (y : F) (w : World) (h : Rd .u64 w v zs) (hz : B64 zs) (hl : zs.length ≤ 4294967296) :
    Calls Tryd.prog 69 #[v, .int .u64 (vl y)] w (RetL w (twL (zs.map toF) y zs.length)) := by
  obtain ⟨a, cap, b, off, rfl, hcap, hm, hx, hc⟩ := h.opened
  obtain ⟨fa, hfa⟩ : ∃ fa, fa = zs.map toF := ⟨_, rfl⟩
  have GA := Lib.hid (show ∀ i, cf fa i = toF (gd zs i) from fun i => by rw [hfa, cf_map])
  have hla : fa.length = zs.length := by rw [hfa, List.length_map]
  have SZ := Lib.hid (show List.replicate zs.length 0 = twL fa y 0 by rw [twL_zero, hla])
  have SL := Lib.hid (fun m => (twL_len fa y m).trans hla)
  have SS := Lib.hid (fun m (hm : m < zs.length) => (twL_step fa y (m := m) (by rw [hla]; exact hm)))
  rw [← hfa]
  have HC := Lib.hid hc
  clear h hc hfa hla
  obtain ⟨n, hn⟩ : ∃ n, n = zs.length := ⟨_, rfl⟩
  rw [← hn] at hcap hx hl SZ SL SS HC ⊢
  clear hn
  go_enter Tryd.func69, Tryd.ntmps69
  go_wp2_with (refine wl_makeF _ rfl (.tmp 10) (.tmp 10) rfl w.heap.size _ _ n w rfl rfl rfl rfl hl (Below.refl _ _) (Nat.le_refl _) ?_)
  intro g w1 _ hown1 hbel1
  rw [SZ.out] at hown1
  have O1 := Lib.hid hown1
  have B1 := Lib.hid hbel1
  clear hown1 hbel1
  go_wp2
  go_loopw [6, 7, 8, 14] (fun t _ _ i wr => TwRel w n g fa y t i wr) (fun _ _ _ i _ => n - (intOf i).toNat)
  case atStart => exact ⟨0, by omega, rfl, by rw [pow_zero, vl_one], O1.out, B1.out⟩
  case round =>
    obtain ⟨m, hm1, rfl, rfl, ho1, hbel⟩ := hrel
    have OO := Lib.hid ho1
    have HB := Lib.hid hbel
    have hwsz := hbel.size
    clear ho1 hbel O1 B1
    by_cases hml : m < n
    · obtain rfl := hx.resolve_left (by omega)
      have hca := HC.out m hml
      have hcw : wr.cell? ⟨b, off + m, none⟩ = some (.int .u64 (gd zs m)) := (HB.out.cell (p := ⟨b, off + m, none⟩) (World.block_lt_of_cell? _ _ hca)).trans hca
      have hbz := hz.get m
      have LM := Lib.hid (SL.out m)
      have SM := SS.out m hml
      rw [GA.out] at SM
      have SM := Lib.hid SM
      generalize gd zs m = x at *
      clear hca
      go_wp2_with fail
      refine (mul_xF x (y ^ m) _ hbz.1 hbz.2).mono ?_
      rintro e w' ⟨rfl, rfl⟩
      go_wp2_with (refine wl_storeF _ rfl (.tmp 24) (.tmp 23) rfl w.heap.size g m n n (twL fa y m) (toF x * y ^ m) rfl rfl OO.out LM.out hml ?_)
      intro w3 hown3 ho3 hs3
      have hgB := OO.out.base.1
      have O4 := Lib.hid hown3
      have B3 := Lib.hid (HB.out.trans (ho3.below hwsz (fun gg e => by omega)))
      clear hown3 ho3 hs3
      go_wp2_with fail
      refine (mul_F (y ^ m) y _).mono ?_
      rintro e w' ⟨rfl, rfl⟩
      rw [← pow_succ]
      go_wp2
      go_roundw
      case rel => exact ⟨m + 1, by omega, by go_num, rfl, O4.out, B3.out⟩
      case measure => simp [intOf] <;> omega
    · obtain rfl : n = m := by omega
      go_wp2
      go_ret
      exact ⟨_, rfl, OO.out, HB.out⟩
end Go.Proofs.YtkcfnbfkbmgchaaDoor.Gm
