/- The walks of poly.mul and poly.Mul. -/
import Derived.Test.YtjljndnpefdifaaPa
namespace Go.Proofs.Ytjljndnpefdifaa.Gm
open Go.RowKit
/-- the product's array, behind the rows 0 .. i - 1 and j places of row i -/
def pmv (fa fb : List F) (i j m : Nat) : F := S (fa.length) (fun p => if p < i ∨ (p = i ∧ p ≤ m ∧ m - p < j) then cf fa p * (if p ≤ m then cf fb (m - p) else 0) else 0)
theorem pmv_zero (fa fb : List F) (m : Nat) : pmv fa fb 0 0 m = 0 := S_all0 (fun p _ => by rw [if_neg (by omega)])
theorem pmv_row (fa fb : List F) (i m : Nat) : pmv fa fb i fb.length m = pmv fa fb (i+1) 0 m := by
  refine S_congr (fun p _ => ?_)
  have h := @cf_ge fb (m - p)
  generalize cf fb (m - p) = u at *
  generalize cf fa p = v at *
  grind
theorem pmv_step (fa fb : List F) (i j m : Nat) (hi : i < fa.length) : pmv fa fb i (j+1) m = pmv fa fb i j m + (if m = i + j then cf fa i * cf fb j else 0) := by
  unfold pmv
  have e : S fa.length (fun p => if p = i then (if m = i + j then cf fa i * cf fb j else 0) else 0) = (if m = i + j then cf fa i * cf fb j else 0) := by
    rw [S_single hi (fun p _ hne => by rw [if_neg hne]), if_pos rfl]
  rw [← e, ← S_add]
  refine S_congr (fun p _ => ?_)
  by_cases h1 : p = i
  · subst h1
    by_cases h2 : m = p + j
    · subst h2
      rw [show p + j - p = j by omega]
      generalize cf fb j = u
      generalize cf fa p = v
      grind
    · generalize cf fb (m - p) = u
      generalize cf fb j = u'
      generalize cf fa p = v
      grind
  · generalize cf fb (m - p) = u
    generalize cf fa p = v
    grind
theorem pmv_end (fa fb : List F) (m : Nat) : pmv fa fb fa.length 0 m = cv (cf fa) (cf fb) m := by
  unfold pmv cv
  rw [S_congr (g := fun p => if p ≤ m then cf fa p * cf fb (m - p) else 0) (fun p hp => by
    generalize cf fb (m - p) = u
    generalize cf fa p = v
    grind)]
  by_cases h : fa.length ≤ m + 1
  · rw [S_more (m := fa.length) h (fun i hi _ => by rw [cf_ge (l := fa) hi]; grind)]
    exact S_congr (fun p hp => by rw [if_pos (by omega)])
  · rw [S_more (m := m + 1) (by omega) (fun i hi _ => by rw [if_neg (by omega)])]
    exact S_congr (fun p hp => by rw [if_pos (by omega)])
def MulRel (B : Nat) (w : World) (fa fb : List F) (n g : Nat) (i : Value) (wr : World) : Prop :=
  ∃ (k : Nat) (l : List F), k ≤ fa.length ∧ i = .int .i64 k ∧ l.length = n ∧ (∀ m, m < n → cf l m = pmv fa fb k 0 m) ∧ Ow B wr (.slice (some ⟨g, 0, none⟩) n n) l ∧ Below B w wr
def MulIn (B : Nat) (w : World) (fa fb : List F) (n g i : Nat) (jv : Value) (wr : World) : Prop :=
  ∃ (j : Nat) (l : List F), j ≤ fb.length ∧ jv = .int .i64 j ∧ l.length = n ∧ (∀ m, m < n → cf l m = pmv fa fb i j m) ∧ Ow B wr (.slice (some ⟨g, 0, none⟩) n n) l ∧ Below B w wr
theorem mulin_step {fa fb l : List F} {i j n : Nat} (hi : i < fa.length) (hj : i + j < n) (hl : l.length = n) (h : ∀ m, m < n → cf l m = pmv fa fb i j m) {y : F} (hy : y = cf l (i + j) + cf fa i * cf fb j) :
    ∀ m, m < n → cf (l.set (i + j) y) m = pmv fa fb i (j+1) m := by
  intro m hm
  rw [pmv_step fa fb i j m hi, cf_set _ _ _ _ (by omega)]
  by_cases he : i + j = m
  · rw [if_pos he, if_pos he.symm, hy, ← he, h _ hj]
  · rw [if_neg he, if_neg (fun e => he e.symm), h m hm]; grind
theorem mul_empty (zs ys : List Int) (v v2 : Value) (w : World) (h : Rd .u64 w v zs) (h2 : Rd .u64 w v2 ys) (he : zs.length ≤ 0 ∨ ys.length ≤ 0) :
    Calls Try.prog 43 #[v, v2] w (RetL w (mulL (zs.map toF) (ys.map toF))) := by
  obtain ⟨a, cap, rfl, hcap, hm⟩ := h.shape
  obtain ⟨a2, cap2, rfl, hcap2, hm2⟩ := h2.shape
  clear h h2
  have hmul : mulL (zs.map toF) (ys.map toF) = [] := by
    unfold mulL; rw [if_pos ?_]
    rcases he with he | he
    · left; have : zs = [] := List.length_eq_zero_iff.1 (by omega)
      rw [this]; rfl
    · right; have : ys = [] := List.length_eq_zero_iff.1 (by omega)
      rw [this]; rfl
  rw [hmul]
  clear hmul
  by_cases h0 : zs.length ≤ 0
  · have hb : ((zs.length : Int) == 0) = true := by rw [beq_iff_eq]; omega
    have hb' : (zs.length == 0) = true := by rw [beq_iff_eq]; omega
    clear he
    go_enter Try.func43, Try.ntmps43
    go_wp2
    go_ret
    exact ⟨_, rfl, Ow.nil _ _, Below.refl _ _⟩
  · have hb : ((zs.length : Int) == 0) = false := by rw [beq_eq_false_iff_ne]; omega
    have hb2 : ((ys.length : Int) == 0) = true := by rw [beq_iff_eq]; omega
    have hb2' : (ys.length == 0) = true := by rw [beq_iff_eq]; omega
    clear he
    go_enter Try.func43, Try.ntmps43
    go_wp2
    go_ret
    exact ⟨_, rfl, Ow.nil _ _, Below.refl _ _⟩
set_option maxHeartbeats 4000000 in
set_option maxRecDepth 100000 in
theorem mul_list (zs ys : List Int) (v v2 : Value) (w : World) (h : Rd .u64 w v zs) (h2 : Rd .u64 w v2 ys) (hz : B64 zs) (hy : B64 ys) (hl : zs.length ≤ 100000) (hl2 : ys.length ≤ 100000) :
    Calls Try.prog 43 #[v, v2] w (RetL w (mulL (zs.map toF) (ys.map toF))) := by
  by_cases he : zs.length ≤ 0 ∨ ys.length ≤ 0
  · exact mul_empty zs ys v v2 w h h2 he
  obtain ⟨a, cap, b, off, rfl, hcap, hm, hx, hc⟩ := h.opened
  obtain ⟨a2, cap2, b2, off2, rfl, hcap2, hm2, hx2, hc2⟩ := h2.opened
  have hp1 : 0 < zs.length := by omega
  have hp2 : 0 < ys.length := by omega
  obtain rfl := hx.resolve_left (by omega)
  obtain rfl := hx2.resolve_left (by omega)
  clear h h2 he
  have hb1 : ((zs.length : Int) == 0) = false := by rw [beq_eq_false_iff_ne]; omega
  have hb2 : ((ys.length : Int) == 0) = false := by rw [beq_eq_false_iff_ne]; omega
  have hb1' : (zs.length == 0) = false := by rw [beq_eq_false_iff_ne]; omega
  have hb2' : (ys.length == 0) = false := by rw [beq_eq_false_iff_ne]; omega
  obtain ⟨fa, hfa⟩ : ∃ fa, fa = zs.map toF := ⟨_, rfl⟩
  obtain ⟨fb, hfb⟩ : ∃ fb, fb = ys.map toF := ⟨_, rfl⟩
  have La := Lib.hid (show fa.length = zs.length by rw [hfa, List.length_map])
  have Lb := Lib.hid (show fb.length = ys.length by rw [hfb, List.length_map])
  have Ga := Lib.hid (show ∀ i, cf fa i = toF (gd zs i) from fun i => by rw [hfa, cf_map])
  have Gb := Lib.hid (show ∀ i, cf fb i = toF (gd ys i) from fun i => by rw [hfb, cf_map])
  have Na := Lib.hid (show fa ≠ [] by intro e; have := La.out; rw [e] at this; simp at this; omega)
  have Nb := Lib.hid (show fb ≠ [] by intro e; have := Lb.out; rw [e] at this; simp at this; omega)
  rw [← hfa, ← hfb]
  have Hc := Lib.hid hc
  have Hc2 := Lib.hid hc2
  clear hfa hfb hc hc2
  obtain ⟨n, hn⟩ : ∃ n, n = zs.length + ys.length - 1 := ⟨_, rfl⟩
  have hnm : n ≤ 1000000 := by omega
  have hn1 : n + 1 ≤ zs.length + ys.length := by omega
  have hn2 : zs.length + ys.length ≤ n + 1 := by omega
  have Hn := Lib.hid hn
  clear hn
  go_enter Try.func43, Try.ntmps43
  have HL := Lib.hid (show (zs.length : Int) + (ys.length : Int) - 1 = (n : Int) by omega)
  go_wp2_with (refine wl_make _ rfl (.tmp 23) (.tmp 23) rfl w.heap.size _ _ n w rfl rfl HL.out HL.out hnm (Below.refl _ _) (Nat.le_refl _) ?_)
  intro g w1 _ hown1 hbel1
  have Ho1 := Lib.hid hown1
  have Hb1 := Lib.hid hbel1
  have hwsz1 := hbel1.size
  clear hown1 hbel1
  go_wp2
  go_loopw [6, 7, 8, 9, 27] (fun _ _ _ _ i wr => MulRel w.heap.size w fa fb n g i wr) (fun _ _ _ _ i _ => zs.length - (intOf i).toNat)
  case atStart => exact ⟨0, List.replicate n 0, by omega, rfl, by simp, fun m _ => by rw [cf_replicate, pmv_zero], Ho1.out, Hb1.out⟩
  case round =>
    obtain ⟨k, l, hk', rfl, hll, h1, hown, hbel⟩ := hrel
    have hk : k ≤ zs.length := by rw [← La.out]; exact hk'
    have H1 := Lib.hid h1
    have Ho := Lib.hid hown
    have Hb := Lib.hid hbel
    have Hll := Lib.hid hll
    have hwsz := hbel.size
    obtain ⟨wo, hwo⟩ : ∃ wo : World, wo = wr := ⟨_, rfl⟩
    subst hwo
    by_cases hkn : k < zs.length
    · have hcw := Hc.out k hkn
      have hca : wo.cell? ⟨b, off + k, none⟩ = some (.int .u64 (gd zs k)) := (hbel.cell (p := ⟨b, off + k, none⟩) (World.block_lt_of_cell? _ _ hcw)).trans hcw
      have hba := hz.get k
      have HGa := Lib.hid (Ga.out k)
      clear hown hbel hll h1 hcw hk'
      go_wp2
      go_loopw [8, 9, 34] (fun _ _ j wr => MulIn w.heap.size w fa fb n g k j wr) (fun _ _ j _ => ys.length - (intOf j).toNat)
      case atStart => exact ⟨0, l, by omega, rfl, Hll.out, H1.out, Ho.out, Hb.out⟩
      case round =>
        obtain ⟨j, l2, hj', rfl, hll2, h12, hown2, hbel2⟩ := hrel
        have hj : j ≤ ys.length := by rw [← Lb.out]; exact hj'
        have H12 := Lib.hid h12
        have Ho2 := Lib.hid hown2
        have Hb2 := Lib.hid hbel2
        have Hll2 := Lib.hid hll2
        have hwsz2 := hbel2.size
        by_cases hjn : j < ys.length
        · have hkj : k + j < n := by omega
          have hcw2 := Hc2.out j hjn
          have hcb : wr.cell? ⟨b2, off2 + j, none⟩ = some (.int .u64 (gd ys j)) := (hbel2.cell (p := ⟨b2, off2 + j, none⟩) (World.block_lt_of_cell? _ _ hcw2)).trans hcw2
          have hbb := hy.get j
          have HGb := Lib.hid (Gb.out j)
          have hco : wr.cell? ⟨g, k + j, none⟩ = some (.int .u64 (vl (cf l2 (k + j)))) := by
            have h5 := Ho2.out
            have h6 := Hll2.out
            exact Ow.cell (l := l2) (cap := n) (by rw [h6]; exact h5) (by omega)
          have ek : ((k : Int) + (j : Int)).toNat = k + j := by omega
          have ek2 : (k : Int) + (j : Int) < (n : Int) := by omega
          clear hown2 hbel2 hll2 h12 hcw2 hj'
          have ew : IntKind.i64.wrap ((k : Int) + (j : Int)) = (k : Int) + (j : Int) := IntWalk.i64_in _ (by omega)
          have ew2 : (0 : Int) ≤ (k : Int) + (j : Int) := by omega
          go_wp2
          go_still_tail 15, (by kernel_rfl)
          still_call (s_same (mul_any _ _ _ hba.1 hba.2 hbb.1 hbb.2))
          repeat still_step
          still_call (s_same (add_F _ _ _))
          repeat still_step
          refine wpStill_nil ?_
          change wpList _ _ _ _ _ wr.drew
          clear ew ew2 ek ek2
          go_wp2_with (refine wl_store _ rfl (.tmp 53) (.tmp 52) rfl w.heap.size g (k+j) n n l2 (cf l2 (k+j) + toF (gd zs k) * toF (gd ys j)) w rfl rfl (Ow.drewN Ho2.out 1) Hll2.out hkj (below_drewN Hb2.out 1) ?_)
          intro w3 hown3 hbel3 _
          have Ho3 := Lib.hid hown3
          have Hb3 := Lib.hid hbel3
          clear hown3 hbel3
          go_wp2
          go_roundw
          case rel => exact ⟨j + 1, _, by rw [Lb.out]; omega, by go_num, by rw [List.length_set]; exact Hll2.out, mulin_step (by rw [La.out]; exact hkn) hkj Hll2.out H12.out (by rw [HGa.out, HGb.out]), Ho3.out, Hb3.out⟩
          case measure => simp [intOf] <;> omega
        · obtain rfl : j = ys.length := by omega
          have hrow : ∀ m, m < n → cf l2 m = pmv fa fb (k+1) 0 m := fun m hm => by rw [H12.out m hm, ← Lb.out, pmv_row]
          have HR := Lib.hid hrow
          clear hrow hown2 hbel2 hll2 h12 hj'
          go_wp2
          go_roundw
          case rel => exact ⟨k + 1, l2, by rw [La.out]; omega, by go_num, Hll2.out, HR.out, Ho2.out, Hb2.out⟩
          case measure => simp [intOf] <;> omega
    · obtain rfl : k = zs.length := by omega
      have hle : l = mulL fa fb := ext_cf (by rw [Hll.out, mulL_len Na.out Nb.out, La.out, Lb.out]; exact Hn.out) (fun m hm => by rw [H1.out m (by have := Hll.out; omega), ← La.out, pmv_end, cf_mulL])
      have hnl : n = (mulL fa fb).length := by rw [← hle]; exact Hll.out.symm
      have Hle := Lib.hid hle
      clear hle hnl hown hbel hll h1 hk'
      go_wp2
      go_ret
      exact ⟨_, rfl, by have h5 := Ho.out; rw [Hle.out] at h5; exact h5, Hb.out⟩
end Go.Proofs.Ytjljndnpefdifaa.Gm
