/- The walk of the reference's Product. -/
import Derived.Test.YtjljndnpefdifaaRp
import Derived.Test.YtjljndnpefdifaaPla
namespace Go.Proofs.Ytjljndnpefdifaa.Gm
open Go.RowKit
theorem mulL_take (l m : List F) (hl : l ≠ []) (hm : m ≠ []) (k : Nat) (h : k < l.length + m.length - 1) : (mulL l m).take (k+1) = (mulL l m).take k ++ [cv (cf l) (cf m) k] := by
  rw [take_snoc_F _ _ (by rw [mulL_len hl hm]; exact h), cf_mulL]
def ProdIn (fa fb : List F) (k : Nat) (w : World) (n i : Value) (wr : World) : Prop :=
  ∃ m : Nat, m ≤ k + 1 ∧ m ≤ fa.length ∧ k + 1 ≤ m + fb.length ∧ i = .int .i64 m ∧ n = .int .u64 (vl (S m (fun j => cf fa j * cf fb (k - j)))) ∧ Below w.heap.size w wr
theorem prod_start (fa fb : List F) (k m : Nat) (h : m + fb.length = k + 1 ∨ m = 0) : S m (fun j => cf fa j * cf fb (k - j)) = 0 := by
  rcases h with h | h
  · exact S_all0 (fun j hj => by rw [cf_ge (l := fb) (by omega)]; grind)
  · rw [h, S_zero]
theorem prod_end (fa fb : List F) (k m : Nat) (h1 : m ≤ k + 1) (h : m = k + 1 ∨ m = fa.length) : S m (fun j => cf fa j * cf fb (k - j)) = cv (cf fa) (cf fb) k := by
  rcases h with h | h
  · rw [h]; rfl
  · exact (S_more h1 (fun i hi _ => by rw [cf_ge (l := fa) (by omega)]; grind)).symm
set_option maxHeartbeats 4000000 in
theorem rproduct_any (zs ys : List Int) (v v2 : Value) (w : World) (h : Rd .u64 w v zs) (h2 : Rd .u64 w v2 ys) (hz : B64 zs) (hy : B64 ys) (hl : zs.length ≤ 100000) (hl2 : ys.length ≤ 100000) :
    Calls Try.prog 45 #[v, v2] w (RetL w (mulL (zs.map toF) (ys.map toF))) := by
  obtain ⟨a, cap, b, off, rfl, hcap, hm, hx, hc⟩ := h
  obtain ⟨a2, cap2, b2, off2, rfl, hcap2, hm2, hx2, hc2⟩ := h2
  by_cases h0 : zs = []
  · have hmul : mulL (zs.map toF) (ys.map toF) = [] := by unfold mulL; rw [if_pos (.inl (by simp [h0]))]
    rw [hmul]
    subst h0
    clear hx hc hx2 hc2 hmul
    go_enter Try.func45, Try.ntmps45
    go_wp2
    go_ret
    exact ⟨_, rfl, Ow.nil _ _, Below.refl _ _⟩
  by_cases h02 : ys = []
  · have hmul : mulL (zs.map toF) (ys.map toF) = [] := by unfold mulL; rw [if_pos (.inr (by simp [h02]))]
    rw [hmul]
    subst h02
    have hb : ((zs.length : Int) == 0) = false := by rw [beq_eq_false_iff_ne]; have := List.length_pos_iff.2 h0; omega
    clear hx hc hx2 hc2 hmul h0
    go_enter Try.func45, Try.ntmps45
    go_wp2
    go_ret
    exact ⟨_, rfl, Ow.nil _ _, Below.refl _ _⟩
  obtain rfl := hx.resolve_left h0
  obtain rfl := hx2.resolve_left h02
  have hp1 := List.length_pos_iff.2 h0
  have hp2 := List.length_pos_iff.2 h02
  have hb1 : ((zs.length : Int) == 0) = false := by rw [beq_eq_false_iff_ne]; omega
  have hb2 : ((ys.length : Int) == 0) = false := by rw [beq_eq_false_iff_ne]; omega
  have hb1' : (zs.length == 0) = false := by rw [beq_eq_false_iff_ne]; omega
  have hb2' : (ys.length == 0) = false := by rw [beq_eq_false_iff_ne]; omega
  obtain ⟨fa, hfa⟩ : ∃ fa, fa = zs.map toF := ⟨_, rfl⟩
  obtain ⟨fb, hfb⟩ : ∃ fb, fb = ys.map toF := ⟨_, rfl⟩
  have La := Lib.hid (show fa.length = zs.length by rw [hfa, List.length_map])
  have Lb := Lib.hid (show fb.length = ys.length by rw [hfb, List.length_map])
  have Ga := Lib.hid (show ∀ i, cf fa i = toF (gd zs i) from fun i => by rw [hfa, cf_map])
  have Gb := Lib.hid (show ∀ i, cf fb i = toF (gd ys i) from fun i => by rw [hfb, cf_map])
  have Na := Lib.hid (show fa ≠ [] by rw [hfa]; simpa using h0)
  have Nb := Lib.hid (show fb ≠ [] by rw [hfb]; simpa using h02)
  rw [← hfa, ← hfb]
  have Hc := Lib.hid hc
  have Hc2 := Lib.hid hc2
  clear hfa hfb hc hc2 h0 h02 hx hx2
  obtain ⟨n, hn⟩ : ∃ n, n = zs.length + ys.length - 1 := ⟨_, rfl⟩
  have Hn := Lib.hid hn
  have hn1 : n + 1 ≤ zs.length + ys.length := by omega
  have hn2 : zs.length + ys.length ≤ n + 1 := by omega
  clear hn
  go_enter Try.func45, Try.ntmps45
  go_wp2
  go_loopw [5, 6, 7, 8] (fun v i _ _ wr => SumRel w.heap.size w (mulL fa fb) n v i wr) (fun _ i _ _ _ => n - (intOf i).toNat)
  case atStart => exact ⟨0, by omega, rfl, Ow.nil _ _, Below.refl _ _⟩
  case round =>
    obtain ⟨k, hk, rfl, hown, hbel⟩ := hrel
    have Ho := Lib.hid hown
    have Hb := Lib.hid hbel
    have hsz := hbel.size
    clear hown hbel
    obtain ⟨wo, hwo⟩ : ∃ wo : World, wo = wr := ⟨_, rfl⟩
    subst hwo
    by_cases hlt : k < n
    · have HT := Lib.hid (mulL_take fa fb Na.out Nb.out k (by rw [La.out, Lb.out]; omega))
      have hln : ((mulL fa fb).take k).length ≤ 1000000 := by rw [List.length_take]; omega
      rcases (show ys.length < k + 1 ∨ k + 1 ≤ ys.length by omega) with hlo | hlo
      all_goals
        go_wp2
        go_loopw [7, 8] (fun n' i' w2 => ProdIn fa fb k wo n' i' w2) (fun _ i' _ => zs.length - (intOf i').toNat)
        case atStart =>
          first
            | exact ⟨k + 1 - ys.length, by omega, by rw [La.out]; omega, by rw [Lb.out]; omega, by congr 1; omega, by rw [prod_start fa fb k _ (.inl (by rw [Lb.out]; omega)), vl_zero], Below.refl _ _⟩
            | exact ⟨0, by omega, by omega, by rw [Lb.out]; omega, rfl, by rw [prod_start fa fb k _ (.inr rfl), vl_zero], Below.refl _ _⟩
        case round =>
          obtain ⟨m, hm1, hm2', hm3', rfl, rfl, hbel2⟩ := hrel
          have hm2 : m ≤ zs.length := by rw [← La.out]; exact hm2'
          have hm3 : k + 1 ≤ m + ys.length := by rw [← Lb.out]; exact hm3'
          have Hb2 := Lib.hid hbel2
          have hsz2 := hbel2.size
          by_cases e1 : m < zs.length ∧ m ≤ k
          · obtain ⟨e1, e2⟩ := e1
            have hcw := Hc.out m e1
            have hb' : b < w.heap.size := World.block_lt_of_cell? _ _ hcw
            have hcm : wr.cell? ⟨b, off + m, none⟩ = some (.int .u64 (gd zs m)) := (hbel2.cell (p := ⟨b, off + m, none⟩) (Nat.lt_of_lt_of_le hb' hsz)).trans ((Hb.out.cell (p := ⟨b, off + m, none⟩) hb').trans hcw)
            have hcw2 := Hc2.out (k - m) (by omega)
            have hb2' : b2 < w.heap.size := World.block_lt_of_cell? _ _ hcw2
            have hcm2 : wr.cell? ⟨b2, off2 + (k - m), none⟩ = some (.int .u64 (gd ys (k - m))) := (hbel2.cell (p := ⟨b2, off2 + (k - m), none⟩) (Nat.lt_of_lt_of_le hb2' hsz)).trans ((Hb.out.cell (p := ⟨b2, off2 + (k - m), none⟩) hb2').trans hcw2)
            have hbm := hz.get m
            have hbm2 := hy.get (k - m)
            have Gam := Lib.hid (Ga.out m)
            have Gbm := Lib.hid (Gb.out (k - m))
            clear hcw hcw2 hbel2 hb' hb2' hm2' hm3'
            have ei1 : (0 : Int) ≤ (k : Int) - (m : Int) := by omega
            have ei2 : ((k : Int) - (m : Int)).toNat = k - m := by omega
            have ei3 : (k : Int) - (m : Int) < (ys.length : Int) := by omega
            go_wp2
            go_quiet ((first | (go_at_call 47; exact q_same (rmul_any _ _ _ hbm.1 hbm.2 hbm2.1 hbm2.2)) | (go_at_call 51; exact q_same (radd_F _ _ _))))
            go_wp2
            go_roundw
            case rel => exact ⟨m + 1, by omega, by rw [La.out]; omega, by rw [Lb.out]; omega, by go_num, by rw [← Gam.out, ← Gbm.out]; rfl, below_drewN Hb2.out _⟩
            case measure => simp [intOf] <;> omega
          · have HE := Lib.hid (prod_end fa fb k m hm1 (by rw [La.out]; omega))
            have HB := Lib.hid (Hb.out.trans (hbel2.mono hsz))
            have Ho2 := Lib.hid (Ho.out.below hbel2)
            have hsz3 : w.heap.size ≤ wr.heap.size := by omega
            clear hbel2 hm2' hm3'
            by_cases e2 : m < zs.length
            all_goals
              go_wp2_with (at_builtin; refine wl_app _ rfl (.tmp 57) (.tmp 59) rfl w.heap.size _ ((mulL fa fb).take k) (S m (fun j => cf fa j * cf fb (k - j))) w rfl rfl Ho2.out HB.out hsz3 hln ?_)
              intro v' w1 hown1 hbel1
              rw [HE.out, ← HT.out] at hown1
              have Ho1 := Lib.hid hown1
              have Hb1 := Lib.hid hbel1
              clear hown1 hbel1
              go_wp2
              go_roundw
              case rel => exact ⟨k + 1, by omega, by go_num, Ho1.out, Hb1.out⟩
              case measure => simp [intOf] <;> omega
    · have hkf : (mulL fa fb).take k = mulL fa fb := by rw [List.take_of_length_le]; rw [mulL_len Na.out Nb.out, La.out, Lb.out]; omega
      have HK := Lib.hid hkf
      clear hkf
      go_wp2
      go_ret
      exact ⟨_, rfl, by have := Ho.out; rw [HK.out] at this; exact this, Hb.out⟩
end Go.Proofs.Ytjljndnpefdifaa.Gm
