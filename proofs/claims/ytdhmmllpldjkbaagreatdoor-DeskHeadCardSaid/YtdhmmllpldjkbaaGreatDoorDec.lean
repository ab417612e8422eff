/- Laid together by wip/merge.py: Rr Ro Rq Pm Pt Rt Ru Spe Sp. -/
import Derived.Test.YtdhmmllpldjkbaaGreatDoorGb
import Derived.Test.YtdhmmllpldjkbaaGreatDoorPla
import Derived.Test.YtdhmmllpldjkbaaGreatDoorGa
import Derived.Test.YtdhmmllpldjkbaaGreatDoorGd
import Derived.Deep.RegionHeld3
/- (Rr) -/
namespace Go.Proofs.YtdhmmllpldjkbaaGreatDoor.Gm
open Go.RowKit
theorem mulL_take (l m : List F) (hl : l ≠ []) (hm : m ≠ []) (k : Nat) (h : k < l.length + m.length - 1) : (mulL l m).take (k+1) = (mulL l m).take k ++ [cv (cf l) (cf m) k] := by
  rw [take_snoc_F _ _ (by rw [mulL_len hl hm]; exact h), cf_mulL]
def ProdIn (fa fb : List F) (k : Nat) (w : World) (n i : Value) (wr : World) : Prop :=
  ∃ m : Nat, m ≤ k + 1 ∧ m ≤ fa.length ∧ k + 1 ≤ m + fb.length ∧ i = .int .i64 m ∧ n = .int .u64 (vl (S m (fun j => cf fa j * cf fb (k - j)))) ∧ Below w.heap.size w wr
theorem prod_start (fa fb : List F) (k m : Nat) (h : m + fb.length = k + 1 ∨ m = 0) : S m (fun j => cf fa j * cf fb (k - j)) = 0 := by
  rcases h with h | h
  · exact S_all0 (fun j hj => by rw [cf_ge (l := fb) (by omega)]; grind)
  · rw [h, S_zero]
theorem prod_end (fa fb : List F) (k m : Nat) (h1 : m ≤ k + 1) (h : m = k + 1 ∨ m = fa.length) : S m (fun j => cf fa j * cf fb (k - j)) = cv (cf fa) (cf fb) k := by
  rcases h with h | h
  · rw [h]; rfl
  · exact (S_more h1 (fun i hi _ => by rw [cf_ge (l := fa) (by omega)]; grind)).symm
set_option maxHeartbeats 4000000 in
theorem rproduct_any (zs ys : List Int) (v v2 : Value) (w : World) (h : Rd .u64 w v zs) (h2 : Rd .u64 w v2 ys) (hz : B64 zs) (hy : B64 ys) (hl : zs.length ≤ 100000) (hl2 : ys.length ≤ 100000) :
    Calls Tryz.prog 41 #[v, v2] w (RetL w (mulL (zs.map toF) (ys.map toF))) := by
  obtain ⟨a, cap, b, off, rfl, hcap, hm, hx, hc⟩ := h
  obtain ⟨a2, cap2, b2, off2, rfl, hcap2, hm2, hx2, hc2⟩ := h2
  by_cases h0 : zs = []
  · have hmul : mulL (zs.map toF) (ys.map toF) = [] := by unfold mulL; rw [if_pos (.inl (by simp [h0]))]
    rw [hmul]
    subst h0
    clear hx hc hx2 hc2 hmul
    go_enter Tryz.func41, Tryz.ntmps41
    go_wp2
    go_ret
    exact ⟨_, rfl, Ow.nil _ _, Below.refl _ _⟩
  by_cases h02 : ys = []
  · have hmul : mulL (zs.map toF) (ys.map toF) = [] := by unfold mulL; rw [if_pos (.inr (by simp [h02]))]
    rw [hmul]
    subst h02
    have hb : ((zs.length : Int) == 0) = false := by rw [beq_eq_false_iff_ne]; have := List.length_pos_iff.2 h0; omega
    clear hx hc hx2 hc2 hmul h0
    go_enter Tryz.func41, Tryz.ntmps41
    go_wp2
    go_ret
    exact ⟨_, rfl, Ow.nil _ _, Below.refl _ _⟩
  obtain rfl := hx.resolve_left h0
  obtain rfl := hx2.resolve_left h02
  have hp1 := List.length_pos_iff.2 h0
  have hp2 := List.length_pos_iff.2 h02
  have hb1 : ((zs.length : Int) == 0) = false := by rw [beq_eq_false_iff_ne]; omega
  have hb2 : ((ys.length : Int) == 0) = false := by rw [beq_eq_false_iff_ne]; omega
  have hb1' : (zs.length == 0) = false := by rw [beq_eq_false_iff_ne]; omega
  have hb2' : (ys.length == 0) = false := by rw [beq_eq_false_iff_ne]; omega
  obtain ⟨fa, hfa⟩ : ∃ fa, fa = zs.map toF := ⟨_, rfl⟩
  obtain ⟨fb, hfb⟩ : ∃ fb, fb = ys.map toF := ⟨_, rfl⟩
  have La := Lib.hid (show fa.length = zs.length by rw [hfa, List.length_map])
  have Lb := Lib.hid (show fb.length = ys.length by rw [hfb, List.length_map])
  have Ga := Lib.hid (show ∀ i, cf fa i = toF (gd zs i) from fun i => by rw [hfa, cf_map])
  have Gb := Lib.hid (show ∀ i, cf fb i = toF (gd ys i) from fun i => by rw [hfb, cf_map])
  have Na := Lib.hid (show fa ≠ [] by rw [hfa]; simpa using h0)
  have Nb := Lib.hid (show fb ≠ [] by rw [hfb]; simpa using h02)
  rw [← hfa, ← hfb]
  have Hc := Lib.hid hc
  have Hc2 := Lib.hid hc2
  clear hfa hfb hc hc2 h0 h02 hx hx2
  obtain ⟨n, hn⟩ : ∃ n, n = zs.length + ys.length - 1 := ⟨_, rfl⟩
  have Hn := Lib.hid hn
  have hn1 : n + 1 ≤ zs.length + ys.length := by omega
  have hn2 : zs.length + ys.length ≤ n + 1 := by omega
  clear hn
  go_enter Tryz.func41, Tryz.ntmps41
  go_wp2
  go_loopw [5, 6, 7, 8] (fun v i _ _ wr => SumRel w.heap.size w (mulL fa fb) n v i wr) (fun _ i _ _ _ => n - (intOf i).toNat)
  case atStart => exact ⟨0, by omega, rfl, Ow.nil _ _, Below.refl _ _⟩
  case round =>
    obtain ⟨k, hk, rfl, hown, hbel⟩ := hrel
    have Ho := Lib.hid hown
    have Hb := Lib.hid hbel
    have hsz := hbel.size
    clear hown hbel
    obtain ⟨wo, hwo⟩ : ∃ wo : World, wo = wr := ⟨_, rfl⟩
    subst hwo
    by_cases hlt : k < n
    · have HT := Lib.hid (mulL_take fa fb Na.out Nb.out k (by rw [La.out, Lb.out]; omega))
      have hln : ((mulL fa fb).take k).length ≤ 1000000 := by rw [List.length_take]; omega
      rcases (show ys.length < k + 1 ∨ k + 1 ≤ ys.length by omega) with hlo | hlo
      all_goals
        go_wp2
        go_loopw [7, 8] (fun n' i' w2 => ProdIn fa fb k wo n' i' w2) (fun _ i' _ => zs.length - (intOf i').toNat)
        case atStart =>
          first
            | exact ⟨k + 1 - ys.length, by omega, by rw [La.out]; omega, by rw [Lb.out]; omega, by congr 1; omega, by rw [prod_start fa fb k _ (.inl (by rw [Lb.out]; omega)), vl_zero], Below.refl _ _⟩
            | exact ⟨0, by omega, by omega, by rw [Lb.out]; omega, rfl, by rw [prod_start fa fb k _ (.inr rfl), vl_zero], Below.refl _ _⟩
        case round =>
          obtain ⟨m, hm1, hm2', hm3', rfl, rfl, hbel2⟩ := hrel
          have hm2 : m ≤ zs.length := by rw [← La.out]; exact hm2'
          have hm3 : k + 1 ≤ m + ys.length := by rw [← Lb.out]; exact hm3'
          have Hb2 := Lib.hid hbel2
          have hsz2 := hbel2.size
          by_cases e1 : m < zs.length ∧ m ≤ k
          · obtain ⟨e1, e2⟩ := e1
            have hcw := Hc.out m e1
            have hb' : b < w.heap.size := World.block_lt_of_cell? _ _ hcw
            have hcm : wr.cell? ⟨b, off + m, none⟩ = some (.int .u64 (gd zs m)) := (hbel2.cell (p := ⟨b, off + m, none⟩) (Nat.lt_of_lt_of_le hb' hsz)).trans ((Hb.out.cell (p := ⟨b, off + m, none⟩) hb').trans hcw)
            have hcw2 := Hc2.out (k - m) (by omega)
            have hb2' : b2 < w.heap.size := World.block_lt_of_cell? _ _ hcw2
            have hcm2 : wr.cell? ⟨b2, off2 + (k - m), none⟩ = some (.int .u64 (gd ys (k - m))) := (hbel2.cell (p := ⟨b2, off2 + (k - m), none⟩) (Nat.lt_of_lt_of_le hb2' hsz)).trans ((Hb.out.cell (p := ⟨b2, off2 + (k - m), none⟩) hb2').trans hcw2)
            have hbm := hz.get m
            have hbm2 := hy.get (k - m)
            have Gam := Lib.hid (Ga.out m)
            have Gbm := Lib.hid (Gb.out (k - m))
            clear hcw hcw2 hbel2 hb' hb2' hm2' hm3'
            have ei1 : (0 : Int) ≤ (k : Int) - (m : Int) := by omega
            have ei2 : ((k : Int) - (m : Int)).toNat = k - m := by omega
            have ei3 : (k : Int) - (m : Int) < (ys.length : Int) := by omega
            go_wp2
            go_quiet ((first | (go_at_call 72; exact q_same (rmul_any _ _ _ hbm.1 hbm.2 hbm2.1 hbm2.2)) | (go_at_call 71; exact q_same (radd_F _ _ _))))
            go_wp2
            go_roundw
            case rel => exact ⟨m + 1, by omega, by rw [La.out]; omega, by rw [Lb.out]; omega, by go_num, by rw [← Gam.out, ← Gbm.out]; rfl, below_drewN Hb2.out _⟩
            case measure => simp [intOf] <;> omega
          · have HE := Lib.hid (prod_end fa fb k m hm1 (by rw [La.out]; omega))
            have HB := Lib.hid (Hb.out.trans (hbel2.mono hsz))
            have Ho2 := Lib.hid (Ho.out.below hbel2)
            have hsz3 : w.heap.size ≤ wr.heap.size := by omega
            clear hbel2 hm2' hm3'
            by_cases e2 : m < zs.length
            all_goals
              go_wp2_with (at_builtin; refine wl_app _ rfl (.tmp 57) (.tmp 59) rfl w.heap.size _ ((mulL fa fb).take k) (S m (fun j => cf fa j * cf fb (k - j))) w rfl rfl Ho2.out HB.out hsz3 hln ?_)
              intro v' w1 hown1 hbel1
              rw [HE.out, ← HT.out] at hown1
              have Ho1 := Lib.hid hown1
              have Hb1 := Lib.hid hbel1
              clear hown1 hbel1
              go_wp2
              go_roundw
              case rel => exact ⟨k + 1, by omega, by go_num, Ho1.out, Hb1.out⟩
              case measure => simp [intOf] <;> omega
    · have hkf : (mulL fa fb).take k = mulL fa fb := by rw [List.take_of_length_le]; rw [mulL_len Na.out Nb.out, La.out, Lb.out]; omega
      have HK := Lib.hid hkf
      clear hkf
      go_wp2
      go_ret
      exact ⟨_, rfl, by have := Ho.out; rw [HK.out] at this; exact this, Hb.out⟩
end Go.Proofs.YtdhmmllpldjkbaaGreatDoor.Gm
/- (Ro) -/
namespace Go.Proofs.YtdhmmllpldjkbaaGreatDoor.Gm
open Go.RowKit
set_option linter.unusedVariables false
/-- round, or with a sign -/
def ovr (skew : Bool) (x y : F) : F := if skew then x - y else x + y
@[irreducible] def rdL (skew : Bool) (l m : List F) (n : Nat) : List F := (List.range n).map fun i => ovr skew (cv (cf l) (cf m) i) (cv (cf l) (cf m) (i + l.length))
theorem rdL_len (skew : Bool) (l m : List F) (n : Nat) : (rdL skew l m n).length = n := by unfold rdL; simp
theorem rdL_zero (skew : Bool) (l m : List F) : rdL skew l m 0 = [] := by unfold rdL; rfl
theorem rdL_succ (skew : Bool) (l m : List F) (n : Nat) : rdL skew l m (n + 1) = rdL skew l m n ++ [ovr skew (cv (cf l) (cf m) n) (cv (cf l) (cf m) (n + l.length))] := by unfold rdL; rw [List.range_succ, List.map_append]; rfl
theorem cf_rdL (skew : Bool) (l m : List F) (n : Nat) {i : Nat} (hi : i < n) : cf (rdL skew l m n) i = ovr skew (cv (cf l) (cf m) i) (cv (cf l) (cf m) (i + l.length)) := by unfold rdL; exact cf_ofFn _ hi
def RoRel (w : World) (skew : Bool) (fa fb : List F) (n : Nat) (out k : Value) (wr : World) : Prop :=
  ∃ m : Nat, m ≤ n ∧ k = .int .i64 m ∧ Ow w.heap.size wr out (rdL skew fa fb m) ∧ Below w.heap.size w wr
set_option maxHeartbeats 2000000 in
set_option maxRecDepth 100000 in
theorem rround_any (skew : Bool) (zs ys : List Int) (v v2 : Value) (w : World) (h : Rd .u64 w v zs) (h2 : Rd .u64 w v2 ys) (hz : B64 zs) (hy : B64 ys) (hl : zs.length ≤ 100000) (hl2 : ys.length ≤ 100000) :
    Calls Tryz.prog 43 #[v, v2, .bool skew] w (RetL w (rdL skew (zs.map toF) (ys.map toF) zs.length)) := by
  have CP := Lib.hid (rproduct_any zs ys v v2 w h h2 hz hy hl hl2)
  have HR := Lib.hid h
  obtain ⟨a, cap, rfl, hcap, hm⟩ := h.shape
  obtain ⟨a2, cap2, rfl, hcap2, hm2⟩ := h2.shape
  obtain ⟨fa, hfa⟩ : ∃ l, l = zs.map toF := ⟨_, rfl⟩
  obtain ⟨fb, hfb⟩ : ∃ l, l = ys.map toF := ⟨_, rfl⟩
  have hla : fa.length = zs.length := by rw [hfa, List.length_map]
  rw [← hfa, ← hfb] at CP ⊢
  obtain ⟨n, hn⟩ : ∃ n, n = zs.length := ⟨_, rfl⟩
  rw [← hn] at hcap hl hla CP ⊢
  have RS := Lib.hid (fun m => (show rdL skew fa fb (m + 1) = rdL skew fa fb m ++ [ovr skew (cv (cf fa) (cf fb) m) (cv (cf fa) (cf fb) (m + n))] by rw [rdL_succ, hla]))
  have RZ := Lib.hid (rdL_zero skew fa fb)
  have RL := Lib.hid (fun m => rdL_len skew fa fb m)
  have GM := Lib.hid (fun m => (show cf (((mulL fa fb).map vl).map toF) m = cv (cf fa) (cf fb) m by rw [map_toF_vl, cf_mulL]))
  clear h h2 hfa hfb hn hla
  go_enter Tryz.func43, Tryz.ntmps43
  go_wp2_with fail
  refine CP.out.mono ?_
  rintro e w1 ⟨v1, rfl, ho, hb⟩
  have R1 := Lib.hid ho.rd
  have B1 := Lib.hid hb
  have hs1 := hb.size
  clear ho hb
  go_wp2
  go_loopw [8, 9, 10] (fun out k _ wr => RoRel w1 skew fa fb n out k wr) (fun _ k _ _ => n - (intOf k).toNat)
  case atStart => exact ⟨0, by omega, rfl, by rw [RZ.out]; exact Ow.nil _ _, Below.refl _ _⟩
  case round =>
    obtain ⟨m, hm1, rfl, hown, hbel⟩ := hrel
    have OO := Lib.hid hown
    have OR := Lib.hid (R1.out.below hbel)
    have HB := Lib.hid hbel
    have hwsz := hbel.size
    clear hown hbel
    by_cases hml : m < n
    · have e1 : IntKind.i64.wrap ((m : Int) + (n : Int)) = ((m + n : Nat) : Int) := by rw [show (m : Int) + (n : Int) = ((m + n : Nat) : Int) by omega]; exact wrap_nat (by omega)
      have e2 : (m : Int) + (n : Int) = ((m + n : Nat) : Int) := by omega
      have CA := Lib.hid (at_any ((mulL fa fb).map vl) v1 (m + n) wr OR.out (B64.vl _) (by omega))
      have CB := Lib.hid (at_any ((mulL fa fb).map vl) v1 m wr OR.out (B64.vl _) (by omega))
      have RSm := Lib.hid (RS.out m)
      rw [GM.out] at CA CB
      have hll : (rdL skew fa fb m).length ≤ 1000000 := by rw [RL.out]; omega
      obtain ⟨q, hq⟩ : ∃ q, q = m + n := ⟨_, rfl⟩
      rw [← hq] at e1 e2 CA RSm
      clear hq
      generalize cv (cf fa) (cf fb) m = x at *
      generalize cv (cf fa) (cf fb) q = y at *
      cases skew
      · have EO : ovr false x y = x + y := by
          show x + y = x + y
          grind
        rw [EO] at RSm
        clear EO
        go_wp2_with fail
        refine CA.out.mono ?_
        rintro e w' ⟨rfl, rfl⟩
        go_wp2_with fail
        refine CB.out.mono ?_
        rintro e w' ⟨rfl, rfl⟩
        go_wp2_with fail
        refine (radd_F x y _).mono ?_
        rintro e w' ⟨rfl, rfl⟩
        go_wp2_with (at_builtin; refine wl_app _ rfl (.tmp 29) (.tmp 35) rfl w1.heap.size _ (rdL false fa fb m) (x + y) w1 rfl rfl OO.out HB.out hwsz hll ?_)
        intro v3 w3 hown3 hbel3
        rw [← RSm.out] at hown3
        have O3 := Lib.hid hown3
        have B3 := Lib.hid hbel3
        clear hown3 hbel3
        go_wp2
        go_roundw
        case rel => exact ⟨m + 1, by omega, by go_num, O3.out, B3.out⟩
        case measure => simp [intOf] <;> omega
      · have EO : ovr true x y = x + (0 - y) := by
          show x - y = x + (0 - y)
          grind
        rw [EO] at RSm
        clear EO
        go_wp2_with fail
        refine CA.out.mono ?_
        rintro e w' ⟨rfl, rfl⟩
        have CS := Lib.hid (show Calls Tryz.prog 74 #[.int .u64 0, .int .u64 (vl y)] wr fun e w' => e = .returned (.int .u64 (vl (0 - y))) ∧ wr = w' by
          have := rsub_any 0 (vl y) wr (by omega) (by omega) (vl_lo _) (vl_64 _)
          rwa [toF_zero, toF_vl] at this)
        go_wp2_with fail
        refine CS.out.mono ?_
        rintro e w' ⟨rfl, rfl⟩
        go_wp2_with fail
        refine CB.out.mono ?_
        rintro e w' ⟨rfl, rfl⟩
        go_wp2_with fail
        refine (radd_F x (0 - y) _).mono ?_
        rintro e w' ⟨rfl, rfl⟩
        go_wp2_with (at_builtin; refine wl_app _ rfl (.tmp 29) (.tmp 35) rfl w1.heap.size _ (rdL true fa fb m) (x + (0 - y)) w1 rfl rfl OO.out HB.out hwsz hll ?_)
        intro v3 w3 hown3 hbel3
        rw [← RSm.out] at hown3
        have O3 := Lib.hid hown3
        have B3 := Lib.hid hbel3
        clear hown3 hbel3
        go_wp2
        go_roundw
        case rel => exact ⟨m + 1, by omega, by go_num, O3.out, B3.out⟩
        case measure => simp [intOf] <;> omega
    · obtain rfl : n = m := by omega
      go_wp2
      go_ret
      exact ⟨_, rfl, OO.out.mono hs1, B1.out.trans (HB.out.mono hs1)⟩
end Go.Proofs.YtdhmmllpldjkbaaGreatDoor.Gm
/- (Rq) -/
namespace Go.Proofs.YtdhmmllpldjkbaaGreatDoor.Gm
open Go.RowKit
/-- the last place that isn't 0, among the first k; -1: there is none -/
def LastRel (fs : List F) (n : Nat) (last i : Value) : Prop :=
  ∃ k m : Nat, k ≤ n ∧ i = .int .i64 k ∧ last = .int .i64 ((m : Int) - 1) ∧ m ≤ k ∧ (∀ j, m ≤ j → j < k → cf fs j = 0) ∧ (0 < m → cf fs (m - 1) ≠ 0)
def NrmOutR (B : Nat) (w : World) (fs : List F) (n : Nat) (v i : Value) (wr : World) : Prop :=
  ∃ k : Nat, k ≤ n ∧ i = .int .i64 k ∧ Ow B wr v (fs.take k) ∧ Below B w wr
theorem strip_upto {fs : List F} {m : Nat} (hm : m ≤ fs.length) (h1 : ∀ j, m ≤ j → j < fs.length → cf fs j = 0) (h2 : 0 < m → cf fs (m - 1) ≠ 0) : strip fs = fs.take m :=
  strip_take hm h1 (by by_cases h : 0 < m; · exact .inr (h2 h)
                       · left; omega)
theorem cf_addL_take (l m : List F) (k : Nat) (h : k < max l.length m.length) : (addL l m).take (k+1) = (addL l m).take k ++ [cf l k + cf m k] := by
  rw [take_snoc_F _ _ (by simp only [addL, List.length_map, List.length_range]; exact h), cf_addL]
end Go.Proofs.YtdhmmllpldjkbaaGreatDoor.Gm
/- (Pm) -/
namespace Go.Proofs.YtdhmmllpldjkbaaGreatDoor.Gm
open Go.RowKit
/-- the product's array, behind the rows 0 .. i - 1 and j places of row i -/
def pmv (fa fb : List F) (i j m : Nat) : F := S (fa.length) (fun p => if p < i ∨ (p = i ∧ p ≤ m ∧ m - p < j) then cf fa p * (if p ≤ m then cf fb (m - p) else 0) else 0)
theorem pmv_zero (fa fb : List F) (m : Nat) : pmv fa fb 0 0 m = 0 := S_all0 (fun p _ => by rw [if_neg (by omega)])
theorem pmv_row (fa fb : List F) (i m : Nat) : pmv fa fb i fb.length m = pmv fa fb (i+1) 0 m := by
  refine S_congr (fun p _ => ?_)
  have h := @cf_ge fb (m - p)
  generalize cf fb (m - p) = u at *
  generalize cf fa p = v at *
  grind
theorem pmv_step (fa fb : List F) (i j m : Nat) (hi : i < fa.length) : pmv fa fb i (j+1) m = pmv fa fb i j m + (if m = i + j then cf fa i * cf fb j else 0) := by
  unfold pmv
  have e : S fa.length (fun p => if p = i then (if m = i + j then cf fa i * cf fb j else 0) else 0) = (if m = i + j then cf fa i * cf fb j else 0) := by
    rw [S_single hi (fun p _ hne => by rw [if_neg hne]), if_pos rfl]
  rw [← e, ← S_add]
  refine S_congr (fun p _ => ?_)
  by_cases h1 : p = i
  · subst h1
    by_cases h2 : m = p + j
    · subst h2
      rw [show p + j - p = j by omega]
      generalize cf fb j = u
      generalize cf fa p = v
      grind
    · generalize cf fb (m - p) = u
      generalize cf fb j = u'
      generalize cf fa p = v
      grind
  · generalize cf fb (m - p) = u
    generalize cf fa p = v
    grind
theorem pmv_end (fa fb : List F) (m : Nat) : pmv fa fb fa.length 0 m = cv (cf fa) (cf fb) m := by
  unfold pmv cv
  rw [S_congr (g := fun p => if p ≤ m then cf fa p * cf fb (m - p) else 0) (fun p hp => by
    generalize cf fb (m - p) = u
    generalize cf fa p = v
    grind)]
  by_cases h : fa.length ≤ m + 1
  · rw [S_more (m := fa.length) h (fun i hi _ => by rw [cf_ge (l := fa) hi]; grind)]
    exact S_congr (fun p hp => by rw [if_pos (by omega)])
  · rw [S_more (m := m + 1) (by omega) (fun i hi _ => by rw [if_neg (by omega)])]
    exact S_congr (fun p hp => by rw [if_pos (by omega)])
def MulRel (B : Nat) (w : World) (fa fb : List F) (n g : Nat) (i : Value) (wr : World) : Prop :=
  ∃ (k : Nat) (l : List F), k ≤ fa.length ∧ i = .int .i64 k ∧ l.length = n ∧ (∀ m, m < n → cf l m = pmv fa fb k 0 m) ∧ Ow B wr (.slice (some ⟨g, 0, none⟩) n n) l ∧ Below B w wr
def MulIn (B : Nat) (w : World) (fa fb : List F) (n g i : Nat) (jv : Value) (wr : World) : Prop :=
  ∃ (j : Nat) (l : List F), j ≤ fb.length ∧ jv = .int .i64 j ∧ l.length = n ∧ (∀ m, m < n → cf l m = pmv fa fb i j m) ∧ Ow B wr (.slice (some ⟨g, 0, none⟩) n n) l ∧ Below B w wr
theorem mulin_step {fa fb l : List F} {i j n : Nat} (hi : i < fa.length) (hj : i + j < n) (hl : l.length = n) (h : ∀ m, m < n → cf l m = pmv fa fb i j m) {y : F} (hy : y = cf l (i + j) + cf fa i * cf fb j) :
    ∀ m, m < n → cf (l.set (i + j) y) m = pmv fa fb i (j+1) m := by
  intro m hm
  rw [pmv_step fa fb i j m hi, cf_set _ _ _ _ (by omega)]
  by_cases he : i + j = m
  · rw [if_pos he, if_pos he.symm, hy, ← he, h _ hj]
  · rw [if_neg he, if_neg (fun e => he e.symm), h m hm]; grind
end Go.Proofs.YtdhmmllpldjkbaaGreatDoor.Gm
/- (Pt) -/
namespace Go.Proofs.YtdhmmllpldjkbaaGreatDoor.Gm
open Go.RowKit
/-- the first k points, the last one first -/
def psk (fx fy : List F) (k : Nat) : List (F × F) := ((fx.zip fy).take k).reverse
theorem psk_zero (fx fy : List F) : psk fx fy 0 = [] := by simp [psk]
theorem psk_succ (fx fy : List F) (k : Nat) (h1 : k < fx.length) (h2 : k < fy.length) : psk fx fy (k+1) = (cf fx k, cf fy k) :: psk fx fy k := by
  unfold psk
  rw [List.take_succ_eq_append_getElem (by rw [List.length_zip]; omega), List.reverse_append, List.getElem_zip, cf_lt h1, cf_lt h2]
  rfl
theorem psk_end (fx fy : List F) (h : fx.length = fy.length) : psk fx fy fx.length = (fx.zip fy).reverse := by
  unfold psk
  rw [List.take_of_length_le (by rw [List.length_zip]; omega)]
theorem psk_len (fx fy : List F) (k : Nat) (h1 : k ≤ fx.length) (h2 : k ≤ fy.length) : (psk fx fy k).length = k := by
  unfold psk; rw [List.length_reverse, List.length_take, List.length_zip]; omega
theorem psk_fst (fx fy : List F) (k : Nat) (h : fx.length = fy.length) : (psk fx fy k).map Prod.fst = (fx.take k).reverse := by
  unfold psk
  rw [List.map_reverse, List.map_take, List.map_fst_zip (by omega)]
theorem base_zero_iff (fx fy : List F) (k : Nat) (h : fx.length = fy.length) (x : F) : evl (newton (psk fx fy k)).1 x = 0 ↔ x ∈ fx.take k := by
  rw [newton_base, psk_fst fx fy k h, List.mem_reverse]
theorem nodup_take_succ (fx : List F) (k : Nat) (h : k < fx.length) (hd : (fx.take k).Nodup) (hn : cf fx k ∉ fx.take k) : (fx.take (k+1)).Nodup := by
  rw [take_snoc_F fx k h, List.nodup_append]
  refine ⟨hd, by simp, ?_⟩
  intro a ha b hb e
  have : b = cf fx k := by simpa using hb
  subst e; rw [this] at ha; exact hn ha
theorem not_nodup_of (fx : List F) (k : Nat) (h : k < fx.length) (hm : cf fx k ∈ fx.take k) : ¬ fx.Nodup := by
  intro hd
  have h1 : (fx.take (k+1)).Nodup := hd.sublist (List.take_sublist _ _)
  rw [take_snoc_F fx k h, List.nodup_append] at h1
  exact h1.2.2 _ hm _ (by simp) rfl
/-- what Through answers of lists that are as long as each other -/
def RetThr (w : World) (fx fy : List F) (e : Ending) (w' : World) : Prop :=
  (fx.Nodup ∧ RetLE w (newton ((fx.zip fy).reverse)).2 0 e w') ∨ (¬ fx.Nodup ∧ RetLE w [] 5 e w')
def ThrRel (w : World) (fx fy : List F) (n : Nat) (out base i : Value) (wr : World) : Prop :=
  ∃ k : Nat, k ≤ n ∧ i = .int .i64 k ∧ (fx.take k).Nodup ∧ Ow w.heap.size wr out (newton (psk fx fy k)).2 ∧ Ow w.heap.size wr base (newton (psk fx fy k)).1 ∧ Below w.heap.size w wr
theorem Ow.lit1 (w : World) (x : F) : Ow w.heap.size (w.alloc (.cells #[.int .u64 (vl x)] 51)) (.slice (some ⟨w.heap.size, 0, none⟩) 1 1) [x] := by
  have h := World.ownsRow_lit (base := w.heap.size) w #[Value.int .u64 (vl x)] (e := 51) (size := 1) 1 (Nat.le_refl _) (by unfold maxLen; omega) rfl
  exact h
theorem inv_F (x : F) (w : World) (h : x ≠ 0) :
    Calls Tryz.prog 34 #[.int .u64 (vl x)] w fun e w' => e = .returned (.tuple #[.int .u64 (vl (inv x)), .int .i64 0]) ∧ w = w' := by
  have h1 := inv_any (vl x) w (vl_lo x) (vl_64 x) (by rw [toF_vl]; exact h)
  rwa [toF_vl] at h1
theorem inv_F0 (x : F) (w : World) (h : x = 0) :
    Calls Tryz.prog 34 #[.int .u64 (vl x)] w fun e w' => e = .returned (.tuple #[.int .u64 0, .int .i64 4]) ∧ w = w' :=
  inv_none (vl x) w (vl_lo x) (vl_64 x) (by rw [toF_vl]; exact h)
theorem sub_0x (x : Int) (w : World) (hx0 : 0 ≤ x) (hx1 : x < 18446744073709551616) :
    Calls Tryz.prog 65 #[.int .u64 0, .int .u64 x] w fun e w' => e = .returned (.int .u64 (vl (0 - toF x))) ∧ w = w' := by
  have h := sub_any 0 x w (by omega) (by omega) hx0 hx1
  rwa [toF_zero] at h
theorem mulL_le (l m : List F) : (mulL l m).length ≤ l.length + m.length := by
  unfold mulL
  split
  · simp
  · simp
theorem Rd.lit1 (w : World) (c : F) : Rd .u64 (w.alloc (.cells #[.int .u64 (vl c)] 51)) (.slice (some ⟨w.heap.size, 0, none⟩) 1 1) ([c].map vl) :=
  Rd.lit .u64 w ([c].map vl) 51 1 rfl (by simp)
theorem Rd.lit2 (w : World) (c : F) : Rd .u64 (w.alloc (.cells #[.int .u64 (vl c), .int .u64 1] 51)) (.slice (some ⟨w.heap.size, 0, none⟩) 2 2) ([c, 1].map vl) := by
  have h := Rd.lit .u64 w ([c, 1].map vl) 51 2 rfl (by simp)
  have e : (([c, 1] : List F).map vl).map (Value.int .u64) = [.int .u64 (vl c), .int .u64 1] := by
    show [Value.int .u64 (vl c), Value.int .u64 (vl 1)] = _
    rw [vl_one]
  rw [e] at h
  exact h
end Go.Proofs.YtdhmmllpldjkbaaGreatDoor.Gm
/- (Rt) -/
namespace Go.Proofs.YtdhmmllpldjkbaaGreatDoor.Gm
open Go.RowKit
def RetPts (w : World) (fx : List F) (e : Ending) (w' : World) : Prop :=
  ((fx.Nodup ∧ e = .returned (.bool true)) ∨ (¬ fx.Nodup ∧ e = .returned (.bool false))) ∧ Below w.heap.size w w'
def PtsRel (w : World) (fx : List F) (n : Nat) (i : Value) (wr : World) : Prop :=
  ∃ k : Nat, k ≤ n ∧ i = .int .i64 k ∧ (fx.take k).Nodup ∧ Below w.heap.size w wr
def PtsIn (w : World) (fx : List F) (k : Nat) (j : Value) (wr : World) : Prop :=
  ∃ m : Nat, m ≤ k ∧ j = .int .i64 m ∧ cf fx k ∉ fx.take m ∧ Below w.heap.size w wr
theorem mem_take_succ (fx : List F) (m : Nat) (h : m < fx.length) (x : F) : x ∈ fx.take (m+1) ↔ x ∈ fx.take m ∨ x = cf fx m := by
  rw [take_snoc_F fx m h]; simp
theorem take_mono_mem (fx : List F) {m k : Nat} (h : m ≤ k) {x : F} (hx : x ∈ fx.take m) : x ∈ fx.take k := by
  have : fx.take m = (fx.take k).take m := by rw [List.take_take, Nat.min_eq_left h]
  rw [this] at hx; exact List.mem_of_mem_take hx
end Go.Proofs.YtdhmmllpldjkbaaGreatDoor.Gm
/- (Ru) -/
namespace Go.Proofs.YtdhmmllpldjkbaaGreatDoor.Gm
open Go.RowKit
def LagRel (w : World) (fx fy : List F) (n : Nat) (out i : Value) (wr : World) : Prop :=
  ∃ k : Nat, k ≤ n ∧ i = .int .i64 k ∧ Ow w.heap.size wr out (lagr fx fy k) ∧ Below w.heap.size w wr
def LagIn (w : World) (fx : List F) (n k : Nat) (one under j : Value) (wo wr : World) : Prop :=
  ∃ m : Nat, m ≤ n ∧ j = .int .i64 m ∧ Ow w.heap.size wr one (lbase fx k m) ∧ under = .int .u64 (vl (lunder fx k m)) ∧ Below w.heap.size w wr ∧ Below wo.heap.size wo wr
theorem rsub_0x (x : Int) (w : World) (hx0 : 0 ≤ x) (hx1 : x < 18446744073709551616) :
    Calls Tryz.prog 74 #[.int .u64 0, .int .u64 x] w fun e w' => e = .returned (.int .u64 (vl (0 - toF x))) ∧ w = w' := by
  have h := rsub_any 0 x w (by omega) (by omega) hx0 hx1
  rwa [toF_zero] at h
theorem rinv_F (x : F) (w : World) (h : x ≠ 0) :
    Calls Tryz.prog 77 #[.int .u64 (vl x)] w fun e w' => e = .returned (.int .u64 (vl (inv x))) ∧ w = w' := by
  have h1 := rinv_any (vl x) w (vl_lo x) (vl_64 x) (by rw [toF_vl]; exact h)
  rwa [toF_vl] at h1
end Go.Proofs.YtdhmmllpldjkbaaGreatDoor.Gm
/- (Spe) -/
namespace Go.Proofs.YtdhmmllpldjkbaaGreatDoor.Gm
open Go.RowKit
/-- the point of a place -/
@[irreducible] def pt (i : Nat) : F := root 6 ^ i
theorem pt_eq (i : Nat) : pt i = root 6 ^ i := by unfold pt; rfl
theorem wrap_small (z : Int) (i : Nat) (h : z = i) (hi : i < 1000) : IntKind.u64.wrap z = z := by
  subst h
  unfold IntKind.wrap
  simp [IntKind.signed, IntKind.bits]
  omega
theorem point_pow (i : Nat) (z : Int) (w : World) (hi : i < 1000) (hz : z = i) :
    Calls Tryz.prog 67 #[.int .u64 (vl (root 6)), .int .u64 z] w fun e w' => e = .returned (.int .u64 (vl (pt i))) ∧ w = w' := by
  have h := pow_anyZ (vl (root 6)) z i w (vl_lo _) (vl_64 _) (by omega) hz
  rwa [toF_vl, ← pt_eq] at h
theorem point_any (i : Nat) (z : Int) (w : World) (hi : i < 1000) (hz : z = i) :
    Calls Tryz.prog 102 #[.int .i64 z] w fun e w' => e = .returned (.int .u64 (vl (pt i))) ∧ w = w' := by
  have hw := wrap_small z i hz hi
  have h0 : 0 ≤ z := by omega
  have h1 : z < 1000 := by omega
  go_enter Tryz.func102, Tryz.ntmps102
  go_wp2_with fail
  refine (root_anyZ 6 6 _ (by omega) rfl).mono ?_
  rintro e w' ⟨rfl, rfl⟩
  go_wp2_with fail
  refine (point_pow i _ _ hi (by first | rfl | exact hz | (rw [hw]; exact hz))).mono ?_
  rintro e w' ⟨rfl, rfl⟩
  go_wp2
  go_ret
  exact ⟨rfl, rfl⟩
/-- the first k symbols of a word -/
def syms (l : List F) (k : Nat) : List F := (List.range k).map fun i => evl l (pt i)
theorem syms_zero (l : List F) : syms l 0 = [] := rfl
theorem syms_succ (l : List F) (k : Nat) : syms l (k + 1) = syms l k ++ [evl l (pt k)] := by
  unfold syms; rw [List.range_succ, List.map_append]; rfl
theorem syms_len (l : List F) (k : Nat) : (syms l k).length = k := by unfold syms; simp
def SymRel (w : World) (l : List F) (n : Nat) (out i : Value) (wr : World) : Prop :=
  ∃ k : Nat, k ≤ n ∧ i = .int .i64 k ∧ Ow w.heap.size wr out (syms l k) ∧ Below w.heap.size w wr
set_option maxHeartbeats 2000000 in
theorem encode_bad (zs : List Int) (v : Value) (n : Int) (w : World) (h : Rd .u64 w v zs) (hb : zs.length < 1 ∨ n < 1 ∨ 64 < n ∨ n < zs.length) :
    Calls Tryz.prog 63 #[v, .int .i64 n] w (RetLE w [] 1) := by
  obtain ⟨a, cap, rfl, hcap, hm⟩ := h.shape
  clear h
  go_enter Tryz.func63, Tryz.ntmps63
  by_cases h1 : zs.length < 1
  · go_wp2
    go_ret2
    exact ⟨_, rfl, Ow.nil _ _, Below.refl _ _⟩
  · by_cases h2 : n < 1
    · go_wp2
      go_ret2
      exact ⟨_, rfl, Ow.nil _ _, Below.refl _ _⟩
    · by_cases h3 : 64 < n
      · go_wp2
        go_ret2
        exact ⟨_, rfl, Ow.nil _ _, Below.refl _ _⟩
      · have h4 : n < zs.length := by rcases hb with hb | hb | hb | hb <;> first | exact hb | (exfalso; omega)
        go_wp2
        go_ret2
        exact ⟨_, rfl, Ow.nil _ _, Below.refl _ _⟩
set_option maxHeartbeats 2000000 in
set_option maxRecDepth 100000 in
theorem encode_any (zs : List Int) (v : Value) (n : Nat) (z : Int) (w : World) (h : Rd .u64 w v zs) (hz : B64 zs) (h0 : 1 ≤ zs.length) (hn0 : 1 ≤ n) (hn : n ≤ 64) (hl : zs.length ≤ n) (hzn : z = n) :
    Calls Tryz.prog 63 #[v, .int .i64 z] w (RetLE w (syms (zs.map toF) n) 0) := by
  subst hzn
  have H := Lib.hid h
  obtain ⟨a, cap, rfl, hcap, hm⟩ := h.shape
  clear h
  go_enter Tryz.func63, Tryz.ntmps63
  go_wp2
  rename_i g4 k1 k2
  clear g4
  go_loopw [6, 28] (fun out i wr => SymRel w (zs.map toF) n out i wr) (fun _ i _ => n - (intOf i).toNat)
  case atStart => exact ⟨0, by omega, rfl, Ow.nil _ _, Below.refl _ _⟩
  case round =>
    obtain ⟨k, hk, rfl, hout, hbel⟩ := hrel
    have OO := Lib.hid hout
    have HB := Lib.hid hbel
    have hwsz := hbel.size
    clear hout hbel
    obtain ⟨wo, hwo⟩ : ∃ wo : World, wo = wr := ⟨_, rfl⟩
    subst hwo
    by_cases hkn : k < n
    · go_wp2_with fail
      refine (point_any k _ _ (by omega) rfl).mono ?_
      rintro e w' ⟨rfl, rfl⟩
      go_wp2_with fail
      refine (eval_any zs _ (vl (pt k)) _ (H.out.below HB.out) hz (by omega) (vl_lo _) (vl_64 _)).mono ?_
      rintro e w' ⟨rfl, hbel2⟩
      rw [toF_vl]
      have B2 := Lib.hid (HB.out.trans (hbel2.mono hwsz))
      have O2 := Lib.hid (OO.out.below hbel2)
      have hle := Nat.le_trans hwsz hbel2.size
      have SL := Lib.hid (syms_len (zs.map toF) k)
      have SS := Lib.hid (syms_succ (zs.map toF) k)
      clear hbel2
      go_wp2_with (first | (refine wl_app _ rfl (.tmp 38) (.tmp 40) rfl w.heap.size _ (syms (zs.map toF) k) _ w rfl rfl O2.out B2.out hle (by rw [SL.out]; omega) ?_; intro v3 w3 hown3 hbel3) | go_in)
      go_wp2
      go_roundw
      case rel => exact ⟨k + 1, by omega, by go_num, by rw [SS.out]; exact hown3, hbel3⟩
      case measure => simp [intOf] <;> omega
    · obtain rfl : k = n := by omega
      go_wp2
      go_ret2
      exact ⟨_, rfl, OO.out, HB.out⟩
end Go.Proofs.YtdhmmllpldjkbaaGreatDoor.Gm
/- (Sp) -/
namespace Go.Proofs.YtdhmmllpldjkbaaGreatDoor.Gm
open Go.RowKit
theorem rpoint_pow (i : Nat) (z : Int) (w : World) (hi : i < 1000) (hz : z = i) :
    Calls Tryz.prog 75 #[.int .u64 (vl (root 6)), .int .u64 z] w fun e w' => e = .returned (.int .u64 (vl (pt i))) ∧ w = w' := by
  subst hz
  have h := rpow_any (vl (root 6)) i w (vl_lo _) (vl_64 _) (by omega)
  rwa [toF_vl, ← pt_eq] at h
theorem rroot_six (w : World) : Calls Tryz.prog 78 #[.int .i64 6] w fun e w' => e = .returned (.int .u64 (vl (root 6))) ∧ w = w' := rroot_any 6 w (by omega)
set_option maxHeartbeats 2000000 in
set_option maxRecDepth 100000 in
theorem symbols_any (zs : List Int) (v : Value) (n : Nat) (z : Int) (w : World) (h : Rd .u64 w v zs) (hz : B64 zs) (hn : n ≤ 64) (hzn : z = n) :
    Calls Tryz.prog 85 #[v, .int .i64 z] w (RetL w (syms (zs.map toF) n)) := by
  subst hzn
  have H := Lib.hid h
  clear h
  go_enter Tryz.func85, Tryz.ntmps85
  go_wp2
  go_loopw [5, 6] (fun out i wr => SymRel w (zs.map toF) n out i wr) (fun _ i _ => n - (intOf i).toNat)
  case atStart => exact ⟨0, by omega, rfl, Ow.nil _ _, Below.refl _ _⟩
  case round =>
    obtain ⟨k, hk, rfl, hout, hbel⟩ := hrel
    have OO := Lib.hid hout
    have HB := Lib.hid hbel
    have hwsz := hbel.size
    clear hout hbel
    obtain ⟨wo, hwo⟩ : ∃ wo : World, wo = wr := ⟨_, rfl⟩
    subst hwo
    by_cases hkn : k < n
    · have SL := Lib.hid (syms_len (zs.map toF) k)
      have SS := Lib.hid (syms_succ (zs.map toF) k)
      have hw := wrap_small (k : Int) k rfl (by omega)
      go_wp2_with fail
      refine (rroot_six _).mono ?_
      rintro e w' ⟨rfl, rfl⟩
      go_wp2_with fail
      refine (rpoint_pow k _ _ (by omega) (by first | rfl | exact hw)).mono ?_
      rintro e w' ⟨rfl, rfl⟩
      go_wp2_with fail
      refine (reval_any zs _ (vl (pt k)) _ (H.out.below HB.out) hz (vl_lo _) (vl_64 _)).mono ?_
      rintro e w' ⟨rfl, rfl⟩
      rw [toF_vl]
      go_wp2_with (first | (refine wl_app _ rfl (.tmp 12) (.tmp 19) rfl w.heap.size _ (syms (zs.map toF) k) _ w rfl rfl OO.out HB.out hwsz (by rw [SL.out]; omega) ?_; intro v3 w3 hown3 hbel3) | go_in)
      go_wp2
      go_roundw
      case rel => exact ⟨k + 1, by omega, by go_num, by rw [SS.out]; exact hown3, hbel3⟩
      case measure => simp [intOf] <;> omega
    · obtain rfl : k = n := by omega
      go_wp2
      go_ret
      exact ⟨_, rfl, OO.out, HB.out⟩
end Go.Proofs.YtdhmmllpldjkbaaGreatDoor.Gm
