/- goldkeep.flat, goldkeep.shaped; the axes the other way round. -/
import Derived.Test.YtkcfnbfkbmgchaaDoorAn
import Derived.Test.YtkcfnbfkbmgchaaDoorSh1
namespace Go.Proofs.YtkcfnbfkbmgchaaDoor.Gm
open Go.RowKit
set_option linter.unusedVariables false
theorem root_m1 : root 1 = -1 := by
  have h := root_half 0 (by omega)
  rw [show (2 : Nat) ^ 0 = 0 + 1 from rfl, pow_succ, pow_zero] at h
  rw [show root 1 = 1 * root 1 by grind]; exact h
theorem tr1_zero (b : Nat → F) : tr false 1 b 0 = b 0 + b 1 := by
  rw [tr_ker]
  show S (0 + 1 + 1) _ = _
  rw [S_succ, S_succ, S_zero, ker_f, ker_f]
  simp only [Nat.zero_mul, pow_zero]
  grind
theorem tr1_one (b : Nat → F) : tr false 1 b 1 = b 0 - b 1 := by
  rw [tr_ker]
  show S (0 + 1 + 1) _ = _
  rw [S_succ, S_succ, S_zero, ker_f, ker_f, show (1 : Nat) * 0 = 0 from rfl, pow_zero, show (1 : Nat) * 1 = 0 + 1 from rfl, pow_succ, pow_zero, root_m1]
  generalize b 0 = x
  generalize b 1 = y
  grind
theorem WT_nil0 (a : Nat → F) : WT false [] a 0 = a 0 := by
  rw [← run_whole false [] a 0 (by simp [pk_nil])]; rfl
theorem WT_row (a : Nat → F) (p : Nat) (hp : p < 2) : WT false [1] a p = tr false 1 a p := by
  rw [WT_tr, pk_nil, Nat.div_one, Nat.mod_one]
  exact tr_congr (fun i _ => by rw [WT_nil0]; simp) p
theorem pk_one : pk [1] = 2 := rfl
theorem WT_flat (a : Nat → F) (i j : Nat) (hi : i < 2) (hj : j < 2) : WT false [1, 1] a (i * 2 + j) = tr false 1 (fun x => tr false 1 (fun y => a (x * 2 + y)) j) i := by
  rw [WT_tr, pk_one, blk_div hj, blk_mod hj]
  exact tr_congr (fun x _ => WT_row _ j hj) i
theorem flat_list : (WL false [1, 1] ([1, 2, 3, 4].map toF)).map vl = [10, 18446744069414584319, 18446744069414584317, 0] := by
  have c0 : cf ([1, 2, 3, 4].map toF) 0 = toF 1 := rfl
  have c1 : cf ([1, 2, 3, 4].map toF) 1 = toF 2 := rfl
  have c2 : cf ([1, 2, 3, 4].map toF) 2 = toF 3 := rfl
  have c3 : cf ([1, 2, 3, 4].map toF) 3 = toF 4 := rfl
  have w0 : WT false [1, 1] (cf ([1, 2, 3, 4].map toF)) 0 = toF 10 := by
    have := WT_flat (cf ([1, 2, 3, 4].map toF)) 0 0 (by omega) (by omega)
    rw [show 0 * 2 + 0 = 0 from rfl, tr1_zero, tr1_zero, tr1_zero] at this
    rw [this]
    show cf _ 0 + cf _ 1 + (cf _ 2 + cf _ 3) = _
    rw [c0, c1, c2, c3, ← toF_add, ← toF_add, ← toF_add]; rfl
  have w1 : WT false [1, 1] (cf ([1, 2, 3, 4].map toF)) 1 = toF (-2) := by
    have := WT_flat (cf ([1, 2, 3, 4].map toF)) 0 1 (by omega) (by omega)
    rw [show 0 * 2 + 1 = 1 from rfl, tr1_zero, tr1_one, tr1_one] at this
    rw [this]
    show cf _ 0 - cf _ 1 + (cf _ 2 - cf _ 3) = _
    rw [c0, c1, c2, c3, ← toF_sub, ← toF_sub, ← toF_add]; rfl
  have w2 : WT false [1, 1] (cf ([1, 2, 3, 4].map toF)) 2 = toF (-4) := by
    have := WT_flat (cf ([1, 2, 3, 4].map toF)) 1 0 (by omega) (by omega)
    rw [show 1 * 2 + 0 = 2 from rfl, tr1_one, tr1_zero, tr1_zero] at this
    rw [this]
    show cf _ 0 + cf _ 1 - (cf _ 2 + cf _ 3) = _
    rw [c0, c1, c2, c3, ← toF_add, ← toF_add, ← toF_sub]; rfl
  have w3 : WT false [1, 1] (cf ([1, 2, 3, 4].map toF)) 3 = toF 0 := by
    have := WT_flat (cf ([1, 2, 3, 4].map toF)) 1 1 (by omega) (by omega)
    rw [show 1 * 2 + 1 = 3 from rfl, tr1_one, tr1_one, tr1_one] at this
    rw [this]
    show cf _ 0 - cf _ 1 - (cf _ 2 - cf _ 3) = _
    rw [c0, c1, c2, c3, ← toF_sub, ← toF_sub, ← toF_sub]; rfl
  unfold WL
  show [vl (WT false [1, 1] (cf ([1, 2, 3, 4].map toF)) 0), vl (WT false [1, 1] (cf ([1, 2, 3, 4].map toF)) 1), vl (WT false [1, 1] (cf ([1, 2, 3, 4].map toF)) 2), vl (WT false [1, 1] (cf ([1, 2, 3, 4].map toF)) 3)] = _
  rw [w0, w1, w2, w3, vl_toF, vl_toF, vl_toF, vl_toF]; rfl
theorem shp_22 : Shp (szs [1, 1]) := ⟨by decide, by decide, fun d hd => by
  obtain ⟨k, hk, rfl⟩ := List.mem_map.1 hd
  exact ⟨k, rfl⟩, by decide⟩
theorem w22 : W64 (zi (szs [1, 1])) := by
  intro a ha
  have h : a = 2 := by simpa [zi, szs] using ha
  subst h
  decide
theorem flat_any (w : World) (hT : Tb w) : Calls Tryd.prog 43 #[] w (RetV w (.bool true)) := by
  have lit1 : Rd .i64 ((w.alloc (.cells #[.int .i64 2, .int .i64 2] 3)).alloc (.cells #[.int .u64 1, .int .u64 2, .int .u64 3, .int .u64 4] 25)) (.slice (some ⟨w.heap.size, 0, none⟩) 2 2) (zi (szs [1, 1])) := (Rd.lit .i64 w [2, 2] 3 2 rfl (by simp)).alloc _
  have lit2 : Rd .u64 ((w.alloc (.cells #[.int .i64 2, .int .i64 2] 3)).alloc (.cells #[.int .u64 1, .int .u64 2, .int .u64 3, .int .u64 4] 25)) (.slice (some ⟨w.heap.size + 1, 0, none⟩) 4 4) [1, 2, 3, 4] := by
    have h := Rd.lit .u64 (w.alloc (.cells #[.int .i64 2, .int .i64 2] 3)) [1, 2, 3, 4] 25 4 rfl (by simp)
    simpa using h
  have hal := ((Below.refl w.heap.size w).alloc (Nat.le_refl _) (.cells #[.int .i64 2, .int .i64 2] 3)).alloc (by simp) (.cells #[.int .u64 1, .int .u64 2, .int .u64 3, .int .u64 4] 25)
  have CL := Lib.hid (fwd_of (all_ok [1, 1] [1, 2, 3, 4] false _ _ _ lit1 lit2 w22 shp_22 (by intro z hz; simp at hz; omega) rfl (hT.below hal)))
  have HAL := Lib.hid hal
  clear hal lit1 lit2 hT
  go_enter Tryd.func43, Tryd.ntmps43
  go_wp2_with fail
  refine CL.out.mono ?_
  rintro e w1 ⟨v1, rfl, ho, hb⟩
  have O1 := ho.rd
  rw [flat_list] at O1
  have O1 := Lib.hid O1
  have B1 := Lib.hid (HAL.out.trans (hb.mono HAL.out.size))
  clear ho hb CL HAL
  go_wp2_with fail
  have hL := Rd.lit .u64 w1 [10, 18446744069414584319, 18446744069414584317, 0] 25 4 rfl (by simp)
  have hal := (Below.refl w1.heap.size w1).alloc (Nat.le_refl _) (.cells ([10, 18446744069414584319, 18446744069414584317, 0].map (Value.int .u64)).toArray 25)
  refine (equal_yes [10, 18446744069414584319, 18446744069414584317, 0] _ _ _ (O1.out.below hal) hL).mono ?_
  rintro e w2 ⟨rfl, hb2⟩
  have hs1 := B1.out.size
  have B2 := Lib.hid (B1.out.trans ((hal.trans (hb2.mono (by simp))).mono hs1))
  clear hL hal hb2
  go_wp2
  go_ret
  exact ⟨rfl, B2.out⟩
/-- a call's end: a list of integers of its own, a bool -/
def RetZB (w : World) (l : List Int) (b : Bool) (e : Ending) (w' : World) : Prop := ∃ v, e = .returned (.tuple #[v, .bool b]) ∧ Oz .u64 25 w.heap.size w' v l ∧ Below w.heap.size w w'
def NoShape (zs : List Int) : Prop := Bad zs ∨ Big zs ∨ ∃ ds, zs = zi ds ∧ Shp ds ∧ 64 < pr ds
theorem shaped_no (zs ys : List Int) (v v2 : Value) (w : World) (h : Rd .i64 w v zs) (hw : W64 zs) (hn : NoShape zs) :
    Calls Tryd.prog 44 #[v, v2] w (RetZB w [] false) := by
  have CS := Lib.hid (rshape_any zs v w h hw)
  clear h hw
  rcases hn with hb | hb | ⟨ds, rfl, hs, h64⟩
  · have HB := Lib.hid (CS.out.mono (R' := fun e w' => e = _ ∧ w = w') (fun e w' he => ⟨he.1.bad hb, he.2⟩))
    clear CS hb
    go_enter Tryd.func44, Tryd.ntmps44
    go_wp2_with fail
    refine HB.out.mono ?_
    rintro e w' ⟨rfl, rfl⟩
    go_wp2
    go_ret2
    exact ⟨_, rfl, Oz.nil _ _ _ _, Below.refl _ _⟩
  · have HB := Lib.hid (CS.out.mono (R' := fun e w' => e = _ ∧ w = w') (fun e w' he => ⟨he.1.big hb, he.2⟩))
    clear CS hb
    go_enter Tryd.func44, Tryd.ntmps44
    go_wp2_with fail
    refine HB.out.mono ?_
    rintro e w' ⟨rfl, rfl⟩
    go_wp2
    go_ret2
    exact ⟨_, rfl, Oz.nil _ _ _ _, Below.refl _ _⟩
  · have HB := Lib.hid (CS.out.mono (R' := fun e w' => e = _ ∧ w = w') (fun e w' he => ⟨he.1.ok hs, he.2⟩))
    have h64i : (64 : Int) < (pr ds : Int) := by omega
    generalize pr ds = n at *
    clear CS
    go_enter Tryd.func44, Tryd.ntmps44
    go_wp2_with fail
    refine HB.out.mono ?_
    rintro e w' ⟨rfl, rfl⟩
    go_wp2
    go_ret2
    exact ⟨_, rfl, Oz.nil _ _ _ _, Below.refl _ _⟩
theorem shaped_yes (ds : List Nat) (zs : List Int) (v v2 : Value) (w : World) (h : Rd .i64 w v (zi ds)) (h2 : Rd .u64 w v2 zs) (hw : W64 (zi ds)) (hs : Shp ds) (h64 : pr ds ≤ 64) :
    Calls Tryd.prog 44 #[v, v2] w (RetZB w (siz zs (pr ds)) true) := by
  have CS := Lib.hid ((rshape_any (zi ds) v w h hw).mono (R' := fun e w' => e = _ ∧ w = w') (fun e w' he => ⟨he.1.ok hs, he.2⟩))
  have HR := Lib.hid h2
  obtain ⟨a, cap, rfl, hcap, hm⟩ := h2.shape
  clear h hw h2
  have h64i : decide ((64 : Int) < (pr ds : Int)) = false := by rw [decide_eq_false_iff_not]; omega
  have h64n : decide (64 < pr ds) = false := by rw [decide_eq_false_iff_not]; omega
  have hnm : pr ds ≤ 1000000 := by omega
  generalize pr ds = n at *
  go_enter Tryd.func44, Tryd.ntmps44
  go_wp2_with fail
  refine CS.out.mono ?_
  rintro e w' ⟨rfl, rfl⟩
  go_wp2_with (refine wl_make _ rfl (.tmp 20) (.tmp 20) rfl w.heap.size _ _ n w rfl rfl rfl rfl hnm (Below.refl _ _) (Nat.le_refl _) ?_)
  intro g w1 _ hown1 hbel1
  have O1 := hown1.oz
  rw [List.map_replicate, vl_zero] at O1
  have O1 := Lib.hid O1
  have B1 := Lib.hid hbel1
  have R1 := Lib.hid (HR.out.below hbel1)
  have hsz := hbel1.size
  clear hown1 hbel1
  go_wp2_with (refine wl_copyG .u64 25 22 Tryd.underlying22 (by kernel_rfl) _ rfl (.tmp 22) (.tmp 23) rfl w.heap.size g n n (List.replicate n 0) zs _ w rfl rfl O1.out (by simp) R1.out B1.out ?_)
  intro z w2 hown2 hbel2
  have O2 := Lib.hid hown2
  have B2 := Lib.hid hbel2
  clear hown2 hbel2
  go_wp2
  go_ret2
  exact ⟨_, rfl, O2.out, B2.out⟩
theorem shape_split (zs : List Int) : NoShape zs ∨ ∃ ds, zs = zi ds ∧ Shp ds ∧ pr ds ≤ 64 := by
  rcases shape_cases zs with h | h | ⟨ds, rfl, hs⟩
  · exact .inl (.inl h)
  · exact .inl (.inr (.inl h))
  · by_cases h : 64 < pr ds
    · exact .inl (.inr (.inr ⟨ds, rfl, hs, h⟩))
    · exact .inr ⟨ds, rfl, hs, by omega⟩
/-- the axes the other way round -/
def raR (back : Bool) (ks : List Nat) (zs : List Int) : Nat → List Int
  | 0 => zs
  | j + 1 => tz back (under (szs ks) (ks.length - 1 - j)) (nd ks (ks.length - 1 - j)) (pk ks) 0 (pr ((szs ks).take (ks.length - 1 - j)) * under (szs ks) (ks.length - 1 - j)) (raR back ks zs j)
@[irreducible] def raT (back : Bool) (ks : List Nat) (zs : List Int) (x : Nat) : List Int := raR back ks zs x
theorem raT_zero (back : Bool) (ks : List Nat) (zs : List Int) : raT back ks zs 0 = zs := by unfold raT; rfl
theorem raT_succ (back : Bool) (ks : List Nat) (zs : List Int) (j : Nat) : raT back ks zs (j + 1) = tz back (under (szs ks) (ks.length - 1 - j)) (nd ks (ks.length - 1 - j)) (pk ks) 0 (pr ((szs ks).take (ks.length - 1 - j)) * under (szs ks) (ks.length - 1 - j)) (raT back ks zs j) := by unfold raT; rfl
theorem raT_len {back : Bool} {ks : List Nat} {zs : List Int} (h : zs.length = pk ks) (x : Nat) : (raT back ks zs x).length = pk ks := by
  cases x with
  | zero => rw [raT_zero, h]
  | succ x => rw [raT_succ, tz_len]
theorem raT_64 {back : Bool} {ks : List Nat} {zs : List Int} (h : zs.length = pk ks) (hz : B64 zs) : ∀ x, B64 (raT back ks zs x)
  | 0 => by rw [raT_zero]; exact hz
  | x + 1 => by rw [raT_succ]; exact B64.tz (raT_64 h hz x) (raT_len h x)
theorem raT_run {back : Bool} {ks : List Nat} {zs : List Int} : ∀ j, j ≤ ks.length → ∀ p, p < pk ks → toF (gd (raT back ks zs j) p) = run back ((axs ks).reverse.take j) (fun i => toF (gd zs i)) p
  | 0, _, p, _ => by rw [raT_zero]; rfl
  | j + 1, hj, p, hp => by
    have hx : ks.length - 1 - j < ks.length := by omega
    have hl : j < (axs ks).reverse.length := by rw [List.length_reverse, axs_len]; omega
    have hg : (axs ks).reverse[j] = (under (szs ks) (ks.length - 1 - j), nd ks (ks.length - 1 - j)) := by
      have h := axs_get ks _ hx
      rw [List.getElem_reverse]
      rw [List.getElem?_eq_getElem (by rw [axs_len]; exact hx)] at h
      have := Option.some.inj h
      simpa [axs_len] using this
    rw [raT_succ, tz_full hx hp, toF_vl, List.take_succ_eq_append_getElem hl, run_append, hg]
    have hf := fit_axs ks _ (List.mem_of_getElem? (axs_get ks _ hx))
    exact axis_congr hf.1 hf.2 (fun i hi => raT_run j (by omega) i hi) hp
theorem raT_whole {back : Bool} {ks : List Nat} {zs : List Int} (h0 : 1 ≤ ks.length) : raT back ks zs ks.length = (WL back ks (zs.map toF)).map vl := by
  obtain ⟨x, hx⟩ : ∃ x, ks.length = x + 1 := ⟨ks.length - 1, by omega⟩
  have hl : (raT back ks zs ks.length).length = pk ks := by rw [hx, raT_succ, tz_len]
  refine ext_gd (by rw [hl, List.length_map, WL_len]) (fun p hp => ?_)
  rw [hl] at hp
  have h1 := raT_run (back := back) (zs := zs) ks.length (Nat.le_refl _) p hp
  rw [show (axs ks).reverse.take ks.length = (axs ks).reverse by rw [← axs_len, ← List.length_reverse]; exact List.take_length, run_rev back ks _ p hp] at h1
  have h2 : gd (raT back ks zs ks.length) p = vl (toF (gd (raT back ks zs ks.length) p)) := by
    rw [hx, raT_succ, tz_full (by omega) hp, toF_vl]
  rw [h2, h1]
  rw [gd_eq ((WL back ks (zs.map toF)).map vl), List.getElem?_map, List.getElem?_eq_getElem (by rw [WL_len]; exact hp)]
  show _ = vl _
  rw [← cf_lt (by rw [WL_len]; exact hp), cf_WL _ _ _ hp]
  congr 1
  exact WT_congr (fun i _ => (cf_map zs i).symm) p
end Go.Proofs.YtkcfnbfkbmgchaaDoor.Gm
