/- goldkeep.flat, goldkeep.shaped; the axes the other way round. -/
import Derived.Test.YtcakeenfkdhedaaDoorGd
import Derived.Test.YtcakeenfkdhedaaDoorSh1
namespace Go.Proofs.YtcakeenfkdhedaaDoor.Gm
open Go.RowKit
set_option linter.unusedVariables false
theorem root_m1 : root 1 = -1 := by
  have h := root_half 0 (by omega)
  rw [show (2 : Nat) ^ 0 = 0 + 1 from rfl, pow_succ, pow_zero] at h
  rw [show root 1 = 1 * root 1 by grind]; exact h
theorem tr1_zero (b : Nat → F) : tr false 1 b 0 = b 0 + b 1 := by
  rw [tr_ker]
  show S (0 + 1 + 1) _ = _
  rw [S_succ, S_succ, S_zero, ker_f, ker_f]
  simp only [Nat.zero_mul, pow_zero]
  grind
theorem tr1_one (b : Nat → F) : tr false 1 b 1 = b 0 - b 1 := by
  rw [tr_ker]
  show S (0 + 1 + 1) _ = _
  rw [S_succ, S_succ, S_zero, ker_f, ker_f, show (1 : Nat) * 0 = 0 from rfl, pow_zero, show (1 : Nat) * 1 = 0 + 1 from rfl, pow_succ, pow_zero, root_m1]
  generalize b 0 = x
  generalize b 1 = y
  grind
theorem WT_nil0 (a : Nat → F) : WT false [] a 0 = a 0 := by
  rw [← run_whole false [] a 0 (by simp [pk_nil])]; rfl
theorem WT_row (a : Nat → F) (p : Nat) (hp : p < 2) : WT false [1] a p = tr false 1 a p := by
  rw [WT_tr, pk_nil, Nat.div_one, Nat.mod_one]
  exact tr_congr (fun i _ => by rw [WT_nil0]; simp) p
theorem pk_one : pk [1] = 2 := rfl
theorem WT_flat (a : Nat → F) (i j : Nat) (hi : i < 2) (hj : j < 2) : WT false [1, 1] a (i * 2 + j) = tr false 1 (fun x => tr false 1 (fun y => a (x * 2 + y)) j) i := by
  rw [WT_tr, pk_one, blk_div hj, blk_mod hj]
  exact tr_congr (fun x _ => WT_row _ j hj) i
theorem flat_list : (WL false [1, 1] ([1, 2, 3, 4].map toF)).map vl = [10, 18446744069414584319, 18446744069414584317, 0] := by
  have c0 : cf ([1, 2, 3, 4].map toF) 0 = toF 1 := rfl
  have c1 : cf ([1, 2, 3, 4].map toF) 1 = toF 2 := rfl
  have c2 : cf ([1, 2, 3, 4].map toF) 2 = toF 3 := rfl
  have c3 : cf ([1, 2, 3, 4].map toF) 3 = toF 4 := rfl
  have w0 : WT false [1, 1] (cf ([1, 2, 3, 4].map toF)) 0 = toF 10 := by
    have := WT_flat (cf ([1, 2, 3, 4].map toF)) 0 0 (by omega) (by omega)
    rw [show 0 * 2 + 0 = 0 from rfl, tr1_zero, tr1_zero, tr1_zero] at this
    rw [this]
    show cf _ 0 + cf _ 1 + (cf _ 2 + cf _ 3) = _
    rw [c0, c1, c2, c3, ← toF_add, ← toF_add, ← toF_add]; rfl
  have w1 : WT false [1, 1] (cf ([1, 2, 3, 4].map toF)) 1 = toF (-2) := by
    have := WT_flat (cf ([1, 2, 3, 4].map toF)) 0 1 (by omega) (by omega)
    rw [show 0 * 2 + 1 = 1 from rfl, tr1_zero, tr1_one, tr1_one] at this
    rw [this]
    show cf _ 0 - cf _ 1 + (cf _ 2 - cf _ 3) = _
    rw [c0, c1, c2, c3, ← toF_sub, ← toF_sub, ← toF_add]; rfl
  have w2 : WT false [1, 1] (cf ([1, 2, 3, 4].map toF)) 2 = toF (-4) := by
    have := WT_flat (cf ([1, 2, 3, 4].map toF)) 1 0 (by omega) (by omega)
    rw [show 1 * 2 + 0 = 2 from rfl, tr1_one, tr1_zero, tr1_zero] at this
    rw [this]
    show cf _ 0 + cf _ 1 - (cf _ 2 + cf _ 3) = _
    rw [c0, c1, c2, c3, ← toF_add, ← toF_add, ← toF_sub]; rfl
  have w3 : WT false [1, 1] (cf ([1, 2, 3, 4].map toF)) 3 = toF 0 := by
    have := WT_flat (cf ([1, 2, 3, 4].map toF)) 1 1 (by omega) (by omega)
    rw [show 1 * 2 + 1 = 3 from rfl, tr1_one, tr1_one, tr1_one] at this
    rw [this]
    show cf _ 0 - cf _ 1 - (cf _ 2 - cf _ 3) = _
    rw [c0, c1, c2, c3, ← toF_sub, ← toF_sub, ← toF_sub]; rfl
  unfold WL
  show [vl (WT false [1, 1] (cf ([1, 2, 3, 4].map toF)) 0), vl (WT false [1, 1] (cf ([1, 2, 3, 4].map toF)) 1), vl (WT false [1, 1] (cf ([1, 2, 3, 4].map toF)) 2), vl (WT false [1, 1] (cf ([1, 2, 3, 4].map toF)) 3)] = _
  rw [w0, w1, w2, w3, vl_toF, vl_toF, vl_toF, vl_toF]; rfl
theorem shp_22 : Shp (szs [1, 1]) := ⟨by decide, by decide, fun d hd => by
  obtain ⟨k, hk, rfl⟩ := List.mem_map.1 hd
  exact ⟨k, rfl⟩, by decide⟩
theorem w22 : W64 (zi (szs [1, 1])) := by
  intro a ha
  have h : a = 2 := by simpa [zi, szs] using ha
  subst h
  decide
/-- the axes the other way round -/
def raR (back : Bool) (ks : List Nat) (zs : List Int) : Nat → List Int
  | 0 => zs
  | j + 1 => tz back (under (szs ks) (ks.length - 1 - j)) (nd ks (ks.length - 1 - j)) (pk ks) 0 (pr ((szs ks).take (ks.length - 1 - j)) * under (szs ks) (ks.length - 1 - j)) (raR back ks zs j)
@[irreducible] def raT (back : Bool) (ks : List Nat) (zs : List Int) (x : Nat) : List Int := raR back ks zs x
theorem raT_zero (back : Bool) (ks : List Nat) (zs : List Int) : raT back ks zs 0 = zs := by unfold raT; rfl
theorem raT_succ (back : Bool) (ks : List Nat) (zs : List Int) (j : Nat) : raT back ks zs (j + 1) = tz back (under (szs ks) (ks.length - 1 - j)) (nd ks (ks.length - 1 - j)) (pk ks) 0 (pr ((szs ks).take (ks.length - 1 - j)) * under (szs ks) (ks.length - 1 - j)) (raT back ks zs j) := by unfold raT; rfl
theorem raT_len {back : Bool} {ks : List Nat} {zs : List Int} (h : zs.length = pk ks) (x : Nat) : (raT back ks zs x).length = pk ks := by
  cases x with
  | zero => rw [raT_zero, h]
  | succ x => rw [raT_succ, tz_len]
theorem raT_64 {back : Bool} {ks : List Nat} {zs : List Int} (h : zs.length = pk ks) (hz : B64 zs) : ∀ x, B64 (raT back ks zs x)
  | 0 => by rw [raT_zero]; exact hz
  | x + 1 => by rw [raT_succ]; exact B64.tz (raT_64 h hz x) (raT_len h x)
theorem raT_run {back : Bool} {ks : List Nat} {zs : List Int} : ∀ j, j ≤ ks.length → ∀ p, p < pk ks → toF (gd (raT back ks zs j) p) = run back ((axs ks).reverse.take j) (fun i => toF (gd zs i)) p
  | 0, _, p, _ => by rw [raT_zero]; rfl
  | j + 1, hj, p, hp => by
    have hx : ks.length - 1 - j < ks.length := by omega
    have hl : j < (axs ks).reverse.length := by rw [List.length_reverse, axs_len]; omega
    have hg : (axs ks).reverse[j] = (under (szs ks) (ks.length - 1 - j), nd ks (ks.length - 1 - j)) := by
      have h := axs_get ks _ hx
      rw [List.getElem_reverse]
      rw [List.getElem?_eq_getElem (by rw [axs_len]; exact hx)] at h
      have := Option.some.inj h
      simpa [axs_len] using this
    rw [raT_succ, tz_full hx hp, toF_vl, List.take_succ_eq_append_getElem hl, run_append, hg]
    have hf := fit_axs ks _ (List.mem_of_getElem? (axs_get ks _ hx))
    exact axis_congr hf.1 hf.2 (fun i hi => raT_run j (by omega) i hi) hp
theorem raT_whole {back : Bool} {ks : List Nat} {zs : List Int} (h0 : 1 ≤ ks.length) : raT back ks zs ks.length = (WL back ks (zs.map toF)).map vl := by
  obtain ⟨x, hx⟩ : ∃ x, ks.length = x + 1 := ⟨ks.length - 1, by omega⟩
  have hl : (raT back ks zs ks.length).length = pk ks := by rw [hx, raT_succ, tz_len]
  refine ext_gd (by rw [hl, List.length_map, WL_len]) (fun p hp => ?_)
  rw [hl] at hp
  have h1 := raT_run (back := back) (zs := zs) ks.length (Nat.le_refl _) p hp
  rw [show (axs ks).reverse.take ks.length = (axs ks).reverse by rw [← axs_len, ← List.length_reverse]; exact List.take_length, run_rev back ks _ p hp] at h1
  have h2 : gd (raT back ks zs ks.length) p = vl (toF (gd (raT back ks zs ks.length) p)) := by
    rw [hx, raT_succ, tz_full (by omega) hp, toF_vl]
  rw [h2, h1]
  rw [gd_eq ((WL back ks (zs.map toF)).map vl), List.getElem?_map, List.getElem?_eq_getElem (by rw [WL_len]; exact hp)]
  show _ = vl _
  rw [← cf_lt (by rw [WL_len]; exact hp), cf_WL _ _ _ hp]
  congr 1
  exact WT_congr (fun i _ => (cf_map zs i).symm) p
end Go.Proofs.YtcakeenfkdhedaaDoor.Gm
