/- many: all axes; Along. -/
import Derived.Test.YtkcfnbfkbmgchaaDoorFm
import Derived.Test.YtkcfnbfkbmgchaaDoorPla
namespace Go.Proofs.YtkcfnbfkbmgchaaDoor.Gm
open Go.RowKit
set_option linter.unusedVariables false
theorem shp_ks {ds : List Nat} (hs : Shp ds) : ∃ ks, ds = szs ks ∧ ∀ k ∈ ks, k ≤ 10 := by
  have h : ∀ l : List Nat, (∀ d ∈ l, ∃ k, d = 2 ^ k) → ∃ ks, l = szs ks := fun l => by
    induction l with
    | nil => intro _; exact ⟨[], rfl⟩
    | cons d l ih =>
      intro h
      obtain ⟨k, rfl⟩ := h d (by simp)
      obtain ⟨ks, rfl⟩ := ih (fun x hx => h x (by simp [hx]))
      exact ⟨k :: ks, rfl⟩
  obtain ⟨ks, rfl⟩ := h ds hs.pow
  refine ⟨ks, rfl, fun k hk => ?_⟩
  have h1 : 2 ^ k ∈ szs ks := List.mem_map.2 ⟨k, hk, rfl⟩
  obtain ⟨i, hi, he⟩ := List.getElem_of_mem h1
  have h2 := hs.ndle hi
  rw [nd_lt hi, he] at h2
  apply Classical.byContradiction
  intro hn
  have := Nat.pow_le_pow_right (show 0 < 2 by omega) (show 11 ≤ k by omega)
  omega
theorem szs_len (ks : List Nat) : (szs ks).length = ks.length := by simp [szs]
theorem nd_szs (ks : List Nat) {x : Nat} (hx : x < ks.length) : nd (szs ks) x = 2 ^ nd ks x := by
  rw [nd_eq, nd_eq, szs, List.getElem?_map, List.getElem?_eq_getElem hx]; rfl
theorem axs_get : ∀ (ks : List Nat) (x : Nat), x < ks.length → (axs ks)[x]? = some (under (szs ks) x, nd ks x)
  | k :: ks, 0, _ => by rw [nd_zero]; simp [axs, under, pk, szs]
  | k :: ks, x + 1, h => by
    rw [nd_succ]
    have := axs_get ks x (by simpa using h)
    simpa [axs, under, szs] using this
theorem axs_len (ks : List Nat) : (axs ks).length = ks.length := by
  induction ks with
  | nil => rfl
  | cons k ks ih => simp [axs, ih]
def alR (back : Bool) (ks : List Nat) (zs : List Int) : Nat → List Int
  | 0 => zs
  | x + 1 => tz back (under (szs ks) x) (nd ks x) (pk ks) 0 (pr ((szs ks).take x) * under (szs ks) x) (alR back ks zs x)
/-- behind so many axes -/
@[irreducible] def alT (back : Bool) (ks : List Nat) (zs : List Int) (x : Nat) : List Int := alR back ks zs x
theorem alT_zero (back : Bool) (ks : List Nat) (zs : List Int) : alT back ks zs 0 = zs := by unfold alT; rfl
theorem alT_succ (back : Bool) (ks : List Nat) (zs : List Int) (x : Nat) : alT back ks zs (x + 1) = tz back (under (szs ks) x) (nd ks x) (pk ks) 0 (pr ((szs ks).take x) * under (szs ks) x) (alT back ks zs x) := by unfold alT; rfl
theorem alT_len {back : Bool} {ks : List Nat} {zs : List Int} (h : zs.length = pk ks) (x : Nat) : (alT back ks zs x).length = pk ks := by
  cases x with
  | zero => rw [alT_zero, h]
  | succ x => rw [alT_succ, tz_len]
theorem alT_64 {back : Bool} {ks : List Nat} {zs : List Int} (h : zs.length = pk ks) (hz : B64 zs) : ∀ x, B64 (alT back ks zs x)
  | 0 => by rw [alT_zero]; exact hz
  | x + 1 => by rw [alT_succ]; exact B64.tz (alT_64 h hz x) (alT_len h x)
theorem tz_full {back : Bool} {ks : List Nat} {zs : List Int} {x : Nat} (hx : x < ks.length) {p : Nat} (hp : p < pk ks) :
    gd (tz back (under (szs ks) x) (nd ks x) (pk ks) 0 (pr ((szs ks).take x) * under (szs ks) x) zs) p = vl (axis back (under (szs ks) x) (nd ks x) (fun i => toF (gd zs i)) p) := by
  have hu : 0 < under (szs ks) x := under_pos szs_pos x
  have hsp : pk ks = pr ((szs ks).take x) * (2 ^ nd ks x * under (szs ks) x) := shp_split (by rw [szs_len]; exact hx) (nd_szs ks hx)
  rw [gd_tz _ _ _ _ _ _ _ hp, tzAt, if_pos ⟨Nat.zero_le _, lineNo_lt _ _ _ _ hu (by rw [← hsp]; exact hp)⟩]
  rfl
theorem take_axs {ks : List Nat} {x : Nat} (hx : x < ks.length) : (axs ks).take (x + 1) = (axs ks).take x ++ [(under (szs ks) x, nd ks x)] := by
  have h := axs_get ks x hx
  have hl : x < (axs ks).length := by rw [axs_len]; exact hx
  rw [List.take_succ_eq_append_getElem hl]
  rw [List.getElem?_eq_getElem hl] at h
  rw [Option.some.inj h]
theorem fit_take (ks : List Nat) (x : Nat) : Fit (pk ks) ((axs ks).take x) := fun y hy => fit_axs ks y (List.mem_of_mem_take hy)
theorem alT_run {back : Bool} {ks : List Nat} {zs : List Int} : ∀ x, x ≤ ks.length → ∀ p, p < pk ks → toF (gd (alT back ks zs x) p) = run back ((axs ks).take x) (fun i => toF (gd zs i)) p
  | 0, _, p, _ => by rw [alT_zero]; rfl
  | x + 1, hx, p, hp => by
    have hx' : x < ks.length := hx
    rw [alT_succ, tz_full hx' hp, toF_vl, take_axs hx', run_append]
    have hf := fit_axs ks _ (List.mem_of_getElem? (axs_get ks x hx'))
    exact axis_congr hf.1 hf.2 (fun i hi => alT_run x (by omega) i hi) hp
/-- the whole transform of a list -/
@[irreducible] def WL (back : Bool) (ks : List Nat) (l : List F) : List F := (List.range (pk ks)).map (WT back ks (cf l))
theorem WL_len (back : Bool) (ks : List Nat) (l : List F) : (WL back ks l).length = pk ks := by unfold WL; simp
theorem cf_WL (back : Bool) (ks : List Nat) (l : List F) {p : Nat} (hp : p < pk ks) : cf (WL back ks l) p = WT back ks (cf l) p := by unfold WL; exact cf_ofFn _ hp
theorem alT_whole {back : Bool} {ks : List Nat} {zs : List Int} (h0 : 1 ≤ ks.length) : alT back ks zs ks.length = (WL back ks (zs.map toF)).map vl := by
  obtain ⟨x, hx⟩ : ∃ x, ks.length = x + 1 := ⟨ks.length - 1, by omega⟩
  have hl : (alT back ks zs ks.length).length = pk ks := by rw [hx, alT_succ, tz_len]
  refine ext_gd (by rw [hl, List.length_map, WL_len]) (fun p hp => ?_)
  rw [hl] at hp
  have h1 := alT_run (back := back) (zs := zs) ks.length (Nat.le_refl _) p hp
  rw [show (axs ks).take ks.length = axs ks by rw [← axs_len]; exact List.take_length, run_whole back ks _ p hp] at h1
  have h2 : gd (alT back ks zs ks.length) p = vl (toF (gd (alT back ks zs ks.length) p)) := by
    rw [hx, alT_succ, tz_full (by omega) hp, toF_vl]
  rw [h2, h1]
  rw [gd_eq ((WL back ks (zs.map toF)).map vl), List.getElem?_map, List.getElem?_eq_getElem (by rw [WL_len]; exact hp)]
  show _ = vl _
  rw [← cf_lt (by rw [WL_len]; exact hp), cf_WL _ _ _ hp]
  congr 1
  exact WT_congr (fun i _ => (cf_map zs i).symm) p
end Go.Proofs.YtkcfnbfkbmgchaaDoor.Gm
