/- Plain: lines of an array transformed. -/
import Derived.Test.YtkcfnbfkbmgchaaDoorNr
import Derived.Test.YtkcfnbfkbmgchaaDoorHr
namespace Go.Proofs.YtkcfnbfkbmgchaaDoor.Gm
open Go.RowKit
set_option linter.unusedVariables false
/-- an array with lines first .. last - 1 of an axis (sizes 2 ^ k, s apart) transformed: number p -/
def tzAt (back : Bool) (s k first last : Nat) (zs : List Int) (p : Nat) : Int :=
  if first ≤ lineNo s (2 ^ k) p ∧ lineNo s (2 ^ k) p < last then vl (tr back k (fun i => toF (gd zs (lineAt s (2 ^ k) (lineNo s (2 ^ k) p) + i * s))) (coord s (2 ^ k) p)) else gd zs p
@[irreducible] def tz (back : Bool) (s k n first last : Nat) (zs : List Int) : List Int := (List.range n).map (tzAt back s k first last zs)
theorem tz_len (back : Bool) (s k n first last : Nat) (zs : List Int) : (tz back s k n first last zs).length = n := by unfold tz; simp
theorem gd_range {f : Nat → Int} {n i : Nat} (h : i < n) : gd ((List.range n).map f) i = f i := by
  rw [gd_eq, List.getElem?_map, List.getElem?_range h]; rfl
theorem gd_tz (back : Bool) (s k n first last : Nat) (zs : List Int) {p : Nat} (h : p < n) : gd (tz back s k n first last zs) p = tzAt back s k first last zs p := by unfold tz; exact gd_range h
theorem ext_gd {l m : List Int} (hl : l.length = m.length) (h : ∀ i, i < l.length → gd l i = gd m i) : l = m := by
  apply List.ext_getElem?
  intro i
  by_cases hi : i < l.length
  · have := h i hi
    rw [gd_eq, gd_eq, List.getElem?_eq_getElem hi, List.getElem?_eq_getElem (by omega)] at this
    rw [List.getElem?_eq_getElem hi, List.getElem?_eq_getElem (by omega)]
    exact congrArg some this
  · rw [List.getElem?_eq_none (by omega), List.getElem?_eq_none (by omega)]
theorem tz_none (back : Bool) (s k n first : Nat) {zs : List Int} (h : zs.length = n) : tz back s k n first first zs = zs := by
  refine ext_gd (by rw [tz_len, h]) (fun i hi => ?_)
  rw [tz_len] at hi
  rw [gd_tz _ _ _ _ _ _ _ hi, tzAt, if_neg (by omega)]
/-- the places of the line come in one after another -/
def tzPart (back : Bool) (s k n first L m : Nat) (zs : List Int) : List Int :=
  (List.range n).map fun p => if lineNo s (2 ^ k) p = L ∧ coord s (2 ^ k) p < m then tzAt back s k L (L + 1) zs p else tzAt back s k first L zs p
theorem tzPart_len (back : Bool) (s k n first L m : Nat) (zs : List Int) : (tzPart back s k n first L m zs).length = n := by simp [tzPart]
theorem tzPart_zero (back : Bool) (s k n first L : Nat) (zs : List Int) : tzPart back s k n first L 0 zs = tz back s k n first L zs := by
  unfold tzPart tz
  apply List.map_congr_left
  intro p _
  rw [if_neg (by omega)]
theorem tzPart_full (back : Bool) (s k n first L : Nat) (zs : List Int) (hL : first ≤ L) : tzPart back s k n first L (2 ^ k) zs = tz back s k n first (L + 1) zs := by
  unfold tzPart tz
  apply List.map_congr_left
  intro p _
  have hc := coord_lt s (2 ^ k) p (Nat.two_pow_pos k)
  by_cases h : lineNo s (2 ^ k) p = L
  · rw [if_pos ⟨h, hc⟩, tzAt, tzAt, if_pos (by omega), if_pos (by omega)]
  · rw [if_neg (by omega), tzAt, tzAt]
    by_cases h2 : first ≤ lineNo s (2 ^ k) p ∧ lineNo s (2 ^ k) p < L
    · rw [if_pos h2, if_pos (by omega)]
    · rw [if_neg h2, if_neg (by omega)]
theorem tzPart_step (back : Bool) (s k n first L m : Nat) (zs : List Int) (hs : 0 < s) (hm : m < 2 ^ k) :
    (tzPart back s k n first L m zs).set (lineAt s (2 ^ k) L + m * s) (vl (tr back k (fun i => toF (gd zs (lineAt s (2 ^ k) L + i * s))) m)) = tzPart back s k n first L (m + 1) zs := by
  refine ext_gd (by rw [List.length_set, tzPart_len, tzPart_len]) (fun p hp => ?_)
  rw [List.length_set, tzPart_len] at hp
  have e : ∀ m, gd (tzPart back s k n first L m zs) p = if lineNo s (2 ^ k) p = L ∧ coord s (2 ^ k) p < m then tzAt back s k L (L + 1) zs p else tzAt back s k first L zs p := fun m => gd_range hp
  have hsp := place_split s (2 ^ k) p
  by_cases hpe : lineAt s (2 ^ k) L + m * s = p
  · have h1 := coord_of s (2 ^ k) L m hs hm
    have h2 := lineNo_of s (2 ^ k) L m hs hm
    rw [hpe] at h1 h2
    rw [gd_set _ _ _ _ (by rw [tzPart_len, hpe]; exact hp), if_pos hpe, e, if_pos ⟨h2, by omega⟩, tzAt, h2, if_pos (by omega), h1]
  · by_cases hlt : lineAt s (2 ^ k) L + m * s < n
    · rw [gd_set _ _ _ _ (by rw [tzPart_len]; exact hlt), if_neg hpe, e, e]
      by_cases hL : lineNo s (2 ^ k) p = L
      · have hne : coord s (2 ^ k) p ≠ m := fun hc => hpe (by rw [hL, hc] at hsp; exact hsp.symm)
        by_cases hc : coord s (2 ^ k) p < m
        · rw [if_pos ⟨hL, hc⟩, if_pos ⟨hL, by omega⟩]
        · rw [if_neg (by omega), if_neg (by omega)]
      · rw [if_neg (by omega), if_neg (by omega)]
    · rw [List.set_eq_of_length_le (by rw [tzPart_len]; omega), e, e]
      by_cases hL : lineNo s (2 ^ k) p = L
      · have hne : coord s (2 ^ k) p ≠ m := fun hc => hpe (by rw [hL, hc] at hsp; exact hsp.symm)
        by_cases hc : coord s (2 ^ k) p < m
        · rw [if_pos ⟨hL, hc⟩, if_pos ⟨hL, by omega⟩]
        · rw [if_neg (by omega), if_neg (by omega)]
      · rw [if_neg (by omega), if_neg (by omega)]
theorem B64.tz {back : Bool} {s k n first last : Nat} {zs : List Int} (h : B64 zs) (hl : zs.length = n) : B64 (tz back s k n first last zs) := by
  intro z hz
  unfold Gm.tz at hz
  obtain ⟨p, hp, rfl⟩ := List.mem_map.1 hz
  have hp := List.mem_range.1 hp
  unfold tzAt
  split
  · have h1 := vl_lo (tr back k (fun i => toF (gd zs (lineAt s (2 ^ k) (lineNo s (2 ^ k) p) + i * s))) (coord s (2 ^ k) p))
    have h2 := vl_hi (tr back k (fun i => toF (gd zs (lineAt s (2 ^ k) (lineNo s (2 ^ k) p) + i * s))) (coord s (2 ^ k) p))
    omega
  · exact h.get p
theorem lns_get {l : List Nat} (h : Shp l) {a : Nat} (ha : a < l.length) {i : Nat} (hi : i < pr (l.take a) * under l a) : lg (lnz (lns l a)) i = zi (line (under l a) (nd l a) i) := by
  rw [lg_eq, lnz, List.getElem?_map, lns_eq h ha, linesOf, List.getElem?_map, List.getElem?_range hi]
  rfl
theorem lns_length {l : List Nat} (h : Shp l) {a : Nat} (ha : a < l.length) : (lnz (lns l a)).length = pr (l.take a) * under l a := by
  rw [lnz_len, lns_eq h ha, linesOf]; simp
theorem gd_line (s d L : Nat) {i : Nat} (hi : i < d) : gd (zi (line s d L)) i = ((lineAt s d L + i * s : Nat) : Int) := by
  rw [gd_zi, nd_eq, line, List.getElem?_map, List.getElem?_range hi]; rfl
theorem line_len (s d L : Nat) : (zi (line s d L)).length = d := by rw [zi_len]; simp [line]
end Go.Proofs.YtkcfnbfkbmgchaaDoor.Gm
