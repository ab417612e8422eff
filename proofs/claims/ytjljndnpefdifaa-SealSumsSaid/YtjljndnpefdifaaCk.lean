/- Plain: corners as the program and the reference reckon them. -/
import Derived.Test.YtjljndnpefdifaaAd
namespace Go.Proofs.Ytjljndnpefdifaa.Gm
open Go.RowKit
set_option linter.unusedVariables false
/-- is axis x turned in corner c? -/
@[irreducible] def ob (N c x : Nat) : Bool := c.testBit (N - 1 - x)
theorem ob_eq (N c x : Nat) : ob N c x = decide (c / 2 ^ (N - 1 - x) % 2 = 1) := by unfold ob; exact Nat.testBit_eq_decide_div_mod_eq
theorem ob_succ (n c x : Nat) : ob (n + 1) c (x + 1) = ob n c x := by unfold ob; congr 1; omega
theorem ob_mod (n c : Nat) {x : Nat} (hx : x < n) : ob n (c % 2 ^ n) x = ob n c x := by
  unfold ob
  rw [Nat.testBit_mod_two_pow]
  have : n - 1 - x < n := by omega
  simp [this]
theorem ob_zero (n c : Nat) : ob (n + 1) c 0 = (c / 2 ^ n % 2 == 1) := by
  rw [ob_eq, show n + 1 - 1 - 0 = n by omega]
  rw [Bool.eq_iff_iff]; simp
def wrgR (ds : List Nat) (N c : Nat) : Nat → Bool
  | 0 => false
  | m + 1 => wrgR ds N c m || (ob N c m && nd ds m == 1)
/-- half of an axis of one place, among the first m axes -/
@[irreducible] def wrg (ds : List Nat) (N c m : Nat) : Bool := wrgR ds N c m
theorem wrg_zero (ds : List Nat) (N c : Nat) : wrg ds N c 0 = false := by unfold wrg; rfl
theorem wrg_succ (ds : List Nat) (N c m : Nat) : wrg ds N c (m + 1) = (wrg ds N c m || (ob N c m && nd ds m == 1)) := by unfold wrg; rfl
theorem wrg_front (d : Nat) (ds : List Nat) (N c : Nat) : ∀ m, wrg (d :: ds) (N + 1) c (m + 1) = ((ob (N + 1) c 0 && d == 1) || wrg ds N c m)
  | 0 => by rw [wrg_succ, wrg_zero, wrg_zero, nd_zero]; simp
  | m + 1 => by rw [wrg_succ, wrg_front d ds N c m, wrg_succ ds N c m, nd_succ, ob_succ, Bool.or_assoc]
theorem wrg_mod (ds : List Nat) (N c : Nat) : ∀ m, m ≤ N → wrg ds N (c % 2 ^ N) m = wrg ds N c m
  | 0, _ => by rw [wrg_zero, wrg_zero]
  | m + 1, h => by rw [wrg_succ, wrg_succ, wrg_mod ds N c m (by omega), ob_mod N c (by omega)]
theorem wrg_full : ∀ (ks : List Nat) (c : Nat), wrg (szs ks) ks.length c ks.length = !okc ks c
  | [], c => by rw [show ([] : List Nat).length = 0 from rfl, wrg_zero]; rfl
  | k :: ks, c => by
    have ih := wrg_full ks (c % 2 ^ ks.length)
    rw [wrg_mod _ _ _ _ (Nat.le_refl _)] at ih
    rw [show (k :: ks).length = ks.length + 1 from rfl, show szs (k :: ks) = 2 ^ k :: szs ks from rfl, wrg_front, ih, ob_zero]
    have e : (2 ^ k == 1) = (k == 0) := by
      rw [Bool.eq_iff_iff]
      simp only [beq_iff_eq]
      constructor
      · intro h
        rcases k with _ | k
        · rfl
        · rw [Nat.pow_succ] at h; omega
      · rintro rfl; rfl
    rw [e]
    simp only [okc]
    generalize (c / 2 ^ ks.length % 2 == 1) = x
    generalize (k == 0) = y
    generalize okc ks (c % 2 ^ ks.length) = z
    cases x <;> cases y <;> cases z <;> rfl
/-- the list of the axes that are turned -/
@[irreducible] def odds (N c m : Nat) : List Bool := (List.range m).map (ob N c)
theorem odds_zero (N c : Nat) : odds N c 0 = [] := by unfold odds; rfl
theorem odds_succ (N c m : Nat) : odds N c (m + 1) = odds N c m ++ [ob N c m] := by unfold odds; rw [List.range_succ, List.map_append]; rfl
theorem odds_len (N c m : Nat) : (odds N c m).length = m := by unfold odds; simp
theorem odds_at (N c m : Nat) {i : Nat} (h : i < m) : (odds N c m)[i]? = some (ob N c i) := by
  unfold odds; rw [List.getElem?_map, List.getElem?_range h]; rfl
def mnsR (ds : List Nat) (N c q : Nat) : Nat → Bool
  | 0 => false
  | m + 1 => mnsR ds N c q m != (ob N c m && nd (plcs ds q) m % 2 == 1)
/-- is number q taken away, by the first m axes? -/
@[irreducible] def mns (ds : List Nat) (N c q m : Nat) : Bool := mnsR ds N c q m
theorem mns_zero (ds : List Nat) (N c q : Nat) : mns ds N c q 0 = false := by unfold mns; rfl
theorem mns_succ (ds : List Nat) (N c q m : Nat) : mns ds N c q (m + 1) = (mns ds N c q m != (ob N c m && nd (plcs ds q) m % 2 == 1)) := by unfold mns; rfl
theorem mns_front (d : Nat) (ds : List Nat) (N c q : Nat) : ∀ m, mns (d :: ds) (N + 1) c q (m + 1) = ((ob (N + 1) c 0 && q / pr ds % d % 2 == 1) != mns ds N c q m)
  | 0 => by rw [mns_succ, mns_zero, mns_zero, plcs_cons, nd_zero]; simp
  | m + 1 => by
    rw [mns_succ, mns_front d ds N c q m, mns_succ ds N c q m, ob_succ, plcs_cons, nd_succ]
    generalize (ob (N + 1) c 0 && q / pr ds % d % 2 == 1) = x
    generalize mns ds N c q m = y
    generalize (ob N c m && nd (plcs ds q) m % 2 == 1) = z
    cases x <;> cases y <;> cases z <;> rfl
theorem mns_mod (ds : List Nat) (N c q : Nat) : ∀ m, m ≤ N → mns ds N (c % 2 ^ N) (q % pr ds) m = mns ds N c q m
  | 0, _ => by rw [mns_zero, mns_zero]
  | m + 1, h => by rw [mns_succ, mns_succ, mns_mod ds N c q m (by omega), ob_mod N c (by omega), plcs_mod]
def sgb (b : Bool) : F := if b then -1 else 1
theorem sgb_ne (a b : Bool) : sgb (a != b) = sgb a * sgb b := by
  cases a <;> cases b <;> simp [sgb] <;> grind
theorem mns_full : ∀ (ks : List Nat) (c q : Nat), okc ks c = true → sgb (mns (szs ks) ks.length c q ks.length) = SG ks c q
  | [], c, q, _ => by rw [show ([] : List Nat).length = 0 from rfl, mns_zero]; rfl
  | k :: ks, c, q, h => by
    simp only [okc, Bool.and_eq_true] at h
    have ih := mns_full ks (c % 2 ^ ks.length) (q % pk ks) h.2
    rw [show pk ks = pr (szs ks) from rfl, mns_mod _ _ _ _ _ (Nat.le_refl _)] at ih
    rw [show (k :: ks).length = ks.length + 1 from rfl, show szs (k :: ks) = 2 ^ k :: szs ks from rfl, mns_front, sgb_ne, ih, ob_zero]
    simp only [SG]
    congr 1
    unfold sgb sgn
    have e : (c / 2 ^ ks.length % 2 == 1 && q / pr (szs ks) % 2 ^ k % 2 == 1) = (c / 2 ^ ks.length % 2 == 1 && q / pk ks % 2 == 1) := by
      cases hb : (c / 2 ^ ks.length % 2 == 1) with
      | false => rfl
      | true =>
        have hk : k ≠ 0 := by
          intro e
          have := h.1
          rw [hb, e] at this
          simp at this
        obtain ⟨j, rfl⟩ : ∃ j, k = j + 1 := ⟨k - 1, by omega⟩
        rw [show q / pr (szs ks) % 2 ^ (j + 1) % 2 = q / pk ks % 2 by rw [Nat.pow_succ, Nat.mod_mul_left_mod]; rfl]
    rw [e]
/-- a corner's sum over the first m numbers -/
@[irreducible] def csum (ks : List Nat) (l : List F) (c m : Nat) : F := S m (fun q => cf l q * SG ks c q)
theorem csum_zero (ks : List Nat) (l : List F) (c : Nat) : csum ks l c 0 = 0 := by unfold csum; rfl
theorem csum_minus {ks : List Nat} {c q : Nat} (l : List F) (h : okc ks c = true) (hm : mns (szs ks) ks.length c q ks.length = true) : csum ks l c q - cf l q = csum ks l c (q + 1) := by
  unfold csum
  rw [S_succ, ← mns_full ks c q h, hm]
  simp only [sgb]
  grind
theorem csum_plus {ks : List Nat} {c q : Nat} (l : List F) (h : okc ks c = true) (hm : mns (szs ks) ks.length c q ks.length = false) : csum ks l c q + cf l q = csum ks l c (q + 1) := by
  unfold csum
  rw [S_succ, ← mns_full ks c q h, hm]
  simp only [sgb]
  grind
/-- the corners of the first m -/
@[irreducible] def crn (ks : List Nat) (l : List F) (m : Nat) : List F := ((List.range m).filter (okc ks)).map fun c => csum ks l c (pk ks)
theorem crn_zero (ks : List Nat) (l : List F) : crn ks l 0 = [] := by unfold crn; rfl
theorem crn_yes {ks : List Nat} (l : List F) {c : Nat} (h : okc ks c = true) : crn ks l (c + 1) = crn ks l c ++ [csum ks l c (pk ks)] := by
  unfold crn
  rw [List.range_succ, List.filter_append, List.map_append]
  simp [h]
theorem crn_no {ks : List Nat} (l : List F) {c : Nat} (h : okc ks c = false) : crn ks l (c + 1) = crn ks l c := by
  unfold crn
  rw [List.range_succ, List.filter_append, List.map_append]
  simp [h]
theorem crn_len (ks : List Nat) (l : List F) (m : Nat) : (crn ks l m).length ≤ m := by
  unfold crn
  rw [List.length_map]
  exact Nat.le_trans (List.length_filter_le _ _) (by simp)
/-- .. as the reference has them -/
@[irreducible] def crr (ks : List Nat) (l : List F) (m : Nat) : List F := ((List.range m).filter (okp ks)).map (cf l)
theorem crr_zero (ks : List Nat) (l : List F) : crr ks l 0 = [] := by unfold crr; rfl
theorem crr_yes {ks : List Nat} (l : List F) {c : Nat} (h : okp ks c = true) : crr ks l (c + 1) = crr ks l c ++ [cf l c] := by
  unfold crr
  rw [List.range_succ, List.filter_append, List.map_append]
  simp [h]
theorem crr_no {ks : List Nat} (l : List F) {c : Nat} (h : okp ks c = false) : crr ks l (c + 1) = crr ks l c := by
  unfold crr
  rw [List.range_succ, List.filter_append, List.map_append]
  simp [h]
theorem crr_len (ks : List Nat) (l : List F) (m : Nat) : (crr ks l m).length ≤ m := by
  unfold crr
  rw [List.length_map]
  exact Nat.le_trans (List.length_filter_le _ _) (by simp)
theorem corners_all {ks : List Nat} (hk : ∀ k ∈ ks, k ≤ 10) (l : List F) : crr ks (WL false ks l) (pk ks) = crn ks l (2 ^ ks.length) := by
  unfold crr crn
  rw [corners_eq, List.map_map]
  refine List.map_congr_left (fun c hc => ?_)
  have h := (List.mem_filter.1 hc).2
  show cf (WL false ks l) (cnr ks c) = _
  rw [cf_WL _ _ _ (cnr_lt ks c h), WT_cnr (fun k hx => by have := hk k hx; omega) _ h]
  unfold csum
  rfl
def kpR (ds : List Nat) (p : Nat) : Nat → Bool
  | 0 => true
  | m + 1 => kpR ds p m && (nd (plcs ds p) m == 0 || 2 * nd (plcs ds p) m == nd ds m)
/-- is p a corner's number, by the first m axes? -/
@[irreducible] def kp (ds : List Nat) (p m : Nat) : Bool := kpR ds p m
theorem kp_zero (ds : List Nat) (p : Nat) : kp ds p 0 = true := by unfold kp; rfl
theorem kp_succ (ds : List Nat) (p m : Nat) : kp ds p (m + 1) = (kp ds p m && (nd (plcs ds p) m == 0 || 2 * nd (plcs ds p) m == nd ds m)) := by unfold kp; rfl
theorem kp_front (d : Nat) (ds : List Nat) (p : Nat) : ∀ m, kp (d :: ds) p (m + 1) = ((p / pr ds % d == 0 || 2 * (p / pr ds % d) == d) && kp ds p m)
  | 0 => by rw [kp_succ, kp_zero, kp_zero, plcs_cons, nd_zero, nd_zero]; simp
  | m + 1 => by
    rw [kp_succ, kp_front d ds p m, kp_succ ds p m, plcs_cons, nd_succ, nd_succ, Bool.and_assoc]
theorem kp_mod (ds : List Nat) (p : Nat) : ∀ m, kp ds (p % pr ds) m = kp ds p m
  | 0 => by rw [kp_zero, kp_zero]
  | m + 1 => by rw [kp_succ, kp_succ, kp_mod ds p m, plcs_mod]
theorem kp_full : ∀ (ks : List Nat) (p : Nat), p < pk ks → kp (szs ks) p ks.length = okp ks p
  | [], p, _ => by rw [show ([] : List Nat).length = 0 from rfl, kp_zero]; rfl
  | k :: ks, p, hp => by
    obtain ⟨h1, h2, h3⟩ := pk_split hp
    have ih := kp_full ks (p % pk ks) h2
    rw [show pk ks = pr (szs ks) from rfl, kp_mod] at ih
    rw [show (k :: ks).length = ks.length + 1 from rfl, show szs (k :: ks) = 2 ^ k :: szs ks from rfl, kp_front, ih, show pr (szs ks) = pk ks from rfl, Nat.mod_eq_of_lt h1]
    rfl
end Go.Proofs.Ytjljndnpefdifaa.Gm
