/- Laid together by wip/merge.py: Ad Ck Sf Sg Cs Sx Spe Short Pm Pu Dv Lo Add Low. -/
import Derived.Test.YtkcfnbfkbmgchaaDoorAp
import Derived.Test.YtkcfnbfkbmgchaaDoorHc
import Derived.Test.YtkcfnbfkbmgchaaDoorPe
import Derived.Test.YtkcfnbfkbmgchaaDoorBd
import Derived.Test.YtkcfnbfkbmgchaaDoorOz
import Derived.Test.YtkcfnbfkbmgchaaDoorRd
import Derived.Test.YtkcfnbfkbmgchaaDoorPa
import Derived.Test.YtkcfnbfkbmgchaaDoorPla
import Derived.Test.YtkcfnbfkbmgchaaDoorPd
import Derived.Test.YtkcfnbfkbmgchaaDoorVc
import Derived.Test.YtkcfnbfkbmgchaaDoorVd
import Derived.Test.YtkcfnbfkbmgchaaDoorMc
import Derived.Test.YtkcfnbfkbmgchaaDoorSz
import Derived.Test.YtkcfnbfkbmgchaaDoorCu
/- (Ad) -/
namespace Go.Proofs.YtkcfnbfkbmgchaaDoor.Gm
open Go.RowKit
set_option linter.unusedVariables false
/-- the places of two numbers added, round each axis, the first so many of them -/
def adP (ds : List Nat) (i j m : Nat) : List Nat := (List.range ds.length).map fun x => if x < m then (nd (plcs ds j) x + nd (plcs ds i) x) % nd ds x else nd (plcs ds j) x
theorem adP_len (ds : List Nat) (i j m : Nat) : (adP ds i j m).length = ds.length := by simp [adP]
theorem nd_adP (ds : List Nat) (i j m : Nat) {x : Nat} (hx : x < ds.length) : nd (adP ds i j m) x = if x < m then (nd (plcs ds j) x + nd (plcs ds i) x) % nd ds x else nd (plcs ds j) x := by
  rw [nd_eq, adP, List.getElem?_map, List.getElem?_range hx]; rfl
theorem ext_nd {l m : List Nat} (hl : l.length = m.length) (h : ∀ i, i < l.length → nd l i = nd m i) : l = m := by
  apply List.ext_getElem?
  intro i
  by_cases hi : i < l.length
  · have := h i hi
    rw [nd_eq, nd_eq, List.getElem?_eq_getElem hi, List.getElem?_eq_getElem (by omega)] at this
    rw [List.getElem?_eq_getElem hi, List.getElem?_eq_getElem (by omega)]
    exact congrArg some this
  · rw [List.getElem?_eq_none (by omega), List.getElem?_eq_none (by omega)]
theorem adP_zero (ds : List Nat) (i j : Nat) : adP ds i j 0 = plcs ds j :=
  ext_nd (by rw [adP_len, plcs_len]) (fun x hx => by rw [adP_len] at hx; rw [nd_adP _ _ _ _ hx, if_neg (by omega)])
theorem adP_succ (ds : List Nat) (i j : Nat) {m : Nat} (hm : m < ds.length) : (adP ds i j m).set m ((nd (plcs ds j) m + nd (plcs ds i) m) % nd ds m) = adP ds i j (m + 1) :=
  ext_nd (by rw [List.length_set, adP_len, adP_len]) (fun x hx => by
    rw [List.length_set, adP_len] at hx
    rw [nd_set _ _ _ _ (by rw [adP_len]; exact hm), nd_adP _ _ _ _ hx, nd_adP _ _ _ _ hx]
    by_cases h : m = x
    · subst h; rw [if_pos rfl, if_pos (by omega)]
    · rw [if_neg h]
      by_cases h2 : x < m
      · rw [if_pos h2, if_pos (by omega)]
      · rw [if_neg h2, if_neg (by omega)])
theorem plcs_cons (d : Nat) (l : List Nat) (k : Nat) : plcs (d :: l) k = k / pr l % d :: plcs l k := by
  refine ext_nd (by simp [plcs]) (fun x hx => ?_)
  rw [plcs_len] at hx
  rw [nd_plcs _ _ _ hx]
  cases x with
  | zero => rw [nd_zero, nd_zero]; rfl
  | succ x =>
    rw [nd_succ, nd_succ, nd_plcs _ _ _ (by simpa using hx)]; rfl
theorem adP_cons (d : Nat) (l : List Nat) (i j : Nat) : adP (d :: l) i j (l.length + 1) = (j / pr l % d + i / pr l % d) % d :: adP l i j l.length := by
  refine ext_nd (by simp [adP]) (fun x hx => ?_)
  rw [adP_len] at hx
  rw [nd_adP _ _ _ _ hx, if_pos (by simpa using hx), plcs_cons, plcs_cons]
  cases x with
  | zero => rw [nd_zero, nd_zero, nd_zero, nd_zero]
  | succ x =>
    have hx2 : x < l.length := by simpa using hx
    rw [nd_succ, nd_succ, nd_succ, nd_succ, nd_adP _ _ _ _ hx2, if_pos hx2]
theorem AD_modn : ∀ (ks : List Nat) (i j : Nat), AD ks (i % pk ks) (j % pk ks) = AD ks i j
  | [], _, _ => rfl
  | k :: ks, i, j => by
    have e : ∀ i, i % pk (k :: ks) % pk ks = i % pk ks := fun i => by rw [pk_cons]; exact Nat.mod_mul_left_mod _ _ _
    have e2 : ∀ i, i % pk (k :: ks) / pk ks = i / pk ks % 2 ^ k := fun i => by rw [pk_cons]; exact Nat.mod_mul_left_div_self _ _ _
    simp only [AD]
    rw [e, e, e2, e2, ← Nat.add_mod]
theorem plc_adP : ∀ (ks : List Nat) (i j : Nat), plc (szs ks) (adP (szs ks) i j (szs ks).length) = AD ks i j
  | [], _, _ => rfl
  | k :: ks, i, j => by
    have h := plc_adP ks i j
    rw [show szs (k :: ks) = 2 ^ k :: szs ks from rfl, List.length_cons, adP_cons]
    show _ * pr (szs ks) + plc (szs ks) _ = _
    rw [h]
    simp only [AD]
    rw [AD_modn, ← Nat.add_mod, Nat.add_comm (j / _)]
    rfl
theorem cell_only {w w' : World} {S : Nat → Prop} {b o : Nat} {v : Value} (h : Only S w w') (hc : w.cell? ⟨b, o, none⟩ = some v) (hb : ¬ S b) : w'.cell? ⟨b, o, none⟩ = some v :=
  (World.cell?_of_block (a := ⟨b, o, none⟩) (h.block b (World.block_lt_of_cell? _ _ hc) hb)).trans hc
theorem cell_below {w w' : World} {b o : Nat} {v : Value} (h : Below w.heap.size w w') (hc : w.cell? ⟨b, o, none⟩ = some v) : w'.cell? ⟨b, o, none⟩ = some v :=
  (h.cell (p := ⟨b, o, none⟩) (World.block_lt_of_cell? _ _ hc)).trans hc
theorem plcs_mod (l : List Nat) (k : Nat) : plcs l (k % pr l) = plcs l k := by
  refine ext_nd (by rw [plcs_len, plcs_len]) (fun x hx => ?_)
  rw [plcs_len] at hx
  rw [nd_plcs _ _ _ hx, nd_plcs _ _ _ hx, ← pr_split l x, pr_drop l x hx]
  show k % (pr (l.take x) * (nd l x * under l x)) / under l x % nd l x = _
  rw [← Nat.mul_assoc, mod_mul_div, Nat.mod_mul_left_mod]
theorem plcs_plc : ∀ (l p : List Nat), p.length = l.length → (∀ i, i < l.length → nd p i < nd l i) → plcs l (plc l p) = p
  | [], [], _, _ => rfl
  | d :: l, x :: p, hp, h => by
    have hp' : p.length = l.length := by simpa using hp
    have h' : ∀ i, i < l.length → nd p i < nd l i := fun i hi => by
      have := h (i + 1) (by simpa using hi)
      rwa [nd_succ, nd_succ] at this
    have h0 := h 0 (by simp)
    rw [nd_zero, nd_zero] at h0
    have hlt := plc_lt hp' h'
    rw [plcs_cons]
    show (x * pr l + plc l p) / pr l % d :: plcs l (x * pr l + plc l p) = _
    rw [blk_div hlt, Nat.mod_eq_of_lt h0, ← plcs_mod l (x * pr l + plc l p), blk_mod hlt, plcs_plc l p hp' h']
theorem adP_lt {ks : List Nat} (i j m : Nat) {x : Nat} (hx : x < (szs ks).length) : nd (adP (szs ks) i j m) x < nd (szs ks) x := by
  have h1 : 1 ≤ nd (szs ks) x := szs_pos _ (nd_mem hx)
  rw [nd_adP _ _ _ _ hx]
  split
  · exact Nat.mod_lt _ h1
  · exact plcs_lt _ _ _ hx h1
theorem nd_AD (ks : List Nat) (i j : Nat) {x : Nat} (hx : x < (szs ks).length) : nd (plcs (szs ks) (AD ks i j)) x = (nd (plcs (szs ks) j) x + nd (plcs (szs ks) i) x) % nd (szs ks) x := by
  rw [← plc_adP, plcs_plc _ _ (adP_len _ _ _ _) (fun x hx => adP_lt i j _ hx), nd_adP _ _ _ _ hx, if_pos hx]
theorem num_eq {ks : List Nat} {i j : Nat} (hi : i < pk ks) (hj : j < pk ks) (h : ∀ x, x < (szs ks).length → nd (plcs (szs ks) i) x = nd (plcs (szs ks) j) x) : i = j := by
  have e : plcs (szs ks) i = plcs (szs ks) j := ext_nd (by rw [plcs_len, plcs_len]) (fun x hx => h x (by rwa [plcs_len] at hx))
  have h1 := plc_plcs (szs ks) i
  rw [e, plc_plcs] at h1
  rw [show pr (szs ks) = pk ks from rfl, Nat.mod_eq_of_lt hi, Nat.mod_eq_of_lt hj] at h1
  exact h1.symm
/-- the places of a list of turns -/
@[irreducible] def byp (ds : List Nat) (bs : List Int) : List Nat := (List.range ds.length).map fun x => (gd bs x % (nd ds x : Int)).toNat
theorem byp_len (ds : List Nat) (bs : List Int) : (byp ds bs).length = ds.length := by unfold byp; simp
theorem nd_byp (ds : List Nat) (bs : List Int) {x : Nat} (hx : x < ds.length) : nd (byp ds bs) x = (gd bs x % (nd ds x : Int)).toNat := by
  unfold byp
  rw [nd_eq, List.getElem?_map, List.getElem?_range hx]; rfl
theorem nd_byp_int {ds : List Nat} (bs : List Int) {x : Nat} (hx : x < ds.length) (h : 1 ≤ nd ds x) : (nd (byp ds bs) x : Int) = gd bs x % (nd ds x : Int) := by
  rw [nd_byp _ _ hx]
  exact Int.toNat_of_nonneg (Int.emod_nonneg _ (by omega))
theorem byp_lt {ds : List Nat} (bs : List Int) {x : Nat} (hx : x < ds.length) (h : 1 ≤ nd ds x) : nd (byp ds bs) x < nd ds x := by
  have h1 := nd_byp_int bs hx h
  have h2 := Int.emod_lt_of_pos (gd bs x) (show (0 : Int) < nd ds x by omega)
  omega
/-- .. and its number -/
@[irreducible] def BI (ks : List Nat) (bs : List Int) : Nat := plc (szs ks) (byp (szs ks) bs)
theorem BI_lt (ks : List Nat) (bs : List Int) : BI ks bs < pk ks := by
  unfold BI
  exact plc_lt (byp_len _ _) (fun x hx => byp_lt bs hx (szs_pos _ (nd_mem hx)))
theorem nd_BI (ks : List Nat) (bs : List Int) {x : Nat} (hx : x < (szs ks).length) : nd (plcs (szs ks) (BI ks bs)) x = nd (byp (szs ks) bs) x := by
  unfold BI
  rw [plcs_plc _ _ (byp_len _ _) (fun x hx => byp_lt bs hx (szs_pos _ (nd_mem hx)))]
/-- the places of k turned, the first so many of them -/
theorem nd_adP_by (ks : List Nat) (bs : List Int) (k m : Nat) {x : Nat} (hx : x < (szs ks).length) : nd (adP (szs ks) (BI ks bs) k m) x = if x < m then (nd (plcs (szs ks) k) x + nd (byp (szs ks) bs) x) % nd (szs ks) x else nd (plcs (szs ks) k) x := by
  rw [nd_adP _ _ _ _ hx, nd_BI _ _ hx]
theorem turn_mod {p d : Nat} {b c : Int} (hp : p < d) (hs : (b + c) % (d : Int) = 0) : ((p + (b % (d : Int)).toNat) % d + (c % (d : Int)).toNat) % d = p := by
  have hd : (0 : Int) < d := by omega
  have h1 : (((b % (d : Int)).toNat : Nat) : Int) = b % (d : Int) := Int.toNat_of_nonneg (Int.emod_nonneg _ (by omega))
  have h2 : (((c % (d : Int)).toNat : Nat) : Int) = c % (d : Int) := Int.toNat_of_nonneg (Int.emod_nonneg _ (by omega))
  have h3 : (((p + (b % (d : Int)).toNat) % d + (c % (d : Int)).toNat : Nat) % d : Int) = p := by
    rw [Int.natCast_add, Int.natCast_emod, Int.natCast_add, h1, h2]
    rw [Int.emod_add_emod, Int.add_emod_emod, Int.add_assoc, Int.add_comm (b % _), ← Int.add_assoc, Int.add_emod_emod, Int.add_assoc, Int.add_comm c b, Int.add_emod, hs, Int.add_zero, Int.emod_emod_of_dvd _ (Int.dvd_refl _)]
    exact Int.emod_eq_of_lt (by omega) (by omega)
  have h4 : ((((p + (b % (d : Int)).toNat) % d + (c % (d : Int)).toNat) % d : Nat) : Int) = p := by rw [Int.natCast_emod]; exact h3
  omega
theorem AD_by (ks : List Nat) (bs cs : List Int) {k : Nat} (hk : k < pk ks) (h : ∀ x, x < (szs ks).length → (gd bs x + gd cs x) % (nd (szs ks) x : Int) = 0) : AD ks (BI ks cs) (AD ks (BI ks bs) k) = k := by
  refine num_eq (AD_lt _ _ _) hk (fun x hx => ?_)
  have h1 : 1 ≤ nd (szs ks) x := szs_pos _ (nd_mem hx)
  rw [nd_AD _ _ _ hx, nd_AD _ _ _ hx, nd_BI _ _ hx, nd_BI _ _ hx, nd_byp _ _ hx, nd_byp _ _ hx]
  exact turn_mod (plcs_lt _ _ _ hx h1) (h x hx)
theorem BI_congr (ks : List Nat) {bs cs : List Int} (h : ∀ x, x < (szs ks).length → gd bs x % (nd (szs ks) x : Int) = gd cs x % (nd (szs ks) x : Int)) : BI ks bs = BI ks cs := by
  refine num_eq (BI_lt _ _) (BI_lt _ _) (fun x hx => ?_)
  rw [nd_BI _ _ hx, nd_BI _ _ hx, nd_byp _ _ hx, nd_byp _ _ hx, h x hx]
/-- the other way round -/
@[irreducible] def ngB (bs : List Int) : List Int := bs.map (fun z => -z)
theorem gd_ngB (bs : List Int) (x : Nat) : gd (ngB bs) x = - gd bs x := by
  unfold ngB
  rw [gd_eq, gd_eq, List.getElem?_map]
  cases bs[x]? with
  | none => rfl
  | some z => rfl
theorem AD_there (ks : List Nat) (bs : List Int) {k : Nat} (hk : k < pk ks) : AD ks (BI ks (ngB bs)) (AD ks (BI ks bs) k) = k :=
  AD_by ks _ _ hk (fun x _ => by rw [gd_ngB, Int.add_right_neg]; simp)
theorem AD_back (ks : List Nat) (bs : List Int) {k : Nat} (hk : k < pk ks) : AD ks (BI ks bs) (AD ks (BI ks (ngB bs)) k) = k :=
  AD_by ks _ _ hk (fun x _ => by rw [gd_ngB, Int.add_left_neg]; simp)
/-- a list turned, its first m numbers -/
@[irreducible] def shL (ks : List Nat) (bs : List Int) (l : List F) (m : Nat) : List F := (List.range (pk ks)).map fun j => if AD ks (BI ks (ngB bs)) j < m then cf l (AD ks (BI ks (ngB bs)) j) else 0
theorem shL_len (ks : List Nat) (bs : List Int) (l : List F) (m : Nat) : (shL ks bs l m).length = pk ks := by unfold shL; simp
theorem cf_shL (ks : List Nat) (bs : List Int) (l : List F) (m : Nat) {p : Nat} (hp : p < pk ks) : cf (shL ks bs l m) p = if AD ks (BI ks (ngB bs)) p < m then cf l (AD ks (BI ks (ngB bs)) p) else 0 := by
  unfold shL; exact cf_ofFn _ hp
theorem shL_zero (ks : List Nat) (bs : List Int) (l : List F) : shL ks bs l 0 = List.replicate (pk ks) 0 := by
  refine ext_cf (by rw [shL_len, List.length_replicate]) (fun p hp => ?_)
  rw [shL_len] at hp
  rw [cf_shL _ _ _ _ hp, cf_replicate, if_neg (by omega)]
theorem shL_step (ks : List Nat) (bs : List Int) (l : List F) {m : Nat} (hm : m < pk ks) : (shL ks bs l m).set (AD ks (BI ks bs) m) (cf l m) = shL ks bs l (m + 1) := by
  have hq := AD_lt ks (BI ks bs) m
  refine ext_cf (by rw [List.length_set, shL_len, shL_len]) (fun p hp => ?_)
  rw [List.length_set, shL_len] at hp
  rw [cf_set _ _ _ _ (by rw [shL_len]; exact hq), cf_shL _ _ _ _ hp, cf_shL _ _ _ _ hp]
  by_cases h : AD ks (BI ks bs) m = p
  · have h2 := AD_there ks bs hm
    rw [h] at h2
    rw [if_pos h, h2, if_pos (by omega)]
  · have h2 : AD ks (BI ks (ngB bs)) p ≠ m := fun e => h (by rw [← e]; exact AD_back ks bs hp)
    rw [if_neg h]
    by_cases h3 : AD ks (BI ks (ngB bs)) p < m
    · rw [if_pos h3, if_pos (by omega)]
    · rw [if_neg h3, if_neg (by omega)]
theorem cf_shL_full (ks : List Nat) (bs : List Int) (l : List F) {p : Nat} (hp : p < pk ks) : cf (shL ks bs l (pk ks)) p = cf l (AD ks (BI ks (ngB bs)) p) := by
  rw [cf_shL _ _ _ _ hp, if_pos (AD_lt _ _ _)]
theorem shL_take (ks : List Nat) (bs : List Int) (l : List F) {m : Nat} (hm : m < pk ks) : (shL ks bs l (pk ks)).take (m + 1) = (shL ks bs l (pk ks)).take m ++ [cf l (AD ks (BI ks (ngB bs)) m)] := by
  rw [List.take_succ_eq_append_getElem (by rw [shL_len]; exact hm), ← cf_lt (by rw [shL_len]; exact hm), cf_shL_full _ _ _ hm]
end Go.Proofs.YtkcfnbfkbmgchaaDoor.Gm
/- (Ck) -/
namespace Go.Proofs.YtkcfnbfkbmgchaaDoor.Gm
open Go.RowKit
set_option linter.unusedVariables false
/-- is axis x turned in corner c? -/
@[irreducible] def ob (N c x : Nat) : Bool := c.testBit (N - 1 - x)
theorem ob_eq (N c x : Nat) : ob N c x = decide (c / 2 ^ (N - 1 - x) % 2 = 1) := by unfold ob; exact Nat.testBit_eq_decide_div_mod_eq
theorem ob_succ (n c x : Nat) : ob (n + 1) c (x + 1) = ob n c x := by unfold ob; congr 1; omega
theorem ob_mod (n c : Nat) {x : Nat} (hx : x < n) : ob n (c % 2 ^ n) x = ob n c x := by
  unfold ob
  rw [Nat.testBit_mod_two_pow]
  have : n - 1 - x < n := by omega
  simp [this]
theorem ob_zero (n c : Nat) : ob (n + 1) c 0 = (c / 2 ^ n % 2 == 1) := by
  rw [ob_eq, show n + 1 - 1 - 0 = n by omega]
  rw [Bool.eq_iff_iff]; simp
def wrgR (ds : List Nat) (N c : Nat) : Nat → Bool
  | 0 => false
  | m + 1 => wrgR ds N c m || (ob N c m && nd ds m == 1)
/-- half of an axis of one place, among the first m axes -/
@[irreducible] def wrg (ds : List Nat) (N c m : Nat) : Bool := wrgR ds N c m
theorem wrg_zero (ds : List Nat) (N c : Nat) : wrg ds N c 0 = false := by unfold wrg; rfl
theorem wrg_succ (ds : List Nat) (N c m : Nat) : wrg ds N c (m + 1) = (wrg ds N c m || (ob N c m && nd ds m == 1)) := by unfold wrg; rfl
theorem wrg_front (d : Nat) (ds : List Nat) (N c : Nat) : ∀ m, wrg (d :: ds) (N + 1) c (m + 1) = ((ob (N + 1) c 0 && d == 1) || wrg ds N c m)
  | 0 => by rw [wrg_succ, wrg_zero, wrg_zero, nd_zero]; simp
  | m + 1 => by rw [wrg_succ, wrg_front d ds N c m, wrg_succ ds N c m, nd_succ, ob_succ, Bool.or_assoc]
theorem wrg_mod (ds : List Nat) (N c : Nat) : ∀ m, m ≤ N → wrg ds N (c % 2 ^ N) m = wrg ds N c m
  | 0, _ => by rw [wrg_zero, wrg_zero]
  | m + 1, h => by rw [wrg_succ, wrg_succ, wrg_mod ds N c m (by omega), ob_mod N c (by omega)]
theorem wrg_full : ∀ (ks : List Nat) (c : Nat), wrg (szs ks) ks.length c ks.length = !okc ks c
  | [], c => by rw [show ([] : List Nat).length = 0 from rfl, wrg_zero]; rfl
  | k :: ks, c => by
    have ih := wrg_full ks (c % 2 ^ ks.length)
    rw [wrg_mod _ _ _ _ (Nat.le_refl _)] at ih
    rw [show (k :: ks).length = ks.length + 1 from rfl, show szs (k :: ks) = 2 ^ k :: szs ks from rfl, wrg_front, ih, ob_zero]
    have e : (2 ^ k == 1) = (k == 0) := by
      rw [Bool.eq_iff_iff]
      simp only [beq_iff_eq]
      constructor
      · intro h
        rcases k with _ | k
        · rfl
        · rw [Nat.pow_succ] at h; omega
      · rintro rfl; rfl
    rw [e]
    simp only [okc]
    generalize (c / 2 ^ ks.length % 2 == 1) = x
    generalize (k == 0) = y
    generalize okc ks (c % 2 ^ ks.length) = z
    cases x <;> cases y <;> cases z <;> rfl
/-- the list of the axes that are turned -/
@[irreducible] def odds (N c m : Nat) : List Bool := (List.range m).map (ob N c)
theorem odds_zero (N c : Nat) : odds N c 0 = [] := by unfold odds; rfl
theorem odds_succ (N c m : Nat) : odds N c (m + 1) = odds N c m ++ [ob N c m] := by unfold odds; rw [List.range_succ, List.map_append]; rfl
theorem odds_len (N c m : Nat) : (odds N c m).length = m := by unfold odds; simp
theorem odds_at (N c m : Nat) {i : Nat} (h : i < m) : (odds N c m)[i]? = some (ob N c i) := by
  unfold odds; rw [List.getElem?_map, List.getElem?_range h]; rfl
def mnsR (ds : List Nat) (N c q : Nat) : Nat → Bool
  | 0 => false
  | m + 1 => mnsR ds N c q m != (ob N c m && nd (plcs ds q) m % 2 == 1)
/-- is number q taken away, by the first m axes? -/
@[irreducible] def mns (ds : List Nat) (N c q m : Nat) : Bool := mnsR ds N c q m
theorem mns_zero (ds : List Nat) (N c q : Nat) : mns ds N c q 0 = false := by unfold mns; rfl
theorem mns_succ (ds : List Nat) (N c q m : Nat) : mns ds N c q (m + 1) = (mns ds N c q m != (ob N c m && nd (plcs ds q) m % 2 == 1)) := by unfold mns; rfl
theorem mns_front (d : Nat) (ds : List Nat) (N c q : Nat) : ∀ m, mns (d :: ds) (N + 1) c q (m + 1) = ((ob (N + 1) c 0 && q / pr ds % d % 2 == 1) != mns ds N c q m)
  | 0 => by rw [mns_succ, mns_zero, mns_zero, plcs_cons, nd_zero]; simp
  | m + 1 => by
    rw [mns_succ, mns_front d ds N c q m, mns_succ ds N c q m, ob_succ, plcs_cons, nd_succ]
    generalize (ob (N + 1) c 0 && q / pr ds % d % 2 == 1) = x
    generalize mns ds N c q m = y
    generalize (ob N c m && nd (plcs ds q) m % 2 == 1) = z
    cases x <;> cases y <;> cases z <;> rfl
theorem mns_mod (ds : List Nat) (N c q : Nat) : ∀ m, m ≤ N → mns ds N (c % 2 ^ N) (q % pr ds) m = mns ds N c q m
  | 0, _ => by rw [mns_zero, mns_zero]
  | m + 1, h => by rw [mns_succ, mns_succ, mns_mod ds N c q m (by omega), ob_mod N c (by omega), plcs_mod]
def sgb (b : Bool) : F := if b then -1 else 1
theorem sgb_ne (a b : Bool) : sgb (a != b) = sgb a * sgb b := by
  cases a <;> cases b <;> simp [sgb] <;> grind
theorem mns_full : ∀ (ks : List Nat) (c q : Nat), okc ks c = true → sgb (mns (szs ks) ks.length c q ks.length) = SG ks c q
  | [], c, q, _ => by rw [show ([] : List Nat).length = 0 from rfl, mns_zero]; rfl
  | k :: ks, c, q, h => by
    simp only [okc, Bool.and_eq_true] at h
    have ih := mns_full ks (c % 2 ^ ks.length) (q % pk ks) h.2
    rw [show pk ks = pr (szs ks) from rfl, mns_mod _ _ _ _ _ (Nat.le_refl _)] at ih
    rw [show (k :: ks).length = ks.length + 1 from rfl, show szs (k :: ks) = 2 ^ k :: szs ks from rfl, mns_front, sgb_ne, ih, ob_zero]
    simp only [SG]
    congr 1
    unfold sgb sgn
    have e : (c / 2 ^ ks.length % 2 == 1 && q / pr (szs ks) % 2 ^ k % 2 == 1) = (c / 2 ^ ks.length % 2 == 1 && q / pk ks % 2 == 1) := by
      cases hb : (c / 2 ^ ks.length % 2 == 1) with
      | false => rfl
      | true =>
        have hk : k ≠ 0 := by
          intro e
          have := h.1
          rw [hb, e] at this
          simp at this
        obtain ⟨j, rfl⟩ : ∃ j, k = j + 1 := ⟨k - 1, by omega⟩
        rw [show q / pr (szs ks) % 2 ^ (j + 1) % 2 = q / pk ks % 2 by rw [Nat.pow_succ, Nat.mod_mul_left_mod]; rfl]
    rw [e]
/-- a corner's sum over the first m numbers -/
@[irreducible] def csum (ks : List Nat) (l : List F) (c m : Nat) : F := S m (fun q => cf l q * SG ks c q)
theorem csum_zero (ks : List Nat) (l : List F) (c : Nat) : csum ks l c 0 = 0 := by unfold csum; rfl
theorem csum_minus {ks : List Nat} {c q : Nat} (l : List F) (h : okc ks c = true) (hm : mns (szs ks) ks.length c q ks.length = true) : csum ks l c q - cf l q = csum ks l c (q + 1) := by
  unfold csum
  rw [S_succ, ← mns_full ks c q h, hm]
  simp only [sgb]
  grind
theorem csum_plus {ks : List Nat} {c q : Nat} (l : List F) (h : okc ks c = true) (hm : mns (szs ks) ks.length c q ks.length = false) : csum ks l c q + cf l q = csum ks l c (q + 1) := by
  unfold csum
  rw [S_succ, ← mns_full ks c q h, hm]
  simp only [sgb]
  grind
/-- the corners of the first m -/
@[irreducible] def crn (ks : List Nat) (l : List F) (m : Nat) : List F := ((List.range m).filter (okc ks)).map fun c => csum ks l c (pk ks)
theorem crn_zero (ks : List Nat) (l : List F) : crn ks l 0 = [] := by unfold crn; rfl
theorem crn_yes {ks : List Nat} (l : List F) {c : Nat} (h : okc ks c = true) : crn ks l (c + 1) = crn ks l c ++ [csum ks l c (pk ks)] := by
  unfold crn
  rw [List.range_succ, List.filter_append, List.map_append]
  simp [h]
theorem crn_no {ks : List Nat} (l : List F) {c : Nat} (h : okc ks c = false) : crn ks l (c + 1) = crn ks l c := by
  unfold crn
  rw [List.range_succ, List.filter_append, List.map_append]
  simp [h]
theorem crn_len (ks : List Nat) (l : List F) (m : Nat) : (crn ks l m).length ≤ m := by
  unfold crn
  rw [List.length_map]
  exact Nat.le_trans (List.length_filter_le _ _) (by simp)
/-- .. as the reference has them -/
@[irreducible] def crr (ks : List Nat) (l : List F) (m : Nat) : List F := ((List.range m).filter (okp ks)).map (cf l)
theorem crr_zero (ks : List Nat) (l : List F) : crr ks l 0 = [] := by unfold crr; rfl
theorem crr_yes {ks : List Nat} (l : List F) {c : Nat} (h : okp ks c = true) : crr ks l (c + 1) = crr ks l c ++ [cf l c] := by
  unfold crr
  rw [List.range_succ, List.filter_append, List.map_append]
  simp [h]
theorem crr_no {ks : List Nat} (l : List F) {c : Nat} (h : okp ks c = false) : crr ks l (c + 1) = crr ks l c := by
  unfold crr
  rw [List.range_succ, List.filter_append, List.map_append]
  simp [h]
theorem crr_len (ks : List Nat) (l : List F) (m : Nat) : (crr ks l m).length ≤ m := by
  unfold crr
  rw [List.length_map]
  exact Nat.le_trans (List.length_filter_le _ _) (by simp)
theorem corners_all {ks : List Nat} (hk : ∀ k ∈ ks, k ≤ 10) (l : List F) : crr ks (WL false ks l) (pk ks) = crn ks l (2 ^ ks.length) := by
  unfold crr crn
  rw [corners_eq, List.map_map]
  refine List.map_congr_left (fun c hc => ?_)
  have h := (List.mem_filter.1 hc).2
  show cf (WL false ks l) (cnr ks c) = _
  rw [cf_WL _ _ _ (cnr_lt ks c h), WT_cnr (fun k hx => by have := hk k hx; omega) _ h]
  unfold csum
  rfl
def kpR (ds : List Nat) (p : Nat) : Nat → Bool
  | 0 => true
  | m + 1 => kpR ds p m && (nd (plcs ds p) m == 0 || 2 * nd (plcs ds p) m == nd ds m)
/-- is p a corner's number, by the first m axes? -/
@[irreducible] def kp (ds : List Nat) (p m : Nat) : Bool := kpR ds p m
theorem kp_zero (ds : List Nat) (p : Nat) : kp ds p 0 = true := by unfold kp; rfl
theorem kp_succ (ds : List Nat) (p m : Nat) : kp ds p (m + 1) = (kp ds p m && (nd (plcs ds p) m == 0 || 2 * nd (plcs ds p) m == nd ds m)) := by unfold kp; rfl
theorem kp_front (d : Nat) (ds : List Nat) (p : Nat) : ∀ m, kp (d :: ds) p (m + 1) = ((p / pr ds % d == 0 || 2 * (p / pr ds % d) == d) && kp ds p m)
  | 0 => by rw [kp_succ, kp_zero, kp_zero, plcs_cons, nd_zero, nd_zero]; simp
  | m + 1 => by
    rw [kp_succ, kp_front d ds p m, kp_succ ds p m, plcs_cons, nd_succ, nd_succ, Bool.and_assoc]
theorem kp_mod (ds : List Nat) (p : Nat) : ∀ m, kp ds (p % pr ds) m = kp ds p m
  | 0 => by rw [kp_zero, kp_zero]
  | m + 1 => by rw [kp_succ, kp_succ, kp_mod ds p m, plcs_mod]
theorem kp_full : ∀ (ks : List Nat) (p : Nat), p < pk ks → kp (szs ks) p ks.length = okp ks p
  | [], p, _ => by rw [show ([] : List Nat).length = 0 from rfl, kp_zero]; rfl
  | k :: ks, p, hp => by
    obtain ⟨h1, h2, h3⟩ := pk_split hp
    have ih := kp_full ks (p % pk ks) h2
    rw [show pk ks = pr (szs ks) from rfl, kp_mod] at ih
    rw [show (k :: ks).length = ks.length + 1 from rfl, show szs (k :: ks) = 2 ^ k :: szs ks from rfl, kp_front, ih, show pr (szs ks) = pk ks from rfl, Nat.mod_eq_of_lt h1]
    rfl
end Go.Proofs.YtkcfnbfkbmgchaaDoor.Gm
/- (Sf) -/
namespace Go.Proofs.YtkcfnbfkbmgchaaDoor.Gm
open Go.RowKit
set_option linter.unusedVariables false
set_option maxHeartbeats 1000000 in
theorem sform_bad (zs l : List Int) (v v2 : Value) (w : World) (h : Rd .i64 w v zs) (h2 : Rd .u64 w v2 l) (hw : W64 zs) (hb : Bad zs) :
    Calls Tryd.prog 85 #[v, v2] w fun e w' => e = .returned (.int .i64 1) ∧ w = w' := by
  have HR := Lib.hid h
  obtain ⟨a1, c1, rfl, hc1, hm1⟩ := h2.shape
  clear h h2
  go_enter Tryd.func85, Tryd.ntmps85
  go_wp2_with fail
  refine (mcheck_any _ _ _ HR.out hw).mono ?_
  rintro e w' ⟨he, rfl⟩
  obtain rfl := he.bad hb
  go_wp2
  try go_quiet (fail)
  try go_wp2
  go_ret
  exact ⟨rfl, rfl⟩
set_option maxHeartbeats 1000000 in
theorem sform_big (zs l : List Int) (v v2 : Value) (w : World) (h : Rd .i64 w v zs) (h2 : Rd .u64 w v2 l) (hw : W64 zs) (hb : Big zs) :
    Calls Tryd.prog 85 #[v, v2] w fun e w' => e = .returned (.int .i64 2) ∧ w = w' := by
  have HR := Lib.hid h
  obtain ⟨a1, c1, rfl, hc1, hm1⟩ := h2.shape
  clear h h2
  go_enter Tryd.func85, Tryd.ntmps85
  go_wp2_with fail
  refine (mcheck_any _ _ _ HR.out hw).mono ?_
  rintro e w' ⟨he, rfl⟩
  obtain rfl := he.big hb
  go_wp2
  try go_quiet (fail)
  try go_wp2
  go_ret
  exact ⟨rfl, rfl⟩
set_option maxHeartbeats 1000000 in
theorem sform_len (zs l : List Int) (ds : List Nat) (v v2 : Value) (w : World) (h : Rd .i64 w v zs) (h2 : Rd .u64 w v2 l) (hw : W64 zs) (hz : zs = zi ds) (hs : Shp ds) (hl : l.length ≠ pr ds) :
    Calls Tryd.prog 85 #[v, v2] w fun e w' => e = .returned (.int .i64 5) ∧ w = w' := by
  have HR := Lib.hid h
  obtain ⟨a1, c1, rfl, hc1, hm1⟩ := h2.shape
  subst hz
  have HS := Lib.hid hs
  clear hs
  have hl2 : ¬ (l.length : Int) = (pr ds : Int) := by omega
  have hl3 : decide ((l.length : Int) = (pr ds : Int)) = false := by simpa using hl2
  clear h h2
  go_enter Tryd.func85, Tryd.ntmps85
  go_wp2_with fail
  refine (mcheck_any _ _ _ HR.out hw).mono ?_
  rintro e w' ⟨he, rfl⟩
  obtain rfl := he.ok HS.out
  go_wp2
  try go_quiet (fail)
  try go_wp2
  go_ret
  exact ⟨rfl, rfl⟩
set_option maxHeartbeats 1000000 in
theorem sform_ok (zs l : List Int) (ds : List Nat) (v v2 : Value) (w : World) (h : Rd .i64 w v zs) (h2 : Rd .u64 w v2 l) (hw : W64 zs) (hz : zs = zi ds) (hs : Shp ds) (hl : l.length = pr ds) :
    Calls Tryd.prog 85 #[v, v2] w fun e w' => e = .returned (.int .i64 0) ∧ w = w' := by
  have HR := Lib.hid h
  obtain ⟨a1, c1, rfl, hc1, hm1⟩ := h2.shape
  subst hz
  have HS := Lib.hid hs
  clear hs
  rw [hl]
  clear hl
  clear h h2
  go_enter Tryd.func85, Tryd.ntmps85
  go_wp2_with fail
  refine (mcheck_any _ _ _ HR.out hw).mono ?_
  rintro e w' ⟨he, rfl⟩
  obtain rfl := he.ok HS.out
  go_wp2
  try go_quiet (fail)
  try go_wp2
  go_ret
  exact ⟨rfl, rfl⟩
end Go.Proofs.YtkcfnbfkbmgchaaDoor.Gm
/- (Sg) -/
namespace Go.Proofs.YtkcfnbfkbmgchaaDoor.Gm
open Go.RowKit
set_option linter.unusedVariables false
/-- the places of k, from behind: the first m are not yet laid -/
@[irreducible] def plS (ds : List Nat) (k m : Nat) : List Nat := (List.range ds.length).map fun x => if x < m then 0 else nd (plcs ds k) x
theorem plS_len (ds : List Nat) (k m : Nat) : (plS ds k m).length = ds.length := by unfold plS; simp
theorem nd_plS (ds : List Nat) (k m : Nat) {x : Nat} (hx : x < ds.length) : nd (plS ds k m) x = if x < m then 0 else nd (plcs ds k) x := by
  unfold plS
  rw [nd_eq, List.getElem?_map, List.getElem?_range hx]; rfl
theorem nd_replicate (n x : Nat) : nd (List.replicate n 0) x = 0 := by
  rw [nd_eq, List.getElem?_replicate]
  split <;> rfl
theorem plS_start (ds : List Nat) (k : Nat) : plS ds k ds.length = List.replicate ds.length 0 :=
  ext_nd (by rw [plS_len, List.length_replicate]) (fun x hx => by rw [plS_len] at hx; rw [nd_plS _ _ _ hx, if_pos hx, nd_replicate])
theorem plS_full (ds : List Nat) (k : Nat) : plS ds k 0 = plcs ds k :=
  ext_nd (by rw [plS_len, plcs_len]) (fun x hx => by rw [plS_len] at hx; rw [nd_plS _ _ _ hx, if_neg (by omega)])
theorem plS_step (ds : List Nat) (k : Nat) {m : Nat} (hm : m < ds.length) : (plS ds k (m + 1)).set m (k / under ds m % nd ds m) = plS ds k m :=
  ext_nd (by rw [List.length_set, plS_len, plS_len]) (fun x hx => by
    rw [List.length_set, plS_len] at hx
    rw [nd_set _ _ _ _ (by rw [plS_len]; exact hm), nd_plS _ _ _ hx, nd_plS _ _ _ hx]
    by_cases h : m = x
    · subst h; rw [if_pos rfl, if_neg (by omega), nd_plcs _ _ _ hx]
    · rw [if_neg h]
      by_cases h2 : x < m
      · rw [if_pos (by omega), if_pos h2]
      · rw [if_neg (by omega), if_neg h2])
theorem zi_set (l : List Nat) (i y : Nat) : (zi l).set i (y : Int) = zi (l.set i y) := by unfold zi; rw [List.map_set]
theorem zi_replicate (n : Nat) : zi (List.replicate n 0) = List.replicate n 0 := by unfold zi; rw [List.map_replicate]; rfl
def PsRel (w : World) (ds : List Nat) (k g N : Nat) (t i : Value) (wr : World) : Prop :=
  ∃ m : Nat, m ≤ N ∧ i = .int .i64 ((m : Int) - 1) ∧ t = .int .i64 (k / pr (ds.drop m) : Nat) ∧ Oz .i64 3 w.heap.size wr (.slice (some ⟨g, 0, none⟩) N N) (zi (plS ds k m)) ∧ Only (fun _ => False) w wr
set_option maxHeartbeats 2000000 in
set_option maxRecDepth 100000 in
theorem places_any (ds : List Nat) (k : Nat) (z : Int) (v : Value) (w : World) (h : Rd .i64 w v (zi ds)) (hs : Shp ds) (hk : k ≤ 1048576) (hz : z = k) :
    Calls Tryd.prog 86 #[v, .int .i64 z] w (RetI w (zi (plcs ds k))) := by
  subst hz
  obtain ⟨a, cap, b, off, rfl, hcap, hm, hx, hc⟩ := h.opened
  have hl0 := hs.len0
  have hl3 := hs.len3
  have HS := Lib.hid hs
  have LZ := Lib.hid (zi_len ds)
  rw [LZ.out] at hcap hx hc ⊢
  have HC := Lib.hid (show ∀ x, x < ds.length → w.cell? ⟨b, off + x, none⟩ = some (.int .i64 (nd ds x : Int)) from fun x hx => by rw [hc x hx, gd_zi])
  obtain rfl := hx.resolve_left (by omega)
  have P0 := Lib.hid (show List.replicate ds.length (0 : Int) = zi (plS ds k ds.length) by rw [plS_start, zi_replicate])
  have P1 := Lib.hid (fun m (hm : m < ds.length) => (show (zi (plS ds k (m + 1))).set m ((k / under ds m % nd ds m : Nat) : Int) = zi (plS ds k m) by rw [zi_set, plS_step _ _ hm]))
  have P2 := Lib.hid (show zi (plS ds k 0) = zi (plcs ds k) by rw [plS_full])
  have PL := Lib.hid (fun m => (show (zi (plS ds k m)).length = ds.length by rw [zi_len, plS_len]))
  have N1 := Lib.hid (fun m (hm : m < ds.length) => HS.out.nd1 hm)
  have NL := Lib.hid (fun m (hm : m < ds.length) => HS.out.ndle hm)
  have U1 := Lib.hid (fun m => HS.out.under1 m)
  have PD := Lib.hid (fun m (hm : m < ds.length) => (show k / under ds m / nd ds m = k / pr (ds.drop m) by rw [pr_drop ds m hm, Nat.mul_comm]; exact Nat.div_div_eq_div_mul _ _ _))
  have PE := Lib.hid (show k = k / pr (ds.drop ds.length) by rw [List.drop_length]; exact (Nat.div_one k).symm)
  obtain ⟨N, hN⟩ : ∃ N, N = ds.length := ⟨_, rfl⟩
  rw [← hN] at hcap hl0 hl3 HC P0 P1 PL N1 NL PD PE ⊢
  clear h hs hc hN LZ hx
  go_enter Tryd.func86, Tryd.ntmps86
  go_wp2_with (refine wl_make_int _ rfl (.tmp 8) (.tmp 8) rfl w.heap.size _ _ N w rfl rfl rfl rfl (by omega) (Below.refl _ _) (Nat.le_refl _) ?_)
  intro g w1 _ hown1 hbel1
  rw [P0.out] at hown1
  have O1 := Lib.hid hown1
  have B1 := Lib.hid hbel1
  have hs1 := hbel1.size
  clear hown1 hbel1
  go_wp2
  go_loopw [1, 6] (fun t i wr => ∃ m : Nat, m ≤ N ∧ i = .int .i64 ((m : Int) - 1) ∧ t = .int .i64 (k / pr (ds.drop m) : Nat) ∧ Oz .i64 3 w.heap.size wr (.slice (some ⟨g, 0, none⟩) N N) (zi (plS ds k m)) ∧ Below w.heap.size w wr) (fun _ i _ => (intOf i + 1).toNat)
  case atStart => exact ⟨N, by omega, rfl, by rw [← PE.out], O1.out, B1.out⟩
  case round =>
    obtain ⟨m, hm1, rfl, rfl, ho, hbel⟩ := hrel
    have OO := Lib.hid ho
    have HB := Lib.hid hbel
    have hwsz := hbel.size
    have hgl := ho.base.1
    clear ho hbel
    rcases m with _ | x
    · go_wp2
      go_ret
      rw [P2.out] at OO
      exact ⟨_, rfl, OO.out, HB.out⟩
    · have hxl : x < N := by omega
      have c3 : wr.cell? ⟨b, off + x, none⟩ = some (.int .i64 (nd ds x : Int)) := cell_below HB.out (HC.out x hxl)
      have hbw := World.block_lt_of_cell? _ _ (HC.out x hxl)
      simp only at hbw
      have hn1 := N1.out x hxl
      have hu1 := U1.out x
      have P1x := Lib.hid (P1.out x hxl)
      have PDx := Lib.hid (PD.out x hxl)
      have PLx := Lib.hid (PL.out (x + 1))
      have e0 : (((x + 1 : Nat) : Int) - 1) = (x : Int) := by omega
      rw [show k / pr (ds.drop (x + 1)) = k / under ds x from rfl]
      rw [e0]
      generalize nd ds x = d at *
      generalize under ds x = u at *
      have hd0 : ¬ d = 0 := by omega
      have hqle := Nat.div_le_self k u
      generalize k / u = q at *
      have e3 := nat_rem q d
      have e4 : ((q : Nat) : Int) % (d : Int) = ((q % d : Nat) : Int) := rfl
      have e1 := nat_quo q d
      have e2 : IntKind.i64.wrap ((q / d : Nat) : Int) = ((q / d : Nat) : Int) := wrap_nat (by have := Nat.div_le_self q d; omega)
      generalize q / d = q2 at *
      generalize q % d = r at *
      go_wp2_with (refine wl_storeI .i64 3 _ rfl (.tmp 25) (.tmp 24) (fun _ => rfl) rfl w.heap.size g x N N (zi (plS ds k (x + 1))) (r : Int) rfl rfl OO.out PLx.out hxl ?_)
      intro w5 hown5 ho5 hs6
      try rw [P1x.out] at hown5
      have O5 := Lib.hid hown5
      have c4 := cell_only ho5 c3 (by omega)
      have B5 := Lib.hid (HB.out.trans (ho5.below (by omega) (fun gg e => by omega)))
      clear hown5 ho5 c3
      go_wp2
      go_roundw
      case rel => exact ⟨x, by omega, by go_num, by rw [← PDx.out], O5.out, B5.out⟩
      case measure => simp [intOf] <;> omega
def AtRel (w : World) (ds p : List Nat) (n i : Value) : Prop :=
  ∃ m : Nat, m ≤ ds.length ∧ i = .int .i64 m ∧ n = .int .i64 (plf ds p m)
set_option maxHeartbeats 2000000 in
theorem at_places (ds p : List Nat) (v v2 : Value) (w : World) (h : Rd .i64 w v (zi ds)) (h2 : Rd .i64 w v2 (zi p)) (hs : Shp ds) (hp : p.length = ds.length) (hlt : ∀ i, i < ds.length → nd p i < nd ds i) :
    Calls Tryd.prog 87 #[v, v2] w fun e w' => e = .returned (.int .i64 (plc ds p)) ∧ Below w.heap.size w w' := by
  obtain ⟨a, cap, b, off, rfl, hcap, hm, hx, hc⟩ := h.opened
  obtain ⟨a2, cap2, b2, off2, rfl, hcap2, hm2, hx2, hc2⟩ := h2.opened
  have HC := Lib.hid hc
  have HC2 := Lib.hid hc2
  have hl0 := hs.len0
  have hl3 := hs.len3
  have HS := Lib.hid hs
  have HL := Lib.hid hlt
  have HP := Lib.hid hp
  rw [zi_len] at hcap hx hcap2 hx2
  rw [hp] at hcap2 hx2
  have LZ := Lib.hid (zi_len ds)
  have LZ2 := Lib.hid (show (zi p).length = ds.length by rw [zi_len, hp])
  have PF := Lib.hid (plf_full ds p hp)
  clear hc h hc2 h2 hs hlt hp
  rcases hx with hx | rfl
  · exfalso; omega
  rcases hx2 with hx2 | rfl
  · exfalso; omega
  go_enter Tryd.func87, Tryd.ntmps87
  rw [LZ.out, LZ2.out]
  go_wp2
  go_loopw [5, 6, 7, 10] (fun n _ _ i wr => PlRel w ds p n i wr) (fun _ _ _ i _ => ds.length - (intOf i).toNat)
  case atStart => exact ⟨0, by omega, rfl, rfl, Below.refl _ _⟩
  case round =>
    obtain ⟨m, hm1, rfl, rfl, hbel⟩ := hrel
    have HB := Lib.hid hbel
    clear hbel
    by_cases hml : m < ds.length
    · have hcw := HC.out m (by rw [LZ.out]; exact hml)
      have hcw2 := HC2.out m (by rw [LZ2.out]; exact hml)
      rw [gd_zi] at hcw hcw2
      have hcm : wr.cell? ⟨b, off + m, none⟩ = some (.int .i64 (nd ds m : Int)) := (HB.out.cell (p := ⟨b, off + m, none⟩) (World.block_lt_of_cell? _ _ hcw)).trans hcw
      have hcm2 : wr.cell? ⟨b2, off2 + m, none⟩ = some (.int .i64 (nd p m : Int)) := (HB.out.cell (p := ⟨b2, off2 + m, none⟩) (World.block_lt_of_cell? _ _ hcw2)).trans hcw2
      have hle1 : plf ds p m ≤ 1024 := by
        have h1 := plf_lt HL.out m (by omega)
        have h2 := pr_take_le HS.out.pos m
        have h3 := HS.out.le
        omega
      have hle2 : plf ds p (m + 1) ≤ 1024 := by
        have h1 := plf_lt HL.out (m + 1) (by omega)
        have h2 := pr_take_le HS.out.pos (m + 1)
        have h3 := HS.out.le
        omega
      have PS := Lib.hid (show plf ds p (m + 1) = plf ds p m * nd ds m + nd p m from rfl)
      rw [PS.out] at hle2
      clear hcw hcw2
      generalize plf ds p m = q at *
      generalize nd ds m = d at *
      generalize nd p m = y at *
      have hm0 : (0 : Int) ≤ (q : Int) * (d : Int) := by rw [← Int.natCast_mul]; exact Int.natCast_nonneg _
      have hm1 : (q : Int) * (d : Int) + (y : Int) ≤ 1024 := by rw [← Int.natCast_mul]; omega
      have e1 : IntKind.i64.wrap ((q : Int) * (d : Int)) = (q : Int) * (d : Int) := IntWalk.i64_in _ (by omega)
      have e2 : IntKind.i64.wrap ((q : Int) * (d : Int) + (y : Int)) = (q : Int) * (d : Int) + (y : Int) := IntWalk.i64_in _ (by omega)
      go_wp2
      try go_quiet (fail)
      try go_wp2
      go_roundw
      case rel => exact ⟨m + 1, by omega, by go_num, by rw [PS.out, Int.natCast_add, Int.natCast_mul], by (first | exact HB.out | exact below_drewN HB.out _)⟩
      case measure => simp [intOf] <;> omega
    · obtain rfl : m = ds.length := by omega
      rw [PF.out]
      go_wp2
      go_ret
      exact ⟨rfl, HB.out⟩
end Go.Proofs.YtkcfnbfkbmgchaaDoor.Gm
/- (Cs) -/
namespace Go.Proofs.YtkcfnbfkbmgchaaDoor.Gm
open Go.RowKit
set_option linter.unusedVariables false
theorem info_bool : (Tryd.prog.info? 4).map (fun i => (i.zero, i.size, i.bytes)) = some (some (.bool false), 1, 1) := by kernel_rfl
/-- a slice of bools of the call's own -/
def Ob (B : Nat) (w : World) (v : Value) (l : List Bool) : Prop := w.ownsRow B 4 1 v l.length (l.map Value.bool)
theorem Ob.nil (B : Nat) (w : World) : Ob B w (.slice none 0 0) [] := World.ownsRow_nil _ _ _ _
theorem Ob.of_heap {B : Nat} {w w' : World} {v : Value} {l : List Bool} (h : Ob B w v l) (hh : ∀ k, k < w.heap.size → w'.heap[k]? = w.heap[k]?) : Ob B w' v l := by
  refine ⟨h.1, ?_⟩
  rcases h.2 with h0 | ⟨g, cap, cur, e, hb, hg, rest⟩
  · exact .inl h0
  · exact .inr ⟨g, cap, cur, e, hb, (hh g (Array.getElem?_eq_some_iff.1 hg).1).trans hg, rest⟩
theorem Ob.below {B : Nat} {w w' : World} {v : Value} {l : List Bool} (h : Ob B w v l) (hb : Below w.heap.size w w') : Ob B w' v l :=
  h.of_heap (fun k hk => hb.block k hk)
theorem Ob.opened {B : Nat} {w : World} {v : Value} {l : List Bool} (h : Ob B w v l) (hl : 1 ≤ l.length) : ∃ g cap, v = .slice (some ⟨g, 0, none⟩) l.length cap ∧ l.length ≤ cap ∧ cap ≤ 9223372036854775807 := by
  rcases h.2 with ⟨rfl, h0⟩ | ⟨g, cap, cur, rfl, hb, hg, hn, hm, hs, ht⟩
  · omega
  · exact ⟨g, cap, rfl, hn, by unfold maxLen at hm; omega⟩
theorem Ob.cell {B g n cap : Nat} {w : World} {l : List Bool} {b : Bool} (h : Ob B w (.slice (some ⟨g, 0, none⟩) n cap) l) {i : Nat} (hi : l[i]? = some b) : w.cell? ⟨g, i, none⟩ = some (.bool b) := by
  obtain ⟨hil, _⟩ := List.getElem?_eq_some_iff.1 hi
  have hn : n = l.length := by
    rcases h.2 with ⟨e, h0⟩ | ⟨g', cap', cur, e, _⟩
    · cases e
    · injection e
  subst hn
  rw [World.ownsRow.cellAt h i (by omega), List.getElem?_map, hi]
  rfl
theorem wl_app_bool {ops : Array Oper} {rest : List Oper} {o : Oper} {a : Act} {Q : Exit → Act → World → Prop} (w : World) (hgd : o.guard = none) (s x : Operand)
    (ho : o.op = .call { callee := .builtin .append, args := #[s, x], argTypes := #[95, 95] })
    (B : Nat) (v : Value) (l : List Bool) (y : Bool) (W : World) (hs : a.eval s = v) (hx : a.eval x = .slice (some ⟨w.heap.size, 0, none⟩) 1 1)
    (hown : Ob B w v l) (hbel : Below B W w) (hB : B ≤ w.heap.size) (hl : l.length ≤ 1000000)
    (h : ∀ v' w', Ob B w' v' (l ++ [y]) → Below B W w' → wpList Tryd.prog ops Q rest (a.put o.dst v') w') :
    wpList Tryd.prog ops Q (o :: rest) a (w.alloc (.cells #[.bool y] 4)) := by
  refine wl_appV 4 95 (.bool false) 1 1 Tryd.underlying95 info_bool rfl (by decide) (by decide) w hgd s x ho B v l.length (l.map Value.bool) #[.bool y] rfl (by intro u hu; simp at hu; subst hu; rfl) W hs hx hown hbel hB hl fun v' w' h1 h2 => h v' w' ?_ h2
  unfold Ob
  rw [List.map_append, List.length_append, List.length_singleton]
  exact h1
theorem and_one (n : Nat) (h : n < 9223372036854775808) : bits .and .i64 (n : Int) 1 = ((n % 2 : Nat) : Int) := by
  have := i64_and_nat n 1 h (by omega)
  rw [Nat.and_one_is_mod] at this
  exact this
theorem bit_ob (N c x : Nat) (hc : c < 9223372036854775808) : (bits BinOp.and IntKind.i64 ((c : Int) / 2 ^ (N - 1 - x)) 1 == 1) = ob N c x := by
  have e : ((c : Int) / 2 ^ (N - 1 - x)) = ((c / 2 ^ (N - 1 - x) : Nat) : Int) := by simp
  rw [e, and_one _ (Nat.lt_of_le_of_lt (Nat.div_le_self _ _) hc), ob_eq]
  generalize c / 2 ^ (N - 1 - x) % 2 = y
  rw [Bool.eq_iff_iff]
  simp only [beq_iff_eq, decide_eq_true_eq]
  omega
theorem int_one (d : Nat) : ((d : Int) == 1) = (d == 1) := by
  rw [Bool.eq_iff_iff]
  simp only [beq_iff_eq]
  omega
theorem int_odd (d : Nat) : ((d : Int) % 2 == 1) = (d % 2 == 1) := by
  rw [Bool.eq_iff_iff]
  simp only [beq_iff_eq]
  omega
theorem sub_Fx (y : F) (x : Int) (w : World) (hx0 : 0 ≤ x) (hx1 : x < 18446744073709551616) :
    Calls Tryd.prog 32 #[.int .u64 (vl y), .int .u64 x] w fun e w' => e = .returned (.int .u64 (vl (y - toF x))) ∧ w = w' := by
  have h := sub_any (vl y) x w (vl_lo y) (vl_64 y) hx0 hx1
  rwa [toF_vl] at h
def CnA (w : World) (ks : List Nat) (l : List F) (M : Nat) (out c : Value) (wr : World) : Prop :=
  ∃ m : Nat, m ≤ M ∧ c = .int .i64 m ∧ Ow w.heap.size wr out (crn ks l m) ∧ Below w.heap.size w wr
def CnB (wo : World) (ds : List Nat) (N c : Nat) (wrong odd i : Value) (wr : World) : Prop :=
  ∃ m : Nat, m ≤ N ∧ i = .int .i64 m ∧ wrong = .bool (wrg ds N c m) ∧ Ob wo.heap.size wr odd (odds N c m) ∧ Below wo.heap.size wo wr
def CnC (wo : World) (ks : List Nat) (l : List F) (c n : Nat) (sum k : Value) (wr : World) : Prop :=
  ∃ m : Nat, m ≤ n ∧ k = .int .i64 m ∧ sum = .int .u64 (vl (csum ks l c m)) ∧ Below wo.heap.size wo wr
set_option maxHeartbeats 4000000 in
set_option maxRecDepth 100000 in
theorem corners_ok (ks : List Nat) (xs : List Int) (v v2 : Value) (w : World) (h : Rd .i64 w v (zi (szs ks))) (h2 : Rd .u64 w v2 xs) (hw : W64 (zi (szs ks))) (hs : Shp (szs ks)) (hx : B64 xs) (hl : xs.length = pk ks) :
    Calls Tryd.prog 52 #[v, v2] w (RetLE w (crn ks (xs.map toF) (2 ^ ks.length)) 0) := by
  have hn1 : 1 ≤ pk ks := hs.pr1
  have hn2 : pk ks ≤ 1024 := hs.le
  have hN1 : 1 ≤ ks.length := by have := hs.len0; rwa [szs_len] at this
  have hN3 : ks.length ≤ 3 := by have := hs.len3; rwa [szs_len] at this
  have CC := Lib.hid (sform_ok (zi (szs ks)) xs (szs ks) v v2 w h h2 hw rfl hs hl)
  have CP := Lib.hid (fun k (hk : k < pk ks) v w h => places_any (szs ks) k (k : Int) v w h hs (by omega) rfl)
  obtain ⟨sa, scap, sb, so, rfl, hscap, hsm, hsx, hsc⟩ := h.opened
  obtain ⟨xa, xcap, xb, xo, rfl, hxcap, hxm, hxx, hxc⟩ := h2.opened
  have LZ := Lib.hid (show (zi (szs ks)).length = ks.length by rw [zi_len, szs_len])
  rw [LZ.out] at hscap hsx hsc CC ⊢
  rw [hl] at hxcap hxx hxc CC ⊢
  obtain rfl := hsx.resolve_left (by omega)
  obtain rfl := hxx.resolve_left (by omega)
  have SC := Lib.hid (show ∀ x, x < ks.length → w.cell? ⟨sb, so + x, none⟩ = some (.int .i64 (nd (szs ks) x : Int)) from fun x hx => by rw [hsc x hx, gd_zi])
  have XC := Lib.hid hxc
  have HX := Lib.hid hx
  obtain ⟨l, hle⟩ : ∃ l, l = xs.map toF := ⟨_, rfl⟩
  have GX := Lib.hid (show ∀ i, cf l i = toF (gd xs i) from fun i => by rw [hle, cf_map])
  rw [← hle]
  have C0 := Lib.hid (crn_zero ks l)
  have CY := Lib.hid (fun c (h : okc ks c = true) => (crn_yes l h).symm)
  have CN := Lib.hid (fun c (h : okc ks c = false) => crn_no l h)
  have CLN := Lib.hid (fun c => crn_len ks l c)
  have WF := Lib.hid (fun c => wrg_full ks c)
  have M2 := Lib.hid (fun c q (h : okc ks c = true) hm => csum_minus (q := q) l h hm)
  have M3 := Lib.hid (fun c q (h : okc ks c = true) hm => csum_plus (q := q) l h hm)
  have PLL := Lib.hid (fun k => show (zi (plcs (szs ks) k)).length = ks.length by rw [zi_len, plcs_len, szs_len])
  have PLM := Lib.hid (fun k x => show gd (zi (plcs (szs ks) k)) x = (nd (plcs (szs ks) k) x : Int) from gd_zi _ x)
  have PLT := Lib.hid (show ∀ k x, x < ks.length → nd (plcs (szs ks) k) x < nd (szs ks) x ∧ nd (szs ks) x ≤ 1024 from fun k x hx => ⟨plcs_lt _ k x (by rw [szs_len]; exact hx) (hs.nd1 (by rw [szs_len]; exact hx)), hs.ndle (by rw [szs_len]; exact hx)⟩)
  have X := Lib.hid (show Rd .i64 w (.slice (some ⟨sb, so, none⟩) ks.length scap) (zi (szs ks)) by rw [← LZ.out]; exact h)
  obtain ⟨ds, hds⟩ : ∃ ds, ds = szs ks := ⟨_, rfl⟩
  rw [← hds] at CP SC X WF M2 M3 PLL PLM PLT
  obtain ⟨n, hn⟩ : ∃ n, n = pk ks := ⟨_, rfl⟩
  rw [← hn] at hn1 hn2 hxcap XC CC CP CY ⊢
  obtain ⟨N, hN⟩ : ∃ N, N = ks.length := ⟨_, rfl⟩
  rw [← hN] at hN1 hN3 hscap SC X CC WF M2 M3 PLL PLT ⊢
  obtain ⟨M, hM⟩ : ∃ M, M = 2 ^ N := ⟨_, rfl⟩
  have hM2 : M ≤ 8 := by
    have := Nat.pow_le_pow_right (show 0 < 2 by omega) hN3
    omega
  have HM := Lib.hid (show ((2 : Int) ^ N) = (M : Int) by rw [hM]; simp)
  rw [← hM]
  clear h h2 hs hsc hxc hx hl hle hds hn hN LZ hw hM
  go_enter Tryd.func52, Tryd.ntmps52
  go_wp2_with fail
  refine CC.out.mono ?_
  rintro e w' ⟨rfl, rfl⟩
  have HM1 : ((2 : Int) ^ N) = (M : Int) := HM.out
  go_wp2
  go_loopw [7, 8, 9, 10, 11, 12, 13, 14, 15, 16, 17, 18, 19, 29] (fun out _ _ _ _ _ _ _ _ _ _ _ _ c wr => CnA w ks l M out c wr) (fun _ _ _ _ _ _ _ _ _ _ _ _ _ c _ => M - (intOf c).toNat)
  case atStart => exact ⟨0, by omega, rfl, by rw [C0.out]; exact Ow.nil _ _, Below.refl _ _⟩
  case round =>
    obtain ⟨c, hc, rfl, ho, hbel⟩ := hrel
    have OO := Lib.hid ho
    have HB := Lib.hid hbel
    have hwsz := hbel.size
    clear ho hbel
    by_cases hcl : c < M
    · obtain ⟨wo, hwo⟩ : ∃ wo : World, wo = wr := ⟨_, rfl⟩
      subst hwo
      go_wp2
      go_loopw [9, 10, 11, 12, 13, 34] (fun odd wrong _ _ _ i wi => CnB wo ds N c wrong odd i wi) (fun _ _ _ _ _ i _ => N - (intOf i).toNat)
      case atStart => exact ⟨0, by omega, rfl, by rw [wrg_zero], by rw [odds_zero]; exact Ob.nil _ _, Below.refl _ _⟩
      case round =>
        obtain ⟨i, hi, rfl, rfl, hob, hb⟩ := hrel
        have OB := Lib.hid hob
        have B3 := Lib.hid hb
        have hs3 := hb.size
        clear hob hb
        by_cases hil : i < N
        · have c3 : wr.cell? ⟨sb, so + i, none⟩ = some (.int .i64 (nd ds i : Int)) := cell_below B3.out (cell_below HB.out (SC.out i hil))
          have e1 : (bits BinOp.and IntKind.i64 ((c : Int) / 2 ^ (N - 1 - i)) 1 == 1) = ob N c i := bit_ob N c i (by omega)
          have e2 : ((nd ds i : Int) == 1) = (nd ds i == 1) := int_one _
          have HW := Lib.hid (wrg_succ ds N c i)
          have HO := Lib.hid (odds_succ N c i)
          have OL2 := Lib.hid (odds_len N c i)
          generalize wrg ds N c i = b1 at *
          generalize ob N c i = b2 at *
          generalize (nd ds i == 1) = b3 at *
          rcases b1 with _ | _ <;> rcases b2 with _ | _ <;> rcases b3 with _ | _
          all_goals
            (go_wp2_with (at_builtin; refine wl_app_bool _ rfl (.tmp 56) (.tmp 58) rfl wo.heap.size _ (odds N c i) _ wo rfl rfl OB.out B3.out hs3 (by rw [OL2.out]; omega) ?_)
             intro v4 w4 hob hb4
             have OB4 := Lib.hid hob
             have B4 := Lib.hid hb4
             clear hob hb4
             go_wp2
             go_roundw
             case rel => exact ⟨i + 1, by omega, by go_num, by rw [HW.out]; rfl, by rw [HO.out]; exact OB4.out, B4.out⟩
             case measure => simp [intOf] <;> omega)
        · obtain rfl : N = i := by omega
          have HWF := WF.out c
          cases hok : okc ks c with
          | false =>
            have CNc := CN.out c hok
            rw [hok] at HWF
            have HWG : wrg ds N c N = true := HWF
            rw [HWG]
            have B5 := Lib.hid (HB.out.trans (B3.out.mono hwsz))
            have OO5 := Lib.hid (OO.out.below B3.out)
            go_wp2
            go_roundw
            case rel => exact ⟨c + 1, by omega, by go_num, by rw [CNc]; exact OO5.out, B5.out⟩
            case measure => simp [intOf] <;> omega
          | true =>
            rw [hok] at HWF
            have HWG : wrg ds N c N = false := HWF
            rw [HWG]
            have CYc := Lib.hid (CY.out c hok)
            have HM2 := Lib.hid (fun q hm => M2.out c q hok hm)
            have HM3 := Lib.hid (fun q hm => M3.out c q hok hm)
            obtain ⟨go, co, rfl, hco, hcom⟩ := OB.out.opened (by rw [odds_len]; exact hN1)
            have OL2 := Lib.hid (odds_len N c N)
            rw [OL2.out] at OB hco ⊢
            have OC := Lib.hid (show ∀ x, x < N → wr.cell? ⟨go, x, none⟩ = some (.bool (ob N c x)) from fun x hx => OB.out.cell (odds_at N c N hx))
            have CCC := Lib.hid (fun m => crn_len ks l m)
            clear CY M2 M3 HWF HWG hok
            obtain ⟨wq, hwq⟩ : ∃ wq : World, wq = wr := ⟨_, rfl⟩
            subst hwq
            have Z0 := Lib.hid (show (0 : Int) = vl (csum ks l c 0) by rw [csum_zero, vl_zero])
            go_wp2
            go_loopw [14, 15, 16, 17, 18, 19, 64] (fun sum _ _ _ _ _ k wi => CnC wq ks l c n sum k wi) (fun _ _ _ _ _ _ k _ => n - (intOf k).toNat)
            case atStart => exact ⟨0, by omega, rfl, by rw [← Z0.out], Below.refl _ _⟩
            case round =>
              obtain ⟨q, hq, rfl, rfl, hb⟩ := hrel
              have B6 := Lib.hid hb
              have hs6 := hb.size
              clear hb
              by_cases hql : q < n
              · have c4 : wr.cell? ⟨xb, xo + q, none⟩ = some (.int .u64 (gd xs q)) := cell_below B6.out (cell_below B3.out (cell_below HB.out (XC.out q hql)))
                have XW := Lib.hid (X.out.below (HB.out.trans ((B3.out.trans (B6.out.mono hs3)).mono hwsz)))
                go_wp2_with fail
                refine (CP.out q hql _ _ XW.out).mono ?_
                rintro e w7 ⟨pv, rfl, hp, hb⟩
                obtain ⟨gp, cp, rfl, hcp, hcpm⟩ := hp.opened (by rw [PLL.out]; exact hN1)
                rw [PLL.out] at hp hcp ⊢
                have PC := Lib.hid (show ∀ x, x < N → w7.cell? ⟨gp, x, none⟩ = some (.int .i64 (nd (plcs ds q) x : Int)) from fun x hx => by rw [hp.cell (by rw [PLL.out]; exact hx), PLM.out])
                have OC7 := Lib.hid (show ∀ x, x < N → w7.cell? ⟨go, x, none⟩ = some (.bool (ob N c x)) from fun x hx => cell_below hb (cell_below B6.out (OC.out x hx)))
                have B7 := Lib.hid (B6.out.trans (hb.mono hs6))
                have hbx := HX.out.get q
                clear hp hb B6 XW
                go_wp2
                go_loop [17, 18, 19, 73] (fun mi _ _ j => ∃ m : Nat, m ≤ N ∧ j = .int .i64 m ∧ mi = .bool (mns ds N c q m)) (fun _ _ _ j => N - (intOf j).toNat)
                case atStart => exact ⟨0, by omega, rfl, by rw [mns_zero]⟩
                case round =>
                  obtain ⟨x, hx1, rfl, rfl⟩ := hrel
                  by_cases hxl : x < N
                  · have c5 := PC.out x hxl
                    have c6 := OC7.out x hxl
                    obtain ⟨t1, t2⟩ := PLT.out q x hxl
                    have HS := Lib.hid (mns_succ ds N c q x)
                    have e3 : (((nd (plcs ds q) x : Int)).tmod 2 == 1) = (nd (plcs ds q) x % 2 == 1) := int_odd _
                    have e4 : ((nd (plcs ds q) x : Int) % 2 == 1) = (nd (plcs ds q) x % 2 == 1) := int_odd _
                    generalize mns ds N c q x = b1 at *
                    generalize ob N c x = b2 at *
                    generalize (nd (plcs ds q) x % 2 == 1) = b3 at *
                    generalize nd (plcs ds q) x = y at *
                    rcases b2 with _ | _
                    all_goals
                      (go_wp2
                       go_round
                       case rel => exact ⟨x + 1, by omega, by go_num, by rw [HS.out]; cases b1 <;> cases b3 <;> rfl⟩
                       case measure => simp [intOf] <;> omega)
                  · obtain rfl : N = x := by omega
                    cases hm : mns ds N c q N with
                    | false =>
                      have HC := Lib.hid (HM3.out q hm)
                      rw [GX.out] at HC
                      go_wp2_with fail
                      refine (add_Fx (csum ks l c q) (gd xs q) _ hbx.1 hbx.2).mono ?_
                      rintro e w8 ⟨rfl, rfl⟩
                      rw [HC.out]
                      go_wp2
                      go_roundw
                      case rel => exact ⟨q + 1, by omega, by go_num, rfl, B7.out⟩
                      case measure => simp [intOf] <;> omega
                    | true =>
                      have HC := Lib.hid (HM2.out q hm)
                      rw [GX.out] at HC
                      go_wp2_with fail
                      refine (sub_Fx (csum ks l c q) (gd xs q) _ hbx.1 hbx.2).mono ?_
                      rintro e w8 ⟨rfl, rfl⟩
                      rw [HC.out]
                      go_wp2
                      go_roundw
                      case rel => exact ⟨q + 1, by omega, by go_num, rfl, B7.out⟩
                      case measure => simp [intOf] <;> omega
              · obtain rfl : n = q := by omega
                have OO6 := Lib.hid ((OO.out.below B3.out).below B6.out)
                have B8 := Lib.hid (HB.out.trans ((B3.out.trans (B6.out.mono hs3)).mono hwsz))
                have hs8 := B8.out.size
                go_wp2_with (at_builtin; refine wl_app _ rfl (.tmp 98) (.tmp 100) rfl w.heap.size _ (crn ks l c) (csum ks l c n) w rfl rfl OO6.out B8.out hs8 (by have := CCC.out c; omega) ?_)
                intro v9 w9 ho9 hb9
                rw [CYc.out] at ho9
                have O9 := Lib.hid ho9
                have B9 := Lib.hid hb9
                clear ho9 hb9
                go_wp2
                go_roundw
                case rel => exact ⟨c + 1, by omega, by go_num, O9.out, B9.out⟩
                case measure => simp [intOf] <;> omega
    · obtain rfl : M = c := by omega
      go_wp2
      go_ret2
      exact ⟨_, rfl, OO.out, HB.out⟩
end Go.Proofs.YtkcfnbfkbmgchaaDoor.Gm
/- (Sx) -/
namespace Go.Proofs.YtkcfnbfkbmgchaaDoor.Gm
open Go.RowKit
set_option linter.unusedVariables false
/-- the bits below a power of two are the rest, below nothing, too -/
theorem and_rest (z : Int) (d k : Nat) (hd : d = 2 ^ k) (hk : k ≤ 10) : bits .and .i64 z ((d : Int) - 1) = z % (d : Int) := by
  subst hd
  have h1 : (2 : Nat) ^ k ≤ 1024 := by have := Nat.pow_le_pow_right (show 0 < 2 by omega) hk; simpa using this
  have h0 := Nat.two_pow_pos k
  have e1 : ((2 ^ k : Nat) : Int) - 1 = ((2 ^ k - 1 : Nat) : Int) := by omega
  rw [e1]
  show IntKind.i64.wrap ((BitVec.ofInt 64 z &&& BitVec.ofInt 64 ((2 ^ k - 1 : Nat) : Int)).toNat : Int) = _
  have e2 : (BitVec.ofInt 64 ((2 ^ k - 1 : Nat) : Int)).toNat = 2 ^ k - 1 := by
    rw [BitVec.ofInt_natCast, BitVec.toNat_ofNat]; exact Nat.mod_eq_of_lt (by omega)
  rw [BitVec.toNat_and, e2, Nat.and_two_pow_sub_one_eq_mod, BitVec.toNat_ofInt]
  have e3 : (((z % ((2 ^ 64 : Nat) : Int)).toNat % 2 ^ k : Nat) : Int) = z % ((2 ^ k : Nat) : Int) := by
    rw [Int.natCast_emod, Int.toNat_of_nonneg (Int.emod_nonneg _ (by omega))]
    have hdv : ((2 ^ k : Nat) : Int) ∣ ((2 ^ 64 : Nat) : Int) := Int.natCast_dvd_natCast.2 (Nat.pow_dvd_pow 2 (by omega))
    exact Int.emod_emod_of_dvd _ hdv
  rw [e3]
  have h4 := Int.emod_nonneg z (show ((2 ^ k : Nat) : Int) ≠ 0 by omega)
  have h5 := Int.emod_lt_of_pos z (show (0 : Int) < ((2 ^ k : Nat) : Int) by omega)
  exact IntWalk.i64_in _ (by omega)
def ShA (w : World) (ks : List Nat) (bs : List Int) (l : List F) (n g : Nat) (i : Value) (wr : World) : Prop :=
  ∃ a : Nat, a ≤ n ∧ i = .int .i64 a ∧ Ow w.heap.size wr (.slice (some ⟨g, 0, none⟩) n n) (shL ks bs l a) ∧ Below w.heap.size w wr
def ShB (w4 : World) (B : Nat) (ds : List Nat) (a b N gq cq : Nat) (k : Value) (wr : World) : Prop :=
  ∃ m : Nat, m ≤ N ∧ k = .int .i64 m ∧ Oz .i64 3 B wr (.slice (some ⟨gq, 0, none⟩) N cq) (zi (adP ds a b m)) ∧ Only (fun k => k = gq) w4 wr
set_option maxHeartbeats 4000000 in
set_option maxRecDepth 100000 in
theorem shift_ok (ks : List Nat) (xs bs : List Int) (v v2 v3 : Value) (w : World) (h : Rd .i64 w v (zi (szs ks))) (h2 : Rd .u64 w v2 xs) (h3 : Rd .i64 w v3 bs) (hw : W64 (zi (szs ks))) (hs : Shp (szs ks)) (hx : B64 xs) (hl : xs.length = pk ks) (hbl : bs.length = ks.length) :
    Calls Tryd.prog 51 #[v, v2, v3] w (RetLE w (shL ks bs (xs.map toF) (pk ks)) 0) := by
  have hn1 : 1 ≤ pk ks := hs.pr1
  have hn2 : pk ks ≤ 1024 := hs.le
  have hN1 : 1 ≤ ks.length := by have := hs.len0; rwa [szs_len] at this
  have hN3 : ks.length ≤ 3 := by have := hs.len3; rwa [szs_len] at this
  have CC := Lib.hid (sform_ok (zi (szs ks)) xs (szs ks) v v2 w h h2 hw rfl hs hl)
  have CP := Lib.hid (fun k (hk : k < pk ks) v w h => places_any (szs ks) k (k : Int) v w h hs (by omega) rfl)
  have CA := Lib.hid (fun k v v2 w h h2 => at_places (szs ks) (adP (szs ks) (BI ks bs) k ks.length) v v2 w h h2 hs (adP_len _ _ _ _) (fun x hx => adP_lt _ _ _ hx))
  have PA := Lib.hid (show ∀ k, plc (szs ks) (adP (szs ks) (BI ks bs) k ks.length) = AD ks (BI ks bs) k from fun k => by have := plc_adP ks (BI ks bs) k; rwa [szs_len] at this)
  obtain ⟨sa, scap, sb, so, rfl, hscap, hsm, hsx, hsc⟩ := h.opened
  obtain ⟨xa, xcap, xb, xo, rfl, hxcap, hxm, hxx, hxc⟩ := h2.opened
  obtain ⟨ya, ycap, yb, yo, rfl, hycap, hym, hyx, hyc⟩ := h3.opened
  have LZ := Lib.hid (show (zi (szs ks)).length = ks.length by rw [zi_len, szs_len])
  rw [LZ.out] at hscap hsx hsc CC ⊢
  rw [hl] at hxcap hxx hxc CC ⊢
  rw [hbl] at hycap hyx hyc ⊢
  obtain rfl := hsx.resolve_left (by omega)
  obtain rfl := hxx.resolve_left (by omega)
  obtain rfl := hyx.resolve_left (by omega)
  have SC := Lib.hid (show ∀ x, x < ks.length → w.cell? ⟨sb, so + x, none⟩ = some (.int .i64 (nd (szs ks) x : Int)) from fun x hx => by rw [hsc x hx, gd_zi])
  have XC := Lib.hid hxc
  have YC := Lib.hid hyc
  have HX := Lib.hid hx
  obtain ⟨l, hle⟩ : ∃ l, l = xs.map toF := ⟨_, rfl⟩
  have GX := Lib.hid (show ∀ i, cf l i = toF (gd xs i) from fun i => by rw [hle, cf_map])
  rw [← hle]
  have S0 := Lib.hid (shL_zero ks bs l).symm
  have SS := Lib.hid (fun m (hm : m < pk ks) => shL_step ks bs l hm)
  have SL := Lib.hid (fun m => shL_len ks bs l m)
  have ALT := Lib.hid (fun b => AD_lt ks (BI ks bs) b)
  have PLL := Lib.hid (fun k => show (zi (plcs (szs ks) k)).length = ks.length by rw [zi_len, plcs_len, szs_len])
  have PLM := Lib.hid (fun k x => show gd (zi (plcs (szs ks) k)) x = (nd (plcs (szs ks) k) x : Int) from gd_zi _ x)
  have PLT := Lib.hid (show ∀ k x, x < ks.length → nd (plcs (szs ks) k) x < nd (szs ks) x ∧ nd (szs ks) x ≤ 1024 from fun k x hx => ⟨plcs_lt _ k x (by rw [szs_len]; exact hx) (hs.nd1 (by rw [szs_len]; exact hx)), hs.ndle (by rw [szs_len]; exact hx)⟩)
  have AD0 := Lib.hid (fun k => adP_zero (szs ks) (BI ks bs) k)
  have ADL := Lib.hid (fun k m => show (zi (adP (szs ks) (BI ks bs) k m)).length = ks.length by rw [zi_len, adP_len, szs_len])
  have ADM := Lib.hid (fun k m (hm : m < ks.length) => show gd (zi (adP (szs ks) (BI ks bs) k m)) m = (nd (plcs (szs ks) k) m : Int) by rw [gd_zi, nd_adP _ _ _ _ (by rw [szs_len]; exact hm), if_neg (by omega)])
  have ADS := Lib.hid (fun k m (hm : m < ks.length) => show (zi (adP (szs ks) (BI ks bs) k m)).set m (((nd (plcs (szs ks) k) m + nd (byp (szs ks) bs) m) % nd (szs ks) m : Nat) : Int) = zi (adP (szs ks) (BI ks bs) k (m + 1)) by rw [zi_set, ← nd_BI ks bs (by rw [szs_len]; exact hm), adP_succ _ _ _ (by rw [szs_len]; exact hm)])
  have BYI := Lib.hid (show ∀ x, x < ks.length → (gd bs x % (nd (szs ks) x : Int) = (nd (byp (szs ks) bs) x : Int) ∧ nd (byp (szs ks) bs) x < nd (szs ks) x) from fun x hx => ⟨(nd_byp_int bs (by rw [szs_len]; exact hx) (hs.nd1 (by rw [szs_len]; exact hx))).symm, byp_lt bs (by rw [szs_len]; exact hx) (hs.nd1 (by rw [szs_len]; exact hx))⟩)
  have ANDB := Lib.hid (show ∀ (z : Int) x, x < ks.length → bits .and .i64 z ((nd (szs ks) x : Int) - 1) = z % (nd (szs ks) x : Int) from fun z x hx => by
    have hx' : x < (szs ks).length := by rw [szs_len]; exact hx
    exact and_rest z _ _ (nd_szs ks hx) (shp_k hs hx' (nd_szs ks hx)))
  have X := Lib.hid (show Rd .i64 w (.slice (some ⟨sb, so, none⟩) ks.length scap) (zi (szs ks)) by rw [← LZ.out]; exact h)
  obtain ⟨ds, hds⟩ : ∃ ds, ds = szs ks := ⟨_, rfl⟩
  rw [← hds] at CP CA PA SC PLL PLM PLT AD0 ADL ADM ADS BYI ANDB X
  obtain ⟨B, hB⟩ : ∃ B, B = BI ks bs := ⟨_, rfl⟩
  rw [← hB] at CA PA ALT AD0 ADL ADM ADS SS
  obtain ⟨n, hn⟩ : ∃ n, n = pk ks := ⟨_, rfl⟩
  rw [← hn] at hn1 hn2 hxcap XC CC CP S0 SS SL ALT ⊢
  obtain ⟨N, hN⟩ : ∃ N, N = ks.length := ⟨_, rfl⟩
  rw [← hN] at hN1 hN3 hscap hycap SC YC X CC CA PA PLL PLT ADL ADM ADS BYI ANDB ⊢
  clear h h2 h3 hs hsc hxc hyc hx hl hle hds hn hN LZ hw hbl hB
  go_enter Tryd.func51, Tryd.ntmps51
  go_wp2_with fail
  refine CC.out.mono ?_
  rintro e w' ⟨rfl, rfl⟩
  go_wp2_with (refine wl_makeF _ rfl (.tmp 27) (.tmp 27) rfl w.heap.size _ _ n w rfl rfl rfl rfl (by omega) (Below.refl _ _) (Nat.le_refl _) ?_)
  intro g w1 _ hown1 hbel1
  rw [S0.out] at hown1
  have O1 := Lib.hid hown1
  have B1 := Lib.hid hbel1
  clear hown1 hbel1
  go_wp2
  go_loopw [10, 11, 12, 13, 14, 31] (fun _ _ _ _ _ i wr => ShA w ks bs l n g i wr) (fun _ _ _ _ _ i _ => n - (intOf i).toNat)
  case atStart => exact ⟨0, by omega, rfl, O1.out, B1.out⟩
  case round =>
    obtain ⟨a, ha, rfl, ho, hbel⟩ := hrel
    have OO := Lib.hid ho
    have HB := Lib.hid hbel
    have hwsz := hbel.size
    have hgw := ho.base.2
    have hgl := ho.base.1
    clear ho hbel
    by_cases hal : a < n
    · have XW := Lib.hid (X.out.below HB.out)
      have cx : wr.cell? ⟨xb, xo + a, none⟩ = some (.int .u64 (gd xs a)) := cell_below HB.out (XC.out a hal)
      go_wp2_with fail
      refine (CP.out a hal _ _ XW.out).mono ?_
      rintro e w4 ⟨qv, rfl, hq, hb⟩
      obtain ⟨gq, cq, rfl, hcq, hcqm⟩ := hq.opened (by rw [PLL.out]; exact hN1)
      rw [PLL.out] at hq hcq ⊢
      have hqb := hq.base.1
      have Q4 := Lib.hid (show Oz .i64 3 wr.heap.size w4 (.slice (some ⟨gq, 0, none⟩) N cq) (zi (adP ds B a 0)) by rw [AD0.out]; exact hq)
      have O4 := Lib.hid (OO.out.below hb)
      have B4 := Lib.hid (HB.out.trans (hb.mono hwsz))
      have hs4 := hb.size
      clear hq hb OO HB XW cx
      obtain ⟨wq, hwq⟩ : ∃ wq : World, wq = wr := ⟨_, rfl⟩
      subst hwq
      go_wp2
      go_loopw [13, 14, 41] (fun _ _ k wi => ShB w4 wq.heap.size ds B a N gq cq k wi) (fun _ _ k _ => N - (intOf k).toNat)
      case atStart => exact ⟨0, by omega, rfl, Q4.out, Only.refl _ _⟩
      case round =>
        obtain ⟨x, hx1, rfl, hq, ho⟩ := hrel
        have Q5 := Lib.hid hq
        have OB := Lib.hid ho
        clear hq ho
        by_cases hxl : x < N
        · have c1 : wr.cell? ⟨gq, x, none⟩ = some (.int .i64 (nd (plcs ds a) x : Int)) := by
            have := Q5.out.cell (i := x) (by rw [ADL.out]; exact hxl)
            rwa [ADM.out a x hxl] at this
          have low : ∀ {b o : Nat} {v : Value}, w.cell? ⟨b, o, none⟩ = some v → wr.cell? ⟨b, o, none⟩ = some v := fun {b o v} h0 => by
            have hlt := World.block_lt_of_cell? _ _ h0
            have hlt : b < w.heap.size := hlt
            exact cell_only OB.out (cell_below B4.out h0) (by omega)
          have c2 : wr.cell? ⟨yb, yo + x, none⟩ = some (.int .i64 (gd bs x)) := low (YC.out x hxl)
          have c3 : wr.cell? ⟨sb, so + x, none⟩ = some (.int .i64 (nd ds x : Int)) := low (SC.out x hxl)
          clear low
          obtain ⟨t1, t3⟩ := PLT.out a x hxl
          obtain ⟨t4, t5⟩ := BYI.out x hxl
          have a1 := ANDB.out (gd bs x) x hxl
          rw [t4] at a1
          have a2 := ANDB.out ((nd (plcs ds a) x + nd (byp ds bs) x : Nat) : Int) x hxl
          have e4 : ((nd (plcs ds a) x + nd (byp ds bs) x : Nat) : Int) % (nd ds x : Int) = (((nd (plcs ds a) x + nd (byp ds bs) x) % nd ds x : Nat) : Int) := rfl
          rw [e4] at a2
          have ADx := Lib.hid (ADS.out a x hxl)
          have ADl := Lib.hid (ADL.out a x)
          clear t4 e4
          generalize nd (plcs ds a) x = p1 at *
          generalize nd (byp ds bs) x = p2 at *
          generalize nd ds x = d at *
          generalize gd bs x = z at *
          have e2 : IntKind.i64.wrap ((p1 : Int) + (p2 : Int)) = ((p1 + p2 : Nat) : Int) := by rw [show (p1 : Int) + (p2 : Int) = ((p1 + p2 : Nat) : Int) by omega]; exact wrap_nat (by omega)
          have e3 : IntKind.i64.wrap ((d : Int) - 1) = (d : Int) - 1 := IntWalk.i64_in _ (by omega)
          have hrl : (p1 + p2) % d < d := Nat.mod_lt _ (by omega)
          generalize (p1 + p2) % d = r at *
          generalize p1 + p2 = s at *
          go_wp2
          go_still_tail 18, (by kernel_rfl)
          repeat still_step
          try refine wpStill_nil ?_
          change wpList _ _ _ _ _ wr.drew
          clear c1
          go_wp2_with (refine wl_storeI .i64 3 _ rfl (.tmp 63) (.tmp 62) (fun _ => rfl) rfl wq.heap.size gq x N cq (zi (adP ds B a x)) (r : Int) rfl rfl Q5.out.drew ADl.out hxl ?_)
          intro w5 hown5 ho5 hs6
          try rw [ADx.out] at hown5
          have Q6 := Lib.hid hown5
          have Q7 := Lib.hid (OB.out.drew.trans ho5)
          clear hown5 ho5 hs6 c2 c3
          go_wp2
          go_roundw
          case rel => exact ⟨x + 1, by omega, by go_num, Q6.out, Q7.out⟩
          case measure => simp [intOf] <;> omega
        · obtain rfl : N = x := by omega
          have hs5 := OB.out.size
          have O5 := Lib.hid (O4.out.only OB.out (fun gg e e' => by have e2 : g = gg := by simpa [Value.ownBlock] using e
                                                                    omega))
          have B5 := Lib.hid (B4.out.trans (OB.out.below (by omega) (fun gg e => by omega)))
          have XW := Lib.hid (X.out.below B5.out)
          have hs6 := B5.out.size
          clear O4 B4 OB
          go_wp2_with fail
          refine (CA.out a _ _ _ XW.out Q5.out.rd).mono ?_
          rintro e w6 ⟨rfl, hb⟩
          rw [PA.out a]
          have O6 := Lib.hid (O5.out.below hb)
          have B6 := Lib.hid (B5.out.trans (hb.mono hs6))
          clear hb O5 B5 XW
          have hlt := ALT.out a
          have hb1 := HX.out.get a
          have SSx := SS.out a hal
          rw [GX.out a] at SSx
          have SSx := Lib.hid SSx
          have SLx := Lib.hid (SL.out a)
          generalize AD ks B a = q at *
          generalize gd xs a = y1 at *
          go_wp2_with fail
          refine (norm_any y1 _ hb1.1 hb1.2).mono ?_
          rintro e w7 ⟨rfl, rfl⟩
          go_wp2_with (refine wl_storeF _ rfl (.tmp 71) (.tmp 70) rfl w.heap.size g q n n (shL ks bs l a) (toF y1) rfl rfl O6.out SLx.out hlt ?_)
          intro w7 hown7 ho7 hs8
          try rw [SSx.out] at hown7
          have O7 := Lib.hid hown7
          have B7 := Lib.hid (B6.out.trans (ho7.below (by have := B6.out.size; exact this) (fun gg e => by omega)))
          clear hown7 ho7
          go_wp2
          go_roundw
          case rel => exact ⟨a + 1, by omega, by go_num, O7.out, B7.out⟩
          case measure => simp [intOf] <;> omega
    · obtain rfl : n = a := by omega
      go_wp2
      go_ret2
      exact ⟨_, rfl, OO.out, HB.out⟩
end Go.Proofs.YtkcfnbfkbmgchaaDoor.Gm
/- (Spe) -/
namespace Go.Proofs.YtkcfnbfkbmgchaaDoor.Gm
open Go.RowKit
/-- the point of a place -/
@[irreducible] def pt (i : Nat) : F := root 6 ^ i
theorem pt_eq (i : Nat) : pt i = root 6 ^ i := by unfold pt; rfl
theorem wrap_small (z : Int) (i : Nat) (h : z = i) (hi : i < 1000) : IntKind.u64.wrap z = z := by
  subst h
  unfold IntKind.wrap
  simp [IntKind.signed, IntKind.bits]
  omega
theorem point_pow (i : Nat) (z : Int) (w : World) (hi : i < 1000) (hz : z = i) :
    Calls Tryd.prog 60 #[.int .u64 (vl (root 6)), .int .u64 z] w fun e w' => e = .returned (.int .u64 (vl (pt i))) ∧ w = w' := by
  have h := pow_anyZ (vl (root 6)) z i w (vl_lo _) (vl_64 _) (by omega) hz
  rwa [toF_vl, ← pt_eq] at h
theorem point_any (i : Nat) (z : Int) (w : World) (hi : i < 1000) (hz : z = i) :
    Calls Tryd.prog 89 #[.int .i64 z] w fun e w' => e = .returned (.int .u64 (vl (pt i))) ∧ w = w' := by
  have hw := wrap_small z i hz hi
  have h0 : 0 ≤ z := by omega
  have h1 : z < 1000 := by omega
  go_enter Tryd.func89, Tryd.ntmps89
  go_wp2_with fail
  refine (root_anyZ 6 6 _ (by omega) rfl).mono ?_
  rintro e w' ⟨rfl, rfl⟩
  go_wp2_with fail
  refine (point_pow i _ _ hi (by first | rfl | exact hz | (rw [hw]; exact hz))).mono ?_
  rintro e w' ⟨rfl, rfl⟩
  go_wp2
  go_ret
  exact ⟨rfl, rfl⟩
/-- the first k symbols of a word -/
def syms (l : List F) (k : Nat) : List F := (List.range k).map fun i => evl l (pt i)
theorem syms_zero (l : List F) : syms l 0 = [] := rfl
theorem syms_succ (l : List F) (k : Nat) : syms l (k + 1) = syms l k ++ [evl l (pt k)] := by
  unfold syms; rw [List.range_succ, List.map_append]; rfl
theorem syms_len (l : List F) (k : Nat) : (syms l k).length = k := by unfold syms; simp
def SymRel (w : World) (l : List F) (n : Nat) (out i : Value) (wr : World) : Prop :=
  ∃ k : Nat, k ≤ n ∧ i = .int .i64 k ∧ Ow w.heap.size wr out (syms l k) ∧ Below w.heap.size w wr
set_option maxHeartbeats 2000000 in
theorem encode_bad (zs : List Int) (v : Value) (n : Int) (w : World) (h : Rd .u64 w v zs) (hb : zs.length < 1 ∨ n < 1 ∨ 64 < n ∨ n < zs.length) :
    Calls Tryd.prog 53 #[v, .int .i64 n] w (RetLE w [] 1) := by
  obtain ⟨a, cap, rfl, hcap, hm⟩ := h.shape
  clear h
  go_enter Tryd.func53, Tryd.ntmps53
  by_cases h1 : zs.length < 1
  · go_wp2
    go_ret2
    exact ⟨_, rfl, Ow.nil _ _, Below.refl _ _⟩
  · by_cases h2 : n < 1
    · go_wp2
      go_ret2
      exact ⟨_, rfl, Ow.nil _ _, Below.refl _ _⟩
    · by_cases h3 : 64 < n
      · go_wp2
        go_ret2
        exact ⟨_, rfl, Ow.nil _ _, Below.refl _ _⟩
      · have h4 : n < zs.length := by rcases hb with hb | hb | hb | hb <;> first | exact hb | (exfalso; omega)
        go_wp2
        go_ret2
        exact ⟨_, rfl, Ow.nil _ _, Below.refl _ _⟩
set_option maxHeartbeats 2000000 in
set_option maxRecDepth 100000 in
theorem encode_any (zs : List Int) (v : Value) (n : Nat) (z : Int) (w : World) (h : Rd .u64 w v zs) (hz : B64 zs) (h0 : 1 ≤ zs.length) (hn0 : 1 ≤ n) (hn : n ≤ 64) (hl : zs.length ≤ n) (hzn : z = n) :
    Calls Tryd.prog 53 #[v, .int .i64 z] w (RetLE w (syms (zs.map toF) n) 0) := by
  subst hzn
  have H := Lib.hid h
  obtain ⟨a, cap, rfl, hcap, hm⟩ := h.shape
  clear h
  go_enter Tryd.func53, Tryd.ntmps53
  go_wp2
  rename_i g4 k1 k2
  clear g4
  go_loopw [6, 28] (fun out i wr => SymRel w (zs.map toF) n out i wr) (fun _ i _ => n - (intOf i).toNat)
  case atStart => exact ⟨0, by omega, rfl, Ow.nil _ _, Below.refl _ _⟩
  case round =>
    obtain ⟨k, hk, rfl, hout, hbel⟩ := hrel
    have OO := Lib.hid hout
    have HB := Lib.hid hbel
    have hwsz := hbel.size
    clear hout hbel
    obtain ⟨wo, hwo⟩ : ∃ wo : World, wo = wr := ⟨_, rfl⟩
    subst hwo
    by_cases hkn : k < n
    · go_wp2_with fail
      refine (point_any k _ _ (by omega) rfl).mono ?_
      rintro e w' ⟨rfl, rfl⟩
      go_wp2_with fail
      refine (eval_any zs _ (vl (pt k)) _ (H.out.below HB.out) hz (by omega) (vl_lo _) (vl_64 _)).mono ?_
      rintro e w' ⟨rfl, hbel2⟩
      rw [toF_vl]
      have B2 := Lib.hid (HB.out.trans (hbel2.mono hwsz))
      have O2 := Lib.hid (OO.out.below hbel2)
      have hle := Nat.le_trans hwsz hbel2.size
      have SL := Lib.hid (syms_len (zs.map toF) k)
      have SS := Lib.hid (syms_succ (zs.map toF) k)
      clear hbel2
      go_wp2_with (first | (refine wl_app _ rfl (.tmp 38) (.tmp 40) rfl w.heap.size _ (syms (zs.map toF) k) _ w rfl rfl O2.out B2.out hle (by rw [SL.out]; omega) ?_; intro v3 w3 hown3 hbel3) | go_in)
      go_wp2
      go_roundw
      case rel => exact ⟨k + 1, by omega, by go_num, by rw [SS.out]; exact hown3, hbel3⟩
      case measure => simp [intOf] <;> omega
    · obtain rfl : k = n := by omega
      go_wp2
      go_ret2
      exact ⟨_, rfl, OO.out, HB.out⟩
end Go.Proofs.YtkcfnbfkbmgchaaDoor.Gm
/- (Short) -/
namespace Go.Proofs.YtkcfnbfkbmgchaaDoor.Gm
open Go.RowKit
theorem short_any (zs : List Int) (n : Nat) (v : Value) (w : World) (h : Rd .u64 w v zs) (hn : n ≤ 1000000) :
    Calls Tryd.prog 54 #[v, .int .i64 n] w fun e w' => (∃ v', e = .returned v' ∧ Rd .u64 w v' (zs.take n)) ∧ w = w' := by
  obtain ⟨a, cap, b, off, rfl, hcap, hm, hx, hc⟩ := h
  have Hx := Lib.hid hx
  have Hc := Lib.hid hc
  clear hx hc
  rcases (show zs.length < n ∨ n ≤ zs.length by omega) with hlt | hlt
  · go_enter Tryd.func54, Tryd.ntmps54
    go_wp2
    go_ret
    exact ⟨⟨_, rfl, by rw [List.take_of_length_le (by omega)]; exact ⟨a, cap, b, off, rfl, hcap, hm, Hx.out, Hc.out⟩⟩, rfl⟩
  · have hl : (zs.take n).length = n := by rw [List.length_take]; omega
    have HL := Lib.hid hl
    clear hl
    go_enter Tryd.func54, Tryd.ntmps54
    go_wp2
    go_ret
    refine ⟨⟨_, rfl, ⟨a, cap, b, off, by rw [HL.out]; rfl, by rw [HL.out]; omega, hm, ?_, fun i hi => ?_⟩⟩, rfl⟩
    · rcases Hx.out with h | h
      · left; rw [h]; simp
      · exact .inr h
    · rw [HL.out] at hi
      have e : gd (zs.take n) i = gd zs i := by rw [gd_eq, gd_eq, List.getElem?_take_of_lt hi]
      rw [e]
      exact Hc.out i (by omega)
theorem short_z (zs : List Int) (n : Nat) (z : Int) (v : Value) (w : World) (h : Rd .u64 w v zs) (hn : n ≤ 1000000) (hz : z = n) :
    Calls Tryd.prog 54 #[v, .int .i64 z] w fun e w' => (∃ v', e = .returned v' ∧ Rd .u64 w v' (zs.take n)) ∧ w = w' := by
  subst hz; exact short_any zs n v w h hn
end Go.Proofs.YtkcfnbfkbmgchaaDoor.Gm
/- (Pm) -/
namespace Go.Proofs.YtkcfnbfkbmgchaaDoor.Gm
open Go.RowKit
/-- the product's array, behind the rows 0 .. i - 1 and j places of row i -/
def pmv (fa fb : List F) (i j m : Nat) : F := S (fa.length) (fun p => if p < i ∨ (p = i ∧ p ≤ m ∧ m - p < j) then cf fa p * (if p ≤ m then cf fb (m - p) else 0) else 0)
theorem pmv_zero (fa fb : List F) (m : Nat) : pmv fa fb 0 0 m = 0 := S_all0 (fun p _ => by rw [if_neg (by omega)])
theorem pmv_row (fa fb : List F) (i m : Nat) : pmv fa fb i fb.length m = pmv fa fb (i+1) 0 m := by
  refine S_congr (fun p _ => ?_)
  have h := @cf_ge fb (m - p)
  generalize cf fb (m - p) = u at *
  generalize cf fa p = v at *
  grind
theorem pmv_step (fa fb : List F) (i j m : Nat) (hi : i < fa.length) : pmv fa fb i (j+1) m = pmv fa fb i j m + (if m = i + j then cf fa i * cf fb j else 0) := by
  unfold pmv
  have e : S fa.length (fun p => if p = i then (if m = i + j then cf fa i * cf fb j else 0) else 0) = (if m = i + j then cf fa i * cf fb j else 0) := by
    rw [S_single hi (fun p _ hne => by rw [if_neg hne]), if_pos rfl]
  rw [← e, ← S_add]
  refine S_congr (fun p _ => ?_)
  by_cases h1 : p = i
  · subst h1
    by_cases h2 : m = p + j
    · subst h2
      rw [show p + j - p = j by omega]
      generalize cf fb j = u
      generalize cf fa p = v
      grind
    · generalize cf fb (m - p) = u
      generalize cf fb j = u'
      generalize cf fa p = v
      grind
  · generalize cf fb (m - p) = u
    generalize cf fa p = v
    grind
theorem pmv_end (fa fb : List F) (m : Nat) : pmv fa fb fa.length 0 m = cv (cf fa) (cf fb) m := by
  unfold pmv cv
  rw [S_congr (g := fun p => if p ≤ m then cf fa p * cf fb (m - p) else 0) (fun p hp => by
    generalize cf fb (m - p) = u
    generalize cf fa p = v
    grind)]
  by_cases h : fa.length ≤ m + 1
  · rw [S_more (m := fa.length) h (fun i hi _ => by rw [cf_ge (l := fa) hi]; grind)]
    exact S_congr (fun p hp => by rw [if_pos (by omega)])
  · rw [S_more (m := m + 1) (by omega) (fun i hi _ => by rw [if_neg (by omega)])]
    exact S_congr (fun p hp => by rw [if_pos (by omega)])
def MulRel (B : Nat) (w : World) (fa fb : List F) (n g : Nat) (i : Value) (wr : World) : Prop :=
  ∃ (k : Nat) (l : List F), k ≤ fa.length ∧ i = .int .i64 k ∧ l.length = n ∧ (∀ m, m < n → cf l m = pmv fa fb k 0 m) ∧ Ow B wr (.slice (some ⟨g, 0, none⟩) n n) l ∧ Below B w wr
def MulIn (B : Nat) (w : World) (fa fb : List F) (n g i : Nat) (jv : Value) (wr : World) : Prop :=
  ∃ (j : Nat) (l : List F), j ≤ fb.length ∧ jv = .int .i64 j ∧ l.length = n ∧ (∀ m, m < n → cf l m = pmv fa fb i j m) ∧ Ow B wr (.slice (some ⟨g, 0, none⟩) n n) l ∧ Below B w wr
theorem mulin_step {fa fb l : List F} {i j n : Nat} (hi : i < fa.length) (hj : i + j < n) (hl : l.length = n) (h : ∀ m, m < n → cf l m = pmv fa fb i j m) {y : F} (hy : y = cf l (i + j) + cf fa i * cf fb j) :
    ∀ m, m < n → cf (l.set (i + j) y) m = pmv fa fb i (j+1) m := by
  intro m hm
  rw [pmv_step fa fb i j m hi, cf_set _ _ _ _ (by omega)]
  by_cases he : i + j = m
  · rw [if_pos he, if_pos he.symm, hy, ← he, h _ hj]
  · rw [if_neg he, if_neg (fun e => he e.symm), h m hm]; grind
theorem mul_empty (zs ys : List Int) (v v2 : Value) (w : World) (h : Rd .u64 w v zs) (h2 : Rd .u64 w v2 ys) (he : zs.length ≤ 0 ∨ ys.length ≤ 0) :
    Calls Tryd.prog 75 #[v, v2] w (RetL w (mulL (zs.map toF) (ys.map toF))) := by
  obtain ⟨a, cap, rfl, hcap, hm⟩ := h.shape
  obtain ⟨a2, cap2, rfl, hcap2, hm2⟩ := h2.shape
  clear h h2
  have hmul : mulL (zs.map toF) (ys.map toF) = [] := by
    unfold mulL; rw [if_pos ?_]
    rcases he with he | he
    · left; have : zs = [] := List.length_eq_zero_iff.1 (by omega)
      rw [this]; rfl
    · right; have : ys = [] := List.length_eq_zero_iff.1 (by omega)
      rw [this]; rfl
  rw [hmul]
  clear hmul
  by_cases h0 : zs.length ≤ 0
  · have hb : ((zs.length : Int) == 0) = true := by rw [beq_iff_eq]; omega
    have hb' : (zs.length == 0) = true := by rw [beq_iff_eq]; omega
    clear he
    go_enter Tryd.func75, Tryd.ntmps75
    go_wp2
    go_ret
    exact ⟨_, rfl, Ow.nil _ _, Below.refl _ _⟩
  · have hb : ((zs.length : Int) == 0) = false := by rw [beq_eq_false_iff_ne]; omega
    have hb2 : ((ys.length : Int) == 0) = true := by rw [beq_iff_eq]; omega
    have hb2' : (ys.length == 0) = true := by rw [beq_iff_eq]; omega
    clear he
    go_enter Tryd.func75, Tryd.ntmps75
    go_wp2
    go_ret
    exact ⟨_, rfl, Ow.nil _ _, Below.refl _ _⟩
set_option maxHeartbeats 4000000 in
set_option maxRecDepth 100000 in
theorem mul_list (zs ys : List Int) (v v2 : Value) (w : World) (h : Rd .u64 w v zs) (h2 : Rd .u64 w v2 ys) (hz : B64 zs) (hy : B64 ys) (hl : zs.length ≤ 100000) (hl2 : ys.length ≤ 100000) :
    Calls Tryd.prog 75 #[v, v2] w (RetL w (mulL (zs.map toF) (ys.map toF))) := by
  by_cases he : zs.length ≤ 0 ∨ ys.length ≤ 0
  · exact mul_empty zs ys v v2 w h h2 he
  obtain ⟨a, cap, b, off, rfl, hcap, hm, hx, hc⟩ := h.opened
  obtain ⟨a2, cap2, b2, off2, rfl, hcap2, hm2, hx2, hc2⟩ := h2.opened
  have hp1 : 0 < zs.length := by omega
  have hp2 : 0 < ys.length := by omega
  obtain rfl := hx.resolve_left (by omega)
  obtain rfl := hx2.resolve_left (by omega)
  clear h h2 he
  have hb1 : ((zs.length : Int) == 0) = false := by rw [beq_eq_false_iff_ne]; omega
  have hb2 : ((ys.length : Int) == 0) = false := by rw [beq_eq_false_iff_ne]; omega
  have hb1' : (zs.length == 0) = false := by rw [beq_eq_false_iff_ne]; omega
  have hb2' : (ys.length == 0) = false := by rw [beq_eq_false_iff_ne]; omega
  obtain ⟨fa, hfa⟩ : ∃ fa, fa = zs.map toF := ⟨_, rfl⟩
  obtain ⟨fb, hfb⟩ : ∃ fb, fb = ys.map toF := ⟨_, rfl⟩
  have La := Lib.hid (show fa.length = zs.length by rw [hfa, List.length_map])
  have Lb := Lib.hid (show fb.length = ys.length by rw [hfb, List.length_map])
  have Ga := Lib.hid (show ∀ i, cf fa i = toF (gd zs i) from fun i => by rw [hfa, cf_map])
  have Gb := Lib.hid (show ∀ i, cf fb i = toF (gd ys i) from fun i => by rw [hfb, cf_map])
  have Na := Lib.hid (show fa ≠ [] by intro e; have := La.out; rw [e] at this; simp at this; omega)
  have Nb := Lib.hid (show fb ≠ [] by intro e; have := Lb.out; rw [e] at this; simp at this; omega)
  rw [← hfa, ← hfb]
  have Hc := Lib.hid hc
  have Hc2 := Lib.hid hc2
  clear hfa hfb hc hc2
  obtain ⟨n, hn⟩ : ∃ n, n = zs.length + ys.length - 1 := ⟨_, rfl⟩
  have hnm : n ≤ 1000000 := by omega
  have hn1 : n + 1 ≤ zs.length + ys.length := by omega
  have hn2 : zs.length + ys.length ≤ n + 1 := by omega
  have Hn := Lib.hid hn
  clear hn
  go_enter Tryd.func75, Tryd.ntmps75
  have HL := Lib.hid (show (zs.length : Int) + (ys.length : Int) - 1 = (n : Int) by omega)
  go_wp2_with (refine wl_make _ rfl (.tmp 23) (.tmp 23) rfl w.heap.size _ _ n w rfl rfl HL.out HL.out hnm (Below.refl _ _) (Nat.le_refl _) ?_)
  intro g w1 _ hown1 hbel1
  have Ho1 := Lib.hid hown1
  have Hb1 := Lib.hid hbel1
  have hwsz1 := hbel1.size
  clear hown1 hbel1
  go_wp2
  go_loopw [6, 7, 8, 9, 27] (fun _ _ _ _ i wr => MulRel w.heap.size w fa fb n g i wr) (fun _ _ _ _ i _ => zs.length - (intOf i).toNat)
  case atStart => exact ⟨0, List.replicate n 0, by omega, rfl, by simp, fun m _ => by rw [cf_replicate, pmv_zero], Ho1.out, Hb1.out⟩
  case round =>
    obtain ⟨k, l, hk', rfl, hll, h1, hown, hbel⟩ := hrel
    have hk : k ≤ zs.length := by rw [← La.out]; exact hk'
    have H1 := Lib.hid h1
    have Ho := Lib.hid hown
    have Hb := Lib.hid hbel
    have Hll := Lib.hid hll
    have hwsz := hbel.size
    obtain ⟨wo, hwo⟩ : ∃ wo : World, wo = wr := ⟨_, rfl⟩
    subst hwo
    by_cases hkn : k < zs.length
    · have hcw := Hc.out k hkn
      have hca : wo.cell? ⟨b, off + k, none⟩ = some (.int .u64 (gd zs k)) := (hbel.cell (p := ⟨b, off + k, none⟩) (World.block_lt_of_cell? _ _ hcw)).trans hcw
      have hba := hz.get k
      have HGa := Lib.hid (Ga.out k)
      clear hown hbel hll h1 hcw hk'
      go_wp2
      go_loopw [8, 9, 34] (fun _ _ j wr => MulIn w.heap.size w fa fb n g k j wr) (fun _ _ j _ => ys.length - (intOf j).toNat)
      case atStart => exact ⟨0, l, by omega, rfl, Hll.out, H1.out, Ho.out, Hb.out⟩
      case round =>
        obtain ⟨j, l2, hj', rfl, hll2, h12, hown2, hbel2⟩ := hrel
        have hj : j ≤ ys.length := by rw [← Lb.out]; exact hj'
        have H12 := Lib.hid h12
        have Ho2 := Lib.hid hown2
        have Hb2 := Lib.hid hbel2
        have Hll2 := Lib.hid hll2
        have hwsz2 := hbel2.size
        by_cases hjn : j < ys.length
        · have hkj : k + j < n := by omega
          have hcw2 := Hc2.out j hjn
          have hcb : wr.cell? ⟨b2, off2 + j, none⟩ = some (.int .u64 (gd ys j)) := (hbel2.cell (p := ⟨b2, off2 + j, none⟩) (World.block_lt_of_cell? _ _ hcw2)).trans hcw2
          have hbb := hy.get j
          have HGb := Lib.hid (Gb.out j)
          have hco : wr.cell? ⟨g, k + j, none⟩ = some (.int .u64 (vl (cf l2 (k + j)))) := by
            have h5 := Ho2.out
            have h6 := Hll2.out
            exact Ow.cell (l := l2) (cap := n) (by rw [h6]; exact h5) (by omega)
          have ek : ((k : Int) + (j : Int)).toNat = k + j := by omega
          have ek2 : (k : Int) + (j : Int) < (n : Int) := by omega
          clear hown2 hbel2 hll2 h12 hcw2 hj'
          have ew : IntKind.i64.wrap ((k : Int) + (j : Int)) = (k : Int) + (j : Int) := IntWalk.i64_in _ (by omega)
          have ew2 : (0 : Int) ≤ (k : Int) + (j : Int) := by omega
          go_wp2
          go_still_tail 15, (by kernel_rfl)
          still_call (s_same (mul_any _ _ _ hba.1 hba.2 hbb.1 hbb.2))
          repeat still_step
          still_call (s_same (add_F _ _ _))
          repeat still_step
          refine wpStill_nil ?_
          change wpList _ _ _ _ _ wr.drew
          clear ew ew2 ek ek2
          go_wp2_with (refine wl_store _ rfl (.tmp 53) (.tmp 52) rfl w.heap.size g (k+j) n n l2 (cf l2 (k+j) + toF (gd zs k) * toF (gd ys j)) w rfl rfl (Ow.drewN Ho2.out 1) Hll2.out hkj (below_drewN Hb2.out 1) ?_)
          intro w3 hown3 hbel3 _
          have Ho3 := Lib.hid hown3
          have Hb3 := Lib.hid hbel3
          clear hown3 hbel3
          go_wp2
          go_roundw
          case rel => exact ⟨j + 1, _, by rw [Lb.out]; omega, by go_num, by rw [List.length_set]; exact Hll2.out, mulin_step (by rw [La.out]; exact hkn) hkj Hll2.out H12.out (by rw [HGa.out, HGb.out]), Ho3.out, Hb3.out⟩
          case measure => simp [intOf] <;> omega
        · obtain rfl : j = ys.length := by omega
          have hrow : ∀ m, m < n → cf l2 m = pmv fa fb (k+1) 0 m := fun m hm => by rw [H12.out m hm, ← Lb.out, pmv_row]
          have HR := Lib.hid hrow
          clear hrow hown2 hbel2 hll2 h12 hj'
          go_wp2
          go_roundw
          case rel => exact ⟨k + 1, l2, by rw [La.out]; omega, by go_num, Hll2.out, HR.out, Ho2.out, Hb2.out⟩
          case measure => simp [intOf] <;> omega
    · obtain rfl : k = zs.length := by omega
      have hle : l = mulL fa fb := ext_cf (by rw [Hll.out, mulL_len Na.out Nb.out, La.out, Lb.out]; exact Hn.out) (fun m hm => by rw [H1.out m (by have := Hll.out; omega), ← La.out, pmv_end, cf_mulL])
      have hnl : n = (mulL fa fb).length := by rw [← hle]; exact Hll.out.symm
      have Hle := Lib.hid hle
      clear hle hnl hown hbel hll h1 hk'
      go_wp2
      go_ret
      exact ⟨_, rfl, by have h5 := Ho.out; rw [Hle.out] at h5; exact h5, Hb.out⟩
end Go.Proofs.YtkcfnbfkbmgchaaDoor.Gm
/- (Pu) -/
namespace Go.Proofs.YtkcfnbfkbmgchaaDoor.Gm
open Go.RowKit
theorem Ow.shape {B : Nat} {w : World} {v : Value} {l : List F} (h : Ow B w v l) : ∃ a cap, v = .slice a l.length cap ∧ l.length ≤ cap ∧ cap ≤ 9223372036854775807 := by
  obtain ⟨a, cap, rfl, h1, h2⟩ := h.rd.shape
  rw [List.length_map] at h1
  exact ⟨a, cap, by rw [List.length_map], h1, h2⟩
set_option maxHeartbeats 2000000 in
theorem pmul_any (zs ys : List Int) (v v2 : Value) (w : World) (h : Rd .u64 w v zs) (h2 : Rd .u64 w v2 ys) (hz : B64 zs) (hy : B64 ys) (hl : zs.length + ys.length ≤ 2048) :
    Calls Tryd.prog 33 #[v, v2] w (RetLE w (mulL (strip (zs.map toF)) (strip (ys.map toF))) 0) := by
  have HR := Lib.hid h
  have HR2 := Lib.hid h2
  obtain ⟨a, cap, rfl, hcap, hm⟩ := h.shape
  obtain ⟨a2, cap2, rfl, hcap2, hm2⟩ := h2.shape
  clear h h2
  obtain ⟨c1, c2⟩ := two_cells w (.slice a zs.length cap) (.slice a2 ys.length cap2) 22
  have hp1 : (strip (zs.map toF)).length ≤ zs.length := by have := strip_len (zs.map toF); rwa [List.length_map] at this
  have hp2 : (strip (ys.map toF)).length ≤ ys.length := by have := strip_len (ys.map toF); rwa [List.length_map] at this
  obtain ⟨fa, hfa⟩ : ∃ fa, fa = strip (zs.map toF) := ⟨_, rfl⟩
  obtain ⟨fb, hfb⟩ : ∃ fb, fb = strip (ys.map toF) := ⟨_, rfl⟩
  have Ha := Lib.hid hfa
  have Hb := Lib.hid hfb
  rw [← hfa, ← hfb]
  rw [← hfa] at hp1
  rw [← hfb] at hp2
  clear hfa hfb
  go_enter Tryd.func33, Tryd.ntmps33
  go_wp2_with fail
  refine (large2_no w.heap.size _ _ _ _ _ _ _ c1 c2 (by omega) (by omega)).mono ?_
  rintro e w' ⟨rfl, rfl⟩
  clear c1 c2
  go_wp2_with fail
  refine (normal_any zs _ _ (HR.out.alloc _) hz (by omega)).mono ?_
  rintro e w1 ⟨va, rfl, hown1, hbel1⟩
  rw [← Ha.out] at hown1
  have hB1 : Below w.heap.size w w1 := ((Below.refl w.heap.size w).alloc (Nat.le_refl _) (.cells #[.slice a zs.length cap, .slice a2 ys.length cap2] 22)).trans (hbel1.mono (B' := w.heap.size) (by simp))
  have Ho1 := Lib.hid (hown1.mono (B' := w.heap.size) (by simp))
  have Hb1 := Lib.hid hB1
  clear hown1 hbel1 hB1
  go_wp2_with fail
  refine (normal_any ys _ _ (HR2.out.below Hb1.out) hy (by omega)).mono ?_
  rintro e w2 ⟨vb, rfl, hown2, hbel2⟩
  rw [← Hb.out] at hown2
  have hsz1 := Hb1.out.size
  have Ho1' := Lib.hid (Ho1.out.below hbel2)
  have Ho2 := Lib.hid (hown2.mono hsz1)
  have Hb2 := Lib.hid (Hb1.out.trans (hbel2.mono hsz1))
  clear hown2 hbel2
  obtain ⟨a3, cap3, rfl, hcap3, hm3⟩ := Ho1'.out.shape
  obtain ⟨a4, cap4, rfl, hcap4, hm4⟩ := Ho2.out.shape
  have hrd1 : Rd .u64 w2 (.slice a3 fa.length cap3) (fa.map vl) := Ho1'.out.rd
  have hrd2 : Rd .u64 w2 (.slice a4 fb.length cap4) (fb.map vl) := Ho2.out.rd
  have Hrd1 := Lib.hid hrd1
  have Hrd2 := Lib.hid hrd2
  have hsz2 := Hb2.out.size
  have hx1 : (fa.map vl).length ≤ 100000 := by rw [List.length_map]; omega
  have hx2 : (fb.map vl).length ≤ 100000 := by rw [List.length_map]; omega
  clear hrd1 hrd2
  by_cases hpa : 0 < fa.length
  · by_cases hpb : 0 < fb.length
    all_goals
      go_wp2_with fail
      refine (mul_list (fa.map vl) (fb.map vl) _ _ _ Hrd1.out Hrd2.out (B64.vl fa) (B64.vl fb) hx1 hx2).mono ?_
      rintro e w3 ⟨v3, rfl, hown3, hbel3⟩
      rw [map_toF_vl, map_toF_vl] at hown3
      have Ho3 := Lib.hid (hown3.mono hsz2)
      have Hb3 := Lib.hid (Hb2.out.trans (hbel3.mono hsz2))
      clear hown3 hbel3
      go_wp2
      go_ret2
      exact ⟨_, rfl, Ho3.out, Hb3.out⟩
  · go_wp2_with fail
    refine (mul_list (fa.map vl) (fb.map vl) _ _ _ Hrd1.out Hrd2.out (B64.vl fa) (B64.vl fb) hx1 hx2).mono ?_
    rintro e w3 ⟨v3, rfl, hown3, hbel3⟩
    rw [map_toF_vl, map_toF_vl] at hown3
    have Ho3 := Lib.hid (hown3.mono hsz2)
    have Hb3 := Lib.hid (Hb2.out.trans (hbel3.mono hsz2))
    clear hown3 hbel3
    go_wp2
    go_ret2
    exact ⟨_, rfl, Ho3.out, Hb3.out⟩
end Go.Proofs.YtkcfnbfkbmgchaaDoor.Gm
/- (Dv) -/
namespace Go.Proofs.YtkcfnbfkbmgchaaDoor.Gm
open Go.RowKit
theorem Ow.block {B : Nat} {w : World} {v : Value} {l : List F} (h : Ow B w v l) (hl : 0 < l.length) : ∃ g cap, v = .slice (some ⟨g, 0, none⟩) l.length cap ∧ B ≤ g ∧ g < w.heap.size ∧ l.length ≤ cap ∧ cap ≤ 9223372036854775807 := by
  rcases h.2 with ⟨_, h0⟩ | ⟨g, cap, cur, e, hb, hg, hn, hm, _⟩
  · omega
  · exact ⟨g, cap, e, hb, (Array.getElem?_eq_some_iff.1 hg).1, hn, by unfold maxLen at hm; omega⟩
theorem Ow.other {B g g' n cap : Nat} {w w' : World} {l : List F} (h : Ow B w (.slice (some ⟨g, 0, none⟩) n cap) l) (hh : ∀ k, k ≠ g' → w'.heap[k]? = w.heap[k]?) (hne : g ≠ g') : Ow B w' (.slice (some ⟨g, 0, none⟩) n cap) l := by
  refine ⟨h.1, ?_⟩
  rcases h.2 with h0 | ⟨g2, cap2, cur, e, hb, hg, rest⟩
  · exact .inl h0
  · have hgg : g = g2 := by injection e with e1; injection e1 with e2; injection e2
    exact .inr ⟨g2, cap2, cur, e, hb, (hh g2 (by omega)).trans hg, rest⟩
/-- a store into a list of the call's own: no other block turns -/
theorem wl_store2 {ops : Array Oper} {rest : List Oper} {o : Oper} {a : Act} {Q : Exit → Act → World → Prop} (w : World) (hgd : o.guard = none) (p x : Operand)
    (ho : o.op = .store 25 p x) (B g i n cap : Nat) (l : List F) (y : F) (W : World) (hp : a.eval p = .pointer (some ⟨g, i, none⟩)) (hx : a.eval x = .int .u64 (vl y))
    (hown : Ow B w (.slice (some ⟨g, 0, none⟩) n cap) l) (hn : l.length = n) (hi : i < n) (hbel : Below B W w)
    (h : ∀ w', Ow B w' (.slice (some ⟨g, 0, none⟩) n cap) (l.set i y) → Below B W w' → (∀ k, k ≠ g → w'.heap[k]? = w.heap[k]?) → wpList Tryd.prog ops Q rest (a.put o.dst undef) w') :
    wpList Tryd.prog ops Q (o :: rest) a w := by
  subst hn
  have hc := hown.cell hi
  have hf := hown.frozen i
  refine wpList_plain hgd fun K hK' => ?_
  have hset := hown.set i y
  rw [List.length_set] at hset
  have hk := hK' _ _ (h (w.setCell ⟨g, i, none⟩ (.int .u64 (vl y))) hset (hbel.setCell hown.base.1 _) (fun k hk => Below.heap_setCell _ _ _ _ hk))
  unfold Oper.wp
  simp [execOp, ho, hp, hx, Result.andThen]
  go_simp
  exact hk
/-- what a division answers -/
def DivRes (fa fb q r : List F) : Prop := strip q = q ∧ strip r = r ∧ strip (addL (mulL q fb) r) = strip fa ∧ r.length < fb.length ∧ q.length ≤ fa.length ∧ r.length ≤ fa.length
def RetQR (w : World) (l1 l2 : List F) (n : Int) (e : Ending) (w' : World) : Prop :=
  ∃ v1 v2, e = .returned (.tuple #[v1, v2, .int .i64 n]) ∧ Ow w.heap.size w' v1 l1 ∧ Ow w.heap.size w' v2 l2 ∧ Below w.heap.size w w'
def RetDiv (w : World) (fa fb : List F) (e : Ending) (w' : World) : Prop := ∃ q r, DivRes fa fb q r ∧ RetQR w q r 0 e w'
theorem divres_short {fa fb : List F} (ha : strip fa = fa) (h : fa.length < fb.length) : DivRes fa fb [] fa := by
  refine ⟨rfl, ha, ?_, h, by simp, Nat.le_refl _⟩
  apply strip_eq
  intro k
  rw [cf_addL, cf_mulL]
  have : cv (cf []) (cf fb) k = 0 := S_all0 (fun i _ => by rw [cf_nil]; grind)
  rw [this]; grind
theorem divres_end {fa fb A q : List F} (hb : fb ≠ []) (hab : fb.length ≤ fa.length) (h : DivInv fa A q fb 0) : DivRes fa fb (strip q) (strip A) := by
  have h1 := div_end hb h
  refine ⟨strip_strip _, strip_strip _, h1.1, h1.2, ?_, ?_⟩
  · have := strip_len q; have h2 := h.2.1; have := List.length_pos_iff.2 hb
    omega
  · have := strip_len A; have := h.1; omega
def DivRel (B : Nat) (w : World) (fa fb : List F) (ga gb gq la lb lq ca cb : Nat) (i : Value) (wr : World) : Prop :=
  ∃ (k : Nat) (A q : List F), k ≤ lq ∧ i = .int .i64 ((k : Int) - 1) ∧ DivInv fa A q fb k ∧ A.length = la ∧ q.length = lq ∧
    Ow B wr (.slice (some ⟨ga, 0, none⟩) la ca) A ∧ Ow B wr (.slice (some ⟨gb, 0, none⟩) lb cb) fb ∧ Ow B wr (.slice (some ⟨gq, 0, none⟩) lq lq) q ∧ Below B w wr
def DivIn (B : Nat) (w : World) (A q fb : List F) (c : F) (j ga gb gq la lb lq ca cb : Nat) (i : Value) (wr : World) : Prop :=
  ∃ t : Nat, t ≤ lb ∧ i = .int .i64 t ∧
    Ow B wr (.slice (some ⟨ga, 0, none⟩) la ca) (subAt A c fb j t) ∧ Ow B wr (.slice (some ⟨gb, 0, none⟩) lb cb) fb ∧ Ow B wr (.slice (some ⟨gq, 0, none⟩) lq lq) (q.set j c) ∧ Below B w wr
theorem Ow.cell' {B g n cap : Nat} {w : World} {l : List F} (h : Ow B w (.slice (some ⟨g, 0, none⟩) n cap) l) (hn : l.length = n) {i : Nat} (hi : i < n) : w.cell? ⟨g, i, none⟩ = some (.int .u64 (vl (cf l i))) := by
  subst hn; exact Ow.cell h hi
set_option maxHeartbeats 1000000 in
theorem div_none (zs ys : List Int) (v v2 : Value) (w : World) (h : Rd .u64 w v zs) (h2 : Rd .u64 w v2 ys) (hz : B64 zs) (hy : B64 ys) (hl : zs.length ≤ 2048) (hl2 : ys.length ≤ 2048) (he : (strip (ys.map toF)).length ≤ 0) :
    Calls Tryd.prog 50 #[v, v2] w (RetQR w [] [] 4) := by
  have HR := Lib.hid h
  have HR2 := Lib.hid h2
  obtain ⟨a, cap, rfl, hcap, hm⟩ := h.shape
  obtain ⟨a2, cap2, rfl, hcap2, hm2⟩ := h2.shape
  clear h h2
  obtain ⟨c1, c2⟩ := two_cells w (.slice a zs.length cap) (.slice a2 ys.length cap2) 22
  obtain ⟨fb, hfb⟩ : ∃ fb, fb = strip (ys.map toF) := ⟨_, rfl⟩
  rw [← hfb] at he
  have Fb := Lib.hid hfb
  clear hfb
  go_enter Tryd.func50, Tryd.ntmps50
  go_wp2_with fail
  refine (large2_no w.heap.size _ _ _ _ _ _ _ c1 c2 (by omega) (by omega)).mono ?_
  rintro e w' ⟨rfl, rfl⟩
  clear c1 c2
  go_wp2_with fail
  refine (normal_any zs _ _ (HR.out.alloc _) hz (by omega)).mono ?_
  rintro e w1 ⟨va, rfl, hown1, hbel1⟩
  have Hb1 := Lib.hid (((Below.refl w.heap.size w).alloc (Nat.le_refl _) (.cells #[.slice a zs.length cap, .slice a2 ys.length cap2] 22)).trans (hbel1.mono (B' := w.heap.size) (by simp)))
  have hsz1 := Hb1.out.size
  clear hown1 hbel1
  go_wp2_with fail
  refine (normal_any ys _ _ (HR2.out.below Hb1.out) hy (by omega)).mono ?_
  rintro e w2 ⟨vb, rfl, hown2, hbel2⟩
  rw [← Fb.out] at hown2
  obtain ⟨a4, cap4, rfl, hcap4, hm4⟩ := hown2.shape
  have Hb2 := Lib.hid (Hb1.out.trans (hbel2.mono hsz1))
  have hb0 : ((fb.length : Int) == 0) = true := by rw [beq_iff_eq]; omega
  have hb0' : (fb.length == 0) = true := by rw [beq_iff_eq]; omega
  clear hown2 hbel2
  go_wp2
  go_ret3
  exact ⟨_, _, rfl, Ow.nil _ _, Ow.nil _ _, Hb2.out⟩
set_option maxHeartbeats 2000000 in
set_option maxRecDepth 100000 in
theorem div_any (zs ys : List Int) (v v2 : Value) (w : World) (h : Rd .u64 w v zs) (h2 : Rd .u64 w v2 ys) (hz : B64 zs) (hy : B64 ys) (hl : zs.length ≤ 2048) (hl2 : ys.length ≤ 2048) (he : 0 < (strip (ys.map toF)).length) :
    Calls Tryd.prog 50 #[v, v2] w (RetDiv w (strip (zs.map toF)) (strip (ys.map toF))) := by
  have HR := Lib.hid h
  have HR2 := Lib.hid h2
  obtain ⟨a, cap, rfl, hcap, hm⟩ := h.shape
  obtain ⟨a2, cap2, rfl, hcap2, hm2⟩ := h2.shape
  clear h h2
  obtain ⟨c1, c2⟩ := two_cells w (.slice a zs.length cap) (.slice a2 ys.length cap2) 22
  obtain ⟨fa, hfa⟩ : ∃ fa, fa = strip (zs.map toF) := ⟨_, rfl⟩
  obtain ⟨fb, hfb⟩ : ∃ fb, fb = strip (ys.map toF) := ⟨_, rfl⟩
  have la2 : fa.length ≤ 2048 := by rw [hfa]; have := strip_len (zs.map toF); rw [List.length_map] at this; omega
  have lb2 : fb.length ≤ 2048 := by rw [hfb]; have := strip_len (ys.map toF); rw [List.length_map] at this; omega
  have nfa : strip fa = fa := by rw [hfa]; exact strip_strip _
  have nfb : strip fb = fb := by rw [hfb]; exact strip_strip _
  rw [← hfa, ← hfb]
  rw [← hfb] at he
  have Fa := Lib.hid hfa
  have Fb := Lib.hid hfb
  have Na := Lib.hid nfa
  have Nb := Lib.hid nfb
  clear hfa hfb nfa nfb
  go_enter Tryd.func50, Tryd.ntmps50
  go_wp2_with fail
  refine (large2_no w.heap.size _ _ _ _ _ _ _ c1 c2 (by omega) (by omega)).mono ?_
  rintro e w' ⟨rfl, rfl⟩
  clear c1 c2
  go_wp2_with fail
  refine (normal_any zs _ _ (HR.out.alloc _) hz (by omega)).mono ?_
  rintro e w1 ⟨va, rfl, hown1, hbel1⟩
  rw [← Fa.out] at hown1
  have Ho1 := Lib.hid (hown1.mono (B' := w.heap.size) (by simp))
  have Hb1 := Lib.hid (((Below.refl w.heap.size w).alloc (Nat.le_refl _) (.cells #[.slice a zs.length cap, .slice a2 ys.length cap2] 22)).trans (hbel1.mono (B' := w.heap.size) (by simp)))
  have hsz1 := Hb1.out.size
  clear hown1 hbel1
  go_wp2_with fail
  refine (normal_any ys _ _ (HR2.out.below Hb1.out) hy (by omega)).mono ?_
  rintro e w2 ⟨vb, rfl, hown2, hbel2⟩
  rw [← Fb.out] at hown2
  obtain ⟨gb, cb, rfl, hgb1, hgb2, hcb, hmb⟩ := hown2.block he
  have Ho1' := Lib.hid (Ho1.out.below hbel2)
  have Ho2 := Lib.hid (hown2.mono hsz1)
  have Hb2 := Lib.hid (Hb1.out.trans (hbel2.mono hsz1))
  have hsz2 := Hb2.out.size
  have hb0 : ((fb.length : Int) == 0) = false := by rw [beq_eq_false_iff_ne]; omega
  have hb0' : (fb.length == 0) = false := by rw [beq_eq_false_iff_ne]; omega
  clear hown2 hbel2
  by_cases hlt : fa.length < fb.length
  · obtain ⟨a3, cap3, rfl, hcap3, hm3⟩ := Ho1'.out.shape
    go_wp2
    go_ret3
    exact ⟨[], fa, divres_short Na.out hlt, _, _, rfl, Ow.nil _ _, Ho1'.out, Hb2.out⟩
  · have hga := Ho1.out.block (by omega)
    obtain ⟨ga, ca, rfl, hga1, hga2, hca, hma⟩ := hga
    have hgab : ga < gb := by omega
    have hcl := Ho2.out.cell (i := fb.length - 1) (by omega)
    have hidx : ((fb.length : Int) - 1).toNat = fb.length - 1 := by omega
    have hnz : cf fb (fb.length - 1) ≠ 0 := by
      rcases strip_normal Nb.out with e | e
      · rw [e] at he; simp at he
      · exact e
    have Hnz := Lib.hid hnz
    obtain ⟨lq, hlq⟩ : ∃ lq, lq = fa.length - fb.length + 1 := ⟨_, rfl⟩
    have HLQ := Lib.hid (show (fa.length : Int) - (fb.length : Int) + 1 = (lq : Int) by omega)
    have hlq1 : lq ≤ 1000000 := by omega
    have hlq2 : fa.length + 1 = fb.length + lq := by omega
    have HLQ2 := Lib.hid hlq2
    have hlqa : fa.length + 1 ≤ fb.length + lq := by omega
    have hlqb : fb.length + lq ≤ fa.length + 1 := by omega
    have hinvc : Calls Tryd.prog 63 #[.int .u64 (vl (cf fb (fb.length - 1)))] w2 fun e w' => e = .returned (.tuple #[.int .u64 (vl (inv (cf fb (fb.length - 1)))), .int .i64 0]) ∧ w2 = w' := by
      have h := inv_any (vl (cf fb (fb.length - 1))) w2 (vl_lo _) (vl_64 _) (by rw [toF_vl]; exact hnz)
      rwa [toF_vl] at h
    have Hinv := Lib.hid hinvc
    clear hnz hlq hlq2 hinvc
    go_wp2_with fail
    refine Hinv.out.mono ?_
    rintro e w' ⟨rfl, rfl⟩
    clear hcl
    go_wp2_with (refine wl_make _ rfl (.tmp 45) (.tmp 45) rfl w2.heap.size _ _ lq w2 rfl rfl HLQ.out HLQ.out hlq1 (Below.refl _ _) (Nat.le_refl _) ?_)
    intro gq w3 Hgq hown3 hbel3
    have hgq : gb < gq := by have := Hgq.out; omega
    have A3 := Lib.hid (Ho1'.out.below hbel3)
    have B3 := Lib.hid (Ho2.out.below hbel3)
    have Q3 := Lib.hid (hown3.mono hsz2)
    have Hb3 := Lib.hid (Hb2.out.trans (hbel3.mono hsz2))
    have St := Lib.hid (div_start (a0 := fa) (b := fb) (by intro e; rw [e] at he; simp at he) (by omega))
    have Lq := Lib.hid (show lq = fa.length - fb.length + 1 by omega)
    have hx1 := Hb3.out.size
    clear hown3 hbel3 Ho1 Ho1' Ho2 Hgq
    go_wp2
    go_loopw [10, 11, 12, 69] (fun i _ _ _ wr => DivRel w.heap.size w fa fb ga gb gq fa.length fb.length lq ca cb i wr) (fun i _ _ _ _ => (intOf i + 1).toNat)
    case atStart =>
      refine ⟨lq, fa, List.replicate lq 0, Nat.le_refl _, rfl, ?_, rfl, by simp, A3.out, B3.out, Q3.out, Hb3.out⟩
      have := St.out
      rw [← Lq.out] at this
      exact this
    case round =>
      obtain ⟨k, A, q, hk, rfl, hinv, hA, hq, hoA, hoB, hoQ, hbel⟩ := hrel
      have I := Lib.hid hinv
      have LA := Lib.hid hA
      have LQ := Lib.hid hq
      have OA := Lib.hid hoA
      have OB := Lib.hid hoB
      have OQ := Lib.hid hoQ
      have HB := Lib.hid hbel
      have hwsz := hbel.size
      clear hinv hA hq hoA hoB hoQ hbel
      obtain ⟨wo, hwo⟩ : ∃ wo : World, wo = wr := ⟨_, rfl⟩
      subst hwo
      cases k with
      | zero =>
        have hne : fb ≠ [] := by intro e; rw [e] at he; simp at he
        have DR := Lib.hid (divres_end hne (by omega) I.out)
        have lq3 : (q.map vl).length ≤ 1000000 := by rw [List.length_map, LQ.out]; omega
        have la3 : (A.map vl).length ≤ 1000000 := by rw [List.length_map, LA.out]; omega
        have RQ := Lib.hid (show Rd .u64 wo (.slice (some ⟨gq, 0, none⟩) lq lq) (q.map vl) from OQ.out.rd)
        clear hne
        go_wp2_with fail
        refine (normal_any (q.map vl) _ _ RQ.out (B64.vl q) lq3).mono ?_
        rintro e w4 ⟨vq, rfl, hown4, hbel4⟩
        rw [map_toF_vl] at hown4
        have V4 := Lib.hid (hown4.mono hwsz)
        have RA := Lib.hid (show Rd .u64 w4 (.slice (some ⟨ga, 0, none⟩) fa.length ca) (A.map vl) from (OA.out.below hbel4).rd)
        have Hb4 := Lib.hid (HB.out.trans (hbel4.mono hwsz))
        have hsz4 := Hb4.out.size
        clear hown4 hbel4
        go_wp2_with fail
        refine (normal_any (A.map vl) _ _ RA.out (B64.vl A) la3).mono ?_
        rintro e w5 ⟨va5, rfl, hown5, hbel5⟩
        rw [map_toF_vl] at hown5
        have V5 := Lib.hid (hown5.mono hsz4)
        have V4' := Lib.hid (V4.out.below hbel5)
        have Hb5 := Lib.hid (Hb4.out.trans (hbel5.mono hsz4))
        clear hown5 hbel5
        go_wp2
        go_ret3
        exact ⟨_, _, DR.out, _, _, rfl, V4'.out, V5.out, Hb5.out⟩
      | succ j =>
        rw [show ((j + 1 : Nat) : Int) - 1 = (j : Int) by omega]
        obtain ⟨c, hc⟩ : ∃ c, c = cf A (j + fb.length - 1) * inv (cf fb (fb.length - 1)) := ⟨_, rfl⟩
        have HC := Lib.hid hc
        have hca1 := OA.out.cell' LA.out (i := j + fb.length - 1) (by omega)
        have ei : ((j : Int) + (fb.length : Int) - 1).toNat = j + fb.length - 1 := by omega
        have hj : j < lq := by omega
        clear hc
        go_wp2_with fail
        refine (mul_F _ _ _).mono ?_
        rintro e w' ⟨rfl, rfl⟩
        rw [← HC.out]
        clear hca1 ei
        go_wp2_with (refine wl_store2 _ rfl (.tmp 66) (.tmp 65) rfl w.heap.size gq j lq lq q c w rfl rfl OQ.out LQ.out hj HB.out ?_)
        intro w4 hown4 hbel4 hoth4
        have OQ4 := Lib.hid hown4
        have OA4 := Lib.hid (OA.out.other hoth4 (by omega))
        have OB4 := Lib.hid (OB.out.other hoth4 (by omega))
        have HB4 := Lib.hid hbel4
        clear hown4 hbel4 hoth4 OQ OA OB HB hwsz
        go_wp2
        go_loopw [11, 12, 69] (fun _ _ t wr => DivIn w.heap.size w A q fb c j ga gb gq fa.length fb.length lq ca cb t wr) (fun _ _ t _ => fb.length - (intOf t).toNat)
        case atStart => exact ⟨0, by omega, rfl, OA4.out, OB4.out, OQ4.out, HB4.out⟩
        case round =>
          obtain ⟨t, ht, rfl, hoA, hoB, hoQ, hbel⟩ := hrel
          have OA5 := Lib.hid hoA
          have OB5 := Lib.hid hoB
          have OQ5 := Lib.hid hoQ
          have HB5 := Lib.hid hbel
          have LA5 := Lib.hid (show (subAt A c fb j t).length = fa.length by rw [subAt_len]; exact LA.out)
          have LQ5 := Lib.hid (show (q.set j c).length = lq by rw [List.length_set]; exact LQ.out)
          clear hoA hoB hoQ hbel OA4 OB4 OQ4 HB4
          by_cases htn : t < fb.length
          · have hcb := OB5.out.cell' rfl (i := t) htn
            have hca5 := OA5.out.cell' LA5.out (i := j + t) (by omega)
            have hcq5 := OQ5.out.cell' LQ5.out (i := j) hj
            rw [cf_set _ _ _ _ (by rw [LQ.out]; exact hj), if_pos rfl] at hcq5
            have ek : ((j : Int) + (t : Int)).toNat = j + t := by omega
            have ek2 : (j : Int) + (t : Int) < (fa.length : Int) := by omega
            have ew : IntKind.i64.wrap ((j : Int) + (t : Int)) = (j : Int) + (t : Int) := IntWalk.i64_in _ (by omega)
            have ew2 : (0 : Int) ≤ (j : Int) + (t : Int) := by omega
            have hjt : j + t < fa.length := by omega
            go_wp2
            go_still_tail 18, (by kernel_rfl)
            still_call (s_same (mul_F _ _ _))
            repeat still_step
            still_call (s_same (sub_F _ _ _))
            repeat still_step
            refine wpStill_nil ?_
            change wpList _ _ _ _ _ wr.drew
            clear ew ew2 ek ek2 hcb hca5 hcq5
            go_wp2_with (refine wl_store2 _ rfl (.tmp 91) (.tmp 90) rfl w.heap.size ga (j+t) fa.length ca (subAt A c fb j t) (cf (subAt A c fb j t) (j+t) - c * cf fb t) w rfl rfl (Ow.drewN OA5.out 1) LA5.out hjt (below_drewN HB5.out 1) ?_)
            intro w6 hown6 hbel6 hoth6
            have OA6 := Lib.hid hown6
            have OB6 := Lib.hid (OB5.out.other hoth6 (by omega))
            have OQ6 := Lib.hid (OQ5.out.other hoth6 (by omega))
            have HB6 := Lib.hid hbel6
            clear hown6 hbel6 hoth6
            go_wp2
            go_roundw
            case rel => exact ⟨t + 1, by omega, by go_num, OA6.out, OB6.out, OQ6.out, HB6.out⟩
            case measure => simp [intOf] <;> omega
          · obtain rfl : t = fb.length := by omega
            have hne : fb ≠ [] := by intro e; rw [e] at he; simp at he
            have DS := Lib.hid (by have h := div_step hne (by omega) Hnz.out I.out (by rw [LQ.out]; exact hj); rw [← HC.out] at h; exact h)
            clear hne
            go_wp2
            go_roundw
            case rel => exact ⟨j, _, _, by omega, by rfl, DS.out, LA5.out, LQ5.out, OA5.out, OB5.out, OQ5.out, HB5.out⟩
            case measure => simp [intOf] <;> omega
end Go.Proofs.YtkcfnbfkbmgchaaDoor.Gm
/- (Lo) -/
namespace Go.Proofs.YtkcfnbfkbmgchaaDoor.Gm
open Go.RowKit
set_option linter.unusedVariables false
/-- a list with room behind it -/
def Rm (w : World) (v : Value) (zs : List Int) (y : Int) : Prop := ∃ g cap, v = .slice (some ⟨g, 0, none⟩) zs.length cap ∧ zs.length + 2 ≤ cap ∧ cap ≤ 9223372036854775807 ∧ Rd .u64 w v zs ∧ w.cell? ⟨g, zs.length, none⟩ = some (.int .u64 y) ∧ w.cell? ⟨g, zs.length + 1, none⟩ = some (.int .u64 y)
theorem Rm.below {w w' : World} {v : Value} {zs : List Int} {y : Int} (h : Rm w v zs y) (hb : Below w.heap.size w w') : Rm w' v zs y := by
  obtain ⟨g, cap, e, h1, h2, h3, h4, h5⟩ := h
  exact ⟨g, cap, e, h1, h2, h3.below hb, (hb.cell (p := ⟨g, _, none⟩) (World.block_lt_of_cell? _ _ h4)).trans h4, (hb.cell (p := ⟨g, _, none⟩) (World.block_lt_of_cell? _ _ h5)).trans h5⟩
theorem Rm.rd {w : World} {v : Value} {zs : List Int} {y : Int} (h : Rm w v zs y) : Rd .u64 w v zs := by obtain ⟨g, cap, e, h1, h2, h3, h4, h5⟩ := h; exact h3
theorem news_two (w : World) (u v : Value) (t : TypeId) : ∀ j x, [u, v][j]? = some x → (w.alloc (.cells #[u, v] t)).cell? ((⟨w.heap.size, 0, none⟩ : Addr).add j) = some x := by
  intro j x hj
  have e : ((⟨w.heap.size, 0, none⟩ : Addr).add j) = ⟨w.heap.size, j, none⟩ := by unfold Addr.add; by_cases h0 : j = 0 <;> simp [h0]
  rw [e, World.cell?_alloc_at _ _ _ _ rfl]
  simpa using hj
set_option maxHeartbeats 1000000 in
/-- make of no numbers, with room -/
theorem wl_make0 {ops : Array Oper} {rest : List Oper} {o : Oper} {a : Act} {Q : Exit → Act → World → Prop} (w : World) (hgd : o.guard = none) (l c : Operand)
    (ho : o.op = Op.makeSlice 22 l c) (C : Int) (n : Nat) (hl : a.eval l = .int .i64 0) (hc : a.eval c = .int .i64 C) (hC : C = (n : Int)) (hn : n ≤ 1000000)
    (h : ∀ g w', w'.ownsRow w.heap.size 25 1 (.slice (some ⟨g, 0, none⟩) 0 n) 0 [] → Below w.heap.size w w' → wpList Tryd.prog ops Q rest (a.put o.dst (.slice (some ⟨g, 0, none⟩) 0 n)) w') :
    wpList Tryd.prog ops Q (o :: rest) a w := by
  obtain ⟨i0, hi, hz0, hz1, hz2⟩ := info_parts info_u64
  have hmx : n ≤ maxLen := by unfold maxLen; omega
  refine wpList_plain hgd fun K hK' => ?_
  subst hC
  have hmi : (n : Int) ≤ 9223372036854775807 := by omega
  have hr := run_make (P := Tryd.prog) w 22 25 i0 (.int .u64 0) Tryd.underlying22 hi hz0 .i64 .i64 0 n (by omega) (by omega) (by rw [hz2]; omega) hmi
  simp only [Int.toNat_natCast] at hr
  unfold Oper.wp
  simp [execOp, ho, hl, hc, hr, Result.andThen]
  refine hK' _ _ (h w.heap.size _ ?_ ?_)
  · refine ⟨rfl, .inr ⟨w.heap.size, n, madeCells (Value.int .u64 0).cells (n * i0.size), rfl, Nat.le_refl _, heap_alloc_new w _, Nat.zero_le _, hmx, ?_, by simp⟩⟩
    rw [size_madeCells, hz1]
  · exact (Below.refl _ _).alloc (Nat.le_refl _) _
set_option maxHeartbeats 1000000 in
theorem roomy_any (zs : List Int) (v : Value) (y : Int) (w : World) (h : Rd .u64 w v zs) (hl : zs.length ≤ 100000) (hl1 : 1 ≤ zs.length) :
    Calls Tryd.prog 46 #[v, .int .u64 y] w fun e w' => ∃ v', e = .returned v' ∧ Rm w' v' zs y ∧ Below w.heap.size w w' := by
  obtain ⟨i0, hi, hz0, hz1, hz2⟩ := info_parts info_u64
  have H := Lib.hid h
  obtain ⟨a, cap, b, off, rfl, hcap, hm, hx, hc⟩ := h.opened
  obtain rfl := hx.resolve_left (by omega)
  have HC := Lib.hid hc
  clear hc h
  have e1 : IntKind.i64.wrap ((zs.length : Int) + 3) = ((zs.length + 3 : Nat) : Int) := by rw [show (zs.length : Int) + 3 = ((zs.length + 3 : Nat) : Int) by omega]; exact IntWalk.i64_in _ (by omega)
  go_enter Tryd.func46, Tryd.ntmps46
  have hb0 : b < w.heap.size := World.block_lt_of_cell? _ _ (HC.out 0 (by omega))
  obtain ⟨n, hn⟩ : ∃ n, n = zs.length := ⟨_, rfl⟩
  have HN := Lib.hid hn
  rw [← hn] at hl hl1 hcap HC e1 ⊢
  clear hx hn
  go_wp2_with (refine wl_make0 _ rfl (.const (.int .i64 0)) (.tmp 8) rfl _ (n + 3) rfl rfl rfl (by omega) ?_)
  intro g w1 hown1 hbel1
  have O1 := Lib.hid hown1
  have B1 := Lib.hid hbel1
  have hs1 := hbel1.size
  have LN := Lib.hid (show (zs.map (Value.int .u64)).length = n * 1 by rw [List.length_map, Nat.mul_one, ← HN.out])
  have NW := Lib.hid (show ∀ j u, (zs.map (Value.int .u64))[j]? = some u → w1.cell? ((⟨b, off, none⟩ : Addr).add j) = some u from fun j u hu => by
    have hj : j < n := by have := (List.getElem?_eq_some_iff.1 hu).1; rw [List.length_map, ← HN.out] at this; exact this
    have e : ((⟨b, off, none⟩ : Addr).add j) = ⟨b, off + j, none⟩ := by unfold Addr.add; by_cases h0 : j = 0 <;> simp [h0]
    rw [e, (hbel1.cell (p := ⟨b, off + j, none⟩) hb0), HC.out j hj, gd_eq]
    rw [HN.out] at hj
    rw [List.getElem?_map, List.getElem?_eq_getElem hj] at hu
    rw [List.getElem?_eq_getElem hj]
    exact hu)
  have N1 := Lib.hid (show ∀ u ∈ zs.map (Value.int .u64), u.oneCell' = true from fun u hu => by
    obtain ⟨x, _, rfl⟩ := List.mem_map.1 hu
    rfl)
  have hm63 : 0 + n ≤ maxLen := by unfold maxLen; omega
  clear hown1 hbel1
  go_wp2_with (at_builtin; refine wpList_append_own _ rfl (.tmp 9) (.tmp 10) 22 rfl w.heap.size 25 i0 (.int .u64 0) 1 8 Tryd.underlying22 hi hz0 hz1 hz2 rfl (by decide) (.slice (some ⟨g, 0, none⟩) 0 (n + 3)) 0 [] rfl O1.out ⟨b, off, none⟩ n cap (zs.map (Value.int .u64)) rfl LN.out NW.out N1.out hm63 (by omega) hs1 ?_)
  intro v2 w2 hown2 hg2 _
  try rw [Nat.zero_add, List.nil_append] at hown2
  try rw [List.nil_append] at hown2
  have O2 := Lib.hid hown2
  have B2 := Lib.hid (B1.out.grown hg2 hs1 (fun k hk => (World.ownsRow.lt O1.out k hk).1))
  have hs2 := B2.out.size
  have hm64 : n + 2 ≤ maxLen := by unfold maxLen; omega
  clear hown2 hg2 O1 B1 NW
  go_wp2_with (at_builtin; refine wpList_append_own _ rfl (.tmp 11) (.tmp 14) 22 rfl w.heap.size 25 i0 (.int .u64 0) 1 8 Tryd.underlying22 hi hz0 hz1 hz2 rfl (by decide) v2 n (zs.map (Value.int .u64)) rfl (World.ownsRow.alloc O2.out _) ⟨w2.heap.size, 0, none⟩ 2 2 [.int .u64 y, .int .u64 y] rfl rfl (news_two _ _ _ _) (by intro u hu; simp at hu; subst hu; rfl) hm64 (by omega) (by simp; omega) ?_)
  intro v3 w3 hown3 hg3 _
  have B3 := Lib.hid ((B2.out.alloc hs2 (.cells #[.int .u64 y, .int .u64 y] 25)).grown hg3 (by simp; omega) (fun k hk => (World.ownsRow.lt O2.out k hk).1))
  rcases hown3.2 with ⟨_, h0⟩ | ⟨g3, cap3, cur, rfl, hb, hg, hnc, hmx, hs, ht⟩
  · omega
  have hcell : ∀ i u, (zs.map (Value.int .u64) ++ [.int .u64 y, .int .u64 y])[i]? = some u → w3.cell? ⟨g3, i, none⟩ = some u := fun i u hu => by
    have hi2 : i < n + 2 := by
      have := (List.getElem?_eq_some_iff.1 hu).1
      rw [List.length_append, List.length_map, ← HN.out] at this
      exact this
    rw [World.ownsRow.cellAt hown3 i (by omega)]
    exact hu
  have hle : n ≤ cap3 := by omega
  have hfin : Rm w3 (.slice (some ⟨g3, 0, none⟩) n cap3) zs y := by
    refine ⟨g3, cap3, by rw [HN.out], by rw [← HN.out]; exact hnc, by unfold maxLen at hmx; omega, ⟨some ⟨g3, 0, none⟩, cap3, g3, 0, by rw [HN.out], by rw [← HN.out]; exact hle, by unfold maxLen at hmx; omega, .inr rfl, fun i hi => ?_⟩, ?_, ?_⟩
    · rw [Nat.zero_add]
      refine hcell i _ ?_
      rw [List.getElem?_append_left (by rw [List.length_map]; exact hi), List.getElem?_map, List.getElem?_eq_getElem hi, gd_eq, List.getElem?_eq_getElem hi]; rfl
    · refine hcell _ _ ?_
      rw [List.getElem?_append_right (by rw [List.length_map]; exact Nat.le_refl _), List.length_map, Nat.sub_self]; rfl
    · refine hcell _ _ ?_
      rw [List.getElem?_append_right (by rw [List.length_map]; omega), List.length_map, show zs.length + 1 - zs.length = 1 by omega]; rfl
  have HF := Lib.hid hfin
  clear hown3 hg3 hcell hfin hb hg hs ht O2 B2
  go_wp2
  go_ret
  exact ⟨_, rfl, HF.out, B3.out⟩
set_option maxHeartbeats 1000000 in
theorem kept_any (zs : List Int) (v : Value) (y : Int) (w : World) (h : Rm w v zs y) (hl : zs.length ≤ 100000) :
    Calls Tryd.prog 56 #[v, .int .u64 y] w (RetV w (.bool true)) := by
  obtain ⟨g, cap, rfl, hcap, hm, hr, c1, c2⟩ := h
  clear hr
  generalize zs.length = n at *
  have e1 : IntKind.i64.wrap ((n : Int) + 2) = ((n + 2 : Nat) : Int) := by rw [show (n : Int) + 2 = ((n + 2 : Nat) : Int) by omega]; exact IntWalk.i64_in _ (by omega)
  have e2 : IntKind.i64.wrap ((n : Int) + 1) = ((n + 1 : Nat) : Int) := by rw [show (n : Int) + 1 = ((n + 1 : Nat) : Int) by omega]; exact IntWalk.i64_in _ (by omega)
  obtain ⟨p, hp⟩ : ∃ p, p = n + 2 := ⟨_, rfl⟩
  obtain ⟨q, hq⟩ : ∃ p, p = n + 1 := ⟨_, rfl⟩
  rw [← hp] at e1 hcap
  rw [← hq] at e2 c2
  have hnp : n < p := by omega
  have hqp : q < p := by omega
  clear hp hq
  go_enter Tryd.func56, Tryd.ntmps56
  go_wp2
  go_ret
  exact ⟨rfl, Below.refl _ _⟩
def SpRel (w : World) (g cap K : Nat) (i : Value) (wr : World) : Prop := ∃ (m : Nat) (cs : Array Value), m ≤ cap ∧ i = .int .i64 m ∧ Blk wr g 25 cs ∧ cap ≤ cs.size ∧ cs.size = K ∧ Only (fun k => k = g) w wr
/-- rows of numbers stay rows of numbers; what is none stays -/
def Keeps (w w' : World) : Prop := (∀ (g : Nat) (cur : Array Value), w.heap[g]? = some (Obj.cells cur 25) → ∃ cur' : Array Value, w'.heap[g]? = some (Obj.cells cur' 25) ∧ cur'.size = cur.size) ∧ (∀ (k : Nat) (cs : Array Value) (t : TypeId), t ≠ 25 → w.heap[k]? = some (Obj.cells cs t) → w'.heap[k]? = some (Obj.cells cs t))
theorem Keeps.refl (w : World) : Keeps w w := ⟨fun g cur h => ⟨cur, h, rfl⟩, fun _ _ _ _ h => h⟩
theorem Keeps.rw_ {w w' : World} (h : Keeps w w') {B : Nat} {v : Value} (hv : Rw B w v) : Rw B w' v := by
  rcases hv with hv | ⟨g, n, cap, cur, e, h1, h2, h3, h4, h5⟩
  · exact .inl hv
  · obtain ⟨cur', e1, e2⟩ := h.1 g cur h2
    exact .inr ⟨g, n, cap, cur', e, h1, e1, h3, by rw [e2]; exact h4, h5⟩
set_option maxHeartbeats 2000000 in
set_option maxRecDepth 100000 in
theorem spoil_any (B : Nat) (v : Value) (y : Int) (w : World) (h : Rw B w v) (hB : B ≤ w.heap.size) :
    Calls Tryd.prog 55 #[v, .int .u64 y] w fun e w' => e = .returned (.tuple #[]) ∧ Below B w w' ∧ Keeps w w' := by
  rcases h with rfl | ⟨g, n, cap, cur, rfl, h1, h2, h3, h4, h5⟩
  · go_enter Tryd.func55, Tryd.ntmps55
    go_wp2
    go_loop [4, 11] (fun _ i => i = .int .i64 0) (fun _ _ => 0)
    case atStart => rfl
    case round =>
      obtain rfl := hrel
      go_wp2
      go_end0
      exact ⟨rfl, Below.refl _ _, Keeps.refl _⟩
  · have H2 := Lib.hid (show Blk w g 25 cur from h2)
    have hcap : cap ≤ 9223372036854775807 := by unfold maxLen at h5; omega
    clear h2
    go_enter Tryd.func55, Tryd.ntmps55
    go_wp2
    go_loopw [4, 11] (fun _ i wr => SpRel w g cap cur.size i wr) (fun _ i _ => cap - (intOf i).toNat)
    case atStart => exact ⟨0, cur, by omega, rfl, H2.out, h4, rfl, Only.refl _ _⟩
    case round =>
      obtain ⟨m, cs, hm, rfl, hb, hcs, hcK, ho⟩ := hrel
      have HB := Lib.hid hb
      have HO := Lib.hid ho
      clear hb ho
      by_cases hml : m < cap
      · go_wp2_with (refine wl_storeBlk1 25 (fun _ => rfl) _ rfl (.tmp 17) (.tmp 16) rfl g m 25 cs .u64 y rfl rfl HB.out (by omega) ?_)
        intro w2 hb2 ho2 hs2
        have HB2 := Lib.hid hb2
        have HO2 := Lib.hid (HO.out.trans ho2)
        clear hb2 ho2
        go_wp2
        go_roundw
        case rel => exact ⟨m + 1, _, by omega, by go_num, HB2.out, by rw [Array.size_setIfInBounds]; exact hcs, by rw [Array.size_setIfInBounds]; exact hcK, HO2.out⟩
        case measure => simp [intOf] <;> omega
      · obtain rfl : cap = m := by omega
        go_wp2
        go_end0
        refine ⟨rfl, HO.out.below hB (fun k e => by omega), ?_, ?_⟩
        · intro k c hk
          by_cases hkg : k = g
          · subst hkg
            have : Blk w k 25 c := hk
            have e : c = cur := by
              have h1 := H2.out
              unfold Blk at h1 this
              rw [h1] at this
              injection this with this
              injection this with this
              exact this.symm
            exact ⟨cs, HB.out, by rw [e, hcK]⟩
          · exact ⟨c, (HO.out.block k (Array.getElem?_eq_some_iff.1 hk).1 hkg).trans hk, rfl⟩
        · intro k c t ht hk
          have hkg : k ≠ g := by
            rintro rfl
            have h1 := H2.out
            unfold Blk at h1
            rw [h1] at hk
            injection hk with hk
            injection hk with _ hk
            exact ht hk.symm
          exact (HO.out.block k (Array.getElem?_eq_some_iff.1 hk).1 hkg).trans hk
end Go.Proofs.YtkcfnbfkbmgchaaDoor.Gm
/- (Add) -/
namespace Go.Proofs.YtkcfnbfkbmgchaaDoor.Gm
open Go.RowKit
set_option linter.unusedVariables false
theorem info_ulist : (Tryd.prog.info? 22).map (fun i => (i.zero, i.size, i.bytes)) = some (some (.slice none 0 0), 1, 24) := by kernel_rfl
/-- the box of the list of lists, all of the call's own -/
def Sto (B k : Nat) (w : World) (ob : Nat) : Prop := ∃ (sv : Value) (vs : List Value), Blk w ob 64 #[sv] ∧ w.ownsRow B 22 1 sv vs.length vs ∧ (∀ u ∈ vs, Rw B w u) ∧ vs.length = k ∧ B ≤ ob
theorem Rw.keep {B : Nat} {w w' : World} {v : Value} (h : Rw B w v) (hk : ∀ (g : Nat) (cur : Array Value), w.heap[g]? = some (Obj.cells cur 25) → w'.heap[g]? = some (Obj.cells cur 25)) : Rw B w' v := by
  rcases h with h | ⟨g, n', cap', cur, e, h1, h2, h⟩
  · exact .inl h
  · exact .inr ⟨g, n', cap', cur, e, h1, hk g cur h2, h⟩
theorem Sto.below {B k : Nat} {w w' : World} {ob : Nat} (h : Sto B k w ob) (hb : Below w.heap.size w w') : Sto B k w' ob := by
  obtain ⟨sv, vs, h1, h2, h3, h4⟩ := h
  exact ⟨sv, vs, h1.below hb h1.lt, own_only h2 (Only.of_below (S := fun _ => False) hb (fun k hk hk' => by omega)) (fun _ _ e => e), fun u hu => (h3 u hu).below hb, h4⟩
/-- an element that is a list of the call's own: how it stands in one cell -/
theorem Rw.one {B : Nat} {w : World} {v : Value} (h : Rw B w v) : v.oneCell' = true := by
  rcases h with rfl | ⟨g, n', cap', cur, rfl, _⟩ <;> rfl
/-- append of a list to a list of lists of the call's own -/
theorem wl_appUL {ops : Array Oper} {rest : List Oper} {o : Oper} {a : Act} {Q : Exit → Act → World → Prop} (w : World) (hgd : o.guard = none) (s x : Operand)
    (ho : o.op = .call { callee := .builtin .append, args := #[s, x], argTypes := #[64, 64] })
    (B : Nat) (v : Value) (vs : List Value) (cs : Array Value) (m : Nat) (hcs : cs.size = m) (hs : a.eval s = v) (hx : a.eval x = .slice (some ⟨w.heap.size, 0, none⟩) m m)
    (hown : w.ownsRow B 22 1 v vs.length vs) (h1 : ∀ u ∈ cs.toList, u.oneCell' = true) (hB : B ≤ w.heap.size) (hl : vs.length + m ≤ 100000)
    (h : ∀ v' w', w'.ownsRow B 22 1 v' (vs.length + m) (vs ++ cs.toList) → (w.alloc (.cells cs 22)).grownBy w' v.ownBlock → wpList Tryd.prog ops Q rest (a.put o.dst v') w') :
    wpList Tryd.prog ops Q (o :: rest) a (w.alloc (.cells cs 22)) := by
  obtain ⟨i0, hi, hz0, hz1, hz2⟩ := info_parts info_ulist
  refine wpList_append_own _ hgd s x 64 ho B 22 i0 (.slice none 0 0) 1 24 Tryd.underlying64 hi hz0 hz1 hz2 rfl (by decide) v vs.length vs hs (World.ownsRow.alloc hown _) ⟨w.heap.size, 0, none⟩ m m cs.toList hx (by rw [Array.length_toList, hcs, Nat.mul_one]) ?_ h1 (by unfold maxLen; omega) (by omega) (by simp; omega) (fun v' w' h1 h2 _ => h v' w' h1 h2)
  intro j u hj
  have e : (Addr.add ⟨w.heap.size, 0, none⟩ j : Addr) = ⟨w.heap.size, j, none⟩ := by unfold Addr.add; by_cases h0 : j = 0 <;> simp [h0]
  rw [e, World.cell?_alloc_at _ _ _ _ rfl]
  rw [Array.getElem?_toList] at hj
  exact hj
theorem Rw.shape {B : Nat} {w : World} {v : Value} (h : Rw B w v) : ∃ a n c, v = .slice a n c := by
  rcases h with rfl | ⟨g, n', cap', cur, rfl, _⟩
  · exact ⟨_, _, _, rfl⟩
  · exact ⟨_, _, _, rfl⟩
/-- the box when the list of lists has grown -/
theorem Sto.grow {B ob m : Nat} {w w2 : World} {sv v2 : Value} {vs : List Value} {cs : Array Value} (h1 : Blk w ob 64 #[sv]) (h2 : w.ownsRow B 22 1 sv vs.length vs) (h3 : ∀ u ∈ vs, Rw B w u) (h5 : B ≤ ob) (hc : ∀ u ∈ cs.toList, Rw B w u) (hcs : cs.size = m) (hB : B ≤ w.heap.size)
    (O2 : w2.ownsRow B 22 1 v2 (vs.length + m) (vs ++ cs.toList)) (G2 : (w.alloc (.cells cs 22)).grownBy w2 sv.ownBlock) :
    w2.cell? ⟨ob, 0, none⟩ = some sv ∧ w2.frozen? ⟨ob, 0, none⟩ = false ∧ Sto B (vs.length + m) (w2.setCell ⟨ob, 0, none⟩ v2) ob ∧ Below B w (w2.setCell ⟨ob, 0, none⟩ v2) := by
  have hob := h1.lt
  have hne : some ob ≠ sv.ownBlock := by
    intro e
    rcases h2.2 with ⟨e0, _⟩ | ⟨g, cap, cur, e0, _, hg, _⟩
    · rw [e0] at e; cases e
    · rw [e0] at e
      have e1 : ob = g := by simpa [Value.ownBlock] using e
      subst e1
      unfold Blk at h1
      rw [h1] at hg
      injection hg with hg
      injection hg with _ h9
      revert h9; decide
  have hnb : ∀ (g : Nat) (cur : Array Value), w.heap[g]? = some (Obj.cells cur 25) → some g ≠ sv.ownBlock ∧ g ≠ ob := fun g cur hg => by
    constructor
    · intro e
      rcases h2.2 with ⟨e0, _⟩ | ⟨g2, cap, cur2, e0, _, hg2, _⟩
      · rw [e0] at e; cases e
      · rw [e0] at e
        have e1 : g = g2 := by simpa [Value.ownBlock] using e
        subst e1
        rw [hg] at hg2
        injection hg2 with hg2
        injection hg2 with _ h9
        revert h9; decide
    · rintro rfl
      unfold Blk at h1
      rw [hg] at h1
      injection h1 with h1
      injection h1 with _ h9
      revert h9; decide
  have hob2 : Blk w2 ob 64 #[sv] := (G2.block ob (by simp; omega) hne).trans (h1.alloc _)
  have hct : cs.toList.length = m := by rw [Array.length_toList]; exact hcs
  refine ⟨hob2.cell 0, hob2.frozen 0, ⟨v2, vs ++ cs.toList, hob2.set_ 0 v2, ?_, ?_, by rw [List.length_append, hct], h5⟩, ?_⟩
  · rw [List.length_append, hct]
    refine own_only O2 ((Only.refl (fun j => j = ob) w2).setCell (p := ⟨ob, 0, none⟩) (.inl rfl) v2) (fun k hk e => ?_)
    subst e
    rcases O2.2 with ⟨e0, _⟩ | ⟨g, cap, cur, e0, _, hg, _⟩
    · rw [e0] at hk; cases hk
    · rw [e0] at hk
      have e1 : g = k := by simpa [Value.ownBlock] using hk
      subst e1
      unfold Blk at hob2
      rw [hob2] at hg
      injection hg with hg
      injection hg with _ h9
      revert h9; decide
  · intro u hu
    have hkeep : ∀ (g : Nat) (cur : Array Value), w.heap[g]? = some (Obj.cells cur 25) → (w2.setCell ⟨ob, 0, none⟩ v2).heap[g]? = some (Obj.cells cur 25) := fun g cur hg => by
      obtain ⟨n1, n2⟩ := hnb g cur hg
      have hlt := (Array.getElem?_eq_some_iff.1 hg).1
      rw [Below.heap_setCell w2 ⟨ob, 0, none⟩ v2 g n2, G2.block g (by simp; omega) n1, Below.heap_alloc _ _ _ hlt]
      exact hg
    rcases List.mem_append.1 hu with hu | hu
    · exact (h3 u hu).keep hkeep
    · exact (hc u hu).keep hkeep
  · have b1 : Below B w (w.alloc (.cells cs 22)) := (Below.refl B w).alloc hB _
    have b2 := b1.grown G2 (by simp; omega) (fun k hk => (World.ownsRow.lt h2 k hk).1)
    exact b2.setCell (p := ⟨ob, 0, none⟩) h5 v2
theorem row_slice {B n : Nat} {e : TypeId} {w : World} {v : Value} {xs : List Value} {size : Nat} (h : w.ownsRow B e size v n xs) : ∃ a n c, v = .slice a n c := by
  rcases h.2 with ⟨e, _⟩ | ⟨g, cap, cur, e, _⟩
  · exact ⟨_, _, _, e⟩
  · exact ⟨_, _, _, e⟩
set_option maxHeartbeats 1000000 in
set_option maxRecDepth 100000 in
theorem keepadd (B k : Nat) (v : Value) (z : Int) (ob : Nat) (w : World) (h : Sto B k w ob) (hv : Rw B w v) (hB : B ≤ w.heap.size) (hk : k ≤ 1000) :
    Calls Tryd.prog 48 #[v, .int .i64 z, .pointer (some ⟨ob, 0, none⟩)] w fun e w' => e = .returned (.tuple #[]) ∧ Sto B (k + 1) w' ob ∧ Below B w w' := by
  obtain ⟨sv, vs, h1, h2, h3, h4, h5⟩ := h
  have c1 : w.cell? ⟨ob, 0, none⟩ = some sv := h1.cell 0
  have HG := Lib.hid (fun cs m v2 w2 hc hcs O2 G2 => Sto.grow (w2 := w2) (v2 := v2) (cs := cs) (m := m) h1 h2 h3 h5 hc hcs hB O2 G2)
  have H2 := Lib.hid h2
  have HV := Lib.hid hv
  have HN1 := Lib.hid hv.one
  have hll : vs.length + 1 ≤ 100000 := by omega
  have H4 := Lib.hid h4
  obtain ⟨va, vn, vc, rfl⟩ := hv.shape
  clear h1 h2 h3 hv h4
  go_enter Tryd.func48, Tryd.ntmps48
  go_wp2_with (at_builtin; (refine wl_appUL _ rfl (.tmp 5) (.tmp 7) rfl B sv vs #[.slice va vn vc] 1 rfl rfl rfl H2.out (by intro u hu; simp at hu; subst hu; exact HN1.out) hB hll ?_))
  intro v2 w2 hown2 hg2
  obtain ⟨sa2, sn2, sc2, rfl⟩ := row_slice hown2
  obtain ⟨c2, f2, hS, hb⟩ := HG.out #[.slice va vn vc] 1 _ _ (by intro u hu; simp at hu; subst hu; exact HV.out) rfl hown2 hg2
  have HS := Lib.hid hS
  have HB := Lib.hid hb
  clear hown2 hg2 c1 hS hb
  go_wp2
  go_end0
  exact ⟨rfl, by rw [← H4.out]; exact HS.out, HB.out⟩
end Go.Proofs.YtkcfnbfkbmgchaaDoor.Gm
/- (Low) -/
namespace Go.Proofs.YtkcfnbfkbmgchaaDoor.Gm
open Go.RowKit
set_option linter.unusedVariables false
theorem div_rw (zs ys : List Int) (v v2 : Value) (w : World) (h : Rd .u64 w v zs) (h2 : Rd .u64 w v2 ys) (hz : B64 zs) (hy : B64 ys) (hl : zs.length ≤ 2048) (hl2 : ys.length ≤ 2048) :
    Calls Tryd.prog 50 #[v, v2] w fun e w' => ∃ v1 v2 n, e = .returned (.tuple #[v1, v2, .int .i64 n]) ∧ Rw w.heap.size w' v1 ∧ Rw w.heap.size w' v2 ∧ Below w.heap.size w w' := by
  by_cases he : (strip (ys.map toF)).length ≤ 0
  · exact (div_none zs ys v v2 w h h2 hz hy hl hl2 he).mono fun e w' ⟨v1, v2, e1, o1, o2, hb⟩ => ⟨v1, v2, _, e1, Rw.of_own o1, Rw.of_own o2, hb⟩
  · exact (div_any zs ys v v2 w h h2 hz hy hl hl2 (by omega)).mono fun e w' ⟨q, r, _, v1, v2, e1, o1, o2, hb⟩ => ⟨v1, v2, _, e1, Rw.of_own o1, Rw.of_own o2, hb⟩
theorem row_keeps {B n size : Nat} {e : TypeId} {w w' : World} {v : Value} {xs : List Value} (h : w.ownsRow B e size v n xs) (hk : Keeps w w') (he : e ≠ 25) : w'.ownsRow B e size v n xs := by
  refine ⟨h.1, ?_⟩
  rcases h.2 with h0 | ⟨g, cap, cur, e1, hb, hg, rest⟩
  · exact .inl h0
  · exact .inr ⟨g, cap, cur, e1, hb, hk.2 g cur e he hg, rest⟩
def LoRel (B : Nat) (wb : World) (sv : Value) (vs : List Value) (i : Value) (wr : World) : Prop :=
  ∃ m : Nat, m ≤ vs.length ∧ i = .int .i64 m ∧ wr.ownsRow B 22 1 sv vs.length vs ∧ (∀ u ∈ vs, Rw B wr u) ∧ Below B wb wr
theorem shp_one (k : Nat) (hk : k ≤ 10) : Shp (szs [k]) := by
  have h2 : 2 ^ k ≤ 1024 := by have := Nat.pow_le_pow_right (show 0 < 2 by omega) hk; simpa using this
  refine ⟨by simp [szs], by simp [szs], fun d hd => ?_, ?_⟩
  · obtain ⟨j, hj, rfl⟩ := List.mem_map.1 hd
    exact ⟨j, rfl⟩
  · show 2 ^ k * 1 ≤ 1024
    omega
theorem w_one (k : Nat) (hk : k ≤ 10) : W64 (zi (szs [k])) := by
  have h2 : 2 ^ k ≤ 1024 := by have := Nat.pow_le_pow_right (show 0 < 2 by omega) hk; simpa using this
  intro a ha
  have h : a = ((2 ^ k : Nat) : Int) := by simpa [zi, szs] using ha
  generalize 2 ^ k = m at h h2
  subst h
  have h3 : -9223372036854775808 ≤ ((m : Nat) : Int) ∧ ((m : Nat) : Int) ≤ 9223372036854775807 := by omega
  simpa [Lit.wf, IntKind.min, IntKind.max, IntKind.signed, IntKind.bits] using h3
set_option maxHeartbeats 40000000 in
set_option maxRecDepth 100000 in
theorem wListsOwn (zs ys : List Int) (k : Int) (v v2 : Value) (w : World) (h : Rd .u64 w v zs) (h2 : Rd .u64 w v2 ys) (hz : B64 zs) (hy : B64 ys) (wk : (Lit.int .i64 k).wf = true) (hT : Tb w) :
    Calls Tryd.prog 12 #[v, v2, .int .i64 k] w (RetV w (.bool true)) := by
  obtain ⟨k0, k1⟩ := i64_bounds wk
  clear wk
  obtain ⟨c, hc⟩ : ∃ c, c = kk k := ⟨_, rfl⟩
  have hc6 : c ≤ 6 := by rw [hc]; exact kk_le k
  have hc2 : 2 ^ c ≤ 64 := by have := Nat.pow_le_pow_right (show 0 < 2 by omega) hc6; simpa using this
  have hc1 : 1 ≤ 2 ^ c := Nat.two_pow_pos c
  obtain ⟨az, haz⟩ : ∃ a, a = siz zs (2 ^ c) := ⟨_, rfl⟩
  obtain ⟨bz, hbz⟩ : ∃ a, a = siz ys (2 ^ c) := ⟨_, rfl⟩
  have la : az.length = 2 ^ c := by rw [haz, siz_len]
  have lb : bz.length = 2 ^ c := by rw [hbz, siz_len]
  have ba : B64 az := by rw [haz]; exact siz_64 hz _
  have bb : B64 bz := by rw [hbz]; exact siz_64 hy _
  have CS1 := Lib.hid (fun w v h => sized_any zs v k w h k0 k1)
  have CS2 := Lib.hid (fun w v h => sized_any ys v k w h k0 k1)
  rw [← hc, ← haz] at CS1
  rw [← hc, ← hbz] at CS2
  have pk1 : pk [c] = 2 ^ c := by show 2 ^ c * 1 = _; omega
  have la2 : az.length = pk [c] := by rw [pk1, la]
  have lb2 : bz.length = pk [c] := by rw [pk1, lb]
  have s1 := shp_one c (by omega)
  have w1' := w_one c (by omega)
  have k10 : ∀ x ∈ [c], x ≤ 10 := fun x hx => by have : x = c := by simpa using hx
                                                 omega
  have D1 := Lib.hid (fun w v h => pnorm_any az v w h ba (by omega))
  have D2 := Lib.hid (fun w v v2 h h2 => padd_any az bz v v2 w h h2 ba bb (by omega) (by omega))
  have D3 := Lib.hid (fun w v v2 h h2 => pmul_any az bz v v2 w h h2 ba bb (by omega))
  have D4 := Lib.hid (fun w v v2 h h2 => div_rw az bz v v2 w h h2 ba bb (by omega) (by omega))
  have D5 := Lib.hid (fun w v h hT => nfwd_ok c az v w h ba (by omega) la hT)
  have D6 := Lib.hid (fun w v h hT => ninv_ok c az v w h ba (by omega) la hT)
  have D7 := Lib.hid (fun w v v2 h h2 hT => cyc_ok c az bz v v2 w h h2 ba bb (by omega) la lb hT)
  have D8 := Lib.hid (fun w v v2 h h2 hT => skew_ok c az bz v v2 w h h2 ba bb (by omega) la lb hT)
  have D9 := Lib.hid (fun w v v2 h h2 hT => lin_ok az bz v v2 w h h2 ba bb (by unfold TooBig; omega) (by omega) (by omega) hT)
  have D10 := Lib.hid (fun w v v2 h h2 hT => fwd_of (all_ok [c] az false v v2 w h h2 w1' s1 ba la2 hT))
  have D11 := Lib.hid (fun w v v2 v3 h h2 h3 hT => mcyc_ok [c] az bz v v2 v3 w h h2 h3 w1' s1 k10 ba bb la2 lb2 hT)
  have D12 := Lib.hid (fun w v v2 h h2 hT => do_ok (szs [c]) az 0 c 0 1 (0, 0, 1) true v v2 w h h2 w1' s1 ba la2 (by simp [szs]) (by rw [nd_szs [c] (by simp), nd_zero]) (by omega) (by simp [under, szs, pr]) hT rfl)
  have D13 := Lib.hid (fun w v v2 v3 h h2 h3 => shift_ok [c] az [1] v v2 v3 w h h2 h3 w1' s1 ba la2 rfl)
  have D14 := Lib.hid (fun w v v2 h h2 => corners_ok [c] az v v2 w h h2 w1' s1 ba la2)
  have la4 : (az.take 4).length ≤ 4 := by rw [List.length_take]; omega
  have la5 : 1 ≤ (az.take 4).length := by rw [List.length_take]; omega
  have D15 := Lib.hid (fun w v h => short_z az 4 4 v w h (by omega) rfl)
  have D16 := Lib.hid (fun w v h => encode_any (az.take 4) v 5 5 w h (ba.take 4) la5 (by omega) (by omega) (by omega) rfl)
  have EZ := Lib.hid (show zi (szs [c]) = [((2 ^ c : Nat) : Int)] from rfl)
  obtain ⟨n, hn⟩ : ∃ n, n = 2 ^ c := ⟨_, rfl⟩
  rw [← hn] at la lb hc2 hc1 EZ
  have LA := Lib.hid la
  have LB := Lib.hid lb
  have X := Lib.hid h
  have Y := Lib.hid h2
  have T := Lib.hid hT
  clear h h2 hz hy hT hc hc6 haz hbz la lb la2 lb2 ba bb s1 w1' k10 pk1 hn k0 k1 la4 la5
  go_enter Tryd.func12, Tryd.ntmps12
  go_wp2_with fail
  refine (four_any _ T.out).mono ?_
  rintro e wa ⟨rfl, hbel⟩
  have B1 := Lib.hid hbel
  have hs1 := hbel.size
  have X1 := Lib.hid (X.out.below hbel)
  have Y1 := Lib.hid (Y.out.below hbel)
  have T1 := Lib.hid (T.out.below hbel)
  clear hbel X Y T
  go_wp2_with fail
  refine (CS1.out _ _ X1.out).mono ?_
  rintro e wx2 ⟨vx2, rfl, hown, hbel⟩
  have X2 := Lib.hid (X1.out.below hbel)
  have Y2 := Lib.hid (Y1.out.below hbel)
  have T2 := Lib.hid (T1.out.below hbel)
  have B2 := Lib.hid (B1.out.trans (hbel.mono hs1))
  have hs2 := B2.out.size
  have P2 := Lib.hid hown.rd
  clear hown hbel B1 X1 Y1 T1
  go_wp2_with fail
  refine (roomy_any az _ 7 _ P2.out (by rw [LA.out]; omega) (by rw [LA.out]; omega)).mono ?_
  rintro e wx3 ⟨vx3, rfl, hown, hbel⟩
  have P3 := Lib.hid (P2.out.below hbel)
  have X3 := Lib.hid (X2.out.below hbel)
  have Y3 := Lib.hid (Y2.out.below hbel)
  have T3 := Lib.hid (T2.out.below hbel)
  have B3 := Lib.hid (B2.out.trans (hbel.mono hs2))
  have hs3 := B3.out.size
  have A3 := Lib.hid hown
  clear hown hbel B2 P2 X2 Y2 T2
  go_wp2_with fail
  refine (CS2.out _ _ Y3.out).mono ?_
  rintro e wx4 ⟨vx4, rfl, hown, hbel⟩
  have A4 := Lib.hid (A3.out.below hbel)
  have X4 := Lib.hid (X3.out.below hbel)
  have Y4 := Lib.hid (Y3.out.below hbel)
  have T4 := Lib.hid (T3.out.below hbel)
  have B4 := Lib.hid (B3.out.trans (hbel.mono hs3))
  have hs4 := B4.out.size
  have Q4 := Lib.hid hown.rd
  clear hown hbel B3 A3 X3 Y3 T3
  go_wp2_with fail
  refine (roomy_any bz _ 7 _ Q4.out (by rw [LB.out]; omega) (by rw [LB.out]; omega)).mono ?_
  rintro e wx5 ⟨vx5, rfl, hown, hbel⟩
  have A5 := Lib.hid (A4.out.below hbel)
  have Q5 := Lib.hid (Q4.out.below hbel)
  have T5 := Lib.hid (T4.out.below hbel)
  have B5 := Lib.hid (B4.out.trans (hbel.mono hs4))
  have hs5 := B5.out.size
  have M5 := Lib.hid hown
  clear hown hbel B4 A4 Q4 T4
  go_wp2_with fail
  refine (cloneU_any az _ _ A5.out.rd (by rw [LA.out]; omega)).mono ?_
  rintro e wx6 ⟨vx6, rfl, hown, hbel⟩
  have A6 := Lib.hid (A5.out.below hbel)
  have M6 := Lib.hid (M5.out.below hbel)
  have T6 := Lib.hid (T5.out.below hbel)
  have B6 := Lib.hid (B5.out.trans (hbel.mono hs5))
  have hs6 := B6.out.size
  have R6 := Lib.hid hown.rd
  clear hown hbel B5 A5 M5 T5
  go_wp2_with fail
  refine (cloneU_any bz _ _ M6.out.rd (by rw [LB.out]; omega)).mono ?_
  rintro e wx7 ⟨vx7, rfl, hown, hbel⟩
  have A7 := Lib.hid (A6.out.below hbel)
  have M7 := Lib.hid (M6.out.below hbel)
  have R7 := Lib.hid (R6.out.below hbel)
  have T7 := Lib.hid (T6.out.below hbel)
  have B7 := Lib.hid (B6.out.trans (hbel.mono hs6))
  have hs7 := B7.out.size
  have S7 := Lib.hid hown.rd
  clear hown hbel B6 A6 M6 R6 T6
  obtain ⟨ga, ca, hva, hca1, hca2, hra, hcx, hcy⟩ := A7.out
  clear hra hcx hcy
  subst hva
  rw [LA.out] at hca1 A7 ⊢
  have HSH := Lib.hid (show Rd .i64 (wx7.alloc (.cells #[.int .i64 (n : Int)] 3)) (.slice (some ⟨wx7.heap.size, 0, none⟩) 1 1) (zi (szs [c])) by rw [EZ.out]; exact Rd.lit .i64 wx7 [(n : Int)] 3 1 rfl (by simp))
  obtain ⟨ws, hws⟩ : ∃ ws : World, ws = wx7.alloc (.cells #[.int .i64 (n : Int)] 3) := ⟨_, rfl⟩
  have AS := Lib.hid (show Rm ws (.slice (some ⟨ga, 0, none⟩) n ca) az 7 by rw [hws]; exact A7.out.below ((Below.refl _ _).alloc (Nat.le_refl _) _))
  have MS := Lib.hid (show Rm ws vx5 bz 7 by rw [hws]; exact M7.out.below ((Below.refl _ _).alloc (Nat.le_refl _) _))
  have RS := Lib.hid (show Rd .u64 ws vx6 az by rw [hws]; exact R7.out.alloc _)
  have SS := Lib.hid (show Rd .u64 ws vx7 bz by rw [hws]; exact S7.out.alloc _)
  have TS := Lib.hid (show Tb ws by rw [hws]; exact T7.out.below ((Below.refl _ _).alloc (Nat.le_refl _) _))
  have HS := Lib.hid (show Rd .i64 ws (.slice (some ⟨wx7.heap.size, 0, none⟩) 1 1) (zi (szs [c])) by rw [hws]; exact HSH.out)
  have BS := Lib.hid (show Below w.heap.size w ws by rw [hws]; exact B7.out.alloc hs7 _)
  have hwss := BS.out.size
  obtain ⟨gsh, hgsh⟩ : ∃ g, g = wx7.heap.size := ⟨_, rfl⟩
  have hgs2 : ws.heap.size = gsh + 1 := by rw [hws, hgsh]; simp
  rw [← hgsh] at HS
  have BB0 := Lib.hid (show Below ws.heap.size ws (ws.alloc (.cells #[.slice none 0 0] 64)) from (Below.refl ws.heap.size ws).alloc (by omega) _)
  have hB0 : ws.heap.size ≤ (ws.alloc (.cells #[.slice none 0 0] 64)).heap.size := by simp
  clear A7 M7 R7 S7 T7 B7 HSH
  obtain ⟨ob, hob⟩ : ∃ o, o = wx7.heap.size + 1 := ⟨_, rfl⟩
  have hobs : ws.heap.size = ob := by rw [hgs2, hob, hgsh]
  obtain ⟨w0, hw0⟩ : ∃ w0 : World, w0 = ws.alloc (.cells #[.slice none 0 0] 64) := ⟨_, rfl⟩
  have ST0 := Lib.hid (show Sto ws.heap.size 0 w0 ob by
    rw [hw0]
    have hn := Blk.new ws 64 #[.slice none 0 0]
    have hl : ws.heap.size ≤ ob := by omega
    refine ⟨.slice none 0 0, [], ?_, World.ownsRow_nil _ _ _ _, (fun u hu => absurd hu (by simp)), rfl, hl⟩
    rw [hobs] at hn
    exact hn)
  rw [← hw0] at BB0 hB0
  go_wp2_with fail
  rw [← hws, ← hw0, ← hob, ← hgsh]
  clear hws hw0 hob hgsh hobs hgs2
  refine (D1.out _ _ ((AS.out.below BB0.out).rd)).mono ?_
  rintro e wz1 ⟨v101, rfl, hown, hbel⟩
  have RW1 := Lib.hid (Rw.mono (Rw.of_own hown) hB0)
  have SZ1 := Lib.hid (ST0.out.below hbel)
  have BZ1 := Lib.hid (BB0.out.trans (Below.mono hbel hB0))
  have hZ1 : ws.heap.size ≤ wz1.heap.size := Nat.le_trans hB0 (Below.size hbel)
  clear hown hbel ST0 BB0 hB0
  go_wp2_with fail
  refine (keepadd ws.heap.size 0 _ _ ob _ SZ1.out RW1.out hZ1 (by omega)).mono ?_
  rintro e wy1 ⟨rfl, hst, hb⟩
  have ST1 := Lib.hid hst
  have BB1 := Lib.hid (BZ1.out.trans hb)
  have hB1 : ws.heap.size ≤ wy1.heap.size := Nat.le_trans hZ1 hb.size
  clear hst hb RW1 SZ1 BZ1 hZ1
  go_wp2_with fail
  refine (D2.out _ _ _ ((AS.out.below BB1.out).rd) ((MS.out.below BB1.out).rd)).mono ?_
  rintro e wz2 ⟨v102, rfl, hown, hbel⟩
  have RW2 := Lib.hid (Rw.mono (Rw.of_own hown) hB1)
  have SZ2 := Lib.hid (ST1.out.below hbel)
  have BZ2 := Lib.hid (BB1.out.trans (Below.mono hbel hB1))
  have hZ2 : ws.heap.size ≤ wz2.heap.size := Nat.le_trans hB1 (Below.size hbel)
  clear hown hbel ST1 BB1 hB1
  go_wp2_with fail
  refine (keepadd ws.heap.size 1 _ _ ob _ SZ2.out RW2.out hZ2 (by omega)).mono ?_
  rintro e wy2 ⟨rfl, hst, hb⟩
  have ST2 := Lib.hid hst
  have BB2 := Lib.hid (BZ2.out.trans hb)
  have hB2 : ws.heap.size ≤ wy2.heap.size := Nat.le_trans hZ2 hb.size
  clear hst hb RW2 SZ2 BZ2 hZ2
  go_wp2_with fail
  refine (D3.out _ _ _ ((AS.out.below BB2.out).rd) ((MS.out.below BB2.out).rd)).mono ?_
  rintro e wz3 ⟨v103, rfl, hown, hbel⟩
  have RW3 := Lib.hid (Rw.mono (Rw.of_own hown) hB2)
  have SZ3 := Lib.hid (ST2.out.below hbel)
  have BZ3 := Lib.hid (BB2.out.trans (Below.mono hbel hB2))
  have hZ3 : ws.heap.size ≤ wz3.heap.size := Nat.le_trans hB2 (Below.size hbel)
  clear hown hbel ST2 BB2 hB2
  go_wp2_with fail
  refine (keepadd ws.heap.size 2 _ _ ob _ SZ3.out RW3.out hZ3 (by omega)).mono ?_
  rintro e wy3 ⟨rfl, hst, hb⟩
  have ST3 := Lib.hid hst
  have BB3 := Lib.hid (BZ3.out.trans hb)
  have hB3 : ws.heap.size ≤ wy3.heap.size := Nat.le_trans hZ3 hb.size
  clear hst hb RW3 SZ3 BZ3 hZ3
  go_wp2_with fail
  refine (D4.out _ _ _ ((AS.out.below BB3.out).rd) ((MS.out.below BB3.out).rd)).mono ?_
  rintro e wz4 ⟨vq, vr, zz, rfl, hq, hr, hbel⟩
  obtain ⟨qa, qn, qc, rfl⟩ := hq.shape
  obtain ⟨ra, rn, rc, rfl⟩ := hr.shape
  have RQ := Lib.hid (hq.mono hB3)
  have RR := Lib.hid (hr.mono hB3)
  have SZ4 := ST3.out.below hbel
  have BZ4 := Lib.hid (BB3.out.trans (hbel.mono hB3))
  have hZ4 : ws.heap.size ≤ wz4.heap.size := Nat.le_trans hB3 hbel.size
  clear hq hr hbel ST3 BB3 hB3
  obtain ⟨sv, vs, g1, g2, g3, g4, g5⟩ := SZ4
  have cb : wz4.cell? ⟨ob, 0, none⟩ = some sv := g1.cell 0
  have HG := Lib.hid (fun cs m v2 w2 hc hcs O2 G2 => Sto.grow (w2 := w2) (v2 := v2) (cs := cs) (m := m) g1 g2 g3 g5 hc hcs hZ4 O2 G2)
  have H2 := Lib.hid g2
  have H4 := Lib.hid g4
  have hll : vs.length + 2 ≤ 100000 := by omega
  clear g1 g2 g3 g4
  go_wp2_with (at_builtin; (refine wl_appUL _ rfl (.tmp 64) (.tmp 67) rfl ws.heap.size sv vs #[.slice qa qn qc, .slice ra rn rc] 2 rfl rfl rfl H2.out (by intro u hu; simp at hu; rcases hu with rfl | rfl <;> rfl) hZ4 hll ?_))
  intro v2' w2' hown2 hg2
  obtain ⟨sa2, sn2, sc2, rfl⟩ := row_slice hown2
  obtain ⟨c2, f2, hS, hb⟩ := HG.out #[.slice qa qn qc, .slice ra rn rc] 2 _ _ (by intro u hu; simp at hu; rcases hu with rfl | rfl; exact RQ.out; exact RR.out) rfl hown2 hg2
  obtain ⟨wy4, hwy⟩ : ∃ x : World, x = w2'.setCell ⟨ob, 0, none⟩ (.slice sa2 sn2 sc2) := ⟨_, rfl⟩
  rw [← hwy] at hS hb
  rw [H4.out] at hS
  have ST4 := Lib.hid hS
  have BB4 := Lib.hid (BZ4.out.trans hb)
  have hB4 : ws.heap.size ≤ wy4.heap.size := Nat.le_trans hZ4 hb.size
  clear hown2 hg2 cb hS hb HG H2 H4 hll RQ RR BZ4 hZ4 g5
  go_wp2_with fail
  rw [← hwy]
  clear hwy c2 f2
  refine (D5.out _ _ ((AS.out.below BB4.out).rd) (TS.out.below BB4.out)).mono ?_
  rintro e wz5 ⟨v105, rfl, hown, hbel⟩
  have RW5 := Lib.hid (Rw.mono (Rw.of_own hown) hB4)
  have SZ5 := Lib.hid (ST4.out.below hbel)
  have BZ5 := Lib.hid (BB4.out.trans (Below.mono hbel hB4))
  have hZ5 : ws.heap.size ≤ wz5.heap.size := Nat.le_trans hB4 (Below.size hbel)
  clear hown hbel ST4 BB4 hB4
  go_wp2_with fail
  refine (keepadd ws.heap.size 5 _ _ ob _ SZ5.out RW5.out hZ5 (by omega)).mono ?_
  rintro e wy5 ⟨rfl, hst, hb⟩
  have ST5 := Lib.hid hst
  have BB5 := Lib.hid (BZ5.out.trans hb)
  have hB5 : ws.heap.size ≤ wy5.heap.size := Nat.le_trans hZ5 hb.size
  clear hst hb RW5 SZ5 BZ5 hZ5
  go_wp2_with fail
  refine (D6.out _ _ ((AS.out.below BB5.out).rd) (TS.out.below BB5.out)).mono ?_
  rintro e wz6 ⟨v106, rfl, hown, hbel⟩
  have RW6 := Lib.hid (Rw.mono (Rw.of_own hown) hB5)
  have SZ6 := Lib.hid (ST5.out.below hbel)
  have BZ6 := Lib.hid (BB5.out.trans (Below.mono hbel hB5))
  have hZ6 : ws.heap.size ≤ wz6.heap.size := Nat.le_trans hB5 (Below.size hbel)
  clear hown hbel ST5 BB5 hB5
  go_wp2_with fail
  refine (keepadd ws.heap.size 6 _ _ ob _ SZ6.out RW6.out hZ6 (by omega)).mono ?_
  rintro e wy6 ⟨rfl, hst, hb⟩
  have ST6 := Lib.hid hst
  have BB6 := Lib.hid (BZ6.out.trans hb)
  have hB6 : ws.heap.size ≤ wy6.heap.size := Nat.le_trans hZ6 hb.size
  clear hst hb RW6 SZ6 BZ6 hZ6
  go_wp2_with fail
  refine (D7.out _ _ _ ((AS.out.below BB6.out).rd) ((MS.out.below BB6.out).rd) (TS.out.below BB6.out)).mono ?_
  rintro e wz7 ⟨v107, rfl, hown, hbel⟩
  have RW7 := Lib.hid (Rw.mono (Rw.of_own hown) hB6)
  have SZ7 := Lib.hid (ST6.out.below hbel)
  have BZ7 := Lib.hid (BB6.out.trans (Below.mono hbel hB6))
  have hZ7 : ws.heap.size ≤ wz7.heap.size := Nat.le_trans hB6 (Below.size hbel)
  clear hown hbel ST6 BB6 hB6
  go_wp2_with fail
  refine (keepadd ws.heap.size 7 _ _ ob _ SZ7.out RW7.out hZ7 (by omega)).mono ?_
  rintro e wy7 ⟨rfl, hst, hb⟩
  have ST7 := Lib.hid hst
  have BB7 := Lib.hid (BZ7.out.trans hb)
  have hB7 : ws.heap.size ≤ wy7.heap.size := Nat.le_trans hZ7 hb.size
  clear hst hb RW7 SZ7 BZ7 hZ7
  go_wp2_with fail
  refine (D8.out _ _ _ ((AS.out.below BB7.out).rd) ((MS.out.below BB7.out).rd) (TS.out.below BB7.out)).mono ?_
  rintro e wz8 ⟨v108, rfl, hown, hbel⟩
  have RW8 := Lib.hid (Rw.mono (Rw.of_own hown) hB7)
  have SZ8 := Lib.hid (ST7.out.below hbel)
  have BZ8 := Lib.hid (BB7.out.trans (Below.mono hbel hB7))
  have hZ8 : ws.heap.size ≤ wz8.heap.size := Nat.le_trans hB7 (Below.size hbel)
  clear hown hbel ST7 BB7 hB7
  go_wp2_with fail
  refine (keepadd ws.heap.size 8 _ _ ob _ SZ8.out RW8.out hZ8 (by omega)).mono ?_
  rintro e wy8 ⟨rfl, hst, hb⟩
  have ST8 := Lib.hid hst
  have BB8 := Lib.hid (BZ8.out.trans hb)
  have hB8 : ws.heap.size ≤ wy8.heap.size := Nat.le_trans hZ8 hb.size
  clear hst hb RW8 SZ8 BZ8 hZ8
  go_wp2_with fail
  refine (D9.out _ _ _ ((AS.out.below BB8.out).rd) ((MS.out.below BB8.out).rd) (TS.out.below BB8.out)).mono ?_
  rintro e wz9 ⟨v109, rfl, hrd, hbel, hown⟩
  have RW9 := Lib.hid (Rw.mono (hown) hB8)
  have SZ9 := Lib.hid (ST8.out.below hbel)
  have BZ9 := Lib.hid (BB8.out.trans (Below.mono hbel hB8))
  have hZ9 : ws.heap.size ≤ wz9.heap.size := Nat.le_trans hB8 (Below.size hbel)
  clear hown hbel ST8 BB8 hB8
  go_wp2_with fail
  refine (keepadd ws.heap.size 9 _ _ ob _ SZ9.out RW9.out hZ9 (by omega)).mono ?_
  rintro e wy9 ⟨rfl, hst, hb⟩
  have ST9 := Lib.hid hst
  have BB9 := Lib.hid (BZ9.out.trans hb)
  have hB9 : ws.heap.size ≤ wy9.heap.size := Nat.le_trans hZ9 hb.size
  clear hst hb RW9 SZ9 BZ9 hZ9
  go_wp2_with fail
  refine (D10.out _ _ _ (HS.out.below BB9.out) ((AS.out.below BB9.out).rd) (TS.out.below BB9.out)).mono ?_
  rintro e wz10 ⟨v110, rfl, hown, hbel⟩
  have RW10 := Lib.hid (Rw.mono (Rw.of_own hown) hB9)
  have SZ10 := Lib.hid (ST9.out.below hbel)
  have BZ10 := Lib.hid (BB9.out.trans (Below.mono hbel hB9))
  have hZ10 : ws.heap.size ≤ wz10.heap.size := Nat.le_trans hB9 (Below.size hbel)
  clear hown hbel ST9 BB9 hB9
  go_wp2_with fail
  refine (keepadd ws.heap.size 10 _ _ ob _ SZ10.out RW10.out hZ10 (by omega)).mono ?_
  rintro e wy10 ⟨rfl, hst, hb⟩
  have ST10 := Lib.hid hst
  have BB10 := Lib.hid (BZ10.out.trans hb)
  have hB10 : ws.heap.size ≤ wy10.heap.size := Nat.le_trans hZ10 hb.size
  clear hst hb RW10 SZ10 BZ10 hZ10
  go_wp2_with fail
  refine (D11.out _ _ _ _ (HS.out.below BB10.out) ((AS.out.below BB10.out).rd) ((MS.out.below BB10.out).rd) (TS.out.below BB10.out)).mono ?_
  rintro e wz11 ⟨v111, rfl, hown, hbel⟩
  have RW11 := Lib.hid (Rw.mono (Rw.of_own hown) hB10)
  have SZ11 := Lib.hid (ST10.out.below hbel)
  have BZ11 := Lib.hid (BB10.out.trans (Below.mono hbel hB10))
  have hZ11 : ws.heap.size ≤ wz11.heap.size := Nat.le_trans hB10 (Below.size hbel)
  clear hown hbel ST10 BB10 hB10
  go_wp2_with fail
  refine (keepadd ws.heap.size 11 _ _ ob _ SZ11.out RW11.out hZ11 (by omega)).mono ?_
  rintro e wy11 ⟨rfl, hst, hb⟩
  have ST11 := Lib.hid hst
  have BB11 := Lib.hid (BZ11.out.trans hb)
  have hB11 : ws.heap.size ≤ wy11.heap.size := Nat.le_trans hZ11 hb.size
  clear hst hb RW11 SZ11 BZ11 hZ11
  go_wp2_with fail
  refine (D12.out _ _ _ (HS.out.below BB11.out) ((AS.out.below BB11.out).rd) (TS.out.below BB11.out)).mono ?_
  rintro e wz12 ⟨v112, rfl, hown, hbel⟩
  have RW12 := Lib.hid (Rw.mono (Rw.of_oz hown) hB11)
  have SZ12 := Lib.hid (ST11.out.below hbel)
  have BZ12 := Lib.hid (BB11.out.trans (Below.mono hbel hB11))
  have hZ12 : ws.heap.size ≤ wz12.heap.size := Nat.le_trans hB11 (Below.size hbel)
  clear hown hbel ST11 BB11 hB11
  go_wp2_with fail
  refine (keepadd ws.heap.size 12 _ _ ob _ SZ12.out RW12.out hZ12 (by omega)).mono ?_
  rintro e wy12 ⟨rfl, hst, hb⟩
  have ST12 := Lib.hid hst
  have BB12 := Lib.hid (BZ12.out.trans hb)
  have hB12 : ws.heap.size ≤ wy12.heap.size := Nat.le_trans hZ12 hb.size
  clear hst hb RW12 SZ12 BZ12 hZ12
  go_wp2_with fail
  have BA := Lib.hid (BB12.out.alloc hB12 (.cells #[.int .i64 1] 3))
  refine (D13.out _ _ _ _ (HS.out.below BA.out) (AS.out.below BA.out).rd (Rd.lit .i64 wy12 [1] 3 1 rfl (by simp))).mono ?_
  rintro e wz13 ⟨v113, rfl, hown, hbel0⟩
  have hbel : Below wy12.heap.size wy12 wz13 := ((Below.refl _ _).alloc (Nat.le_refl _) (.cells #[.int .i64 1] 3)).trans (hbel0.mono (by simp))
  have RW13 := Lib.hid (Rw.mono (Rw.of_own hown) (Nat.le_trans hB12 (by simp)))
  have SZ13 := Lib.hid (ST12.out.below hbel)
  have BZ13 := Lib.hid (BB12.out.trans (hbel.mono hB12))
  have hZ13 : ws.heap.size ≤ wz13.heap.size := Nat.le_trans hB12 hbel.size
  clear hown hbel hbel0 ST12 BB12 hB12 BA
  go_wp2_with fail
  refine (keepadd ws.heap.size 13 _ _ ob _ SZ13.out RW13.out hZ13 (by omega)).mono ?_
  rintro e wy13 ⟨rfl, hst, hb⟩
  have ST13 := Lib.hid hst
  have BB13 := Lib.hid (BZ13.out.trans hb)
  have hB13 : ws.heap.size ≤ wy13.heap.size := Nat.le_trans hZ13 hb.size
  clear hst hb RW13 SZ13 BZ13 hZ13
  go_wp2_with fail
  refine (D14.out _ _ _ (HS.out.below BB13.out) ((AS.out.below BB13.out).rd)).mono ?_
  rintro e wz14 ⟨v114, rfl, hown, hbel⟩
  have RW14 := Lib.hid (Rw.mono (Rw.of_own hown) hB13)
  have SZ14 := Lib.hid (ST13.out.below hbel)
  have BZ14 := Lib.hid (BB13.out.trans (Below.mono hbel hB13))
  have hZ14 : ws.heap.size ≤ wz14.heap.size := Nat.le_trans hB13 (Below.size hbel)
  clear hown hbel ST13 BB13 hB13
  go_wp2_with fail
  refine (keepadd ws.heap.size 14 _ _ ob _ SZ14.out RW14.out hZ14 (by omega)).mono ?_
  rintro e wy14 ⟨rfl, hst, hb⟩
  have ST14 := Lib.hid hst
  have BB14 := Lib.hid (BZ14.out.trans hb)
  have hB14 : ws.heap.size ≤ wy14.heap.size := Nat.le_trans hZ14 hb.size
  clear hst hb RW14 SZ14 BZ14 hZ14
  go_wp2_with fail
  refine (D15.out _ _ ((AS.out.below BB14.out).rd)).mono ?_
  rintro e w' ⟨⟨v115, rfl, hr15⟩, rfl⟩
  go_wp2_with fail
  refine (D16.out _ _ hr15).mono ?_
  rintro e wz15 ⟨v116, rfl, hown, hbel⟩
  have RW15 := Lib.hid (Rw.mono (Rw.of_own hown) hB14)
  have SZ15 := Lib.hid (ST14.out.below hbel)
  have BZ15 := Lib.hid (BB14.out.trans (Below.mono hbel hB14))
  have hZ15 : ws.heap.size ≤ wz15.heap.size := Nat.le_trans hB14 (Below.size hbel)
  clear hown hbel ST14 BB14 hB14
  go_wp2_with fail
  refine (keepadd ws.heap.size 15 _ _ ob _ SZ15.out RW15.out hZ15 (by omega)).mono ?_
  rintro e wy15 ⟨rfl, hst, hb⟩
  have ST15 := Lib.hid hst
  have BB15 := Lib.hid (BZ15.out.trans hb)
  have hB15 : ws.heap.size ≤ wy15.heap.size := Nat.le_trans hZ15 hb.size
  clear hst hb RW15 SZ15 BZ15 hZ15
  clear hr15 D1 D2 D3 D4 D5 D6 D7 D8 D9 D10 D11 D12 D13 D14 D15 D16 CS1 CS2
  obtain ⟨sv, vs, g1, g2, g3, g4, g5⟩ := ST15.out
  have cb : wy15.cell? ⟨ob, 0, none⟩ = some sv := g1.cell 0
  obtain ⟨sg, scap, rfl, hsn, hsm⟩ : ∃ g cap, sv = .slice (some ⟨g, 0, none⟩) vs.length cap ∧ vs.length ≤ cap ∧ cap ≤ 9223372036854775807 := by
    rcases g2.2 with ⟨_, h0⟩ | ⟨g, cap, cur, e, hb, hg, hn, hm, _⟩
    · omega
    · exact ⟨g, cap, e, hn, by unfold maxLen at hm; omega⟩
  have H2 := Lib.hid g2
  have H3 := Lib.hid g3
  have h17 : vs.length ≤ 1000 := by omega
  clear g1 g2 g3 g4 g5 ST15
  go_wp2
  go_loopw [18, 149] (fun _ i wr => LoRel ws.heap.size wy15 (.slice (some ⟨sg, 0, none⟩) vs.length scap) vs i wr) (fun _ i _ => vs.length - (intOf i).toNat)
  case atStart => exact ⟨0, by omega, rfl, H2.out, H3.out, Below.refl _ _⟩
  case round =>
    clear cb H2 H3
    obtain ⟨m, hm1, rfl, hrow, hrw, hbel⟩ := hrel
    have HROW := Lib.hid hrow
    have HRW := Lib.hid hrw
    have HB := Lib.hid hbel
    have hwsz : ws.heap.size ≤ wr.heap.size := Nat.le_trans hB15 hbel.size
    clear hrow hrw hbel
    by_cases hml : m < vs.length
    · have cm : wr.cell? ⟨sg, m, none⟩ = some vs[m] := by rw [World.ownsRow.cellAt HROW.out m (by omega), List.getElem?_eq_getElem hml]
      have hu := Lib.hid (HRW.out vs[m] (List.getElem_mem hml))
      obtain ⟨ua, un, uc, hus⟩ := hu.out.shape
      rw [hus] at cm hu
      clear hus
      go_wp2_with fail
      refine (spoil_any ws.heap.size _ 99 _ hu.out hwsz).mono ?_
      rintro e w9 ⟨rfl, hb, hk⟩
      have HROW2 := Lib.hid (row_keeps HROW.out hk (by decide))
      have HRW2 := Lib.hid (show ∀ u ∈ vs, Rw ws.heap.size w9 u from fun u hu => hk.rw_ (HRW.out u hu))
      have HB2 := Lib.hid (HB.out.trans hb)
      clear hb hk
      go_wp2
      go_roundw
      case rel => exact ⟨m + 1, by omega, by go_num, HROW2.out, HRW2.out, HB2.out⟩
      case measure => simp [intOf] <;> omega
    · have BE := Lib.hid (BB15.out.trans HB.out)
      have AE := Lib.hid (AS.out.below BE.out)
      have ME := Lib.hid (MS.out.below BE.out)
      have RE := Lib.hid (RS.out.below BE.out)
      have SE := Lib.hid (SS.out.below BE.out)
      have BW := Lib.hid (BS.out.trans (BE.out.mono hwss))
      have hsw := BW.out.size
      have hge : vs.length ≤ m := by omega
      clear HROW HRW HB BE BB15 AS MS RS SS
      go_wp2_with fail
      refine (equal_yes az _ _ _ AE.out.rd RE.out).mono ?_
      rintro e we1 ⟨rfl, hb1⟩
      have AE1 := Lib.hid (AE.out.below hb1)
      have ME1 := Lib.hid (ME.out.below hb1)
      have SE1 := Lib.hid (SE.out.below hb1)
      have BW1 := Lib.hid (BW.out.trans (hb1.mono hsw))
      have hsw1 := BW1.out.size
      clear hb1 AE ME RE SE BW
      go_wp2_with fail
      refine (equal_yes bz _ _ _ ME1.out.rd SE1.out).mono ?_
      rintro e we2 ⟨rfl, hb2⟩
      have AE2 := Lib.hid (AE1.out.below hb2)
      have ME2 := Lib.hid (ME1.out.below hb2)
      have BW2 := Lib.hid (BW1.out.trans (hb2.mono hsw1))
      have hsw2 := BW2.out.size
      clear hb2 AE1 ME1 SE1 BW1
      go_wp2_with fail
      refine (kept_any az _ 7 _ AE2.out (by rw [LA.out]; omega)).mono ?_
      rintro e we3 ⟨rfl, hb3⟩
      have ME3 := Lib.hid (ME2.out.below hb3)
      have BW3 := Lib.hid (BW2.out.trans (hb3.mono hsw2))
      have hsw3 := BW3.out.size
      clear hb3 AE2 ME2 BW2
      go_wp2_with fail
      refine (kept_any bz _ 7 _ ME3.out (by rw [LB.out]; omega)).mono ?_
      rintro e we4 ⟨rfl, hb4⟩
      have BW4 := Lib.hid (BW3.out.trans (hb4.mono hsw3))
      clear hb4 ME3 BW3
      go_wp2
      go_ret
      exact ⟨rfl, BW4.out⟩
end Go.Proofs.YtkcfnbfkbmgchaaDoor.Gm
