/- Plain: places added round each axis; turns. -/
import Derived.Test.YtjljndnpefdifaaAp
namespace Go.Proofs.Ytjljndnpefdifaa.Gm
open Go.RowKit
set_option linter.unusedVariables false
/-- the places of two numbers added, round each axis, the first so many of them -/
def adP (ds : List Nat) (i j m : Nat) : List Nat := (List.range ds.length).map fun x => if x < m then (nd (plcs ds j) x + nd (plcs ds i) x) % nd ds x else nd (plcs ds j) x
theorem adP_len (ds : List Nat) (i j m : Nat) : (adP ds i j m).length = ds.length := by simp [adP]
theorem nd_adP (ds : List Nat) (i j m : Nat) {x : Nat} (hx : x < ds.length) : nd (adP ds i j m) x = if x < m then (nd (plcs ds j) x + nd (plcs ds i) x) % nd ds x else nd (plcs ds j) x := by
  rw [nd_eq, adP, List.getElem?_map, List.getElem?_range hx]; rfl
theorem ext_nd {l m : List Nat} (hl : l.length = m.length) (h : ∀ i, i < l.length → nd l i = nd m i) : l = m := by
  apply List.ext_getElem?
  intro i
  by_cases hi : i < l.length
  · have := h i hi
    rw [nd_eq, nd_eq, List.getElem?_eq_getElem hi, List.getElem?_eq_getElem (by omega)] at this
    rw [List.getElem?_eq_getElem hi, List.getElem?_eq_getElem (by omega)]
    exact congrArg some this
  · rw [List.getElem?_eq_none (by omega), List.getElem?_eq_none (by omega)]
theorem adP_zero (ds : List Nat) (i j : Nat) : adP ds i j 0 = plcs ds j :=
  ext_nd (by rw [adP_len, plcs_len]) (fun x hx => by rw [adP_len] at hx; rw [nd_adP _ _ _ _ hx, if_neg (by omega)])
theorem adP_succ (ds : List Nat) (i j : Nat) {m : Nat} (hm : m < ds.length) : (adP ds i j m).set m ((nd (plcs ds j) m + nd (plcs ds i) m) % nd ds m) = adP ds i j (m + 1) :=
  ext_nd (by rw [List.length_set, adP_len, adP_len]) (fun x hx => by
    rw [List.length_set, adP_len] at hx
    rw [nd_set _ _ _ _ (by rw [adP_len]; exact hm), nd_adP _ _ _ _ hx, nd_adP _ _ _ _ hx]
    by_cases h : m = x
    · subst h; rw [if_pos rfl, if_pos (by omega)]
    · rw [if_neg h]
      by_cases h2 : x < m
      · rw [if_pos h2, if_pos (by omega)]
      · rw [if_neg h2, if_neg (by omega)])
theorem plcs_cons (d : Nat) (l : List Nat) (k : Nat) : plcs (d :: l) k = k / pr l % d :: plcs l k := by
  refine ext_nd (by simp [plcs]) (fun x hx => ?_)
  rw [plcs_len] at hx
  rw [nd_plcs _ _ _ hx]
  cases x with
  | zero => rw [nd_zero, nd_zero]; rfl
  | succ x =>
    rw [nd_succ, nd_succ, nd_plcs _ _ _ (by simpa using hx)]; rfl
theorem adP_cons (d : Nat) (l : List Nat) (i j : Nat) : adP (d :: l) i j (l.length + 1) = (j / pr l % d + i / pr l % d) % d :: adP l i j l.length := by
  refine ext_nd (by simp [adP]) (fun x hx => ?_)
  rw [adP_len] at hx
  rw [nd_adP _ _ _ _ hx, if_pos (by simpa using hx), plcs_cons, plcs_cons]
  cases x with
  | zero => rw [nd_zero, nd_zero, nd_zero, nd_zero]
  | succ x =>
    have hx2 : x < l.length := by simpa using hx
    rw [nd_succ, nd_succ, nd_succ, nd_succ, nd_adP _ _ _ _ hx2, if_pos hx2]
theorem AD_modn : ∀ (ks : List Nat) (i j : Nat), AD ks (i % pk ks) (j % pk ks) = AD ks i j
  | [], _, _ => rfl
  | k :: ks, i, j => by
    have e : ∀ i, i % pk (k :: ks) % pk ks = i % pk ks := fun i => by rw [pk_cons]; exact Nat.mod_mul_left_mod _ _ _
    have e2 : ∀ i, i % pk (k :: ks) / pk ks = i / pk ks % 2 ^ k := fun i => by rw [pk_cons]; exact Nat.mod_mul_left_div_self _ _ _
    simp only [AD]
    rw [e, e, e2, e2, ← Nat.add_mod]
theorem plc_adP : ∀ (ks : List Nat) (i j : Nat), plc (szs ks) (adP (szs ks) i j (szs ks).length) = AD ks i j
  | [], _, _ => rfl
  | k :: ks, i, j => by
    have h := plc_adP ks i j
    rw [show szs (k :: ks) = 2 ^ k :: szs ks from rfl, List.length_cons, adP_cons]
    show _ * pr (szs ks) + plc (szs ks) _ = _
    rw [h]
    simp only [AD]
    rw [AD_modn, ← Nat.add_mod, Nat.add_comm (j / _)]
    rfl
theorem cell_only {w w' : World} {S : Nat → Prop} {b o : Nat} {v : Value} (h : Only S w w') (hc : w.cell? ⟨b, o, none⟩ = some v) (hb : ¬ S b) : w'.cell? ⟨b, o, none⟩ = some v :=
  (World.cell?_of_block (a := ⟨b, o, none⟩) (h.block b (World.block_lt_of_cell? _ _ hc) hb)).trans hc
theorem cell_below {w w' : World} {b o : Nat} {v : Value} (h : Below w.heap.size w w') (hc : w.cell? ⟨b, o, none⟩ = some v) : w'.cell? ⟨b, o, none⟩ = some v :=
  (h.cell (p := ⟨b, o, none⟩) (World.block_lt_of_cell? _ _ hc)).trans hc
theorem plcs_mod (l : List Nat) (k : Nat) : plcs l (k % pr l) = plcs l k := by
  refine ext_nd (by rw [plcs_len, plcs_len]) (fun x hx => ?_)
  rw [plcs_len] at hx
  rw [nd_plcs _ _ _ hx, nd_plcs _ _ _ hx, ← pr_split l x, pr_drop l x hx]
  show k % (pr (l.take x) * (nd l x * under l x)) / under l x % nd l x = _
  rw [← Nat.mul_assoc, mod_mul_div, Nat.mod_mul_left_mod]
theorem plcs_plc : ∀ (l p : List Nat), p.length = l.length → (∀ i, i < l.length → nd p i < nd l i) → plcs l (plc l p) = p
  | [], [], _, _ => rfl
  | d :: l, x :: p, hp, h => by
    have hp' : p.length = l.length := by simpa using hp
    have h' : ∀ i, i < l.length → nd p i < nd l i := fun i hi => by
      have := h (i + 1) (by simpa using hi)
      rwa [nd_succ, nd_succ] at this
    have h0 := h 0 (by simp)
    rw [nd_zero, nd_zero] at h0
    have hlt := plc_lt hp' h'
    rw [plcs_cons]
    show (x * pr l + plc l p) / pr l % d :: plcs l (x * pr l + plc l p) = _
    rw [blk_div hlt, Nat.mod_eq_of_lt h0, ← plcs_mod l (x * pr l + plc l p), blk_mod hlt, plcs_plc l p hp' h']
theorem adP_lt {ks : List Nat} (i j m : Nat) {x : Nat} (hx : x < (szs ks).length) : nd (adP (szs ks) i j m) x < nd (szs ks) x := by
  have h1 : 1 ≤ nd (szs ks) x := szs_pos _ (nd_mem hx)
  rw [nd_adP _ _ _ _ hx]
  split
  · exact Nat.mod_lt _ h1
  · exact plcs_lt _ _ _ hx h1
theorem nd_AD (ks : List Nat) (i j : Nat) {x : Nat} (hx : x < (szs ks).length) : nd (plcs (szs ks) (AD ks i j)) x = (nd (plcs (szs ks) j) x + nd (plcs (szs ks) i) x) % nd (szs ks) x := by
  rw [← plc_adP, plcs_plc _ _ (adP_len _ _ _ _) (fun x hx => adP_lt i j _ hx), nd_adP _ _ _ _ hx, if_pos hx]
theorem num_eq {ks : List Nat} {i j : Nat} (hi : i < pk ks) (hj : j < pk ks) (h : ∀ x, x < (szs ks).length → nd (plcs (szs ks) i) x = nd (plcs (szs ks) j) x) : i = j := by
  have e : plcs (szs ks) i = plcs (szs ks) j := ext_nd (by rw [plcs_len, plcs_len]) (fun x hx => h x (by rwa [plcs_len] at hx))
  have h1 := plc_plcs (szs ks) i
  rw [e, plc_plcs] at h1
  rw [show pr (szs ks) = pk ks from rfl, Nat.mod_eq_of_lt hi, Nat.mod_eq_of_lt hj] at h1
  exact h1.symm
/-- the places of a list of turns -/
@[irreducible] def byp (ds : List Nat) (bs : List Int) : List Nat := (List.range ds.length).map fun x => (gd bs x % (nd ds x : Int)).toNat
theorem byp_len (ds : List Nat) (bs : List Int) : (byp ds bs).length = ds.length := by unfold byp; simp
theorem nd_byp (ds : List Nat) (bs : List Int) {x : Nat} (hx : x < ds.length) : nd (byp ds bs) x = (gd bs x % (nd ds x : Int)).toNat := by
  unfold byp
  rw [nd_eq, List.getElem?_map, List.getElem?_range hx]; rfl
theorem nd_byp_int {ds : List Nat} (bs : List Int) {x : Nat} (hx : x < ds.length) (h : 1 ≤ nd ds x) : (nd (byp ds bs) x : Int) = gd bs x % (nd ds x : Int) := by
  rw [nd_byp _ _ hx]
  exact Int.toNat_of_nonneg (Int.emod_nonneg _ (by omega))
theorem byp_lt {ds : List Nat} (bs : List Int) {x : Nat} (hx : x < ds.length) (h : 1 ≤ nd ds x) : nd (byp ds bs) x < nd ds x := by
  have h1 := nd_byp_int bs hx h
  have h2 := Int.emod_lt_of_pos (gd bs x) (show (0 : Int) < nd ds x by omega)
  omega
/-- .. and its number -/
@[irreducible] def BI (ks : List Nat) (bs : List Int) : Nat := plc (szs ks) (byp (szs ks) bs)
theorem BI_lt (ks : List Nat) (bs : List Int) : BI ks bs < pk ks := by
  unfold BI
  exact plc_lt (byp_len _ _) (fun x hx => byp_lt bs hx (szs_pos _ (nd_mem hx)))
theorem nd_BI (ks : List Nat) (bs : List Int) {x : Nat} (hx : x < (szs ks).length) : nd (plcs (szs ks) (BI ks bs)) x = nd (byp (szs ks) bs) x := by
  unfold BI
  rw [plcs_plc _ _ (byp_len _ _) (fun x hx => byp_lt bs hx (szs_pos _ (nd_mem hx)))]
/-- the places of k turned, the first so many of them -/
theorem nd_adP_by (ks : List Nat) (bs : List Int) (k m : Nat) {x : Nat} (hx : x < (szs ks).length) : nd (adP (szs ks) (BI ks bs) k m) x = if x < m then (nd (plcs (szs ks) k) x + nd (byp (szs ks) bs) x) % nd (szs ks) x else nd (plcs (szs ks) k) x := by
  rw [nd_adP _ _ _ _ hx, nd_BI _ _ hx]
theorem turn_mod {p d : Nat} {b c : Int} (hp : p < d) (hs : (b + c) % (d : Int) = 0) : ((p + (b % (d : Int)).toNat) % d + (c % (d : Int)).toNat) % d = p := by
  have hd : (0 : Int) < d := by omega
  have h1 : (((b % (d : Int)).toNat : Nat) : Int) = b % (d : Int) := Int.toNat_of_nonneg (Int.emod_nonneg _ (by omega))
  have h2 : (((c % (d : Int)).toNat : Nat) : Int) = c % (d : Int) := Int.toNat_of_nonneg (Int.emod_nonneg _ (by omega))
  have h3 : (((p + (b % (d : Int)).toNat) % d + (c % (d : Int)).toNat : Nat) % d : Int) = p := by
    rw [Int.natCast_add, Int.natCast_emod, Int.natCast_add, h1, h2]
    rw [Int.emod_add_emod, Int.add_emod_emod, Int.add_assoc, Int.add_comm (b % _), ← Int.add_assoc, Int.add_emod_emod, Int.add_assoc, Int.add_comm c b, Int.add_emod, hs, Int.add_zero, Int.emod_emod_of_dvd _ (Int.dvd_refl _)]
    exact Int.emod_eq_of_lt (by omega) (by omega)
  have h4 : ((((p + (b % (d : Int)).toNat) % d + (c % (d : Int)).toNat) % d : Nat) : Int) = p := by rw [Int.natCast_emod]; exact h3
  omega
theorem AD_by (ks : List Nat) (bs cs : List Int) {k : Nat} (hk : k < pk ks) (h : ∀ x, x < (szs ks).length → (gd bs x + gd cs x) % (nd (szs ks) x : Int) = 0) : AD ks (BI ks cs) (AD ks (BI ks bs) k) = k := by
  refine num_eq (AD_lt _ _ _) hk (fun x hx => ?_)
  have h1 : 1 ≤ nd (szs ks) x := szs_pos _ (nd_mem hx)
  rw [nd_AD _ _ _ hx, nd_AD _ _ _ hx, nd_BI _ _ hx, nd_BI _ _ hx, nd_byp _ _ hx, nd_byp _ _ hx]
  exact turn_mod (plcs_lt _ _ _ hx h1) (h x hx)
theorem BI_congr (ks : List Nat) {bs cs : List Int} (h : ∀ x, x < (szs ks).length → gd bs x % (nd (szs ks) x : Int) = gd cs x % (nd (szs ks) x : Int)) : BI ks bs = BI ks cs := by
  refine num_eq (BI_lt _ _) (BI_lt _ _) (fun x hx => ?_)
  rw [nd_BI _ _ hx, nd_BI _ _ hx, nd_byp _ _ hx, nd_byp _ _ hx, h x hx]
/-- the other way round -/
@[irreducible] def ngB (bs : List Int) : List Int := bs.map (fun z => -z)
theorem gd_ngB (bs : List Int) (x : Nat) : gd (ngB bs) x = - gd bs x := by
  unfold ngB
  rw [gd_eq, gd_eq, List.getElem?_map]
  cases bs[x]? with
  | none => rfl
  | some z => rfl
theorem AD_there (ks : List Nat) (bs : List Int) {k : Nat} (hk : k < pk ks) : AD ks (BI ks (ngB bs)) (AD ks (BI ks bs) k) = k :=
  AD_by ks _ _ hk (fun x _ => by rw [gd_ngB, Int.add_right_neg]; simp)
theorem AD_back (ks : List Nat) (bs : List Int) {k : Nat} (hk : k < pk ks) : AD ks (BI ks bs) (AD ks (BI ks (ngB bs)) k) = k :=
  AD_by ks _ _ hk (fun x _ => by rw [gd_ngB, Int.add_left_neg]; simp)
/-- a list turned, its first m numbers -/
@[irreducible] def shL (ks : List Nat) (bs : List Int) (l : List F) (m : Nat) : List F := (List.range (pk ks)).map fun j => if AD ks (BI ks (ngB bs)) j < m then cf l (AD ks (BI ks (ngB bs)) j) else 0
theorem shL_len (ks : List Nat) (bs : List Int) (l : List F) (m : Nat) : (shL ks bs l m).length = pk ks := by unfold shL; simp
theorem cf_shL (ks : List Nat) (bs : List Int) (l : List F) (m : Nat) {p : Nat} (hp : p < pk ks) : cf (shL ks bs l m) p = if AD ks (BI ks (ngB bs)) p < m then cf l (AD ks (BI ks (ngB bs)) p) else 0 := by
  unfold shL; exact cf_ofFn _ hp
theorem shL_zero (ks : List Nat) (bs : List Int) (l : List F) : shL ks bs l 0 = List.replicate (pk ks) 0 := by
  refine ext_cf (by rw [shL_len, List.length_replicate]) (fun p hp => ?_)
  rw [shL_len] at hp
  rw [cf_shL _ _ _ _ hp, cf_replicate, if_neg (by omega)]
theorem shL_step (ks : List Nat) (bs : List Int) (l : List F) {m : Nat} (hm : m < pk ks) : (shL ks bs l m).set (AD ks (BI ks bs) m) (cf l m) = shL ks bs l (m + 1) := by
  have hq := AD_lt ks (BI ks bs) m
  refine ext_cf (by rw [List.length_set, shL_len, shL_len]) (fun p hp => ?_)
  rw [List.length_set, shL_len] at hp
  rw [cf_set _ _ _ _ (by rw [shL_len]; exact hq), cf_shL _ _ _ _ hp, cf_shL _ _ _ _ hp]
  by_cases h : AD ks (BI ks bs) m = p
  · have h2 := AD_there ks bs hm
    rw [h] at h2
    rw [if_pos h, h2, if_pos (by omega)]
  · have h2 : AD ks (BI ks (ngB bs)) p ≠ m := fun e => h (by rw [← e]; exact AD_back ks bs hp)
    rw [if_neg h]
    by_cases h3 : AD ks (BI ks (ngB bs)) p < m
    · rw [if_pos h3, if_pos (by omega)]
    · rw [if_neg h3, if_neg (by omega)]
theorem cf_shL_full (ks : List Nat) (bs : List Int) (l : List F) {p : Nat} (hp : p < pk ks) : cf (shL ks bs l (pk ks)) p = cf l (AD ks (BI ks (ngB bs)) p) := by
  rw [cf_shL _ _ _ _ hp, if_pos (AD_lt _ _ _)]
theorem shL_take (ks : List Nat) (bs : List Int) (l : List F) {m : Nat} (hm : m < pk ks) : (shL ks bs l (pk ks)).take (m + 1) = (shL ks bs l (pk ks)).take m ++ [cf l (AD ks (BI ks (ngB bs)) m)] := by
  rw [List.take_succ_eq_append_getElem (by rw [shL_len]; exact hm), ← cf_lt (by rw [shL_len]; exact hm), cf_shL_full _ _ _ hm]
end Go.Proofs.Ytjljndnpefdifaa.Gm
