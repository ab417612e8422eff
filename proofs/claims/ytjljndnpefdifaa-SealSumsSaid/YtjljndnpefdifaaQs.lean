/- Plain: corners and turns of one array: what the law SealSums says. -/
import Derived.Test.YtjljndnpefdifaaCk
namespace Go.Proofs.Ytjljndnpefdifaa.Gm
open Go.RowKit
set_option linter.unusedVariables false
theorem okc_zero : ∀ ks : List Nat, okc ks 0 = true
  | [] => rfl
  | k :: ks => by
    simp only [okc, Nat.zero_div, Nat.zero_mod, okc_zero ks]
    rfl
theorem SG_zero : ∀ (ks : List Nat) (q : Nat), SG ks 0 q = 1
  | [], _ => rfl
  | k :: ks, q => by
    simp only [SG, Nat.zero_div, Nat.zero_mod, SG_zero ks]
    unfold sgn
    simp
    grind
theorem csum_first (ks : List Nat) (l : List F) (hl : l.length = pk ks) : csum ks l 0 (pk ks) = evl l 1 := by
  unfold csum evl ev
  rw [hl]
  exact S_congr (fun q _ => by rw [SG_zero, one_pow])
theorem range_front (m : Nat) : List.range (m + 1) = 0 :: (List.range m).map Nat.succ := List.range_succ_eq_map
theorem crn_cons (ks : List Nat) (l : List F) (m : Nat) : ∃ r, crn ks l (m + 1) = csum ks l 0 (pk ks) :: r := by
  unfold crn
  rw [range_front, List.filter_cons, if_pos (okc_zero ks), List.map_cons]
  exact ⟨_, rfl⟩
theorem crn_first (ks : List Nat) (l : List F) (hl : l.length = pk ks) : 1 ≤ (crn ks l (2 ^ ks.length)).length ∧ cf (crn ks l (2 ^ ks.length)) 0 = evl l 1 := by
  obtain ⟨m, hm⟩ : ∃ m, 2 ^ ks.length = m + 1 := ⟨2 ^ ks.length - 1, by have := Nat.two_pow_pos ks.length; omega⟩
  obtain ⟨r, hr⟩ := crn_cons ks l m
  rw [hm, hr, ← csum_first ks l hl]
  exact ⟨by simp, rfl⟩
/-- turned, a corner's sum is the same or its negative -/
theorem SG_pm : ∀ (ks : List Nat) (c q : Nat), SG ks c q = 1 ∨ SG ks c q = -1
  | [], _, _ => .inl rfl
  | k :: ks, c, q => by
    simp only [SG]
    have h1 : sgn (c / 2 ^ ks.length % 2 == 1) (q / pk ks) = 1 ∨ sgn (c / 2 ^ ks.length % 2 == 1) (q / pk ks) = -1 := by
      unfold sgn; split
      · exact .inr rfl
      · exact .inl rfl
    rcases h1 with h1 | h1 <;> rcases SG_pm ks (c % 2 ^ ks.length) (q % pk ks) with h2 | h2 <;> rw [h1, h2]
    · left; grind
    · right; grind
    · right; grind
    · left; grind
theorem SG_AD : ∀ (ks : List Nat) (c i j : Nat), okc ks c = true → SG ks c (AD ks i j) = SG ks c i * SG ks c j
  | [], _, _, _, _ => by simp only [SG]; grind
  | k :: ks, c, i, j, h => by
    simp only [okc, Bool.and_eq_true] at h
    have h1 := AD_lt ks (i % pk ks) (j % pk ks)
    have ih := SG_AD ks (c % 2 ^ ks.length) (i % pk ks) (j % pk ks) h.2
    simp only [SG, AD]
    rw [blk_div h1, blk_mod h1, ih]
    have e : sgn (c / 2 ^ ks.length % 2 == 1) ((i / pk ks + j / pk ks) % 2 ^ k) = sgn (c / 2 ^ ks.length % 2 == 1) (i / pk ks) * sgn (c / 2 ^ ks.length % 2 == 1) (j / pk ks) := by
      cases hb : (c / 2 ^ ks.length % 2 == 1) with
      | false => unfold sgn; simp; grind
      | true =>
        have hk : k ≠ 0 := by
          intro e
          have := h.1
          rw [hb, e] at this
          simp at this
        obtain ⟨t, rfl⟩ : ∃ j, k = j + 1 := ⟨k - 1, by omega⟩
        have e2 : (i / pk ks + j / pk ks) % 2 ^ (t + 1) % 2 = (i / pk ks + j / pk ks) % 2 := by rw [Nat.pow_succ, Nat.mod_mul_left_mod]
        generalize i / pk ks = x at *
        generalize j / pk ks = y at *
        generalize (x + y) % 2 ^ (t + 1) = z at *
        unfold sgn
        simp only [Bool.true_and, beq_iff_eq]
        rw [e2]
        by_cases h1 : x % 2 = 1 <;> by_cases h2 : y % 2 = 1
        · rw [if_neg (by omega), if_pos h1, if_pos h2]; grind
        · rw [if_pos (by omega), if_pos h1, if_neg h2]; grind
        · rw [if_pos (by omega), if_neg h1, if_pos h2]; grind
        · rw [if_neg (by omega), if_neg h1, if_neg h2]; grind
    rw [e]
    grind
theorem S_turned (ks : List Nat) (bs : List Int) (f : Nat → F) : S (pk ks) (fun q => f (AD ks (BI ks bs) q)) = S (pk ks) f := by
  have h1 : ∀ q, q < pk ks → f (AD ks (BI ks bs) q) = S (pk ks) (fun p => if AD ks (BI ks bs) q = p then f p else 0) := fun q _ => by
    rw [S_single (AD_lt ks (BI ks bs) q) (fun i _ hne => if_neg (fun e => hne e.symm)), if_pos rfl]
  rw [S_congr h1, S_swap]
  refine S_congr (fun p hp => ?_)
  have hq := AD_lt ks (BI ks (ngB bs)) p
  rw [S_single hq (fun i hi hne => if_neg (fun e => hne (by rw [← e]; exact (AD_there ks bs hi).symm))), if_pos (AD_back ks bs hp)]
theorem csum_turned (ks : List Nat) (bs : List Int) (l : List F) (c : Nat) (h : okc ks c = true) : csum ks (shL ks bs l (pk ks)) c (pk ks) = csum ks l c (pk ks) * SG ks c (BI ks bs) := by
  unfold csum
  rw [← S_turned ks bs, ← S_mul_right]
  refine S_congr (fun q hq => ?_)
  rw [cf_shL_full _ _ _ (AD_lt _ _ _), AD_there ks bs hq, SG_AD ks c _ _ h]
  grind
theorem crn_at (ks : List Nat) (l m : List F) (M i : Nat) (hi : i < (crn ks l M).length) : (crn ks m M).length = (crn ks l M).length ∧ ∃ c, okc ks c = true ∧ cf (crn ks l M) i = csum ks l c (pk ks) ∧ cf (crn ks m M) i = csum ks m c (pk ks) := by
  unfold crn at *
  refine ⟨by rw [List.length_map, List.length_map], ?_⟩
  rw [List.length_map] at hi
  refine ⟨((List.range M).filter (okc ks))[i], (List.mem_filter.1 (List.getElem_mem hi)).2, ?_, ?_⟩
  · rw [cf_lt (by rw [List.length_map]; exact hi), List.getElem_map]
  · rw [cf_lt (by rw [List.length_map]; exact hi), List.getElem_map]
theorem crn_same_len (ks : List Nat) (l m : List F) (M : Nat) : (crn ks m M).length = (crn ks l M).length := by
  unfold crn; rw [List.length_map, List.length_map]
theorem crn_pm (ks : List Nat) (bs : List Int) (l : List F) (M i : Nat) (hi : i < (crn ks l M).length) :
    cf (crn ks (shL ks bs l (pk ks)) M) i = cf (crn ks l M) i ∨ cf (crn ks (shL ks bs l (pk ks)) M) i = 0 - cf (crn ks l M) i := by
  obtain ⟨_, c, h, h1, h2⟩ := crn_at ks l (shL ks bs l (pk ks)) M i hi
  rw [h1, h2, csum_turned ks bs l c h]
  rcases SG_pm ks c (BI ks bs) with e | e <;> rw [e]
  · left; grind
  · right; grind
theorem crn_first_turned (ks : List Nat) (bs : List Int) (l : List F) (hl : l.length = pk ks) : cf (crn ks (shL ks bs l (pk ks)) (2 ^ ks.length)) 0 = cf (crn ks l (2 ^ ks.length)) 0 := by
  rw [(crn_first ks _ (shL_len _ _ _ _)).2, (crn_first ks l hl).2, ← csum_first ks _ (shL_len _ _ _ _), ← csum_first ks l hl, csum_turned ks bs l 0 (okc_zero ks), SG_zero]
  grind
/-- the turns back; the turns round once more -/
@[irreducible] def bkT (ds : List Nat) (bs : List Int) (m : Nat) : List Int := (List.range m).map fun x => - (gd bs x % (nd ds x : Int))
@[irreducible] def whT (ds : List Nat) (bs : List Int) (m : Nat) : List Int := (List.range m).map fun x => gd bs x % (nd ds x : Int) + (nd ds x : Int)
theorem bkT_zero (ds : List Nat) (bs : List Int) : bkT ds bs 0 = [] := by unfold bkT; rfl
theorem whT_zero (ds : List Nat) (bs : List Int) : whT ds bs 0 = [] := by unfold whT; rfl
theorem bkT_succ (ds : List Nat) (bs : List Int) (m : Nat) : bkT ds bs (m + 1) = bkT ds bs m ++ [- (gd bs m % (nd ds m : Int))] := by unfold bkT; rw [List.range_succ, List.map_append]; rfl
theorem whT_succ (ds : List Nat) (bs : List Int) (m : Nat) : whT ds bs (m + 1) = whT ds bs m ++ [gd bs m % (nd ds m : Int) + (nd ds m : Int)] := by unfold whT; rw [List.range_succ, List.map_append]; rfl
theorem bkT_len (ds : List Nat) (bs : List Int) (m : Nat) : (bkT ds bs m).length = m := by unfold bkT; simp
theorem whT_len (ds : List Nat) (bs : List Int) (m : Nat) : (whT ds bs m).length = m := by unfold whT; simp
theorem gd_bkT (ds : List Nat) (bs : List Int) {m x : Nat} (h : x < m) : gd (bkT ds bs m) x = - (gd bs x % (nd ds x : Int)) := by unfold bkT; exact gd_range h
theorem gd_whT (ds : List Nat) (bs : List Int) {m x : Nat} (h : x < m) : gd (whT ds bs m) x = gd bs x % (nd ds x : Int) + (nd ds x : Int) := by unfold whT; exact gd_range h
theorem shL_back (ks : List Nat) (bs : List Int) (l : List F) (hl : l.length = pk ks) : shL ks (bkT (szs ks) bs ks.length) (shL ks bs l (pk ks)) (pk ks) = l := by
  refine ext_cf (by rw [shL_len, hl]) (fun p hp => ?_)
  rw [shL_len] at hp
  rw [cf_shL_full _ _ _ hp, cf_shL_full _ _ _ (AD_lt _ _ _)]
  rw [AD_by ks _ _ hp (fun x hx => ?_)]
  rw [szs_len] at hx
  rw [gd_ngB, gd_ngB, gd_bkT _ _ hx, Int.neg_neg]
  rw [Int.add_emod, Int.emod_emod_of_dvd _ (Int.dvd_refl _), ← Int.add_emod, Int.add_right_neg]
  exact Int.zero_emod _
theorem shL_whole (ks : List Nat) (bs : List Int) (l : List F) : shL ks (whT (szs ks) bs ks.length) l (pk ks) = shL ks bs l (pk ks) := by
  have e : BI ks (ngB (whT (szs ks) bs ks.length)) = BI ks (ngB bs) := BI_congr ks (fun x hx => by
    rw [szs_len] at hx
    rw [gd_ngB, gd_ngB, gd_whT _ _ hx]
    have h : (-(gd bs x % (nd (szs ks) x : Int) + (nd (szs ks) x : Int))) % (nd (szs ks) x : Int) = (-(gd bs x)) % (nd (szs ks) x : Int) := by
      rw [Int.neg_add, ← Int.sub_eq_add_neg, Int.sub_emod_right, ← Int.zero_sub, Int.sub_emod, Int.emod_emod_of_dvd _ (Int.dvd_refl _), ← Int.sub_emod, Int.zero_sub]
    exact h)
  refine ext_cf (by rw [shL_len, shL_len]) (fun p hp => ?_)
  rw [shL_len] at hp
  rw [cf_shL_full _ _ _ hp, cf_shL_full _ _ _ hp, e]
theorem corner_lit : (crn [1] ([5, 3].map toF) 2).map vl = [8, 2] := by
  have h0 : okc [1] 0 = true := by decide
  have h1 : okc [1] 1 = true := by decide
  rw [show (2 : Nat) = 0 + 1 + 1 from rfl, crn_yes _ h1, crn_yes _ h0, crn_zero]
  have e0 : csum [1] ([5, 3].map toF) 0 (pk [1]) = toF 8 := by
    unfold csum
    show S (0 + 1 + 1) _ = _
    rw [S_succ, S_succ, S_zero, SG_zero, SG_zero]
    show 0 + toF 5 * 1 + toF 3 * 1 = _
    have : toF 8 = toF 5 + toF 3 := by rw [← toF_add]; rfl
    rw [this]; grind
  have e1 : csum [1] ([5, 3].map toF) (0 + 1) (pk [1]) = toF 2 := by
    unfold csum
    show S (0 + 1 + 1) _ = _
    have s0 : SG [1] (0 + 1) 0 = 1 := by
      show sgn _ _ * 1 = _
      rw [show sgn (((0 + 1) / 2 ^ ([] : List Nat).length % 2 == 1)) (0 / pk []) = 1 by unfold sgn; rw [if_neg (by decide)]]; grind
    have s1 : SG [1] (0 + 1) (0 + 1) = -1 := by
      show sgn _ _ * 1 = _
      rw [show sgn (((0 + 1) / 2 ^ ([] : List Nat).length % 2 == 1)) ((0 + 1) / pk []) = -1 by unfold sgn; rw [if_pos (by decide)]]; grind
    rw [S_succ, S_succ, S_zero, s0, s1]
    show 0 + toF 5 * 1 + toF 3 * (-1) = _
    have : toF 2 = toF 5 - toF 3 := by rw [← toF_sub]; rfl
    rw [this]; grind
  rw [e0, e1]
  show [vl (toF 8), vl (toF 2)] = _
  rw [vl_toF, vl_toF]; rfl
end Go.Proofs.Ytjljndnpefdifaa.Gm
