/- Plain: the butterflies on a list, place by place; bits from the other end. -/
import Derived.Test.YtkcfnbfkbmgchaaDoorPla
import Derived.Test.YtkcfnbfkbmgchaaDoorRd
namespace Go.Proofs.YtkcfnbfkbmgchaaDoor.Gm
@[irreducible] def stL (k : Nat) (w : F) (a : Nat → F) (s : Nat) : List F := (List.range (2 ^ k)).map (stage k w a s)
theorem stL_len (k : Nat) (w : F) (a : Nat → F) (s : Nat) : (stL k w a s).length = 2 ^ k := by unfold stL; simp
theorem stL_last (k : Nat) (w : F) (a : Nat → F) : stL k w a k = (List.range (2 ^ k)).map (dft (2 ^ k) w a) := by
  unfold stL
  exact List.map_congr_left (fun p hp => stage_last k w a p (List.mem_range.1 hp))
/-- blocks below B done, of block B the first j pairs -/
@[irreducible] def miL (k : Nat) (w : F) (a : Nat → F) (s B j : Nat) : List F :=
  (List.range (2 ^ k)).map fun p => if p / (2 * 2 ^ s) < B ∨ (p / (2 * 2 ^ s) = B ∧ p % 2 ^ s < j) then stage k w a (s + 1) p else stage k w a s p
theorem miL_len (k : Nat) (w : F) (a : Nat → F) (s B j : Nat) : (miL k w a s B j).length = 2 ^ k := by unfold miL; simp
theorem cf_miL (k : Nat) (w : F) (a : Nat → F) (s B j : Nat) {p : Nat} (hp : p < 2 ^ k) :
    cf (miL k w a s B j) p = if p / (2 * 2 ^ s) < B ∨ (p / (2 * 2 ^ s) = B ∧ p % 2 ^ s < j) then stage k w a (s + 1) p else stage k w a s p := by
  unfold miL; exact cf_ofFn _ hp
theorem miL_start (k : Nat) (w : F) (a : Nat → F) (s : Nat) : miL k w a s 0 0 = stL k w a s := by
  unfold miL stL
  exact List.map_congr_left (fun p _ => by rw [if_neg (fun h => by rcases h with h | h; exact Nat.not_lt_zero _ h; exact Nat.not_lt_zero _ h.2)])
theorem miL_next (k : Nat) (w : F) (a : Nat → F) (s B : Nat) : miL k w a s B (2 ^ s) = miL k w a s (B + 1) 0 := by
  unfold miL
  refine List.map_congr_left (fun p _ => ?_)
  have h := Nat.mod_lt p (Nat.two_pow_pos s)
  generalize p / (2 * 2 ^ s) = q at *
  generalize p % 2 ^ s = r at *
  by_cases h1 : q < B ∨ (q = B ∧ r < 2 ^ s)
  · rw [if_pos h1, if_pos (by omega)]
  · rw [if_neg h1, if_neg (by omega)]
theorem pow_spl {k s : Nat} (hs : s < k) : 2 ^ k = 2 ^ (k - s - 1) * (2 * 2 ^ s) := by
  rw [Nat.mul_comm 2, ← Nat.pow_succ, ← Nat.pow_add]; congr 1; omega
theorem miL_done (k : Nat) (w : F) (a : Nat → F) {s : Nat} (hs : s < k) : miL k w a s (2 ^ (k - s - 1)) 0 = stL k w a (s + 1) := by
  unfold miL stL
  refine List.map_congr_left (fun p hp => ?_)
  have hp := List.mem_range.1 hp
  rw [if_pos (.inl (Nat.div_lt_of_lt_mul (by rw [Nat.mul_comm, ← pow_spl hs]; exact hp)))]
theorem blkp {h B j p : Nat} (hj : j < h) (hp : p / (2 * h) = B ∧ p % h = j) : p = B * (2 * h) + j ∨ p = B * (2 * h) + h + j := by
  obtain ⟨h1, h2⟩ := hp
  have e1 := Nat.div_add_mod p (2 * h)
  have e2 := Nat.mod_lt p (show 0 < 2 * h by omega)
  have e3 : p % (2 * h) % h = p % h := Nat.mod_mul_left_mod p 2 h
  rw [h1] at e1
  rw [Nat.mul_comm] at e1
  generalize p % (2 * h) = r at *
  rw [h2] at e3
  by_cases hr : r < h
  · rw [Nat.mod_eq_of_lt hr] at e3; left; omega
  · have : r % h = r - h := by rw [Nat.mod_eq_sub_mod (by omega), Nat.mod_eq_of_lt (by omega)]
    right; omega
theorem blk1 {h B j : Nat} (hj : j < h) : (B * (2 * h) + j) / (2 * h) = B ∧ (B * (2 * h) + j) % h = j := by
  constructor
  · rw [Nat.add_comm, Nat.add_mul_div_right _ _ (by omega), Nat.div_eq_of_lt (by omega), Nat.zero_add]
  · rw [show B * (2 * h) + j = j + (B * 2) * h by grind, Nat.add_mul_mod_self_right, Nat.mod_eq_of_lt hj]
theorem blk2 {h B j : Nat} (hj : j < h) : (B * (2 * h) + h + j) / (2 * h) = B ∧ (B * (2 * h) + h + j) % h = j := by
  constructor
  · rw [show B * (2 * h) + h + j = (h + j) + B * (2 * h) by omega, Nat.add_mul_div_right _ _ (by omega), Nat.div_eq_of_lt (by omega), Nat.zero_add]
  · rw [show B * (2 * h) + h + j = j + (B * 2 + 1) * h by grind, Nat.add_mul_mod_self_right, Nat.mod_eq_of_lt hj]
theorem blk_in {k s B j : Nat} (hs : s < k) (hB : B < 2 ^ (k - s - 1)) (hj : j < 2 ^ s) : B * (2 * 2 ^ s) + 2 ^ s + j < 2 ^ k := by
  rw [pow_spl hs]
  have := Nat.mul_le_mul_right (2 * 2 ^ s) (show B + 1 ≤ 2 ^ (k - s - 1) from hB)
  rw [Nat.add_mul, Nat.one_mul] at this
  omega
theorem miL_at1 (k : Nat) (w : F) (a : Nat → F) {s B j : Nat} (hs : s < k) (hB : B < 2 ^ (k - s - 1)) (hj : j < 2 ^ s) : cf (miL k w a s B j) (B * (2 * 2 ^ s) + j) = stage k w a s (B * (2 * 2 ^ s) + j) := by
  have h1 := blk_in hs hB hj
  have h2 := blk1 (B := B) hj
  rw [cf_miL _ _ _ _ _ _ (by omega), h2.1, h2.2, if_neg (by omega)]
theorem miL_at2 (k : Nat) (w : F) (a : Nat → F) {s B j : Nat} (hs : s < k) (hB : B < 2 ^ (k - s - 1)) (hj : j < 2 ^ s) : cf (miL k w a s B j) (B * (2 * 2 ^ s) + j + 2 ^ s) = stage k w a s (B * (2 * 2 ^ s) + 2 ^ s + j) := by
  have h1 := blk_in hs hB hj
  have h2 := blk2 (B := B) hj
  rw [show B * (2 * 2 ^ s) + j + 2 ^ s = B * (2 * 2 ^ s) + 2 ^ s + j by omega, cf_miL _ _ _ _ _ _ h1, h2.1, h2.2, if_neg (by omega)]
theorem miL_step {k : Nat} {w : F} (hw : Rt w k) (a : Nat → F) {s B j : Nat} (hs : s < k) (hB : B < 2 ^ (k - s - 1)) (hj : j < 2 ^ s) :
    (((miL k w a s B j).set (B * (2 * 2 ^ s) + j) (stage k w a s (B * (2 * 2 ^ s) + j) + stage k w a s (B * (2 * 2 ^ s) + 2 ^ s + j) * (w ^ 2 ^ (k - s - 1)) ^ j)).set (B * (2 * 2 ^ s) + j + 2 ^ s)
      (stage k w a s (B * (2 * 2 ^ s) + j) - stage k w a s (B * (2 * 2 ^ s) + 2 ^ s + j) * (w ^ 2 ^ (k - s - 1)) ^ j)) = miL k w a s B (j + 1) := by
  have hin := blk_in hs hB hj
  obtain ⟨st1, st2⟩ := stage_step hw a hs B j hj
  refine ext_cf (by rw [List.length_set, List.length_set, miL_len, miL_len]) (fun p hp => ?_)
  rw [List.length_set, List.length_set, miL_len] at hp
  rw [cf_set _ _ _ _ (by rw [List.length_set, miL_len]; omega), cf_set _ _ _ _ (by rw [miL_len]; omega), cf_miL _ _ _ _ _ _ hp, cf_miL _ _ _ _ _ _ hp]
  have c1 := blk1 (B := B) hj
  have c2 := blk2 (B := B) hj
  by_cases e2 : B * (2 * 2 ^ s) + j + 2 ^ s = p
  · rw [if_pos e2, ← e2, show B * (2 * 2 ^ s) + j + 2 ^ s = B * (2 * 2 ^ s) + 2 ^ s + j by omega, c2.1, c2.2, if_pos (by omega), st2]
    generalize stage k w a s (B * (2 * 2 ^ s) + 2 ^ s + j) = x
    generalize (w ^ 2 ^ (k - s - 1)) ^ j = y
    grind
  · rw [if_neg e2]
    by_cases e1 : B * (2 * 2 ^ s) + j = p
    · rw [if_pos e1, ← e1, c1.1, c1.2, if_pos (by omega), st1]
      generalize stage k w a s (B * (2 * 2 ^ s) + 2 ^ s + j) = x
      generalize (w ^ 2 ^ (k - s - 1)) ^ j = y
      grind
    · rw [if_neg e1]
      have hne : ¬ (p / (2 * 2 ^ s) = B ∧ p % 2 ^ s = j) := fun h => by
        rcases blkp hj h with h | h <;> omega
      generalize p / (2 * 2 ^ s) = q at *
      generalize p % 2 ^ s = r at *
      by_cases h1 : q < B ∨ (q = B ∧ r < j)
      · rw [if_pos h1, if_pos (by omega)]
      · rw [if_neg h1, if_neg (by omega)]
/-- the list put in its order, place by place -/
@[irreducible] def orL (k : Nat) (a : Nat → F) (m : Nat) : List F := (List.range (2 ^ k)).map fun p => if rev k p < m then a (rev k p) else 0
theorem orL_len (k : Nat) (a : Nat → F) (m : Nat) : (orL k a m).length = 2 ^ k := by unfold orL; simp
theorem orL_zero (k : Nat) (a : Nat → F) : orL k a 0 = List.replicate (2 ^ k) 0 := by
  unfold orL
  rw [List.map_congr_left (g := fun _ => (0 : F)) (fun p _ => by rw [if_neg (by omega)])]
  apply List.eq_replicate_iff.2
  exact ⟨by simp, fun x hx => by obtain ⟨_, _, rfl⟩ := List.mem_map.1 hx; rfl⟩
theorem orL_full (k : Nat) (w : F) (a : Nat → F) : orL k a (2 ^ k) = stL k w a 0 := by
  unfold orL stL
  exact List.map_congr_left (fun p _ => by rw [if_pos (rev_lt k p), stage_zero])
theorem orL_step (k : Nat) (a : Nat → F) {m : Nat} (hm : m < 2 ^ k) : (orL k a m).set (rev k m) (a m) = orL k a (m + 1) := by
  refine ext_cf (by rw [List.length_set, orL_len, orL_len]) (fun p hp => ?_)
  rw [List.length_set, orL_len] at hp
  have hr := rev_lt k m
  rw [cf_set _ _ _ _ (by rw [orL_len]; exact hr)]
  have e : ∀ m, cf (orL k a m) p = if rev k p < m then a (rev k p) else 0 := fun m => by unfold orL; exact cf_ofFn _ hp
  rw [e, e]
  by_cases h : rev k m = p
  · rw [if_pos h, ← h, rev_rev k m hm, if_pos (by omega)]
  · have : rev k p ≠ m := fun h2 => h (by rw [← h2]; exact rev_rev k p hp)
    rw [if_neg h]
    by_cases h3 : rev k p < m
    · rw [if_pos h3, if_pos (by omega)]
    · rw [if_neg h3, if_neg (by omega)]
/-- the order itself -/
@[irreducible] def reL (k m : Nat) : List Int := (List.range (2 ^ k)).map fun p => if p < m then (rev k p : Int) else 0
theorem reL_zero (k : Nat) : reL k 0 = List.replicate (2 ^ k) 0 := by
  unfold reL
  rw [List.map_congr_left (g := fun _ => (0 : Int)) (fun p _ => by rw [if_neg (by omega)])]
  apply List.eq_replicate_iff.2
  exact ⟨by simp, fun x hx => by obtain ⟨_, _, rfl⟩ := List.mem_map.1 hx; rfl⟩
theorem reL_len (k m : Nat) : (reL k m).length = 2 ^ k := by unfold reL; simp
theorem gd_reL (k m : Nat) {p : Nat} (hp : p < 2 ^ k) : gd (reL k m) p = if p < m then (rev k p : Int) else 0 := by
  unfold reL
  rw [gd_eq, List.getElem?_map, List.getElem?_range hp]; rfl
theorem reL_step (k m : Nat) : (reL k m).set m (rev k m : Int) = reL k (m + 1) := by
  apply List.ext_getElem?
  intro i
  unfold reL
  rw [List.getElem?_set, List.getElem?_map, List.getElem?_map]
  by_cases h : m = i
  · subst h
    rw [if_pos rfl]
    by_cases hm : m < 2 ^ k
    · rw [if_pos (by simpa using hm), List.getElem?_range hm]
      simp
    · rw [if_neg (by simpa using hm), List.getElem?_eq_none (by simp; omega)]; rfl
  · rw [if_neg h]
    by_cases hi : i < 2 ^ k
    · rw [List.getElem?_range hi]
      simp only [Option.map_some]
      by_cases h2 : i < m
      · rw [if_pos h2, if_pos (by omega)]
      · rw [if_neg h2, if_neg (by omega)]
    · rw [List.getElem?_eq_none (by simp; omega)]; rfl
end Go.Proofs.YtkcfnbfkbmgchaaDoor.Gm
