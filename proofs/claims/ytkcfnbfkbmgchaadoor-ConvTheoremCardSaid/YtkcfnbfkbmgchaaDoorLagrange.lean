import Derived.Test.YtkcfnbfkbmgchaaDoorDivide
namespace Go.Proofs.YtkcfnbfkbmgchaaDoor.Gm
/-- Lagrange's base for place i, behind the first k places -/
def lbase (xs : List F) (i : Nat) : Nat → List F
  | 0 => [1]
  | k+1 => if k = i then lbase xs i k else mulL (lbase xs i k) [0 - cf xs k, 1]
def lunder (xs : List F) (i : Nat) : Nat → F
  | 0 => 1
  | k+1 => if k = i then lunder xs i k else lunder xs i k * (cf xs i - cf xs k)
def lagr (xs ys : List F) : Nat → List F
  | 0 => []
  | i+1 => strip (addL (lagr xs ys i) (mulL (lbase xs i xs.length) [cf ys i * inv (lunder xs i xs.length)]))
theorem lbase_len (xs : List F) (i k : Nat) : (lbase xs i k).length = 1 + k - (if i < k then 1 else 0) := by
  induction k with
  | zero => rfl
  | succ k ih =>
    show (if k = i then lbase xs i k else mulL (lbase xs i k) [0 - cf xs k, 1]).length = _
    by_cases h : k = i
    · rw [if_pos h, ih, if_neg (by omega), if_pos (by omega)]; omega
    · rw [if_neg h, mulL_len (fun e => by rw [e] at ih; simp only [List.length_nil] at ih; split at ih <;> omega) (by simp), ih]
      by_cases h2 : i < k
      · rw [if_pos h2, if_pos (by omega)]; (simp <;> omega)
      · rw [if_neg h2, if_neg (by omega)]; (simp <;> omega)
theorem lbase_zero (xs : List F) (i k m : Nat) (hm : m < k) (hne : m ≠ i) : evl (lbase xs i k) (cf xs m) = 0 := by
  induction k with
  | zero => omega
  | succ k ih =>
    show evl (if k = i then lbase xs i k else mulL (lbase xs i k) [0 - cf xs k, 1]) _ = _
    by_cases h : k = i
    · rw [if_pos h]; exact ih (by omega)
    · rw [if_neg h, evl_mulL, evl_two]
      by_cases h2 : m = k
      · rw [h2]; grind
      · rw [ih (by omega)]; grind
theorem lbase_at (xs : List F) (i k : Nat) : evl (lbase xs i k) (cf xs i) = lunder xs i k := by
  induction k with
  | zero => exact evl_one 1 _
  | succ k ih =>
    show evl (if k = i then lbase xs i k else mulL (lbase xs i k) [0 - cf xs k, 1]) _ = (if k = i then lunder xs i k else lunder xs i k * (cf xs i - cf xs k))
    by_cases h : k = i
    · rw [if_pos h, if_pos h]; exact ih
    · rw [if_neg h, if_neg h, evl_mulL, evl_two, ih]; grind
theorem nodup_cf {xs : List F} (hd : xs.Nodup) {i j : Nat} (hi : i < xs.length) (hj : j < xs.length) (h : cf xs i = cf xs j) : i = j := by
  rw [cf_lt hi, cf_lt hj] at h
  exact (List.getElem_inj hd).1 h
theorem lunder_ne {xs : List F} (hd : xs.Nodup) {i : Nat} (hi : i < xs.length) (k : Nat) (hk : k ≤ xs.length) : lunder xs i k ≠ 0 := by
  induction k with
  | zero => exact one_ne
  | succ k ih =>
    show (if k = i then lunder xs i k else lunder xs i k * (cf xs i - cf xs k)) ≠ 0
    by_cases h : k = i
    · rw [if_pos h]; exact ih (by omega)
    · rw [if_neg h]
      intro e
      rcases no_zero _ _ e with e | e
      · exact ih (by omega) e
      · exact h (nodup_cf hd (by omega) hi (by grind))
theorem lagr_len (xs ys : List F) (i : Nat) (hi : i ≤ xs.length) : (lagr xs ys i).length ≤ xs.length := by
  induction i with
  | zero => exact Nat.zero_le _
  | succ i ih =>
    show (strip (addL (lagr xs ys i) (mulL (lbase xs i xs.length) [_]))).length ≤ _
    refine Nat.le_trans (strip_len _) ?_
    have h1 := lbase_len xs i xs.length
    rw [if_pos (by omega)] at h1
    have h2 := mulL_len (l := lbase xs i xs.length) (m := [cf ys i * inv (lunder xs i xs.length)]) (fun e => by rw [e] at h1; simp at h1; omega) (by simp)
    have h3 := ih (by omega)
    simp only [addL, List.length_map, List.length_range, h2, h1, List.length_singleton]
    omega
theorem lagr_at {xs ys : List F} (hd : xs.Nodup) (i m : Nat) (hi : i ≤ xs.length) (hm : m < xs.length) : evl (lagr xs ys i) (cf xs m) = if m < i then cf ys m else 0 := by
  induction i with
  | zero => rw [if_neg (by omega)]; exact evl_nil _
  | succ i ih =>
    show evl (strip (addL (lagr xs ys i) (mulL (lbase xs i xs.length) [_]))) _ = _
    rw [evl_strip, evl_addL, evl_mulL, evl_one, ih (by omega)]
    by_cases h : m = i
    · subst h
      have h2 := mul_inv _ (lunder_ne hd (i := m) (by omega) xs.length (Nat.le_refl _))
      rw [if_neg (by omega), if_pos (by omega), lbase_at]
      grind
    · rw [lbase_zero xs i xs.length m hm h]
      by_cases h3 : m < i
      · rw [if_pos h3, if_pos (by omega)]; grind
      · rw [if_neg h3, if_neg (by omega)]; grind
theorem lagr_normal (xs ys : List F) (i : Nat) : strip (lagr xs ys i) = lagr xs ys i := by
  cases i with
  | zero => rfl
  | succ i => exact strip_strip _
theorem newton_normal (l : List (F × F)) : strip (newton l).2 = (newton l).2 := by
  cases l with
  | nil => rfl
  | cons p r => obtain ⟨x, y⟩ := p; exact strip_strip _
theorem nodup_rev {l : List F} (h : l.Nodup) : l.reverse.Nodup := by
  rw [List.nodup_iff_pairwise_ne, List.pairwise_reverse]
  exact (List.nodup_iff_pairwise_ne.1 h).imp (fun h e => h e.symm)
/-- Newton's and Lagrange's ways come to one polynomial -/
theorem newton_lagr {xs ys : List F} (hd : xs.Nodup) (hl : xs.length = ys.length) : (newton ((xs.zip ys).reverse)).2 = lagr xs ys xs.length := by
  rw [← newton_normal, ← lagr_normal]
  have hz : ((xs.zip ys).reverse.map Prod.fst) = xs.reverse := by
    rw [List.map_reverse, List.map_fst_zip (by omega)]
  refine strip_through (xs := xs) ?_ (lagr_len xs ys xs.length (Nat.le_refl _)) hd (fun x hx => ?_)
  · refine Nat.le_trans (newton_sum_len _) ?_
    rw [List.length_reverse, List.length_zip]; omega
  · obtain ⟨m, hm, rfl⟩ := List.getElem_of_mem hx
    have h1 := newton_through ((xs.zip ys).reverse) (by rw [hz]; exact nodup_rev hd) (xs[m], ys[m]) (by
      rw [List.mem_reverse]
      have := List.getElem_mem (l := xs.zip ys) (n := m) (by rw [List.length_zip]; omega)
      rwa [List.getElem_zip] at this)
    have h2 := lagr_at (ys := ys) hd xs.length m (Nat.le_refl _) hm
    rw [if_pos hm, cf_lt hm, cf_lt (by omega)] at h2
    rw [h2]; exact h1
end Go.Proofs.YtkcfnbfkbmgchaaDoor.Gm
