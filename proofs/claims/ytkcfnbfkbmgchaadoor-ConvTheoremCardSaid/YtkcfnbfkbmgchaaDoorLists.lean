import Derived.Test.YtkcfnbfkbmgchaaDoorFft
namespace Go.Proofs.YtkcfnbfkbmgchaaDoor.Gm
/-- number i of a list; 0 behind it -/
def cf (l : List F) (i : Nat) : F := l.getD i 0
theorem cf_nil (i : Nat) : cf [] i = 0 := by simp [cf]
theorem cf_ge {l : List F} {i : Nat} (h : l.length ≤ i) : cf l i = 0 := by
  unfold cf; rw [List.getD_eq_getElem?_getD, List.getElem?_eq_none h]; rfl
theorem cf_lt {l : List F} {i : Nat} (h : i < l.length) : cf l i = l[i] := by
  unfold cf; rw [List.getD_eq_getElem?_getD, List.getElem?_eq_getElem h]; rfl
theorem cf_append_lt {l m : List F} {i : Nat} (h : i < l.length) : cf (l ++ m) i = cf l i := by
  unfold cf; rw [List.getD_eq_getElem?_getD, List.getElem?_append_left h, ← List.getD_eq_getElem?_getD]
theorem cf_append_at (l : List F) (x : F) (m : List F) : cf (l ++ x :: m) l.length = x := by
  unfold cf; rw [List.getD_eq_getElem?_getD, List.getElem?_append_right (Nat.le_refl _), Nat.sub_self]; rfl
theorem cf_ofFn {n : Nat} (f : Nat → F) {i : Nat} (h : i < n) : cf ((List.range n).map f) i = f i := by
  rw [cf_lt (by simpa using h)]; simp
theorem cf_take (l : List F) (n i : Nat) (h : i < n) : cf (l.take n) i = cf l i := by
  unfold cf; rw [List.getD_eq_getElem?_getD, List.getElem?_take_of_lt h, ← List.getD_eq_getElem?_getD]
theorem ext_cf {l m : List F} (hl : l.length = m.length) (h : ∀ i, i < l.length → cf l i = cf m i) : l = m := by
  apply List.ext_getElem hl
  intro i h1 h2
  have := h i h1
  rwa [cf_lt h1, cf_lt h2] at this
/-- the list without noughts at its end -/
def strip : List F → List F
  | [] => []
  | x :: r => match strip r with
    | [] => if x = 0 then [] else [x]
    | y :: t => x :: y :: t
theorem strip_nil : strip [] = [] := rfl
theorem cf_strip (l : List F) (i : Nat) : cf (strip l) i = cf l i := by
  induction l generalizing i with
  | nil => rfl
  | cons x r ih =>
    have h1 : ∀ i, cf (x :: r) (i+1) = cf r i := fun i => by simp [cf]
    have h2 : cf (x :: r) 0 = x := by simp [cf]
    unfold strip
    cases hs : strip r with
    | nil =>
      simp only
      have hz : ∀ i, cf r i = 0 := fun i => by rw [← ih i, hs, cf_nil]
      split
      · rename_i h0
        rw [cf_nil]
        cases i with
        | zero => rw [h2, h0]
        | succ i => rw [h1, hz]
      · cases i with
        | zero => rw [h2]; rfl
        | succ i => rw [h1, hz]; simp [cf]
    | cons y t =>
      simp only
      cases i with
      | zero => rw [h2]; rfl
      | succ i => rw [h1, ← ih i, hs]; simp [cf]
theorem strip_last (l : List F) : strip l = [] ∨ cf l ((strip l).length - 1) ≠ 0 := by
  induction l with
  | nil => exact .inl rfl
  | cons x r ih =>
    unfold strip
    cases hs : strip r with
    | nil =>
      simp only
      split
      · exact .inl rfl
      · rename_i h0; right; simpa [cf] using h0
    | cons y t =>
      right
      simp only
      rw [hs] at ih
      rcases ih with h | h
      · cases h
      · simpa [cf] using h
theorem strip_len (l : List F) : (strip l).length ≤ l.length := by
  induction l with
  | nil => exact Nat.le_refl _
  | cons x r ih =>
    unfold strip
    cases hs : strip r with
    | nil => simp only; split <;> simp
    | cons y t => rw [hs] at ih; simpa using ih
/-- a list is told by its numbers, if it is normal -/
theorem strip_eq {l m : List F} (h : ∀ i, cf l i = cf m i) : strip l = strip m := by
  have key : ∀ {l m : List F}, (∀ i, cf l i = cf m i) → (strip l).length ≤ (strip m).length := by
    intro l m h
    rcases strip_last l with h1 | h1
    · rw [h1]; exact Nat.zero_le _
    · apply Classical.byContradiction
      intro hc
      apply h1
      rw [h, ← cf_strip]
      exact cf_ge (by omega)
  apply ext_cf (Nat.le_antisymm (key h) (key (fun i => (h i).symm)))
  intro i _
  rw [cf_strip, cf_strip, h]
theorem strip_strip (l : List F) : strip (strip l) = strip l := strip_eq (fun i => cf_strip l i)
theorem strip_of {l : List F} (h : l = [] ∨ cf l (l.length - 1) ≠ 0) : strip l = l := by
  have h1 := strip_len l
  have h2 : (strip l).length = l.length := by
    rcases h with h | h
    · rw [h]; rfl
    · apply Classical.byContradiction
      intro hc
      apply h
      rw [← cf_strip]
      exact cf_ge (by omega)
  exact ext_cf h2 (fun i _ => cf_strip l i)
theorem strip_take {l : List F} {n : Nat} (hn : n ≤ l.length) (h1 : ∀ i, n ≤ i → i < l.length → cf l i = 0) (h2 : n = 0 ∨ cf l (n - 1) ≠ 0) : strip l = l.take n := by
  have e : strip l = strip (l.take n) := by
    apply strip_eq
    intro i
    by_cases hi : i < n
    · rw [cf_take _ _ _ hi]
    · rw [cf_ge (l := l.take n) (by simp; omega)]
      by_cases hl : i < l.length
      · exact h1 i (by omega) hl
      · exact cf_ge (by omega)
  rw [e]
  apply strip_of
  rcases h2 with h | h
  · left; rw [h]; rfl
  · by_cases h0 : n = 0
    · left; rw [h0]; rfl
    · right
      rw [List.length_take, Nat.min_eq_left hn, cf_take _ _ _ (by omega)]
      exact h
theorem strip_normal {l : List F} (h : strip l = l) : l = [] ∨ cf l (l.length - 1) ≠ 0 := by
  have := strip_last l
  rwa [h] at this
/-- the value of a list -/
def evl (l : List F) (x : F) : F := ev l.length (cf l) x
theorem evl_ge {l : List F} {n : Nat} (h : l.length ≤ n) (x : F) : ev n (cf l) x = evl l x :=
  ev_more h (fun _ hi => cf_ge hi) x
theorem ev_congr {n : Nat} {a b : Nat → F} (h : ∀ i, i < n → a i = b i) (x : F) : ev n a x = ev n b x :=
  S_congr (fun i hi => by rw [h i hi])
theorem evl_strip (l : List F) (x : F) : evl (strip l) x = evl l x := by
  rw [← evl_ge (strip_len l) x]
  exact ev_congr (fun i _ => cf_strip l i) x
theorem evl_eq {l m : List F} (h : ∀ i, cf l i = cf m i) (x : F) : evl l x = evl m x := by
  rw [← evl_strip l, ← evl_strip m, strip_eq h]
/-- the sum, a number each place of the longer one -/
def addL (l m : List F) : List F := (List.range (max l.length m.length)).map (fun i => cf l i + cf m i)
theorem cf_addL (l m : List F) (i : Nat) : cf (addL l m) i = cf l i + cf m i := by
  by_cases h : i < max l.length m.length
  · exact cf_ofFn _ h
  · rw [cf_ge (l := addL l m) (by simp [addL]; omega), cf_ge (l := l) (by omega), cf_ge (l := m) (by omega)]; grind
/-- the product -/
def mulL (l m : List F) : List F := if l = [] ∨ m = [] then [] else (List.range (l.length + m.length - 1)).map (cv (cf l) (cf m))
theorem mulL_len {l m : List F} (hl : l ≠ []) (hm : m ≠ []) : (mulL l m).length = l.length + m.length - 1 := by
  unfold mulL; rw [if_neg (by simp [hl, hm])]; simp
theorem cf_mulL (l m : List F) (i : Nat) : cf (mulL l m) i = cv (cf l) (cf m) i := by
  unfold mulL
  split
  · rename_i h
    rw [cf_nil]
    rcases h with h | h
    · subst h; exact (S_all0 (fun j _ => by rw [cf_nil]; grind)).symm
    · subst h; exact (S_all0 (fun j _ => by rw [cf_nil]; grind)).symm
  · rename_i h
    simp only [not_or] at h
    have h1 := List.length_pos_iff.2 h.1
    have h2 := List.length_pos_iff.2 h.2
    by_cases hi : i < l.length + m.length - 1
    · exact cf_ofFn _ hi
    · rw [cf_ge (by simp; omega)]
      exact (cv_zero (fun _ hi => cf_ge hi) (fun _ hi => cf_ge hi) (by omega)).symm
theorem evl_addL (l m : List F) (x : F) : evl (addL l m) x = evl l x + evl m x := by
  have : (addL l m).length = max l.length m.length := by simp [addL]
  rw [← evl_ge (l := l) (n := max l.length m.length) (by omega), ← evl_ge (l := m) (n := max l.length m.length) (by omega), ← ev_add, ← evl_ge (Nat.le_of_eq this)]
  exact ev_congr (fun i _ => cf_addL l m i) x
theorem evl_mulL (l m : List F) (x : F) : evl (mulL l m) x = evl l x * evl m x := by
  have h : (mulL l m).length ≤ l.length + m.length := by
    unfold mulL; split
    · simp
    · simp
  rw [← evl_ge h, ev_congr (fun i _ => cf_mulL l m i), ev_mul _ _ _ _ (fun _ hi => cf_ge hi) (fun _ hi => cf_ge hi)]
  rfl
theorem cv_last {l m : List F} (hl : l ≠ []) (hm : m ≠ []) : cv (cf l) (cf m) (l.length + m.length - 1 - 1) = cf l (l.length - 1) * cf m (m.length - 1) := by
  have h1 := List.length_pos_iff.2 hl
  have h2 := List.length_pos_iff.2 hm
  unfold cv
  rw [S_single (k := l.length - 1) (by omega) (fun i hi hne => ?_)]
  · congr 2; omega
  · by_cases hc : i < l.length
    · rw [cf_ge (l := m) (by omega)]; grind
    · rw [cf_ge (l := l) (by omega)]; grind
/-- the product of normal ones is normal -/
theorem mulL_normal {l m : List F} (hl : strip l = l) (hm : strip m = m) : strip (mulL l m) = mulL l m := by
  apply strip_of
  by_cases h1 : l = []
  · left; unfold mulL; rw [if_pos (.inl h1)]
  by_cases h2 : m = []
  · left; unfold mulL; rw [if_pos (.inr h2)]
  right
  rw [mulL_len h1 h2, cf_mulL, cv_last h1 h2]
  intro h
  rcases no_zero _ _ h with h | h
  · exact (strip_normal hl).elim h1 (fun k => k h)
  · exact (strip_normal hm).elim h2 (fun k => k h)
theorem cf_mul_comm (l m : List F) (i : Nat) : cf (mulL l m) i = cf (mulL m l) i := by rw [cf_mulL, cf_mulL, cv_comm]
theorem mulL_comm (l m : List F) : mulL l m = mulL m l := by
  by_cases h1 : l = []
  · unfold mulL; rw [if_pos (.inl h1), if_pos (.inr h1)]
  by_cases h2 : m = []
  · unfold mulL; rw [if_pos (.inr h2), if_pos (.inl h2)]
  apply ext_cf
  · rw [mulL_len h1 h2, mulL_len h2 h1]; omega
  · intro i _; exact cf_mul_comm l m i
end Go.Proofs.YtkcfnbfkbmgchaaDoor.Gm
