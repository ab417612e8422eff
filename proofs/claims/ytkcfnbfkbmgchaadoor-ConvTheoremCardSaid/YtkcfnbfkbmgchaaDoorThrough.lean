import Derived.Test.YtkcfnbfkbmgchaaDoorLists
namespace Go.Proofs.YtkcfnbfkbmgchaaDoor.Gm
/-- a polynomial with a place of value 0, divided by the power 1 less that place -/
def quo (a : Nat → F) (r : F) (n i : Nat) : F := S (n - i) (fun j => a (i + 1 + j) * r ^ j)
theorem quo_step (a : Nat → F) (r : F) {n i : Nat} (h : i < n) : quo a r n i = a (i+1) + r * quo a r n (i+1) := by
  unfold quo
  rw [show n - i = (n - (i+1)) + 1 by omega, S_front, ← S_mul_left]
  congr 1
  · rw [pow_zero, Nat.add_zero]; grind
  · refine S_congr (fun j _ => ?_)
    rw [pow_succ, show i + 1 + (j + 1) = i + 1 + 1 + j by omega]; grind
theorem quo_end (a : Nat → F) (r : F) (n : Nat) : quo a r n n = 0 := by
  unfold quo; rw [Nat.sub_self, S_zero]
theorem ev_quo (a : Nat → F) (r x : F) (n : Nat) : ev (n+1) a x = ev (n+1) a r + (x - r) * ev n (quo a r n) x := by
  -- a i = q (i-1) - r q i
  have h0 : ev (n+1) a r = a 0 + r * quo a r n 0 := by
    unfold ev; rw [S_front]; unfold quo; rw [← S_mul_left, Nat.sub_zero]
    congr 1
    · rw [pow_zero]; grind
    · exact S_congr (fun j _ => by rw [pow_succ, show 0 + 1 + j = j + 1 by omega]; grind)
  have h1 : ev (n+1) a x = a 0 + S n (fun i => a (i+1) * x ^ (i+1)) := by
    unfold ev; rw [S_front, pow_zero]; grind
  have h2 : S n (fun i => a (i+1) * x ^ (i+1)) = S n (fun i => x * (quo a r n i * x ^ i) - r * (quo a r n (i+1) * x ^ (i+1))) :=
    S_congr (fun i hi => by rw [quo_step a r hi, pow_succ]; grind)
  have h3 : S n (fun i => quo a r n (i+1) * x ^ (i+1)) = ev n (quo a r n) x - quo a r n 0 := by
    have : S (n+1) (fun i => quo a r n i * x ^ i) = ev n (quo a r n) x := by
      rw [S_succ, quo_end]; unfold ev; grind
    rw [← this, S_front, pow_zero]; grind
  rw [h1, h2, S_sub, S_mul_left, S_mul_left, h3, h0]
  unfold ev
  grind
/-- a polynomial with as many places of value 0 as it has numbers is 0 -/
theorem roots_zero (n : Nat) : ∀ (a : Nat → F) (xs : List F), xs.length = n → xs.Nodup → (∀ x, x ∈ xs → ev n a x = 0) → ∀ i, i < n → a i = 0 := by
  induction n with
  | zero => intro a xs _ _ _ i hi; omega
  | succ n ih =>
    intro a xs hl hd hz i hi
    cases xs with
    | nil => simp at hl
    | cons r rs =>
      rw [List.nodup_cons] at hd
      have hr : ev (n+1) a r = 0 := hz r (by simp)
      have hq : ∀ i, i < n → quo a r n i = 0 := by
        refine ih (quo a r n) rs (by simpa using hl) hd.2 (fun x hx => ?_)
        have h1 := ev_quo a r x n
        rw [hz x (by simp [hx]), hr] at h1
        have h2 : (x - r) * ev n (quo a r n) x = 0 := by grind
        rcases no_zero _ _ h2 with h3 | h3
        · exact absurd hx (by have : x = r := by grind
                              rw [this]; exact hd.1)
        · exact h3
      have hq' : ∀ i, i ≤ n → quo a r n i = 0 := fun i hi => by
        by_cases h : i = n
        · rw [h, quo_end]
        · exact hq i (by omega)
      cases i with
      | zero =>
        have h0 : ev (n+1) a r = a 0 + r * quo a r n 0 := by
          unfold ev; rw [S_front]; unfold quo; rw [← S_mul_left, Nat.sub_zero]
          congr 1
          · rw [pow_zero]; grind
          · exact S_congr (fun j _ => by rw [pow_succ, show 0 + 1 + j = j + 1 by omega]; grind)
        rw [hr, hq' 0 (by omega)] at h0
        grind
      | succ i =>
        have := quo_step a r (n := n) (i := i) (by omega)
        rw [hq' i (by omega), hq' (i+1) (by omega)] at this
        grind
/-- two normal lists with one value at so many places are one -/
theorem unique_through {l m xs : List F} (hl : l.length ≤ xs.length) (hm : m.length ≤ xs.length) (hd : xs.Nodup) (h : ∀ x, x ∈ xs → evl l x = evl m x) (i : Nat) : cf l i = cf m i := by
  by_cases hi : i < xs.length
  · have := roots_zero xs.length (fun i => cf l i - cf m i) xs rfl hd (fun x hx => by
      have e : ev xs.length (fun i => cf l i - cf m i) x = evl l x - evl m x := by
        rw [← evl_ge hl, ← evl_ge hm]
        unfold ev; rw [← S_sub]; exact S_congr (fun i _ => by grind)
      rw [e, h x hx]; grind) i hi
    grind
  · rw [cf_ge (by omega), cf_ge (by omega)]
theorem strip_through {l m xs : List F} (hl : l.length ≤ xs.length) (hm : m.length ≤ xs.length) (hd : xs.Nodup) (h : ∀ x, x ∈ xs → evl l x = evl m x) : strip l = strip m :=
  strip_eq (unique_through hl hm hd h)
theorem evl_nil (x : F) : evl [] x = 0 := rfl
theorem evl_one (c x : F) : evl [c] x = c := by
  unfold evl ev; show S (0+1) _ = _
  rw [S_succ, S_zero, pow_zero]; simp only [cf]; show 0 + c * 1 = c; grind
theorem evl_two (c d x : F) : evl [c, d] x = c + d * x := by
  unfold evl ev; show S (0+1+1) _ = _
  rw [S_succ, S_succ, S_zero, pow_succ, pow_zero]; simp only [cf]; show 0 + c * 1 + d * (1 * x) = _; grind
/-- Newton's way: base and sum behind so many points -/
def newton : List (F × F) → List F × List F
  | [] => ([1], [])
  | (x, y) :: r =>
    let q := newton r
    (mulL q.1 [0 - x, 1], strip (addL q.2 (mulL q.1 [(y - evl q.2 x) * inv (evl q.1 x)])))
theorem newton_base_len (l : List (F × F)) : (newton l).1.length = l.length + 1 := by
  induction l with
  | nil => rfl
  | cons p r ih =>
    obtain ⟨x, y⟩ := p
    show (mulL (newton r).1 [0 - x, 1]).length = _
    rw [mulL_len (by intro h; rw [h] at ih; simp at ih) (by simp), ih]
    simp
theorem newton_sum_len (l : List (F × F)) : (newton l).2.length ≤ l.length := by
  induction l with
  | nil => exact Nat.le_refl _
  | cons p r ih =>
    obtain ⟨x, y⟩ := p
    show (strip (addL (newton r).2 (mulL (newton r).1 [_]))).length ≤ _
    refine Nat.le_trans (strip_len _) ?_
    have h1 := newton_base_len r
    have h2 : (mulL (newton r).1 [(y - evl (newton r).2 x) * inv (evl (newton r).1 x)]).length = r.length + 1 := by
      rw [mulL_len (by intro h; rw [h] at h1; simp at h1) (by simp), h1]; simp
    simp only [addL, List.length_map, List.length_range, List.length_cons]
    omega
theorem newton_base (l : List (F × F)) (x : F) : evl (newton l).1 x = 0 ↔ x ∈ l.map Prod.fst := by
  induction l with
  | nil => show evl [1] x = 0 ↔ _
           rw [evl_one]; simp only [List.map_nil, List.not_mem_nil, iff_false]; exact one_ne
  | cons p r ih =>
    obtain ⟨a, b⟩ := p
    show evl (mulL (newton r).1 [0 - a, 1]) x = 0 ↔ _
    rw [evl_mulL, evl_two, List.map_cons, List.mem_cons, ← ih]
    constructor
    · intro h
      rcases no_zero _ _ h with h | h
      · exact .inr h
      · left; show x = a; grind
    · intro h
      rcases h with h | h
      · have : x = a := h
        rw [this]; grind
      · rw [h]; grind
/-- Newton's sum goes through all points, if no two places are the same -/
theorem newton_through (l : List (F × F)) (hd : (l.map Prod.fst).Nodup) : ∀ p, p ∈ l → evl (newton l).2 p.1 = p.2 := by
  induction l with
  | nil => intro p hp; simp at hp
  | cons q r ih =>
    obtain ⟨a, b⟩ := q
    rw [List.map_cons, List.nodup_cons] at hd
    intro p hp
    show evl (strip (addL (newton r).2 (mulL (newton r).1 [(b - evl (newton r).2 a) * inv (evl (newton r).1 a)]))) p.1 = p.2
    rw [evl_strip, evl_addL, evl_mulL, evl_one]
    rcases List.mem_cons.1 hp with h | h
    · subst h
      have h1 : evl (newton r).1 a ≠ 0 := fun h => hd.1 ((newton_base r a).1 h)
      have h2 := mul_inv _ h1
      show evl (newton r).2 a + evl (newton r).1 a * ((b - evl (newton r).2 a) * inv (evl (newton r).1 a)) = b
      grind
    · have h1 : evl (newton r).1 p.1 = 0 := (newton_base r p.1).2 (List.mem_map.2 ⟨p, h, rfl⟩)
      rw [ih hd.2 p h, h1]; grind
end Go.Proofs.YtkcfnbfkbmgchaaDoor.Gm
