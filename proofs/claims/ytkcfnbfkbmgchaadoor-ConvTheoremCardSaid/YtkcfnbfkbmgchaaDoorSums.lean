import Derived.Test.YtkcfnbfkbmgchaaDoorField
namespace Go.Proofs.YtkcfnbfkbmgchaaDoor.Gm
/-- the sum of f at 0 .. n - 1 -/
def S : Nat → (Nat → F) → F
  | 0, _ => 0
  | n+1, f => S n f + f n
theorem S_zero (f : Nat → F) : S 0 f = 0 := rfl
theorem S_succ (n : Nat) (f : Nat → F) : S (n+1) f = S n f + f n := rfl
theorem S_congr {n : Nat} {f g : Nat → F} (h : ∀ i, i < n → f i = g i) : S n f = S n g := by
  induction n with
  | zero => rfl
  | succ n ih => rw [S_succ, S_succ, ih (fun i hi => h i (by omega)), h n (by omega)]
theorem S_const0 (n : Nat) : S n (fun _ => 0) = 0 := by
  induction n with
  | zero => rfl
  | succ n ih => rw [S_succ, ih]; grind
theorem S_all0 {n : Nat} {f : Nat → F} (h : ∀ i, i < n → f i = 0) : S n f = 0 := by
  rw [S_congr (g := fun _ => 0) h, S_const0]
theorem S_add (n : Nat) (f g : Nat → F) : S n (fun i => f i + g i) = S n f + S n g := by
  induction n with
  | zero => rw [S_zero, S_zero, S_zero]; grind
  | succ n ih => rw [S_succ, S_succ, S_succ, ih]; grind
theorem S_sub (n : Nat) (f g : Nat → F) : S n (fun i => f i - g i) = S n f - S n g := by
  induction n with
  | zero => rw [S_zero, S_zero, S_zero]; grind
  | succ n ih => rw [S_succ, S_succ, S_succ, ih]; grind
theorem S_mul_left (n : Nat) (c : F) (f : Nat → F) : S n (fun i => c * f i) = c * S n f := by
  induction n with
  | zero => rw [S_zero, S_zero]; grind
  | succ n ih => rw [S_succ, S_succ, ih]; grind
theorem S_mul_right (n : Nat) (c : F) (f : Nat → F) : S n (fun i => f i * c) = S n f * c := by
  induction n with
  | zero => rw [S_zero, S_zero]; grind
  | succ n ih => rw [S_succ, S_succ, ih]; grind
theorem S_swap (m n : Nat) (f : Nat → Nat → F) : S m (fun i => S n (fun j => f i j)) = S n (fun j => S m (fun i => f i j)) := by
  induction m with
  | zero => rw [S_zero]; exact (S_const0 n).symm
  | succ m ih => rw [S_succ, ih, ← S_add]; exact S_congr (fun j _ => (S_succ m _).symm)
theorem S_split (m n : Nat) (f : Nat → F) : S (m + n) f = S m f + S n (fun i => f (m + i)) := by
  induction n with
  | zero => rw [Nat.add_zero, S_zero]; grind
  | succ n ih => rw [← Nat.add_assoc, S_succ, ih, S_succ]; grind
theorem S_front (n : Nat) (f : Nat → F) : S (n+1) f = f 0 + S n (fun i => f (i+1)) := by
  rw [Nat.add_comm n 1, S_split, S_succ, S_zero]
  rw [S_congr (f := fun i => f (1 + i)) (g := fun i => f (i+1)) (fun i _ => by rw [Nat.add_comm])]
  grind
/-- what lies behind the bound is nothing -/
theorem S_more {m n : Nat} (h : m ≤ n) {f : Nat → F} (hf : ∀ i, m ≤ i → i < n → f i = 0) : S n f = S m f := by
  obtain ⟨d, rfl⟩ := Nat.exists_eq_add_of_le h
  rw [S_split, S_all0 (f := fun i => f (m+i)) (fun i hi => hf (m+i) (by omega) (by omega))]
  grind
theorem S_single {n k : Nat} (h : k < n) {f : Nat → F} (hf : ∀ i, i < n → i ≠ k → f i = 0) : S n f = f k := by
  rw [S_more (m := k+1) (by omega) (fun i h1 h2 => hf i h2 (by omega)), S_succ, S_all0 (fun i hi => hf i (by omega) (by omega))]
  grind
theorem S_rev (n : Nat) (f : Nat → F) : S n (fun i => f (n - 1 - i)) = S n f := by
  induction n with
  | zero => rfl
  | succ n ih =>
    rw [S_front, S_succ]
    rw [S_congr (f := fun i => f (n + 1 - 1 - (i+1))) (g := fun i => f (n - 1 - i)) (fun i hi => by congr 1; omega), ih]
    rw [show n + 1 - 1 - 0 = n by omega]
    grind
/-- a sum over a triangle, two ways -/
theorem S_tri (n : Nat) (f : Nat → Nat → F) : S n (fun k => S (k+1) (fun i => f i (k - i))) = S n (fun i => S (n - i) (fun j => f i j)) := by
  induction n with
  | zero => rfl
  | succ n ih =>
    rw [S_succ, ih, S_succ (n := n) (f := fun i => S (n + 1 - i) (fun j => f i j))]
    have h1 : S n (fun i => S (n + 1 - i) (fun j => f i j)) = S n (fun i => S (n - i) (fun j => f i j)) + S n (fun i => f i (n - i)) := by
      rw [← S_add]
      refine S_congr (fun i hi => ?_)
      rw [show n + 1 - i = (n - i) + 1 by omega, S_succ]
    rw [h1, S_succ (n := n) (f := fun i => f i (n - i)), show n + 1 - n = 0 + 1 by omega, S_succ, S_zero, show n - n = 0 by omega]
    grind
/-- the k-th number of a product -/
def cv (a b : Nat → F) (k : Nat) : F := S (k+1) (fun i => a i * b (k - i))
theorem cv_comm (a b : Nat → F) (k : Nat) : cv a b k = cv b a k := by
  unfold cv
  rw [← S_rev (k+1)]
  refine S_congr (fun i hi => ?_)
  rw [show k + 1 - 1 - i = k - i by omega, show k - (k - i) = i by omega]
  grind
theorem cv_congr {a a' b b' : Nat → F} {k : Nat} (ha : ∀ i, i ≤ k → a i = a' i) (hb : ∀ i, i ≤ k → b i = b' i) : cv a b k = cv a' b' k :=
  S_congr (fun i hi => by rw [ha i (by omega), hb (k - i) (by omega)])
theorem cv_add (a b c : Nat → F) (k : Nat) : cv a (fun i => b i + c i) k = cv a b k + cv a c k := by
  unfold cv
  rw [← S_add]
  exact S_congr (fun i _ => by grind)
theorem cv_smul (a b : Nat → F) (c : F) (k : Nat) : cv a (fun i => c * b i) k = c * cv a b k := by
  unfold cv
  rw [← S_mul_left]
  exact S_congr (fun i _ => by grind)
theorem cv_assoc (a b c : Nat → F) (k : Nat) : cv (cv a b) c k = cv a (cv b c) k := by
  have e1 : cv (cv a b) c k = S (k+1) (fun m => S (m+1) (fun i => a i * b (m - i) * c (k - m))) := by
    unfold cv
    refine S_congr (fun m hm => ?_)
    rw [← S_mul_right]
  have e2 : cv a (cv b c) k = S (k+1) (fun i => S (k+1-i) (fun j => a i * b j * c (k - (i + j)))) := by
    unfold cv
    refine S_congr (fun i hi => ?_)
    rw [← S_mul_left, show k + 1 - i = k - i + 1 by omega]
    refine S_congr (fun j hj => ?_)
    rw [show k - i - j = k - (i + j) by omega]
    grind
  rw [e1, e2, ← S_tri]
  refine S_congr (fun m hm => S_congr (fun i hi => ?_))
  rw [show i + (m - i) = m by omega]
/-- the value at x of the first n numbers -/
def ev (n : Nat) (a : Nat → F) (x : F) : F := S n (fun i => a i * x ^ i)
theorem ev_more {m n : Nat} (h : m ≤ n) {a : Nat → F} (ha : ∀ i, m ≤ i → a i = 0) (x : F) : ev n a x = ev m a x :=
  S_more h (fun i h1 _ => by rw [ha i h1]; grind)
theorem ev_add (n : Nat) (a b : Nat → F) (x : F) : ev n (fun i => a i + b i) x = ev n a x + ev n b x := by
  unfold ev; rw [← S_add]; exact S_congr (fun i _ => by grind)
theorem ev_smul (n : Nat) (a : Nat → F) (c x : F) : ev n (fun i => c * a i) x = c * ev n a x := by
  unfold ev; rw [← S_mul_left]; exact S_congr (fun i _ => by grind)
/-- the value of a product is the product of values -/
theorem ev_mul (m n : Nat) (a b : Nat → F) (ha : ∀ i, m ≤ i → a i = 0) (hb : ∀ i, n ≤ i → b i = 0) (x : F) : ev (m + n) (cv a b) x = ev m a x * ev n b x := by
  have e1 : ev (m + n) (cv a b) x = S (m+n) (fun k => S (k+1) (fun i => (a i * x ^ i) * (b (k-i) * x ^ (k - i)))) := by
    unfold ev cv
    refine S_congr (fun k hk => ?_)
    rw [← S_mul_right]
    refine S_congr (fun i hi => ?_)
    have : x ^ k = x ^ i * x ^ (k - i) := by rw [← pow_add]; congr 1; omega
    rw [this]; grind
  rw [e1, S_tri (m+n) (fun i j => (a i * x ^ i) * (b j * x ^ j))]
  rw [S_more (m := m) (by omega) (fun i h1 h2 => S_all0 (fun j _ => by rw [ha i h1]; grind))]
  unfold ev
  rw [← S_mul_right]
  refine S_congr (fun i hi => ?_)
  rw [← S_mul_left]
  exact S_more (by omega) (fun j h1 h2 => by rw [hb j h1]; grind)
theorem cv_zero {m n : Nat} {a b : Nat → F} (ha : ∀ i, m ≤ i → a i = 0) (hb : ∀ i, n ≤ i → b i = 0) {k : Nat} (h : m + n ≤ k + 1) : cv a b k = 0 := by
  refine S_all0 (fun i hi => ?_)
  by_cases h1 : m ≤ i
  · rw [ha i h1]; grind
  · rw [hb (k - i) (by omega)]; grind
end Go.Proofs.YtkcfnbfkbmgchaaDoor.Gm
