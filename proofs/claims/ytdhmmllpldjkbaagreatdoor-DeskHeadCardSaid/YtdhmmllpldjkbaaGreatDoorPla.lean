/- The plain mathematics: the field, sums, roots of one, transforms, lists, arrays with axes, products. (Laid together out of the texts in wip/plain.) -/
namespace Go.Proofs.YtdhmmllpldjkbaaGreatDoor.Gm
@[irreducible] def PN : Nat := 18446744069414584321
theorem PN_eq : PN = 18446744069414584321 := by unfold PN; rfl
theorem PN_pos : 0 < PN := by rw [PN_eq]; omega
instance : NeZero PN := ⟨by have := PN_pos; omega⟩
abbrev F := Fin PN
theorem pow_zero (x : F) : x ^ 0 = 1 := by grind
theorem pow_succ (x : F) (n : Nat) : x ^ (n+1) = x ^ n * x := by grind
theorem pow_add (x : F) (m n : Nat) : x ^ (m+n) = x ^ m * x ^ n := by grind
theorem one_pow (n : Nat) : (1:F) ^ n = 1 := by
  induction n with
  | zero => grind
  | succ n ih => rw [pow_succ, ih]; grind
theorem pow_mul (x : F) (m n : Nat) : x ^ (m*n) = (x ^ m) ^ n := by
  induction n with
  | zero => rw [Nat.mul_zero, pow_zero, pow_zero]
  | succ n ih => rw [Nat.mul_succ, pow_add, ih, pow_succ]
theorem val_one : (1:F).val = 1 := by
  show 1 % PN = 1
  rw [PN_eq]
theorem val_zero : (0:F).val = 0 := by
  show 0 % PN = 0
  rw [PN_eq]
theorem val_seven : (7:F).val = 7 := by
  show 7 % PN = 7
  rw [PN_eq]
theorem val_pow (x : F) (n : Nat) : (x ^ n).val = x.val ^ n % PN := by
  induction n with
  | zero => rw [pow_zero, val_one, Nat.pow_zero, PN_eq]
  | succ n ih => rw [pow_succ, Fin.val_mul, ih, Nat.pow_succ, Nat.mod_mul_mod]
/-- quick powers on numbers, for closed facts -/
def qpow (m : Nat) : Nat → Nat → Nat → Nat → Nat
  | 0, _, _, acc => acc
  | f+1, b, n, acc => qpow m f (b * b % m) (n / 2) (if n % 2 = 1 then acc * b % m else acc)
theorem qpow_eq (f : Nat) : ∀ (b n acc : Nat), n < 2 ^ f → acc < PN → qpow PN f b n acc = acc * b ^ n % PN := by
  induction f with
  | zero => intro b n acc h ha; have : n = 0 := by simpa using h
            subst this; simp only [qpow]; rw [Nat.pow_zero, Nat.mul_one, Nat.mod_eq_of_lt ha]
  | succ f ih =>
    intro b n acc h ha
    have hn : n / 2 < 2 ^ f := by rw [Nat.pow_succ] at h; omega
    have e : b ^ n = (b * b) ^ (n / 2) * b ^ (n % 2) := by
      rw [← Nat.pow_two, ← Nat.pow_mul, ← Nat.pow_add]; congr 1; omega
    simp only [qpow]
    split
    · rename_i h1
      rw [ih _ _ _ hn (Nat.mod_lt _ PN_pos), e, h1, Nat.pow_one, Nat.mul_mod, ← Nat.pow_mod, ← Nat.mul_mod, Nat.mod_mul_mod]
      congr 1
      rw [Nat.mul_assoc, Nat.mul_comm b]
    · rename_i h1
      have h0 : n % 2 = 0 := by omega
      rw [ih _ _ _ hn ha, e, h0, Nat.pow_zero, Nat.mul_one, Nat.mul_mod, ← Nat.pow_mod, ← Nat.mul_mod]
theorem seven_pow (n : Nat) (h : n < 2 ^ 64) : ((7:F) ^ n).val = qpow PN 64 7 n 1 := by
  rw [val_pow, val_seven, qpow_eq 64 7 n 1 h (by rw [PN_eq]; omega), Nat.one_mul]
theorem seven_full : (7:F) ^ (18446744069414584320:Nat) = 1 := by
  apply Fin.ext
  rw [seven_pow _ (by omega), val_one, PN_eq]
  decide +kernel
theorem seven_part (n : Nat) (h : n < 2 ^ 64) (hq : (qpow 18446744069414584321 64 7 n 1 == 1) = false) : (7:F) ^ n ≠ 1 := by
  intro e
  have := congrArg Fin.val e
  rw [seven_pow _ h, val_one, PN_eq] at this
  rw [this] at hq
  cases hq
theorem cop_of (m q : Nat) (hq : ∀ d, d ∣ q → d = 1 ∨ d = q) (h : ¬ q ∣ m) : Nat.Coprime m q := by
  rcases hq (Nat.gcd m q) (Nat.gcd_dvd_right _ _) with h1 | h1
  · exact h1
  · exact absurd (h1 ▸ Nat.gcd_dvd_left m q) h
theorem prime_small (q : Nat) (hq : 1 < q) (h : ∀ k, k < 258 → 1 < k → k < q → q % k ≠ 0) (hb : q < 258 * 258) : ∀ d, d ∣ q → d = 1 ∨ d = q := by
  intro d ⟨e, he⟩
  have hd0 : 0 < d := by rcases Nat.eq_zero_or_pos d with h0 | h0; · subst h0; omega
                         · exact h0
  have he0 : 0 < e := by rcases Nat.eq_zero_or_pos e with h0 | h0; · subst h0; omega
                         · exact h0
  by_cases h1 : d = 1
  · exact .inl h1
  by_cases h2 : e = 1
  · subst h2; right; omega
  exfalso
  by_cases h3 : d < 258
  · have : d < q := by rw [he]; exact Nat.lt_mul_iff_one_lt_right hd0 |>.2 (by omega)
    exact h d h3 (by omega) this (by rw [he]; exact Nat.mul_mod_right d e)
  · by_cases h4 : e < 258
    · have : e < q := by rw [he]; exact Nat.lt_mul_iff_one_lt_left he0 |>.2 (by omega)
      exact h e h4 (by omega) this (by rw [he]; exact Nat.mul_mod_left d e)
    · have := Nat.mul_le_mul (Nat.le_of_not_lt h3) (Nat.le_of_not_lt h4)
      omega
theorem p2 : ∀ d, d ∣ 2 → d = 1 ∨ d = 2 := prime_small 2 (by omega) (by intro k; omega) (by omega)
theorem p3 : ∀ d, d ∣ 3 → d = 1 ∨ d = 3 := prime_small 3 (by omega) (by decide +kernel) (by omega)
theorem p5 : ∀ d, d ∣ 5 → d = 1 ∨ d = 5 := prime_small 5 (by omega) (by decide +kernel) (by omega)
theorem p17 : ∀ d, d ∣ 17 → d = 1 ∨ d = 17 := prime_small 17 (by omega) (by decide +kernel) (by omega)
theorem p257 : ∀ d, d ∣ 257 → d = 1 ∨ d = 257 := prime_small 257 (by omega) (by decide +kernel) (by omega)
theorem p65537 : ∀ d, d ∣ 65537 → d = 1 ∨ d = 65537 := prime_small 65537 (by omega) (by decide +kernel) (by omega)
def NN : Nat := 18446744069414584320
theorem NN_fac : NN = 2 ^ 32 * 3 * 5 * 17 * 257 * 65537 := by decide +kernel
/-- a divisor of P - 1 other than 1 has a known prime part -/
theorem has_part (m : Nat) (h : m ∣ NN) (h1 : m ≠ 1) : 2 ∣ m ∨ 3 ∣ m ∨ 5 ∣ m ∨ 17 ∣ m ∨ 257 ∣ m ∨ 65537 ∣ m := by
  apply Classical.byContradiction
  intro hc
  simp only [not_or] at hc
  obtain ⟨a, b, c, d, e, f⟩ := hc
  have hco : Nat.Coprime m NN := by
    rw [NN_fac]
    exact ((((((cop_of m 2 p2 a).pow_right 32).mul_right (cop_of m 3 p3 b)).mul_right (cop_of m 5 p5 c)).mul_right (cop_of m 17 p17 d)).mul_right (cop_of m 257 p257 e)).mul_right (cop_of m 65537 p65537 f)
  have hg : Nat.gcd m NN = m := Nat.gcd_eq_left h
  exact h1 (hg ▸ hco)
theorem one_mul' (a : F) : 1 * a = a := by grind
theorem pow_gcd (i : Nat) : ∀ j, (7:F) ^ i = 1 → (7:F) ^ j = 1 → (7:F) ^ (Nat.gcd i j) = 1 := by
  induction i using Nat.strongRecOn with
  | _ i ih =>
    intro j hi hj
    by_cases h0 : i = 0
    · subst h0; rw [Nat.gcd_zero_left]; exact hj
    · rw [Nat.gcd_rec]
      refine ih (j % i) (Nat.mod_lt _ (by omega)) i ?_ hi
      have e : (7:F) ^ j = (7:F) ^ (i * (j / i)) * (7:F) ^ (j % i) := by rw [← pow_add]; congr 1; exact (Nat.div_add_mod j i).symm
      rw [pow_mul, hi, one_pow, hj, one_mul'] at e
      exact e.symm
theorem pow_of_dvd (a b : Nat) (h : a ∣ b) (e : (7:F) ^ a = 1) : (7:F) ^ b = 1 := by
  obtain ⟨c, rfl⟩ := h
  rw [pow_mul, e, one_pow]
theorem order_seven (i : Nat) (h : (7:F) ^ i = 1) : NN ∣ i := by
  have hg := pow_gcd i NN h seven_full
  have hd : Nat.gcd i NN ∣ NN := Nat.gcd_dvd_right _ _
  obtain ⟨m, hm⟩ := hd
  by_cases h1 : m = 1
  · subst h1
    rw [Nat.mul_one] at hm
    rw [hm]; exact Nat.gcd_dvd_left _ _
  exfalso
  have hmd : m ∣ NN := ⟨_, hm.trans (Nat.mul_comm _ _)⟩
  have key : ∀ q c, NN = q * c → q ∣ m → 0 < q → (7:F) ^ c = 1 := by
    intro q c hq ⟨t, ht⟩ h0
    apply pow_of_dvd _ _ _ hg
    refine ⟨t, ?_⟩
    apply Nat.eq_of_mul_eq_mul_left h0
    rw [← hq]
    exact hm.trans (by rw [ht]; exact Nat.mul_left_comm _ _ _)
  rcases has_part m hmd h1 with h | h | h | h | h | h
  · exact seven_part 9223372034707292160 (by omega) (by decide +kernel) (key 2 _ (by decide +kernel) h (by omega))
  · exact seven_part 6148914689804861440 (by omega) (by decide +kernel) (key 3 _ (by decide +kernel) h (by omega))
  · exact seven_part 3689348813882916864 (by omega) (by decide +kernel) (key 5 _ (by decide +kernel) h (by omega))
  · exact seven_part 1085102592318504960 (by omega) (by decide +kernel) (key 17 _ (by decide +kernel) h (by omega))
  · exact seven_part 71777214277877760 (by omega) (by decide +kernel) (key 257 _ (by decide +kernel) h (by omega))
  · exact seven_part 281470681743360 (by omega) (by decide +kernel) (key 65537 _ (by decide +kernel) h (by omega))

theorem seven_cancel (i : Nat) (h : i ≤ NN) : (7:F) ^ i * (7:F) ^ (NN - i) = 1 := by
  rw [← pow_add, show i + (NN - i) = NN from by omega]; exact seven_full
theorem one_ne : (1:F) ≠ 0 := by
  intro h
  have := congrArg Fin.val h
  rw [val_one, val_zero] at this
  omega
theorem seven_ne (i : Nat) (h : i ≤ NN) : (7:F) ^ i ≠ 0 := by
  intro e
  have h1 := seven_cancel i h
  rw [e] at h1
  exact one_ne (by grind)
theorem seven_inj (i j : Nat) (hij : i < j) (hj : j < NN) : (7:F) ^ i ≠ (7:F) ^ j := by
  intro e
  have h1 := seven_cancel i (by omega)
  have h2 : (7:F) ^ j = (7:F) ^ i * (7:F) ^ (j - i) := by rw [← pow_add]; congr 1; omega
  have h3 : (7:F) ^ (j - i) = 1 := by grind
  have h4 := Nat.le_of_dvd (by omega) (order_seven _ h3)
  omega
theorem NN_PN : NN + 1 = PN := by rw [PN_eq]; rfl
/-- each number but 0 is a power of 7 -/
theorem is_power_of (N : Nat) (hN : N + 1 = PN) (ne : ∀ i, i ≤ N → (7:F) ^ i ≠ 0) (inj : ∀ i j, i < j → j < N → (7:F) ^ i ≠ (7:F) ^ j) (x : F) (hx : x ≠ 0) : ∃ i, i < N ∧ x = (7:F) ^ i := by
  apply Classical.byContradiction
  intro hc
  simp only [not_exists, not_and] at hc
  have hl : ((List.range N).map (fun i => (7:F) ^ i)).Nodup := by
    rw [List.nodup_iff_pairwise_ne, List.pairwise_map]
    refine List.Pairwise.imp_of_mem ?_ List.pairwise_lt_range
    intro i j hi hj hlt
    exact inj i j hlt (List.mem_range.1 hj)
  have hn : (x :: 0 :: (List.range N).map (fun i => (7:F) ^ i)).Nodup := by
    rw [List.nodup_cons, List.nodup_cons]
    refine ⟨?_, ?_, hl⟩
    · intro hm
      rcases List.mem_cons.1 hm with h | h
      · exact hx h
      · obtain ⟨i, hi, rfl⟩ := List.mem_map.1 h
        exact hc i (List.mem_range.1 hi) rfl
    · intro hm
      obtain ⟨i, hi, h0⟩ := List.mem_map.1 hm
      exact ne i (by have := List.mem_range.1 hi; omega) h0
  have := hn.length_le_of_subset (l₂ := List.finRange PN) (fun y _ => List.mem_finRange y)
  rw [List.length_cons, List.length_cons, List.length_map, List.length_range, List.length_finRange, ← hN] at this
  omega
theorem is_power (x : F) (hx : x ≠ 0) : ∃ i, i < NN ∧ x = (7:F) ^ i :=
  is_power_of NN NN_PN seven_ne seven_inj x hx
theorem fermat (x : F) (hx : x ≠ 0) : x ^ NN = 1 := by
  obtain ⟨i, _, rfl⟩ := is_power x hx
  rw [← pow_mul, Nat.mul_comm, pow_mul, show (7:F) ^ NN = 1 from seven_full, one_pow]
@[irreducible] def inv (x : F) : F := x ^ (18446744069414584319 : Nat)
theorem mul_inv (x : F) (hx : x ≠ 0) : x * inv x = 1 := by
  have h := fermat x hx
  rw [show NN = 18446744069414584319 + 1 from rfl, pow_succ] at h
  unfold inv
  grind
theorem no_zero (x y : F) (h : x * y = 0) : x = 0 ∨ y = 0 := by
  by_cases hx : x = 0
  · exact .inl hx
  · right
    have := mul_inv x hx
    grind
theorem inv_unique (x y : F) (h : x * y = 1) : y = inv x := by
  have hx : x ≠ 0 := by intro e; rw [e] at h; exact one_ne (by grind)
  have := mul_inv x hx
  grind
theorem pow_PN (x : F) : x ^ (18446744069414584321 : Nat) = x := by
  by_cases hx : x = 0
  · rw [hx, show (18446744069414584321 : Nat) = 18446744069414584320 + 1 from rfl, pow_succ]; grind
  · have h := fermat x hx
    rw [show (18446744069414584321 : Nat) = NN + 1 from rfl, pow_succ, h]; grind
end Go.Proofs.YtdhmmllpldjkbaaGreatDoor.Gm
namespace Go.Proofs.YtdhmmllpldjkbaaGreatDoor.Gm
/-- the sum of f at 0 .. n - 1 -/
def S : Nat → (Nat → F) → F
  | 0, _ => 0
  | n+1, f => S n f + f n
theorem S_zero (f : Nat → F) : S 0 f = 0 := rfl
theorem S_succ (n : Nat) (f : Nat → F) : S (n+1) f = S n f + f n := rfl
theorem S_congr {n : Nat} {f g : Nat → F} (h : ∀ i, i < n → f i = g i) : S n f = S n g := by
  induction n with
  | zero => rfl
  | succ n ih => rw [S_succ, S_succ, ih (fun i hi => h i (by omega)), h n (by omega)]
theorem S_const0 (n : Nat) : S n (fun _ => 0) = 0 := by
  induction n with
  | zero => rfl
  | succ n ih => rw [S_succ, ih]; grind
theorem S_all0 {n : Nat} {f : Nat → F} (h : ∀ i, i < n → f i = 0) : S n f = 0 := by
  rw [S_congr (g := fun _ => 0) h, S_const0]
theorem S_add (n : Nat) (f g : Nat → F) : S n (fun i => f i + g i) = S n f + S n g := by
  induction n with
  | zero => rw [S_zero, S_zero, S_zero]; grind
  | succ n ih => rw [S_succ, S_succ, S_succ, ih]; grind
theorem S_sub (n : Nat) (f g : Nat → F) : S n (fun i => f i - g i) = S n f - S n g := by
  induction n with
  | zero => rw [S_zero, S_zero, S_zero]; grind
  | succ n ih => rw [S_succ, S_succ, S_succ, ih]; grind
theorem S_mul_left (n : Nat) (c : F) (f : Nat → F) : S n (fun i => c * f i) = c * S n f := by
  induction n with
  | zero => rw [S_zero, S_zero]; grind
  | succ n ih => rw [S_succ, S_succ, ih]; grind
theorem S_mul_right (n : Nat) (c : F) (f : Nat → F) : S n (fun i => f i * c) = S n f * c := by
  induction n with
  | zero => rw [S_zero, S_zero]; grind
  | succ n ih => rw [S_succ, S_succ, ih]; grind
theorem S_swap (m n : Nat) (f : Nat → Nat → F) : S m (fun i => S n (fun j => f i j)) = S n (fun j => S m (fun i => f i j)) := by
  induction m with
  | zero => rw [S_zero]; exact (S_const0 n).symm
  | succ m ih => rw [S_succ, ih, ← S_add]; exact S_congr (fun j _ => (S_succ m _).symm)
theorem S_split (m n : Nat) (f : Nat → F) : S (m + n) f = S m f + S n (fun i => f (m + i)) := by
  induction n with
  | zero => rw [Nat.add_zero, S_zero]; grind
  | succ n ih => rw [← Nat.add_assoc, S_succ, ih, S_succ]; grind
theorem S_front (n : Nat) (f : Nat → F) : S (n+1) f = f 0 + S n (fun i => f (i+1)) := by
  rw [Nat.add_comm n 1, S_split, S_succ, S_zero]
  rw [S_congr (f := fun i => f (1 + i)) (g := fun i => f (i+1)) (fun i _ => by rw [Nat.add_comm])]
  grind
/-- what lies behind the bound is nothing -/
theorem S_more {m n : Nat} (h : m ≤ n) {f : Nat → F} (hf : ∀ i, m ≤ i → i < n → f i = 0) : S n f = S m f := by
  obtain ⟨d, rfl⟩ := Nat.exists_eq_add_of_le h
  rw [S_split, S_all0 (f := fun i => f (m+i)) (fun i hi => hf (m+i) (by omega) (by omega))]
  grind
theorem S_single {n k : Nat} (h : k < n) {f : Nat → F} (hf : ∀ i, i < n → i ≠ k → f i = 0) : S n f = f k := by
  rw [S_more (m := k+1) (by omega) (fun i h1 h2 => hf i h2 (by omega)), S_succ, S_all0 (fun i hi => hf i (by omega) (by omega))]
  grind
theorem S_rev (n : Nat) (f : Nat → F) : S n (fun i => f (n - 1 - i)) = S n f := by
  induction n with
  | zero => rfl
  | succ n ih =>
    rw [S_front, S_succ]
    rw [S_congr (f := fun i => f (n + 1 - 1 - (i+1))) (g := fun i => f (n - 1 - i)) (fun i hi => by congr 1; omega), ih]
    rw [show n + 1 - 1 - 0 = n by omega]
    grind
/-- a sum over a triangle, two ways -/
theorem S_tri (n : Nat) (f : Nat → Nat → F) : S n (fun k => S (k+1) (fun i => f i (k - i))) = S n (fun i => S (n - i) (fun j => f i j)) := by
  induction n with
  | zero => rfl
  | succ n ih =>
    rw [S_succ, ih, S_succ (n := n) (f := fun i => S (n + 1 - i) (fun j => f i j))]
    have h1 : S n (fun i => S (n + 1 - i) (fun j => f i j)) = S n (fun i => S (n - i) (fun j => f i j)) + S n (fun i => f i (n - i)) := by
      rw [← S_add]
      refine S_congr (fun i hi => ?_)
      rw [show n + 1 - i = (n - i) + 1 by omega, S_succ]
    rw [h1, S_succ (n := n) (f := fun i => f i (n - i)), show n + 1 - n = 0 + 1 by omega, S_succ, S_zero, show n - n = 0 by omega]
    grind
/-- the k-th number of a product -/
def cv (a b : Nat → F) (k : Nat) : F := S (k+1) (fun i => a i * b (k - i))
theorem cv_comm (a b : Nat → F) (k : Nat) : cv a b k = cv b a k := by
  unfold cv
  rw [← S_rev (k+1)]
  refine S_congr (fun i hi => ?_)
  rw [show k + 1 - 1 - i = k - i by omega, show k - (k - i) = i by omega]
  grind
theorem cv_congr {a a' b b' : Nat → F} {k : Nat} (ha : ∀ i, i ≤ k → a i = a' i) (hb : ∀ i, i ≤ k → b i = b' i) : cv a b k = cv a' b' k :=
  S_congr (fun i hi => by rw [ha i (by omega), hb (k - i) (by omega)])
theorem cv_add (a b c : Nat → F) (k : Nat) : cv a (fun i => b i + c i) k = cv a b k + cv a c k := by
  unfold cv
  rw [← S_add]
  exact S_congr (fun i _ => by grind)
theorem cv_smul (a b : Nat → F) (c : F) (k : Nat) : cv a (fun i => c * b i) k = c * cv a b k := by
  unfold cv
  rw [← S_mul_left]
  exact S_congr (fun i _ => by grind)
theorem cv_assoc (a b c : Nat → F) (k : Nat) : cv (cv a b) c k = cv a (cv b c) k := by
  have e1 : cv (cv a b) c k = S (k+1) (fun m => S (m+1) (fun i => a i * b (m - i) * c (k - m))) := by
    unfold cv
    refine S_congr (fun m hm => ?_)
    rw [← S_mul_right]
  have e2 : cv a (cv b c) k = S (k+1) (fun i => S (k+1-i) (fun j => a i * b j * c (k - (i + j)))) := by
    unfold cv
    refine S_congr (fun i hi => ?_)
    rw [← S_mul_left, show k + 1 - i = k - i + 1 by omega]
    refine S_congr (fun j hj => ?_)
    rw [show k - i - j = k - (i + j) by omega]
    grind
  rw [e1, e2, ← S_tri]
  refine S_congr (fun m hm => S_congr (fun i hi => ?_))
  rw [show i + (m - i) = m by omega]
/-- the value at x of the first n numbers -/
def ev (n : Nat) (a : Nat → F) (x : F) : F := S n (fun i => a i * x ^ i)
theorem ev_more {m n : Nat} (h : m ≤ n) {a : Nat → F} (ha : ∀ i, m ≤ i → a i = 0) (x : F) : ev n a x = ev m a x :=
  S_more h (fun i h1 _ => by rw [ha i h1]; grind)
theorem ev_add (n : Nat) (a b : Nat → F) (x : F) : ev n (fun i => a i + b i) x = ev n a x + ev n b x := by
  unfold ev; rw [← S_add]; exact S_congr (fun i _ => by grind)
theorem ev_smul (n : Nat) (a : Nat → F) (c x : F) : ev n (fun i => c * a i) x = c * ev n a x := by
  unfold ev; rw [← S_mul_left]; exact S_congr (fun i _ => by grind)
/-- the value of a product is the product of values -/
theorem ev_mul (m n : Nat) (a b : Nat → F) (ha : ∀ i, m ≤ i → a i = 0) (hb : ∀ i, n ≤ i → b i = 0) (x : F) : ev (m + n) (cv a b) x = ev m a x * ev n b x := by
  have e1 : ev (m + n) (cv a b) x = S (m+n) (fun k => S (k+1) (fun i => (a i * x ^ i) * (b (k-i) * x ^ (k - i)))) := by
    unfold ev cv
    refine S_congr (fun k hk => ?_)
    rw [← S_mul_right]
    refine S_congr (fun i hi => ?_)
    have : x ^ k = x ^ i * x ^ (k - i) := by rw [← pow_add]; congr 1; omega
    rw [this]; grind
  rw [e1, S_tri (m+n) (fun i j => (a i * x ^ i) * (b j * x ^ j))]
  rw [S_more (m := m) (by omega) (fun i h1 h2 => S_all0 (fun j _ => by rw [ha i h1]; grind))]
  unfold ev
  rw [← S_mul_right]
  refine S_congr (fun i hi => ?_)
  rw [← S_mul_left]
  exact S_more (by omega) (fun j h1 h2 => by rw [hb j h1]; grind)
theorem cv_zero {m n : Nat} {a b : Nat → F} (ha : ∀ i, m ≤ i → a i = 0) (hb : ∀ i, n ≤ i → b i = 0) {k : Nat} (h : m + n ≤ k + 1) : cv a b k = 0 := by
  refine S_all0 (fun i hi => ?_)
  by_cases h1 : m ≤ i
  · rw [ha i h1]; grind
  · rw [hb (k - i) (by omega)]; grind
end Go.Proofs.YtdhmmllpldjkbaaGreatDoor.Gm
namespace Go.Proofs.YtdhmmllpldjkbaaGreatDoor.Gm
/-- the root of order 2^k, k at most 32 -/
@[irreducible] def root (k : Nat) : F := (7:F) ^ (18446744069414584320 / 2 ^ k)
theorem root_div (k : Nat) (h : k ≤ 32) : 18446744069414584320 / 2 ^ k * 2 ^ k = 18446744069414584320 := by
  apply Nat.div_mul_cancel
  have : (18446744069414584320 : Nat) = 2 ^ k * (2 ^ (32 - k) * 4294967295) := by
    rw [← Nat.mul_assoc, ← Nat.pow_add, show k + (32 - k) = 32 by omega]
  exact ⟨_, this⟩
theorem root_full (k : Nat) (h : k ≤ 32) : root k ^ (2 ^ k) = 1 := by
  unfold root
  rw [← pow_mul, root_div k h]
  exact seven_full
theorem minus_one (y : F) (h1 : y * y = 1) (h2 : y ≠ 1) : y = -1 := by
  have h : (y - 1) * (y + 1) = 0 := by grind
  rcases no_zero _ _ h with h | h
  · exact absurd (by grind) h2
  · grind
theorem seven_half : (7:F) ^ (9223372034707292160 : Nat) = -1 := by
  apply minus_one
  · rw [← pow_add]; exact seven_full
  · exact seven_part 9223372034707292160 (by omega) (by decide +kernel)
theorem root_half (k : Nat) (h : k < 32) : root (k+1) ^ (2 ^ k) = -1 := by
  unfold root
  rw [← pow_mul, ← seven_half]
  congr 1
  have h1 := root_div (k+1) (by omega)
  rw [Nat.pow_succ, ← Nat.mul_assoc] at h1
  rw [Nat.pow_succ]
  omega
theorem root_sq (k : Nat) (h : k < 32) : root (k+1) * root (k+1) = root k := by
  unfold root
  rw [← pow_add]
  congr 1
  have h1 := root_div (k+1) (by omega)
  have h2 := root_div k (by omega)
  have h3 : 0 < 2 ^ k := Nat.two_pow_pos k
  apply Nat.eq_of_mul_eq_mul_right h3
  rw [h2, Nat.add_mul]
  rw [Nat.pow_succ, ← Nat.mul_assoc] at h1
  rw [Nat.pow_succ]
  omega
theorem root_zero : root 0 = 1 := by
  unfold root; exact seven_full
theorem two_ne : (1:F) + 1 ≠ 0 := by
  intro h
  have := congrArg Fin.val h
  rw [Fin.val_add, val_one, val_zero, PN_eq] at this
  omega
theorem root_ne (k : Nat) : root k ≠ 0 := by
  unfold root
  refine seven_ne _ ?_
  show 18446744069414584320 / 2 ^ k ≤ 18446744069414584320
  exact Nat.div_le_self _ _
/-- w is a root of order 2^k -/
structure Rt (w : F) (k : Nat) : Prop where
  full : w ^ (2 ^ k) = 1
  half : ∀ j, j + 1 = k → w ^ (2 ^ j) = -1
theorem rt_root (k : Nat) (h : k ≤ 32) : Rt (root k) k :=
  ⟨root_full k h, fun j hj => by subst hj; exact root_half j (by omega)⟩
theorem pow_mul_pow (x y : F) (n : Nat) : (x * y) ^ n = x ^ n * y ^ n := by
  induction n with
  | zero => rw [pow_zero, pow_zero, pow_zero]; grind
  | succ n ih => rw [pow_succ, pow_succ, pow_succ, ih]; grind
theorem rt_inv {w : F} {k : Nat} (h : Rt w k) : Rt (inv w) k := by
  have hw : w ≠ 0 := by
    intro e
    have := h.full
    rw [e] at this
    have h0 : (0:F) ^ (2 ^ k) = 0 := by
      have : 0 < 2 ^ k := Nat.two_pow_pos k
      obtain ⟨m, hm⟩ : ∃ m, 2 ^ k = m + 1 := ⟨2 ^ k - 1, by omega⟩
      rw [hm, pow_succ]; grind
    rw [h0] at this
    exact one_ne this.symm
  have hm := mul_inv w hw
  have hp : ∀ n, w ^ n * inv w ^ n = 1 := fun n => by rw [← pow_mul_pow, hm, one_pow]
  refine ⟨?_, fun j hj => ?_⟩
  · have := hp (2 ^ k); rw [h.full] at this; grind
  · have := hp (2 ^ j); rw [h.half j hj] at this; grind
theorem rt_order {w : F} {k : Nat} (h : Rt w k) {d : Nat} (hd : w ^ d = 1) : 2 ^ k ∣ d := by
  -- the greatest power of two that divides d
  induction k generalizing w d with
  | zero => rw [Nat.pow_zero]; exact Nat.one_dvd d
  | succ k ih =>
    by_cases he : d % 2 = 0
    · obtain ⟨e, rfl⟩ : ∃ e, d = 2 * e := ⟨d / 2, by omega⟩
      have h2 : Rt (w ^ 2) k := ⟨by rw [← pow_mul, Nat.mul_comm, ← Nat.pow_succ]; exact h.full, fun j hj => by
        rw [← pow_mul, Nat.mul_comm, ← Nat.pow_succ]; exact h.half (j+1) (by omega)⟩
      have := ih h2 (d := e) (by rw [← pow_mul]; exact hd)
      rw [Nat.pow_succ, Nat.mul_comm]
      exact Nat.mul_dvd_mul_left 2 this
    · exfalso
      -- w^(2^k) = -1, and (w^d)^(2^k) = (w^(2^k))^d = (-1)^d = -1
      have h1 := h.half k rfl
      have e : (w ^ (2 ^ k)) ^ d = 1 := by rw [← pow_mul, Nat.mul_comm, pow_mul, hd, one_pow]
      obtain ⟨m, hm⟩ : ∃ m, d = 2 * m + 1 := ⟨d / 2, by omega⟩
      rw [h1, hm, pow_succ, pow_mul] at e
      have e2 : (-1 : F) ^ 2 = 1 := by
        rw [show (2:Nat) = 0 + 1 + 1 from rfl, pow_succ, pow_succ, pow_zero]; grind
      rw [e2, one_pow] at e
      exact two_ne (by grind)
/-- the sum of a geometric row -/
theorem geo (x : F) (n : Nat) : (x - 1) * S n (fun i => x ^ i) = x ^ n - 1 := by
  induction n with
  | zero => rw [S_zero, pow_zero]; grind
  | succ n ih => rw [S_succ, pow_succ]; grind
theorem geo_zero {w : F} {k : Nat} (h : Rt w k) (d : Nat) (hd : ¬ 2 ^ k ∣ d) : S (2 ^ k) (fun i => (w ^ d) ^ i) = 0 := by
  have h1 := geo (w ^ d) (2 ^ k)
  rw [← pow_mul, Nat.mul_comm, pow_mul, h.full, one_pow] at h1
  have h2 : w ^ d ≠ 1 := fun e => hd (rt_order h e)
  rcases no_zero _ _ (h1.trans (by grind : (1:F) - 1 = 0)) with h3 | h3
  · exact absurd (by grind) h2
  · exact h3
def cast (n : Nat) : F := S n (fun _ => 1)
/-- the transform of n numbers by w -/
def dft (n : Nat) (w : F) (a : Nat → F) (j : Nat) : F := ev n a (w ^ j)
theorem dft_eq (n : Nat) (w : F) (a : Nat → F) (j : Nat) : dft n w a j = S n (fun i => a i * w ^ (j * i)) := by
  unfold dft ev; exact S_congr (fun i _ => by rw [pow_mul])
theorem S_one (n : Nat) (c : F) : S n (fun _ => c) = cast n * c := by
  unfold cast
  rw [← S_mul_right]
  exact S_congr (fun i _ => by grind)
/-- forth and back: so many times the number -/
theorem dft_back {w v : F} {k : Nat} (h : Rt w k) (hv : w * v = 1) (a : Nat → F) {j : Nat} (hj : j < 2 ^ k) : dft (2 ^ k) v (dft (2 ^ k) w a) j = cast (2 ^ k) * a j := by
  rw [dft_eq]
  rw [S_congr (g := fun i => S (2 ^ k) (fun m => a m * (w ^ (i * m) * v ^ (j * i)))) (fun i _ => by
    rw [dft_eq, ← S_mul_right]; exact S_congr (fun m _ => by grind))]
  rw [S_swap]
  rw [S_congr (g := fun m => a m * S (2 ^ k) (fun i => (w ^ m * v ^ j) ^ i)) (fun m _ => by
    rw [← S_mul_left]
    refine S_congr (fun i _ => ?_)
    rw [pow_mul_pow, ← pow_mul, ← pow_mul, Nat.mul_comm i m])]
  have hp : ∀ n, w ^ n * v ^ n = 1 := fun n => by rw [← pow_mul_pow, hv, one_pow]
  rw [S_single hj (fun m hm hne => ?_)]
  · rw [hp j]
    rw [S_congr (g := fun _ => (1:F)) (fun i _ => one_pow i)]
    unfold cast; grind
  · have : S (2 ^ k) (fun i => (w ^ m * v ^ j) ^ i) = 0 := by
      rcases Nat.lt_or_gt_of_ne hne with hlt | hgt
      · -- w^m v^j = v^(j-m)
        have e : w ^ m * v ^ j = v ^ (j - m) := by
          have : v ^ j = v ^ m * v ^ (j - m) := by rw [← pow_add]; congr 1; omega
          have h2 := hp m
          grind
        rw [e]
        have hr : Rt v k := by
          have := rt_inv h
          rwa [← inv_unique w v hv] at this
        exact geo_zero hr (j - m) (fun hd => by have := Nat.le_of_dvd (by omega) hd; omega)
      · have e : w ^ m * v ^ j = w ^ (m - j) := by
          have : w ^ m = w ^ j * w ^ (m - j) := by rw [← pow_add]; congr 1; omega
          have h2 := hp j
          grind
        rw [e]
        exact geo_zero h (m - j) (fun hd => by have := Nat.le_of_dvd (by omega) hd; omega)
    rw [this]; grind
theorem dft_congr {n : Nat} {w : F} {a b : Nat → F} (h : ∀ i, i < n → a i = b i) (j : Nat) : dft n w a j = dft n w b j :=
  S_congr (fun i hi => by rw [h i hi])
theorem dft_add (n : Nat) (w : F) (a b : Nat → F) (j : Nat) : dft n w (fun i => a i + b i) j = dft n w a j + dft n w b j := ev_add n a b _
theorem dft_smul (n : Nat) (w c : F) (a : Nat → F) (j : Nat) : dft n w (fun i => c * a i) j = c * dft n w a j := ev_smul n a c _
end Go.Proofs.YtdhmmllpldjkbaaGreatDoor.Gm
namespace Go.Proofs.YtdhmmllpldjkbaaGreatDoor.Gm
/-- m bits of a number, read from the other end -/
def rev : Nat → Nat → Nat
  | 0, _ => 0
  | m+1, b => (b % 2) * 2 ^ m + rev m (b / 2)
theorem rev_lt (m b : Nat) : rev m b < 2 ^ m := by
  induction m generalizing b with
  | zero => simp [rev]
  | succ m ih =>
    have := ih (b / 2)
    have h2 : b % 2 ≤ 1 := by omega
    have h3 := Nat.mul_le_mul_right (2 ^ m) h2
    simp only [rev, Nat.pow_succ]
    omega
/-- the same, from the highest bit on -/
theorem rev_high (m b : Nat) (hb : b < 2 ^ (m+1)) : rev (m+1) b = 2 * rev m (b % 2 ^ m) + b / 2 ^ m := by
  induction m generalizing b with
  | zero => simp [rev]; have : b < 2 := by simpa using hb
            omega
  | succ m ih =>
    have e1 : rev (m+1+1) b = (b % 2) * 2 ^ (m+1) + rev (m+1) (b / 2) := rfl
    have h2 : b / 2 < 2 ^ (m+1) := by rw [Nat.pow_succ] at hb; omega
    rw [e1, ih _ h2]
    have e2 : rev (m+1) (b % 2 ^ (m+1)) = (b % 2 ^ (m+1) % 2) * 2 ^ m + rev m (b % 2 ^ (m+1) / 2) := rfl
    rw [e2]
    have e3 : b % 2 ^ (m+1) % 2 = b % 2 := Nat.mod_mod_of_dvd b ⟨2 ^ m, by rw [Nat.pow_succ, Nat.mul_comm]⟩
    have e4 : b % 2 ^ (m+1) / 2 = b / 2 % 2 ^ m := by
      rw [Nat.pow_succ, Nat.mul_comm, Nat.mod_mul_right_div_self]
    have e5 : b / 2 ^ (m+1) = b / 2 / 2 ^ m := by rw [Nat.div_div_eq_div_mul, Nat.pow_succ, Nat.mul_comm]
    rw [e3, e4, e5, Nat.pow_succ]
    have : b % 2 * (2 ^ m * 2) = 2 * (b % 2 * 2 ^ m) := by rw [Nat.mul_comm (2 ^ m), ← Nat.mul_assoc, Nat.mul_comm (b % 2), Nat.mul_assoc]
    omega
theorem rev_rev (m b : Nat) (hb : b < 2 ^ m) : rev m (rev m b) = b := by
  induction m generalizing b with
  | zero => simp [rev]; have : b < 1 := by simpa using hb
            omega
  | succ m ih =>
    have hl := rev_lt m (b / 2)
    have h2 : b / 2 < 2 ^ m := by rw [Nat.pow_succ] at hb; omega
    have e1 : rev (m+1) b = (b % 2) * 2 ^ m + rev m (b / 2) := rfl
    rw [rev_high m _ (rev_lt (m+1) b), e1]
    have p : 0 < 2 ^ m := Nat.two_pow_pos m
    have e2 : (b % 2 * 2 ^ m + rev m (b / 2)) % 2 ^ m = rev m (b / 2) := by
      rw [Nat.add_comm, Nat.add_mul_mod_self_right, Nat.mod_eq_of_lt hl]
    have e3 : (b % 2 * 2 ^ m + rev m (b / 2)) / 2 ^ m = b % 2 := by
      rw [Nat.add_comm, Nat.add_mul_div_right _ _ p, Nat.div_eq_of_lt hl, Nat.zero_add]
    rw [e2, e3, ih _ h2]
    omega
theorem rev_even (m b : Nat) : rev (m+1) (2 * b) = rev m b := by
  have : rev (m+1) (2 * b) = (2 * b % 2) * 2 ^ m + rev m (2 * b / 2) := rfl
  rw [this, show 2 * b % 2 = 0 by omega, show 2 * b / 2 = b by omega]; omega
theorem rev_odd (m b : Nat) : rev (m+1) (2 * b + 1) = 2 ^ m + rev m b := by
  have : rev (m+1) (2 * b + 1) = ((2 * b + 1) % 2) * 2 ^ m + rev m ((2 * b + 1) / 2) := rfl
  rw [this, show (2 * b + 1) % 2 = 1 by omega, show (2 * b + 1) / 2 = b by omega]; omega
theorem S_even_odd (h : Nat) (f : Nat → F) : S (2 * h) f = S h (fun i => f (2 * i)) + S h (fun i => f (2 * i + 1)) := by
  induction h with
  | zero => rw [Nat.mul_zero, S_zero, S_zero, S_zero]; grind
  | succ h ih =>
    rw [show 2 * (h + 1) = 2 * h + 1 + 1 by omega, S_succ, S_succ, ih, S_succ, S_succ]
    grind
/-- what stands at place p behind the stages up to half-size 2^s -/
def stage (k : Nat) (w : F) (a : Nat → F) (s p : Nat) : F :=
  S (2 ^ s) (fun i => a (rev (k - s) (p / 2 ^ s) + i * 2 ^ (k - s)) * (w ^ 2 ^ (k - s)) ^ (i * (p % 2 ^ s)))
theorem stage_zero (k : Nat) (w : F) (a : Nat → F) (p : Nat) : stage k w a 0 p = a (rev k p) := by
  unfold stage
  rw [show 2 ^ 0 = 0 + 1 from rfl, S_succ, S_zero, Nat.zero_mul, Nat.zero_mul, pow_zero, show k - 0 = k from rfl, Nat.add_zero, Nat.zero_add, Nat.div_one]
  grind
theorem stage_last (k : Nat) (w : F) (a : Nat → F) (p : Nat) (hp : p < 2 ^ k) : stage k w a k p = dft (2 ^ k) w a p := by
  unfold stage
  rw [dft_eq]
  refine S_congr (fun i hi => ?_)
  rw [Nat.sub_self, Nat.pow_zero, Nat.mul_one, Nat.mod_eq_of_lt hp, Nat.mul_comm p i, show w ^ 1 = w by rw [show (1:Nat) = 0 + 1 from rfl, pow_succ, pow_zero]; grind]
  simp only [rev, Nat.zero_add]
/-- the butterfly -/
theorem stage_step {w : F} {k : Nat} (hw : Rt w k) (a : Nat → F) {s : Nat} (hs : s < k) (B j : Nat) (hj : j < 2 ^ s) :
    stage k w a (s+1) (B * (2 * 2 ^ s) + j) = stage k w a s (B * (2 * 2 ^ s) + j) + (w ^ 2 ^ (k - s - 1)) ^ j * stage k w a s (B * (2 * 2 ^ s) + 2 ^ s + j)
    ∧ stage k w a (s+1) (B * (2 * 2 ^ s) + 2 ^ s + j) = stage k w a s (B * (2 * 2 ^ s) + j) - (w ^ 2 ^ (k - s - 1)) ^ j * stage k w a s (B * (2 * 2 ^ s) + 2 ^ s + j) := by
  obtain ⟨m, rfl⟩ : ∃ m, k = s + 1 + m := ⟨k - s - 1, by omega⟩
  have hh : 0 < 2 ^ s := Nat.two_pow_pos s
  generalize eh : 2 ^ s = h at *
  have e0 : s + 1 + m - s - 1 = m := by omega
  have e1 : s + 1 + m - (s + 1) = m := by omega
  have e2 : s + 1 + m - s = m + 1 := by omega
  have hv : (w ^ 2 ^ m) ^ (2 * h) = 1 := by
    rw [← pow_mul, ← eh, Nat.mul_comm 2, ← Nat.pow_succ, ← Nat.pow_add, show m + (s + 1) = s + 1 + m by omega]; exact hw.full
  have hv2 : (w ^ 2 ^ m) ^ h = -1 := by
    rw [← pow_mul, ← eh, ← Nat.pow_add]; exact hw.half _ (by omega)
  have hv3 : w ^ 2 ^ (m + 1) = (w ^ 2 ^ m) ^ 2 := by rw [← pow_mul, Nat.pow_succ]
  unfold stage
  rw [e0, e1, e2, hv3, Nat.pow_succ, Nat.mul_comm (2 ^ s) 2, eh]
  generalize w ^ 2 ^ m = v at *
  have b1 : B * (2 * h) = h * (2 * B) := by grind
  have b2 : B * (2 * h) + h = h * (2 * B + 1) := by grind
  have q1 : (B * (2 * h) + j) / h = 2 * B := by
    rw [b1, Nat.mul_add_div hh, Nat.div_eq_of_lt hj, Nat.add_zero]
  have q2 : (B * (2 * h) + j) % h = j := by
    rw [b1, Nat.mul_add_mod, Nat.mod_eq_of_lt hj]
  have q3 : (B * (2 * h) + h + j) / h = 2 * B + 1 := by
    rw [b2, Nat.mul_add_div hh, Nat.div_eq_of_lt hj, Nat.add_zero]
  have q4 : (B * (2 * h) + h + j) % h = j := by
    rw [b2, Nat.mul_add_mod, Nat.mod_eq_of_lt hj]
  have q5 : (B * (2 * h) + j) / (2 * h) = B := by
    rw [Nat.mul_comm B, Nat.mul_add_div (by omega), Nat.div_eq_of_lt (by omega)]; omega
  have q6 : (B * (2 * h) + j) % (2 * h) = j := by
    rw [Nat.mul_comm B, Nat.mul_add_mod, Nat.mod_eq_of_lt (by omega)]
  have q7 : (B * (2 * h) + h + j) / (2 * h) = B := by
    rw [Nat.add_assoc, Nat.mul_comm B, Nat.mul_add_div (by omega), Nat.div_eq_of_lt (by omega)]; omega
  have q8 : (B * (2 * h) + h + j) % (2 * h) = h + j := by
    rw [Nat.add_assoc, Nat.mul_comm B, Nat.mul_add_mod, Nat.mod_eq_of_lt (by omega)]
  rw [q1, q2, q3, q4, q5, q6, q7, q8, rev_even, rev_odd, S_even_odd, S_even_odd, ← S_mul_left]
  clear q1 q2 q3 q4 q5 q6 q7 q8 b1 b2
  have p1 : ∀ i, v ^ (2 * i * j) = (v ^ 2) ^ (i * j) := fun i => by rw [← pow_mul, Nat.mul_assoc]
  have p2 : ∀ i, v ^ ((2 * i + 1) * j) = v ^ j * (v ^ 2) ^ (i * j) := fun i => by
    rw [← p1, ← pow_add]; congr 1; rw [Nat.add_mul, Nat.one_mul, Nat.add_comm]
  have p3 : ∀ i, v ^ (2 * i * h) = 1 := fun i => by
    rw [Nat.mul_comm 2 i, Nat.mul_assoc, Nat.mul_comm i, pow_mul, hv, one_pow]
  have p4 : ∀ i, v ^ (2 * i * (h + j)) = (v ^ 2) ^ (i * j) := fun i => by rw [Nat.mul_add, pow_add, p3, p1]; grind
  have p5 : ∀ i, v ^ ((2 * i + 1) * (h + j)) = -(v ^ j * (v ^ 2) ^ (i * j)) := fun i => by
    rw [Nat.mul_add, pow_add, p2, Nat.add_mul, pow_add, p3, Nat.one_mul, hv2]; grind
  have a1 : ∀ i, 2 * i * 2 ^ m = i * 2 ^ (m + 1) := fun i => by rw [Nat.pow_succ, Nat.mul_comm 2 i, Nat.mul_assoc, Nat.mul_comm 2]
  have a2 : ∀ i, rev m B + (2 * i + 1) * 2 ^ m = 2 ^ m + rev m B + i * 2 ^ (m + 1) := fun i => by rw [Nat.add_mul, a1]; omega
  constructor
  · congr 1
    · exact S_congr (fun i hi => by rw [a1, p1])
    · exact S_congr (fun i hi => by rw [a2, p2]; grind)
  · have e : ∀ x y : F, x - y = x + (-1) * y := fun x y => by grind
    rw [e, ← S_mul_left]
    congr 1
    · exact S_congr (fun i hi => by rw [a1, p4])
    · exact S_congr (fun i hi => by rw [a2, p5]; grind)
end Go.Proofs.YtdhmmllpldjkbaaGreatDoor.Gm
namespace Go.Proofs.YtdhmmllpldjkbaaGreatDoor.Gm
/-- number i of a list; 0 behind it -/
def cf (l : List F) (i : Nat) : F := l.getD i 0
theorem cf_nil (i : Nat) : cf [] i = 0 := by simp [cf]
theorem cf_ge {l : List F} {i : Nat} (h : l.length ≤ i) : cf l i = 0 := by
  unfold cf; rw [List.getD_eq_getElem?_getD, List.getElem?_eq_none h]; rfl
theorem cf_lt {l : List F} {i : Nat} (h : i < l.length) : cf l i = l[i] := by
  unfold cf; rw [List.getD_eq_getElem?_getD, List.getElem?_eq_getElem h]; rfl
theorem cf_append_lt {l m : List F} {i : Nat} (h : i < l.length) : cf (l ++ m) i = cf l i := by
  unfold cf; rw [List.getD_eq_getElem?_getD, List.getElem?_append_left h, ← List.getD_eq_getElem?_getD]
theorem cf_append_at (l : List F) (x : F) (m : List F) : cf (l ++ x :: m) l.length = x := by
  unfold cf; rw [List.getD_eq_getElem?_getD, List.getElem?_append_right (Nat.le_refl _), Nat.sub_self]; rfl
theorem cf_ofFn {n : Nat} (f : Nat → F) {i : Nat} (h : i < n) : cf ((List.range n).map f) i = f i := by
  rw [cf_lt (by simpa using h)]; simp
theorem cf_take (l : List F) (n i : Nat) (h : i < n) : cf (l.take n) i = cf l i := by
  unfold cf; rw [List.getD_eq_getElem?_getD, List.getElem?_take_of_lt h, ← List.getD_eq_getElem?_getD]
theorem ext_cf {l m : List F} (hl : l.length = m.length) (h : ∀ i, i < l.length → cf l i = cf m i) : l = m := by
  apply List.ext_getElem hl
  intro i h1 h2
  have := h i h1
  rwa [cf_lt h1, cf_lt h2] at this
/-- the list without noughts at its end -/
def strip : List F → List F
  | [] => []
  | x :: r => match strip r with
    | [] => if x = 0 then [] else [x]
    | y :: t => x :: y :: t
theorem strip_nil : strip [] = [] := rfl
theorem cf_strip (l : List F) (i : Nat) : cf (strip l) i = cf l i := by
  induction l generalizing i with
  | nil => rfl
  | cons x r ih =>
    have h1 : ∀ i, cf (x :: r) (i+1) = cf r i := fun i => by simp [cf]
    have h2 : cf (x :: r) 0 = x := by simp [cf]
    unfold strip
    cases hs : strip r with
    | nil =>
      simp only
      have hz : ∀ i, cf r i = 0 := fun i => by rw [← ih i, hs, cf_nil]
      split
      · rename_i h0
        rw [cf_nil]
        cases i with
        | zero => rw [h2, h0]
        | succ i => rw [h1, hz]
      · cases i with
        | zero => rw [h2]; rfl
        | succ i => rw [h1, hz]; simp [cf]
    | cons y t =>
      simp only
      cases i with
      | zero => rw [h2]; rfl
      | succ i => rw [h1, ← ih i, hs]; simp [cf]
theorem strip_last (l : List F) : strip l = [] ∨ cf l ((strip l).length - 1) ≠ 0 := by
  induction l with
  | nil => exact .inl rfl
  | cons x r ih =>
    unfold strip
    cases hs : strip r with
    | nil =>
      simp only
      split
      · exact .inl rfl
      · rename_i h0; right; simpa [cf] using h0
    | cons y t =>
      right
      simp only
      rw [hs] at ih
      rcases ih with h | h
      · cases h
      · simpa [cf] using h
theorem strip_len (l : List F) : (strip l).length ≤ l.length := by
  induction l with
  | nil => exact Nat.le_refl _
  | cons x r ih =>
    unfold strip
    cases hs : strip r with
    | nil => simp only; split <;> simp
    | cons y t => rw [hs] at ih; simpa using ih
/-- a list is told by its numbers, if it is normal -/
theorem strip_eq {l m : List F} (h : ∀ i, cf l i = cf m i) : strip l = strip m := by
  have key : ∀ {l m : List F}, (∀ i, cf l i = cf m i) → (strip l).length ≤ (strip m).length := by
    intro l m h
    rcases strip_last l with h1 | h1
    · rw [h1]; exact Nat.zero_le _
    · apply Classical.byContradiction
      intro hc
      apply h1
      rw [h, ← cf_strip]
      exact cf_ge (by omega)
  apply ext_cf (Nat.le_antisymm (key h) (key (fun i => (h i).symm)))
  intro i _
  rw [cf_strip, cf_strip, h]
theorem strip_strip (l : List F) : strip (strip l) = strip l := strip_eq (fun i => cf_strip l i)
theorem strip_of {l : List F} (h : l = [] ∨ cf l (l.length - 1) ≠ 0) : strip l = l := by
  have h1 := strip_len l
  have h2 : (strip l).length = l.length := by
    rcases h with h | h
    · rw [h]; rfl
    · apply Classical.byContradiction
      intro hc
      apply h
      rw [← cf_strip]
      exact cf_ge (by omega)
  exact ext_cf h2 (fun i _ => cf_strip l i)
theorem strip_take {l : List F} {n : Nat} (hn : n ≤ l.length) (h1 : ∀ i, n ≤ i → i < l.length → cf l i = 0) (h2 : n = 0 ∨ cf l (n - 1) ≠ 0) : strip l = l.take n := by
  have e : strip l = strip (l.take n) := by
    apply strip_eq
    intro i
    by_cases hi : i < n
    · rw [cf_take _ _ _ hi]
    · rw [cf_ge (l := l.take n) (by simp; omega)]
      by_cases hl : i < l.length
      · exact h1 i (by omega) hl
      · exact cf_ge (by omega)
  rw [e]
  apply strip_of
  rcases h2 with h | h
  · left; rw [h]; rfl
  · by_cases h0 : n = 0
    · left; rw [h0]; rfl
    · right
      rw [List.length_take, Nat.min_eq_left hn, cf_take _ _ _ (by omega)]
      exact h
theorem strip_normal {l : List F} (h : strip l = l) : l = [] ∨ cf l (l.length - 1) ≠ 0 := by
  have := strip_last l
  rwa [h] at this
/-- the value of a list -/
def evl (l : List F) (x : F) : F := ev l.length (cf l) x
theorem evl_ge {l : List F} {n : Nat} (h : l.length ≤ n) (x : F) : ev n (cf l) x = evl l x :=
  ev_more h (fun _ hi => cf_ge hi) x
theorem ev_congr {n : Nat} {a b : Nat → F} (h : ∀ i, i < n → a i = b i) (x : F) : ev n a x = ev n b x :=
  S_congr (fun i hi => by rw [h i hi])
theorem evl_strip (l : List F) (x : F) : evl (strip l) x = evl l x := by
  rw [← evl_ge (strip_len l) x]
  exact ev_congr (fun i _ => cf_strip l i) x
theorem evl_eq {l m : List F} (h : ∀ i, cf l i = cf m i) (x : F) : evl l x = evl m x := by
  rw [← evl_strip l, ← evl_strip m, strip_eq h]
/-- the sum, a number each place of the longer one -/
def addL (l m : List F) : List F := (List.range (max l.length m.length)).map (fun i => cf l i + cf m i)
theorem cf_addL (l m : List F) (i : Nat) : cf (addL l m) i = cf l i + cf m i := by
  by_cases h : i < max l.length m.length
  · exact cf_ofFn _ h
  · rw [cf_ge (l := addL l m) (by simp [addL]; omega), cf_ge (l := l) (by omega), cf_ge (l := m) (by omega)]; grind
/-- the product -/
def mulL (l m : List F) : List F := if l = [] ∨ m = [] then [] else (List.range (l.length + m.length - 1)).map (cv (cf l) (cf m))
theorem mulL_len {l m : List F} (hl : l ≠ []) (hm : m ≠ []) : (mulL l m).length = l.length + m.length - 1 := by
  unfold mulL; rw [if_neg (by simp [hl, hm])]; simp
theorem cf_mulL (l m : List F) (i : Nat) : cf (mulL l m) i = cv (cf l) (cf m) i := by
  unfold mulL
  split
  · rename_i h
    rw [cf_nil]
    rcases h with h | h
    · subst h; exact (S_all0 (fun j _ => by rw [cf_nil]; grind)).symm
    · subst h; exact (S_all0 (fun j _ => by rw [cf_nil]; grind)).symm
  · rename_i h
    simp only [not_or] at h
    have h1 := List.length_pos_iff.2 h.1
    have h2 := List.length_pos_iff.2 h.2
    by_cases hi : i < l.length + m.length - 1
    · exact cf_ofFn _ hi
    · rw [cf_ge (by simp; omega)]
      exact (cv_zero (fun _ hi => cf_ge hi) (fun _ hi => cf_ge hi) (by omega)).symm
theorem evl_addL (l m : List F) (x : F) : evl (addL l m) x = evl l x + evl m x := by
  have : (addL l m).length = max l.length m.length := by simp [addL]
  rw [← evl_ge (l := l) (n := max l.length m.length) (by omega), ← evl_ge (l := m) (n := max l.length m.length) (by omega), ← ev_add, ← evl_ge (Nat.le_of_eq this)]
  exact ev_congr (fun i _ => cf_addL l m i) x
theorem evl_mulL (l m : List F) (x : F) : evl (mulL l m) x = evl l x * evl m x := by
  have h : (mulL l m).length ≤ l.length + m.length := by
    unfold mulL; split
    · simp
    · simp
  rw [← evl_ge h, ev_congr (fun i _ => cf_mulL l m i), ev_mul _ _ _ _ (fun _ hi => cf_ge hi) (fun _ hi => cf_ge hi)]
  rfl
theorem cv_last {l m : List F} (hl : l ≠ []) (hm : m ≠ []) : cv (cf l) (cf m) (l.length + m.length - 1 - 1) = cf l (l.length - 1) * cf m (m.length - 1) := by
  have h1 := List.length_pos_iff.2 hl
  have h2 := List.length_pos_iff.2 hm
  unfold cv
  rw [S_single (k := l.length - 1) (by omega) (fun i hi hne => ?_)]
  · congr 2; omega
  · by_cases hc : i < l.length
    · rw [cf_ge (l := m) (by omega)]; grind
    · rw [cf_ge (l := l) (by omega)]; grind
/-- the product of normal ones is normal -/
theorem mulL_normal {l m : List F} (hl : strip l = l) (hm : strip m = m) : strip (mulL l m) = mulL l m := by
  apply strip_of
  by_cases h1 : l = []
  · left; unfold mulL; rw [if_pos (.inl h1)]
  by_cases h2 : m = []
  · left; unfold mulL; rw [if_pos (.inr h2)]
  right
  rw [mulL_len h1 h2, cf_mulL, cv_last h1 h2]
  intro h
  rcases no_zero _ _ h with h | h
  · exact (strip_normal hl).elim h1 (fun k => k h)
  · exact (strip_normal hm).elim h2 (fun k => k h)
theorem cf_mul_comm (l m : List F) (i : Nat) : cf (mulL l m) i = cf (mulL m l) i := by rw [cf_mulL, cf_mulL, cv_comm]
theorem mulL_comm (l m : List F) : mulL l m = mulL m l := by
  by_cases h1 : l = []
  · unfold mulL; rw [if_pos (.inl h1), if_pos (.inr h1)]
  by_cases h2 : m = []
  · unfold mulL; rw [if_pos (.inr h2), if_pos (.inl h2)]
  apply ext_cf
  · rw [mulL_len h1 h2, mulL_len h2 h1]; omega
  · intro i _; exact cf_mul_comm l m i
end Go.Proofs.YtdhmmllpldjkbaaGreatDoor.Gm
namespace Go.Proofs.YtdhmmllpldjkbaaGreatDoor.Gm
/-- a polynomial with a place of value 0, divided by the power 1 less that place -/
def quo (a : Nat → F) (r : F) (n i : Nat) : F := S (n - i) (fun j => a (i + 1 + j) * r ^ j)
theorem quo_step (a : Nat → F) (r : F) {n i : Nat} (h : i < n) : quo a r n i = a (i+1) + r * quo a r n (i+1) := by
  unfold quo
  rw [show n - i = (n - (i+1)) + 1 by omega, S_front, ← S_mul_left]
  congr 1
  · rw [pow_zero, Nat.add_zero]; grind
  · refine S_congr (fun j _ => ?_)
    rw [pow_succ, show i + 1 + (j + 1) = i + 1 + 1 + j by omega]; grind
theorem quo_end (a : Nat → F) (r : F) (n : Nat) : quo a r n n = 0 := by
  unfold quo; rw [Nat.sub_self, S_zero]
theorem ev_quo (a : Nat → F) (r x : F) (n : Nat) : ev (n+1) a x = ev (n+1) a r + (x - r) * ev n (quo a r n) x := by
  -- a i = q (i-1) - r q i
  have h0 : ev (n+1) a r = a 0 + r * quo a r n 0 := by
    unfold ev; rw [S_front]; unfold quo; rw [← S_mul_left, Nat.sub_zero]
    congr 1
    · rw [pow_zero]; grind
    · exact S_congr (fun j _ => by rw [pow_succ, show 0 + 1 + j = j + 1 by omega]; grind)
  have h1 : ev (n+1) a x = a 0 + S n (fun i => a (i+1) * x ^ (i+1)) := by
    unfold ev; rw [S_front, pow_zero]; grind
  have h2 : S n (fun i => a (i+1) * x ^ (i+1)) = S n (fun i => x * (quo a r n i * x ^ i) - r * (quo a r n (i+1) * x ^ (i+1))) :=
    S_congr (fun i hi => by rw [quo_step a r hi, pow_succ]; grind)
  have h3 : S n (fun i => quo a r n (i+1) * x ^ (i+1)) = ev n (quo a r n) x - quo a r n 0 := by
    have : S (n+1) (fun i => quo a r n i * x ^ i) = ev n (quo a r n) x := by
      rw [S_succ, quo_end]; unfold ev; grind
    rw [← this, S_front, pow_zero]; grind
  rw [h1, h2, S_sub, S_mul_left, S_mul_left, h3, h0]
  unfold ev
  grind
/-- a polynomial with as many places of value 0 as it has numbers is 0 -/
theorem roots_zero (n : Nat) : ∀ (a : Nat → F) (xs : List F), xs.length = n → xs.Nodup → (∀ x, x ∈ xs → ev n a x = 0) → ∀ i, i < n → a i = 0 := by
  induction n with
  | zero => intro a xs _ _ _ i hi; omega
  | succ n ih =>
    intro a xs hl hd hz i hi
    cases xs with
    | nil => simp at hl
    | cons r rs =>
      rw [List.nodup_cons] at hd
      have hr : ev (n+1) a r = 0 := hz r (by simp)
      have hq : ∀ i, i < n → quo a r n i = 0 := by
        refine ih (quo a r n) rs (by simpa using hl) hd.2 (fun x hx => ?_)
        have h1 := ev_quo a r x n
        rw [hz x (by simp [hx]), hr] at h1
        have h2 : (x - r) * ev n (quo a r n) x = 0 := by grind
        rcases no_zero _ _ h2 with h3 | h3
        · exact absurd hx (by have : x = r := by grind
                              rw [this]; exact hd.1)
        · exact h3
      have hq' : ∀ i, i ≤ n → quo a r n i = 0 := fun i hi => by
        by_cases h : i = n
        · rw [h, quo_end]
        · exact hq i (by omega)
      cases i with
      | zero =>
        have h0 : ev (n+1) a r = a 0 + r * quo a r n 0 := by
          unfold ev; rw [S_front]; unfold quo; rw [← S_mul_left, Nat.sub_zero]
          congr 1
          · rw [pow_zero]; grind
          · exact S_congr (fun j _ => by rw [pow_succ, show 0 + 1 + j = j + 1 by omega]; grind)
        rw [hr, hq' 0 (by omega)] at h0
        grind
      | succ i =>
        have := quo_step a r (n := n) (i := i) (by omega)
        rw [hq' i (by omega), hq' (i+1) (by omega)] at this
        grind
/-- two normal lists with one value at so many places are one -/
theorem unique_through {l m xs : List F} (hl : l.length ≤ xs.length) (hm : m.length ≤ xs.length) (hd : xs.Nodup) (h : ∀ x, x ∈ xs → evl l x = evl m x) (i : Nat) : cf l i = cf m i := by
  by_cases hi : i < xs.length
  · have := roots_zero xs.length (fun i => cf l i - cf m i) xs rfl hd (fun x hx => by
      have e : ev xs.length (fun i => cf l i - cf m i) x = evl l x - evl m x := by
        rw [← evl_ge hl, ← evl_ge hm]
        unfold ev; rw [← S_sub]; exact S_congr (fun i _ => by grind)
      rw [e, h x hx]; grind) i hi
    grind
  · rw [cf_ge (by omega), cf_ge (by omega)]
theorem strip_through {l m xs : List F} (hl : l.length ≤ xs.length) (hm : m.length ≤ xs.length) (hd : xs.Nodup) (h : ∀ x, x ∈ xs → evl l x = evl m x) : strip l = strip m :=
  strip_eq (unique_through hl hm hd h)
theorem evl_nil (x : F) : evl [] x = 0 := rfl
theorem evl_one (c x : F) : evl [c] x = c := by
  unfold evl ev; show S (0+1) _ = _
  rw [S_succ, S_zero, pow_zero]; simp only [cf]; show 0 + c * 1 = c; grind
theorem evl_two (c d x : F) : evl [c, d] x = c + d * x := by
  unfold evl ev; show S (0+1+1) _ = _
  rw [S_succ, S_succ, S_zero, pow_succ, pow_zero]; simp only [cf]; show 0 + c * 1 + d * (1 * x) = _; grind
/-- Newton's way: base and sum behind so many points -/
def newton : List (F × F) → List F × List F
  | [] => ([1], [])
  | (x, y) :: r =>
    let q := newton r
    (mulL q.1 [0 - x, 1], strip (addL q.2 (mulL q.1 [(y - evl q.2 x) * inv (evl q.1 x)])))
theorem newton_base_len (l : List (F × F)) : (newton l).1.length = l.length + 1 := by
  induction l with
  | nil => rfl
  | cons p r ih =>
    obtain ⟨x, y⟩ := p
    show (mulL (newton r).1 [0 - x, 1]).length = _
    rw [mulL_len (by intro h; rw [h] at ih; simp at ih) (by simp), ih]
    simp
theorem newton_sum_len (l : List (F × F)) : (newton l).2.length ≤ l.length := by
  induction l with
  | nil => exact Nat.le_refl _
  | cons p r ih =>
    obtain ⟨x, y⟩ := p
    show (strip (addL (newton r).2 (mulL (newton r).1 [_]))).length ≤ _
    refine Nat.le_trans (strip_len _) ?_
    have h1 := newton_base_len r
    have h2 : (mulL (newton r).1 [(y - evl (newton r).2 x) * inv (evl (newton r).1 x)]).length = r.length + 1 := by
      rw [mulL_len (by intro h; rw [h] at h1; simp at h1) (by simp), h1]; simp
    simp only [addL, List.length_map, List.length_range, List.length_cons]
    omega
theorem newton_base (l : List (F × F)) (x : F) : evl (newton l).1 x = 0 ↔ x ∈ l.map Prod.fst := by
  induction l with
  | nil => show evl [1] x = 0 ↔ _
           rw [evl_one]; simp only [List.map_nil, List.not_mem_nil, iff_false]; exact one_ne
  | cons p r ih =>
    obtain ⟨a, b⟩ := p
    show evl (mulL (newton r).1 [0 - a, 1]) x = 0 ↔ _
    rw [evl_mulL, evl_two, List.map_cons, List.mem_cons, ← ih]
    constructor
    · intro h
      rcases no_zero _ _ h with h | h
      · exact .inr h
      · left; show x = a; grind
    · intro h
      rcases h with h | h
      · have : x = a := h
        rw [this]; grind
      · rw [h]; grind
/-- Newton's sum goes through all points, if no two places are the same -/
theorem newton_through (l : List (F × F)) (hd : (l.map Prod.fst).Nodup) : ∀ p, p ∈ l → evl (newton l).2 p.1 = p.2 := by
  induction l with
  | nil => intro p hp; simp at hp
  | cons q r ih =>
    obtain ⟨a, b⟩ := q
    rw [List.map_cons, List.nodup_cons] at hd
    intro p hp
    show evl (strip (addL (newton r).2 (mulL (newton r).1 [(b - evl (newton r).2 a) * inv (evl (newton r).1 a)]))) p.1 = p.2
    rw [evl_strip, evl_addL, evl_mulL, evl_one]
    rcases List.mem_cons.1 hp with h | h
    · subst h
      have h1 : evl (newton r).1 a ≠ 0 := fun h => hd.1 ((newton_base r a).1 h)
      have h2 := mul_inv _ h1
      show evl (newton r).2 a + evl (newton r).1 a * ((b - evl (newton r).2 a) * inv (evl (newton r).1 a)) = b
      grind
    · have h1 : evl (newton r).1 p.1 = 0 := (newton_base r p.1).2 (List.mem_map.2 ⟨p, h, rfl⟩)
      rw [ih hd.2 p h, h1]; grind
end Go.Proofs.YtdhmmllpldjkbaaGreatDoor.Gm
namespace Go.Proofs.YtdhmmllpldjkbaaGreatDoor.Gm
/-- a number of the field as it is told -/
@[irreducible] def vl (x : F) : Int := (x.val : Int)
/-- the rest of a number by P -/
@[irreducible] def toF (a : Int) : F := Fin.ofNat PN (a % (PN : Int)).toNat
theorem vl_lo (x : F) : 0 ≤ vl x := by unfold vl; exact Int.natCast_nonneg _
theorem vl_lt (x : F) : vl x < (PN : Int) := by have := x.isLt; unfold vl; omega
theorem vl_hi (x : F) : vl x < 18446744069414584321 := by
  have := vl_lt x
  have h : (PN : Int) = 18446744069414584321 := by rw [PN_eq]; rfl
  omega
theorem vl_inj {x y : F} (h : vl x = vl y) : x = y := Fin.ext (by unfold vl at h; omega)
theorem vl_toF (a : Int) : vl (toF a) = a % 18446744069414584321 := by
  have h : (PN : Int) = 18446744069414584321 := by rw [PN_eq]; rfl
  unfold toF vl
  rw [Fin.val_ofNat, h, PN_eq]
  omega
theorem toF_vl (x : F) : toF (vl x) = x := by
  apply vl_inj
  rw [vl_toF]
  have h1 := vl_lo x
  have h2 := vl_hi x
  omega
theorem vl_add (x y : F) : vl (x + y) = (vl x + vl y) % 18446744069414584321 := by
  unfold vl; rw [Fin.val_add, Int.natCast_emod, show ((PN : Nat) : Int) = 18446744069414584321 by rw [PN_eq]; rfl, Int.natCast_add]
theorem vl_mul (x y : F) : vl (x * y) = (vl x * vl y) % 18446744069414584321 := by
  unfold vl; rw [Fin.val_mul, Int.natCast_emod, show ((PN : Nat) : Int) = 18446744069414584321 by rw [PN_eq]; rfl, Int.natCast_mul]
theorem toF_add (a b : Int) : toF (a + b) = toF a + toF b := by
  apply vl_inj; rw [vl_add, vl_toF, vl_toF, vl_toF]; omega
theorem toF_mul (a b : Int) : toF (a * b) = toF a * toF b := by
  apply vl_inj; rw [vl_mul, vl_toF, vl_toF, vl_toF]; exact Int.mul_emod _ _ _
theorem toF_zero : toF 0 = 0 := by apply vl_inj; rw [vl_toF]; unfold vl; rw [val_zero]; rfl
theorem toF_one : toF 1 = 1 := by apply vl_inj; rw [vl_toF]; unfold vl; rw [val_one]; rfl
theorem toF_sub (a b : Int) : toF (a - b) = toF a - toF b := by
  have := toF_add (a - b) b
  rw [Int.sub_add_cancel] at this
  grind
theorem toF_P : toF 18446744069414584321 = 0 := by apply vl_inj; rw [vl_toF]; unfold vl; rw [val_zero]; rfl
theorem toF_emod (a : Int) : toF (a % 18446744069414584321) = toF a := by apply vl_inj; rw [vl_toF, vl_toF]; omega
/-- a number is its own rest -/
theorem toF_id {a : Int} (h0 : 0 ≤ a) (h1 : a < 18446744069414584321) : vl (toF a) = a := by rw [vl_toF]; omega
theorem norm_ge {a : Int} (h0 : 18446744069414584321 ≤ a) (h1 : a < 18446744073709551616) : a - 18446744069414584321 = vl (toF a) := by rw [vl_toF]; omega
theorem vl_sub (x y : F) : vl (x - y) = (vl x - vl y) % 18446744069414584321 := by
  have h := toF_sub (vl x) (vl y)
  rw [toF_vl, toF_vl] at h
  rw [← h, vl_toF]
/-- 2^64 is 2^32 - 1, 2^96 is -1 -/
theorem mul_fold (x y : F) (hi lo top mid : Int) (h1 : vl x * vl y = hi * 18446744073709551616 + lo) (h2 : hi = top * 4294967296 + mid) :
    toF lo - toF top + toF (mid * 4294967296 - mid) = x * y := by
  have e : x * y = toF (vl x * vl y) := by rw [toF_mul, toF_vl, toF_vl]
  rw [e, h1, h2, ← toF_sub, ← toF_add]
  apply vl_inj
  rw [vl_toF, vl_toF]
  omega
theorem vl_zero : vl 0 = 0 := by unfold vl; rw [val_zero]; rfl
theorem vl_one : vl 1 = 1 := by unfold vl; rw [val_one]; rfl
theorem vl_eq_zero (x : F) : vl x = 0 ↔ x = 0 := ⟨fun h => vl_inj (h.trans vl_zero.symm), fun h => by rw [h, vl_zero]⟩
theorem toF_nat_one (n : Nat) : toF ((n : Int) + 1) = toF (n : Int) + 1 := by rw [toF_add, toF_one]
theorem cast_toF (n : Nat) : cast n = toF (n : Int) := by
  induction n with
  | zero => rw [show ((0:Nat):Int) = 0 from rfl, toF_zero]; rfl
  | succ n ih =>
    have : cast (n+1) = cast n + 1 := rfl
    rw [this, ih, Int.natCast_add, toF_add]
    congr 1
    exact toF_one.symm
theorem toF_ne {a : Int} (h0 : 0 < a) (h1 : a < 18446744069414584321) : toF a ≠ 0 := by
  intro h
  have := (vl_eq_zero _).2 h
  rw [toF_id (by omega) h1] at this
  omega
end Go.Proofs.YtdhmmllpldjkbaaGreatDoor.Gm
namespace Go.Proofs.YtdhmmllpldjkbaaGreatDoor.Gm
/-- one more number of the quotient -/
theorem cv_set {q : List F} {b : Nat → F} {i : Nat} (hi : i < q.length) (h0 : cf q i = 0) (c : F) (k : Nat) :
    cv (cf (q.set i c)) b k = cv (cf q) b k + (if i ≤ k then c * b (k - i) else 0) := by
  have hs : ∀ j, cf (q.set i c) j = cf q j + (if j = i then c else 0) := by
    intro j
    unfold cf
    rw [List.getD_eq_getElem?_getD, List.getElem?_set, List.getD_eq_getElem?_getD]
    by_cases hj : i = j
    · subst hj
      have : q[i]?.getD 0 = 0 := by have := h0; unfold cf at this; rwa [List.getD_eq_getElem?_getD] at this
      rw [if_pos rfl, if_pos hi, if_pos rfl, this]; show c = 0 + c; grind
    · rw [if_neg hj, if_neg (fun e => hj e.symm)]; grind
  unfold cv
  rw [S_congr (g := fun j => cf q j * b (k - j) + (if j = i then c else 0) * b (k - j)) (fun j _ => by rw [hs]; grind), S_add]
  congr 1
  by_cases hik : i ≤ k
  · rw [if_pos hik, S_single (k := i) (by omega) (fun j _ hne => by rw [if_neg hne]; grind), if_pos rfl]
  · rw [if_neg hik]
    exact S_all0 (fun j hj => by rw [if_neg (by omega)]; grind)
/-- the loop of a division, behind the places from i on -/
def DivInv (a0 A q b : List F) (i : Nat) : Prop :=
  A.length = a0.length ∧ q.length = a0.length - b.length + 1 ∧ (∀ k, cf a0 k = cv (cf q) (cf b) k + cf A k) ∧ (∀ j, j < i → cf q j = 0) ∧ (∀ m, i + b.length - 1 ≤ m → cf A m = 0)
theorem div_start {a0 b : List F} (hb : b ≠ []) (hab : b.length ≤ a0.length) : DivInv a0 a0 (List.replicate (a0.length - b.length + 1) 0) b (a0.length - b.length + 1) := by
  have hc : ∀ n i, cf (List.replicate n 0) i = 0 := fun n i => by
    unfold cf; rw [List.getD_eq_getElem?_getD, List.getElem?_replicate]; split <;> rfl
  have := List.length_pos_iff.2 hb
  refine ⟨rfl, by simp, fun k => ?_, fun j _ => hc _ _, fun m hm => cf_ge (by omega)⟩
  have : cv (cf (List.replicate (a0.length - b.length + 1) 0)) (cf b) k = 0 := S_all0 (fun i _ => by rw [hc]; grind)
  rw [this]; grind
/-- the array with the multiple taken away at the places i .. i + j - 1 -/
def subAt (A : List F) (c : F) (b : List F) (i : Nat) : Nat → List F
  | 0 => A
  | j+1 => (subAt A c b i j).set (i + j) (cf (subAt A c b i j) (i + j) - c * cf b j)
theorem subAt_len (A : List F) (c : F) (b : List F) (i j : Nat) : (subAt A c b i j).length = A.length := by
  induction j with
  | zero => rfl
  | succ j ih => show (List.set _ _ _).length = _; rw [List.length_set, ih]
theorem cf_subAt (A : List F) (c : F) (b : List F) (i j m : Nat) (h : i + j ≤ A.length) : cf (subAt A c b i j) m = cf A m - (if i ≤ m ∧ m < i + j then c * cf b (m - i) else 0) := by
  induction j with
  | zero => rw [if_neg (by omega)]; show cf A m = cf A m - 0; grind
  | succ j ih =>
    have ih' := ih (by omega)
    show cf ((subAt A c b i j).set (i + j) _) m = _
    have hs : cf ((subAt A c b i j).set (i + j) (cf (subAt A c b i j) (i + j) - c * cf b j)) m = if i + j = m then cf (subAt A c b i j) (i + j) - c * cf b j else cf (subAt A c b i j) m := by
      unfold cf
      rw [List.getD_eq_getElem?_getD, List.getElem?_set, List.getD_eq_getElem?_getD]
      split
      · rw [if_pos (by rw [subAt_len]; omega)]; rfl
      · rfl
    rw [hs]
    by_cases hm : i + j = m
    · subst hm
      rw [if_pos rfl, ih', if_neg (by omega), if_pos (by omega), show i + j - i = j by omega]; grind
    · rw [if_neg hm, ih']
      by_cases hc : i ≤ m ∧ m < i + j
      · rw [if_pos hc, if_pos (by omega)]
      · rw [if_neg hc, if_neg (by omega)]
theorem div_step {a0 A q b : List F} {i : Nat} (hb : b ≠ []) (hab : b.length ≤ a0.length) (hl : cf b (b.length - 1) ≠ 0) (h : DivInv a0 A q b (i+1)) (hi : i < q.length) :
    DivInv a0 (subAt A (cf A (i + b.length - 1) * inv (cf b (b.length - 1))) b i b.length) (q.set i (cf A (i + b.length - 1) * inv (cf b (b.length - 1)))) b i := by
  obtain ⟨h1, h2, h3, h4, h5⟩ := h
  have hpos := List.length_pos_iff.2 hb
  have hm := mul_inv _ hl
  generalize hc : cf A (i + b.length - 1) * inv (cf b (b.length - 1)) = c
  have hlen : i + b.length ≤ A.length := by omega
  refine ⟨by rw [subAt_len, h1], by rw [List.length_set, h2], fun k => ?_, fun j hj => ?_, fun m hm' => ?_⟩
  · rw [cv_set hi (h4 i (by omega)), cf_subAt _ _ _ _ _ _ hlen, h3]
    by_cases hik : i ≤ k
    · rw [if_pos hik]
      by_cases hk2 : k < i + b.length
      · rw [if_pos ⟨hik, hk2⟩]; grind
      · rw [if_neg (by omega), cf_ge (l := b) (by omega)]; grind
    · rw [if_neg hik, if_neg (by omega)]; grind
  · have hne : i ≠ j := by omega
    unfold cf
    rw [List.getD_eq_getElem?_getD, List.getElem?_set_ne hne, ← List.getD_eq_getElem?_getD]
    exact h4 j (by omega)
  · rw [cf_subAt _ _ _ _ _ _ hlen]
    by_cases hm2 : m = i + b.length - 1
    · rw [if_pos (by omega), hm2, show i + b.length - 1 - i = b.length - 1 by omega, ← hc]; grind
    · rw [if_neg (by omega), h5 m (by omega)]; grind
theorem div_end {a0 A q b : List F} (hb : b ≠ []) (h : DivInv a0 A q b 0) : strip (addL (mulL (strip q) b) (strip A)) = strip a0 ∧ (strip A).length < b.length := by
  obtain ⟨h1, h2, h3, h4, h5⟩ := h
  have hpos := List.length_pos_iff.2 hb
  constructor
  · apply strip_eq
    intro k
    rw [cf_addL, cf_mulL, cf_strip, h3]
    congr 1
    exact cv_congr (fun i _ => cf_strip q i) (fun _ _ => rfl)
  · rcases strip_last A with h | h
    · rw [h]; exact hpos
    · apply Classical.byContradiction
      intro hc
      exact h (h5 _ (by omega))
end Go.Proofs.YtdhmmllpldjkbaaGreatDoor.Gm
namespace Go.Proofs.YtdhmmllpldjkbaaGreatDoor.Gm
/-- Lagrange's base for place i, behind the first k places -/
def lbase (xs : List F) (i : Nat) : Nat → List F
  | 0 => [1]
  | k+1 => if k = i then lbase xs i k else mulL (lbase xs i k) [0 - cf xs k, 1]
def lunder (xs : List F) (i : Nat) : Nat → F
  | 0 => 1
  | k+1 => if k = i then lunder xs i k else lunder xs i k * (cf xs i - cf xs k)
def lagr (xs ys : List F) : Nat → List F
  | 0 => []
  | i+1 => strip (addL (lagr xs ys i) (mulL (lbase xs i xs.length) [cf ys i * inv (lunder xs i xs.length)]))
theorem lbase_len (xs : List F) (i k : Nat) : (lbase xs i k).length = 1 + k - (if i < k then 1 else 0) := by
  induction k with
  | zero => rfl
  | succ k ih =>
    show (if k = i then lbase xs i k else mulL (lbase xs i k) [0 - cf xs k, 1]).length = _
    by_cases h : k = i
    · rw [if_pos h, ih, if_neg (by omega), if_pos (by omega)]; omega
    · rw [if_neg h, mulL_len (fun e => by rw [e] at ih; simp only [List.length_nil] at ih; split at ih <;> omega) (by simp), ih]
      by_cases h2 : i < k
      · rw [if_pos h2, if_pos (by omega)]; (simp <;> omega)
      · rw [if_neg h2, if_neg (by omega)]; (simp <;> omega)
theorem lbase_zero (xs : List F) (i k m : Nat) (hm : m < k) (hne : m ≠ i) : evl (lbase xs i k) (cf xs m) = 0 := by
  induction k with
  | zero => omega
  | succ k ih =>
    show evl (if k = i then lbase xs i k else mulL (lbase xs i k) [0 - cf xs k, 1]) _ = _
    by_cases h : k = i
    · rw [if_pos h]; exact ih (by omega)
    · rw [if_neg h, evl_mulL, evl_two]
      by_cases h2 : m = k
      · rw [h2]; grind
      · rw [ih (by omega)]; grind
theorem lbase_at (xs : List F) (i k : Nat) : evl (lbase xs i k) (cf xs i) = lunder xs i k := by
  induction k with
  | zero => exact evl_one 1 _
  | succ k ih =>
    show evl (if k = i then lbase xs i k else mulL (lbase xs i k) [0 - cf xs k, 1]) _ = (if k = i then lunder xs i k else lunder xs i k * (cf xs i - cf xs k))
    by_cases h : k = i
    · rw [if_pos h, if_pos h]; exact ih
    · rw [if_neg h, if_neg h, evl_mulL, evl_two, ih]; grind
theorem nodup_cf {xs : List F} (hd : xs.Nodup) {i j : Nat} (hi : i < xs.length) (hj : j < xs.length) (h : cf xs i = cf xs j) : i = j := by
  rw [cf_lt hi, cf_lt hj] at h
  exact (List.getElem_inj hd).1 h
theorem lunder_ne {xs : List F} (hd : xs.Nodup) {i : Nat} (hi : i < xs.length) (k : Nat) (hk : k ≤ xs.length) : lunder xs i k ≠ 0 := by
  induction k with
  | zero => exact one_ne
  | succ k ih =>
    show (if k = i then lunder xs i k else lunder xs i k * (cf xs i - cf xs k)) ≠ 0
    by_cases h : k = i
    · rw [if_pos h]; exact ih (by omega)
    · rw [if_neg h]
      intro e
      rcases no_zero _ _ e with e | e
      · exact ih (by omega) e
      · exact h (nodup_cf hd (by omega) hi (by grind))
theorem lagr_len (xs ys : List F) (i : Nat) (hi : i ≤ xs.length) : (lagr xs ys i).length ≤ xs.length := by
  induction i with
  | zero => exact Nat.zero_le _
  | succ i ih =>
    show (strip (addL (lagr xs ys i) (mulL (lbase xs i xs.length) [_]))).length ≤ _
    refine Nat.le_trans (strip_len _) ?_
    have h1 := lbase_len xs i xs.length
    rw [if_pos (by omega)] at h1
    have h2 := mulL_len (l := lbase xs i xs.length) (m := [cf ys i * inv (lunder xs i xs.length)]) (fun e => by rw [e] at h1; simp at h1; omega) (by simp)
    have h3 := ih (by omega)
    simp only [addL, List.length_map, List.length_range, h2, h1, List.length_singleton]
    omega
theorem lagr_at {xs ys : List F} (hd : xs.Nodup) (i m : Nat) (hi : i ≤ xs.length) (hm : m < xs.length) : evl (lagr xs ys i) (cf xs m) = if m < i then cf ys m else 0 := by
  induction i with
  | zero => rw [if_neg (by omega)]; exact evl_nil _
  | succ i ih =>
    show evl (strip (addL (lagr xs ys i) (mulL (lbase xs i xs.length) [_]))) _ = _
    rw [evl_strip, evl_addL, evl_mulL, evl_one, ih (by omega)]
    by_cases h : m = i
    · subst h
      have h2 := mul_inv _ (lunder_ne hd (i := m) (by omega) xs.length (Nat.le_refl _))
      rw [if_neg (by omega), if_pos (by omega), lbase_at]
      grind
    · rw [lbase_zero xs i xs.length m hm h]
      by_cases h3 : m < i
      · rw [if_pos h3, if_pos (by omega)]; grind
      · rw [if_neg h3, if_neg (by omega)]; grind
theorem lagr_normal (xs ys : List F) (i : Nat) : strip (lagr xs ys i) = lagr xs ys i := by
  cases i with
  | zero => rfl
  | succ i => exact strip_strip _
theorem newton_normal (l : List (F × F)) : strip (newton l).2 = (newton l).2 := by
  cases l with
  | nil => rfl
  | cons p r => obtain ⟨x, y⟩ := p; exact strip_strip _
theorem nodup_rev {l : List F} (h : l.Nodup) : l.reverse.Nodup := by
  rw [List.nodup_iff_pairwise_ne, List.pairwise_reverse]
  exact (List.nodup_iff_pairwise_ne.1 h).imp (fun h e => h e.symm)
/-- Newton's and Lagrange's ways come to one polynomial -/
theorem newton_lagr {xs ys : List F} (hd : xs.Nodup) (hl : xs.length = ys.length) : (newton ((xs.zip ys).reverse)).2 = lagr xs ys xs.length := by
  rw [← newton_normal, ← lagr_normal]
  have hz : ((xs.zip ys).reverse.map Prod.fst) = xs.reverse := by
    rw [List.map_reverse, List.map_fst_zip (by omega)]
  refine strip_through (xs := xs) ?_ (lagr_len xs ys xs.length (Nat.le_refl _)) hd (fun x hx => ?_)
  · refine Nat.le_trans (newton_sum_len _) ?_
    rw [List.length_reverse, List.length_zip]; omega
  · obtain ⟨m, hm, rfl⟩ := List.getElem_of_mem hx
    have h1 := newton_through ((xs.zip ys).reverse) (by rw [hz]; exact nodup_rev hd) (xs[m], ys[m]) (by
      rw [List.mem_reverse]
      have := List.getElem_mem (l := xs.zip ys) (n := m) (by rw [List.length_zip]; omega)
      rwa [List.getElem_zip] at this)
    have h2 := lagr_at (ys := ys) hd xs.length m (Nat.le_refl _) hm
    rw [if_pos hm, cf_lt hm, cf_lt (by omega)] at h2
    rw [h2]; exact h1
end Go.Proofs.YtdhmmllpldjkbaaGreatDoor.Gm
namespace Go.Proofs.YtdhmmllpldjkbaaGreatDoor.Gm
/-- the first place of line L of an axis with d places, s numbers apart -/
def lineAt (s d L : Nat) : Nat := L / s * (d * s) + L % s
theorem range_filter_lt (n s : Nat) (h : s ≤ n) : (List.range n).filter (fun x => decide (x < s)) = List.range s := by
  obtain ⟨t, rfl⟩ := Nat.exists_eq_add_of_le h
  rw [List.range_add, List.filter_append]
  rw [List.filter_eq_self.2 (fun x hx => by simpa using hx)]
  rw [List.filter_eq_nil_iff.2 (fun x hx => by
    obtain ⟨y, _, rfl⟩ := List.mem_map.1 hx
    simp)]
  simp
/-- the places of value 0 on an axis, in their order -/
theorem filter_lines (s d h : Nat) (hs : 0 < s) (hd : 0 < d) : (List.range (h * (d * s))).filter (fun p => decide (p / s % d = 0)) = (List.range (h * s)).map (lineAt s d) := by
  induction h with
  | zero => simp
  | succ h ih =>
    rw [Nat.succ_mul, List.range_add, List.filter_append, ih, Nat.succ_mul, List.range_add, List.map_append]
    congr 1
    rw [List.filter_map]
    have e1 : (List.range (d * s)).filter ((fun p => decide (p / s % d = 0)) ∘ fun x => h * (d * s) + x) = (List.range (d * s)).filter (fun x => decide (x < s)) := by
      apply List.filter_congr
      intro x hx
      have hx' : x < d * s := List.mem_range.1 hx
      have h1 : (h * (d * s) + x) / s = h * d + x / s := by
        rw [← Nat.mul_assoc, Nat.add_comm, Nat.add_mul_div_right _ _ hs, Nat.add_comm]
      have h2 : x / s < d := Nat.div_lt_of_lt_mul (by rwa [Nat.mul_comm])
      simp only [Function.comp_def]
      rw [h1, Nat.add_comm, Nat.add_mul_mod_self_right, Nat.mod_eq_of_lt h2]
      congr 1
      rw [eq_iff_iff, Nat.div_eq_zero_iff]
      omega
    rw [e1, range_filter_lt _ _ (Nat.le_mul_of_pos_left s hd), List.map_map]
    apply List.map_congr_left
    intro x hx
    have hx' : x < s := List.mem_range.1 hx
    simp only [Function.comp_def, lineAt]
    rw [Nat.add_comm (h * s), Nat.add_mul_div_right _ _ hs, Nat.div_eq_of_lt hx', Nat.add_mul_mod_self_right, Nat.mod_eq_of_lt hx', Nat.zero_add]
/-- line L's places -/
def line (s d L : Nat) : List Nat := (List.range d).map (fun i => lineAt s d L + i * s)
def linesOf (s d m : Nat) : List (List Nat) := (List.range m).map (line s d)
/-- of a place: its number on the axis, the number of its line -/
def coord (s d p : Nat) : Nat := p / s % d
def lineNo (s d p : Nat) : Nat := p / (d * s) * s + p % s
theorem place_split (s d p : Nat) : p = lineAt s d (lineNo s d p) + coord s d p * s := by
  by_cases hs : s = 0
  · subst hs; unfold lineAt lineNo coord; simp
  have hs : 0 < s := by omega
  have h1 : lineNo s d p / s = p / (d * s) := by
    unfold lineNo; rw [Nat.add_comm, Nat.add_mul_div_right _ _ hs, Nat.div_eq_of_lt (Nat.mod_lt _ hs), Nat.zero_add]
  have h2 : lineNo s d p % s = p % s := by
    unfold lineNo; rw [Nat.add_comm, Nat.add_mul_mod_self_right, Nat.mod_mod]
  unfold lineAt coord
  rw [h1, h2]
  have h3 : p / (d * s) = p / s / d := by rw [Nat.mul_comm d s, Nat.div_div_eq_div_mul]
  rw [h3]
  have h4 := Nat.div_add_mod (p / s) d
  have h5 := Nat.div_add_mod p s
  generalize hq : p / s / d = q at *
  generalize hr : p / s % d = r at *
  generalize hu : p / s = u at *
  generalize hv : p % s = v at *
  rw [← h5, ← h4, Nat.mul_add, ← Nat.mul_assoc]
  grind
theorem coord_lt (s d p : Nat) (hd : 0 < d) : coord s d p < d := Nat.mod_lt _ hd
theorem coord_of (s d L i : Nat) (hs : 0 < s) (hi : i < d) : coord s d (lineAt s d L + i * s) = i := by
  unfold coord lineAt
  have e : (L / s * (d * s) + L % s + i * s) / s = L / s * d + i := by
    rw [← Nat.mul_assoc, show L / s * d * s + L % s + i * s = L % s + (L / s * d + i) * s by grind, Nat.add_mul_div_right _ _ hs, Nat.div_eq_of_lt (Nat.mod_lt _ hs), Nat.zero_add]
  rw [e, Nat.add_comm, Nat.add_mul_mod_self_right, Nat.mod_eq_of_lt hi]
theorem lineNo_of (s d L i : Nat) (hs : 0 < s) (hi : i < d) : lineNo s d (lineAt s d L + i * s) = L := by
  unfold lineNo lineAt
  have hd : 0 < d := by omega
  have hds : 0 < d * s := Nat.mul_pos hd hs
  have hlt : L % s + i * s < d * s := by
    have h1 := Nat.mod_lt L hs
    have h2 : (i + 1) * s ≤ d * s := Nat.mul_le_mul_right s hi
    rw [Nat.add_mul, Nat.one_mul] at h2
    omega
  have e1 : (L / s * (d * s) + L % s + i * s) / (d * s) = L / s := by
    rw [Nat.add_assoc, Nat.add_comm, Nat.add_mul_div_right _ _ hds, Nat.div_eq_of_lt hlt, Nat.zero_add]
  have e2 : (L / s * (d * s) + L % s + i * s) % s = L % s := by
    rw [show L / s * (d * s) + L % s + i * s = L % s + (L / s * d + i) * s by grind, Nat.add_mul_mod_self_right, Nat.mod_mod]
  rw [e1, e2]
  have := Nat.div_add_mod L s
  rw [Nat.mul_comm] at this
  exact this
theorem lineAt_lt (s d m L i : Nat) (hs : 0 < s) (hL : L < m * s) (hi : i < d) : lineAt s d L + i * s < m * (d * s) := by
  unfold lineAt
  have h0 : L / s < m := Nat.div_lt_of_lt_mul (by rwa [Nat.mul_comm])
  have h1 := Nat.mod_lt L hs
  have h2 : (i + 1) * s ≤ d * s := Nat.mul_le_mul_right s hi
  have h3 : (L / s + 1) * (d * s) ≤ m * (d * s) := Nat.mul_le_mul_right (d * s) h0
  rw [Nat.add_mul, Nat.one_mul] at h2 h3
  omega
theorem lineNo_lt (s d m p : Nat) (hs : 0 < s) (hp : p < m * (d * s)) : lineNo s d p < m * s := by
  unfold lineNo
  have hds : 0 < d * s := by
    rcases Nat.eq_zero_or_pos (d * s) with h | h
    · rw [h, Nat.mul_zero] at hp; omega
    · exact h
  have h0 : p / (d * s) < m := Nat.div_lt_of_lt_mul (by rwa [Nat.mul_comm])
  have h1 := Nat.mod_lt p hs
  have h3 : (p / (d * s) + 1) * s ≤ m * s := Nat.mul_le_mul_right s h0
  rw [Nat.add_mul, Nat.one_mul] at h3
  omega
/-- a row of numbers, transformed or back -/
def tr (back : Bool) (k : Nat) (a : Nat → F) (j : Nat) : F :=
  if back then inv (cast (2 ^ k)) * dft (2 ^ k) (inv (root k)) a j else dft (2 ^ k) (root k) a j
theorem tr_congr {back : Bool} {k : Nat} {a b : Nat → F} (h : ∀ i, i < 2 ^ k → a i = b i) (j : Nat) : tr back k a j = tr back k b j := by
  unfold tr; split
  · rw [dft_congr h]
  · rw [dft_congr h]
/-- the lines first .. last - 1 of an axis, transformed -/
def turned (back : Bool) (s k first last : Nat) (a : Nat → F) (p : Nat) : F :=
  if first ≤ lineNo s (2 ^ k) p ∧ lineNo s (2 ^ k) p < last then tr back k (fun i => a (lineAt s (2 ^ k) (lineNo s (2 ^ k) p) + i * s)) (coord s (2 ^ k) p) else a p
/-- a whole axis -/
def axis (back : Bool) (s k : Nat) (a : Nat → F) (p : Nat) : F := tr back k (fun i => a (lineAt s (2 ^ k) (lineNo s (2 ^ k) p) + i * s)) (coord s (2 ^ k) p)
theorem cast_ne (n : Nat) (h0 : 0 < n) (h1 : n ≤ 1048576) : cast n ≠ 0 := by
  rw [cast_toF]
  exact toF_ne (by omega) (by omega)
theorem tr_fwd (k : Nat) (a : Nat → F) (j : Nat) : tr false k a j = dft (2 ^ k) (root k) a j := by unfold tr; rw [if_neg (by decide)]
theorem tr_inv (k : Nat) (a : Nat → F) (j : Nat) : tr true k a j = inv (cast (2 ^ k)) * dft (2 ^ k) (inv (root k)) a j := by unfold tr; rw [if_pos rfl]
theorem pow_20 {k : Nat} (hk : k ≤ 20) : 2 ^ k ≤ 1048576 := Nat.pow_le_pow_right (by omega) hk
theorem tr_back {k : Nat} (hk : k ≤ 20) (a : Nat → F) {j : Nat} (hj : j < 2 ^ k) (b : Bool) : tr (!b) k (tr b k a) j = a j := by
  have hr := rt_root k (by omega)
  have hm := mul_inv (root k) (root_ne k)
  have hm' : inv (root k) * root k = 1 := by rw [← hm]; grind
  have hc := mul_inv (cast (2 ^ k)) (cast_ne _ (Nat.two_pow_pos k) (pow_20 hk))
  cases b with
  | false =>
    rw [show (!false) = true from rfl, tr_inv, dft_congr (b := dft (2 ^ k) (root k) a) (fun i _ => tr_fwd k a i), dft_back hr hm a hj]
    generalize cast (2 ^ k) = c at *
    grind
  | true =>
    rw [show (!true) = false from rfl, tr_fwd, dft_congr (b := fun j => inv (cast (2 ^ k)) * dft (2 ^ k) (inv (root k)) a j) (fun i _ => tr_inv k a i), dft_smul, dft_back (rt_inv hr) hm' a hj]
    generalize cast (2 ^ k) = c at *
    grind
end Go.Proofs.YtdhmmllpldjkbaaGreatDoor.Gm
/- Plain: shapes: places, strides. -/
namespace Go.Proofs.YtdhmmllpldjkbaaGreatDoor.Gm
/-- number i of a list of naturals -/
@[irreducible] def nd (l : List Nat) (i : Nat) : Nat := l.getD i 0
theorem nd_eq (l : List Nat) (i : Nat) : nd l i = l[i]?.getD 0 := by unfold nd; rw [List.getD_eq_getElem?_getD]
theorem nd_lt {l : List Nat} {i : Nat} (h : i < l.length) : nd l i = l[i] := by rw [nd_eq, List.getElem?_eq_getElem h]; rfl
theorem nd_zero (d : Nat) (l : List Nat) : nd (d :: l) 0 = d := by rw [nd_eq]; rfl
theorem nd_succ (d : Nat) (l : List Nat) (i : Nat) : nd (d :: l) (i + 1) = nd l i := by rw [nd_eq, nd_eq]; rfl
theorem nd_set (l : List Nat) (i j x : Nat) (hi : i < l.length) : nd (l.set i x) j = if i = j then x else nd l j := by
  rw [nd_eq, nd_eq, List.getElem?_set]
  split
  · rename_i h; subst h; simp
  · rfl
theorem nd_mem {l : List Nat} {i : Nat} (h : i < l.length) : nd l i ∈ l := by rw [nd_lt h]; exact List.getElem_mem h
/-- the product -/
def pr : List Nat → Nat
  | [] => 1
  | d :: l => d * pr l
theorem pr_append (l m : List Nat) : pr (l ++ m) = pr l * pr m := by
  induction l with
  | nil => simp [pr]
  | cons d l ih => simp only [List.cons_append, pr, ih, Nat.mul_assoc]
theorem pr_pos {l : List Nat} (h : ∀ d ∈ l, 1 ≤ d) : 1 ≤ pr l := by
  induction l with
  | nil => simp [pr]
  | cons d l ih => exact Nat.mul_pos (h d (by simp)) (ih (fun x hx => h x (by simp [hx])))
theorem pr_take_succ (l : List Nat) (i : Nat) (h : i < l.length) : pr (l.take (i + 1)) = pr (l.take i) * nd l i := by
  rw [List.take_succ_eq_append_getElem h, pr_append, nd_lt h]; simp [pr]
theorem pr_split (l : List Nat) (i : Nat) : pr (l.take i) * pr (l.drop i) = pr l := by rw [← pr_append, List.take_append_drop]
theorem pr_drop (l : List Nat) (i : Nat) (h : i < l.length) : pr (l.drop i) = nd l i * pr (l.drop (i + 1)) := by
  rw [List.drop_eq_getElem_cons h, nd_lt h]; rfl
theorem pr_take_le {l : List Nat} (h : ∀ d ∈ l, 1 ≤ d) (i : Nat) : pr (l.take i) ≤ pr l := by
  rw [← pr_split l i]
  exact Nat.le_mul_of_pos_right _ (pr_pos (fun d hd => h d (List.mem_of_mem_drop hd)))
theorem pr_drop_le {l : List Nat} (h : ∀ d ∈ l, 1 ≤ d) (i : Nat) : pr (l.drop i) ≤ pr l := by
  rw [← pr_split l i]
  exact Nat.le_mul_of_pos_left _ (pr_pos (fun d hd => h d (List.mem_of_mem_take hd)))
/-- how far apart neighbours of an axis lie -/
def under (l : List Nat) (i : Nat) : Nat := pr (l.drop (i + 1))
theorem nd_le_pr {l : List Nat} (h : ∀ d ∈ l, 1 ≤ d) {i : Nat} (hi : i < l.length) : nd l i * under l i ≤ pr l := by
  unfold under
  rw [← pr_drop l i hi]
  exact pr_drop_le h i
theorem under_pos {l : List Nat} (h : ∀ d ∈ l, 1 ≤ d) (i : Nat) : 1 ≤ under l i := pr_pos (fun d hd => h d (List.mem_of_mem_drop hd))
theorem nd_le {l : List Nat} (h : ∀ d ∈ l, 1 ≤ d) {i : Nat} (hi : i < l.length) : nd l i ≤ pr l := Nat.le_trans (Nat.le_mul_of_pos_right _ (under_pos h i)) (nd_le_pr h hi)
theorem under_le {l : List Nat} (h : ∀ d ∈ l, 1 ≤ d) (i : Nat) : under l i ≤ pr l := pr_drop_le h _
/-- the places of number k -/
def plcs (l : List Nat) (k : Nat) : List Nat := (List.range l.length).map fun i => k / under l i % nd l i
theorem plcs_len (l : List Nat) (k : Nat) : (plcs l k).length = l.length := by simp [plcs]
theorem nd_plcs (l : List Nat) (k i : Nat) (hi : i < l.length) : nd (plcs l k) i = k / under l i % nd l i := by
  rw [nd_eq, plcs, List.getElem?_map, List.getElem?_range hi]; rfl
/-- the number at places -/
def plc : List Nat → List Nat → Nat
  | [], _ => 0
  | _ :: _, [] => 0
  | _ :: l, x :: p => x * pr l + plc l p
/-- .. as it is reckoned, axis by axis -/
def plf (l p : List Nat) : Nat → Nat
  | 0 => 0
  | i + 1 => plf l p i * nd l i + nd p i
theorem plf_eq (l p : List Nat) (hp : p.length = l.length) : ∀ i, i ≤ l.length → plf l p i * pr (l.drop i) + plc (l.drop i) (p.drop i) = plc l p := by
  intro i
  induction i with
  | zero => intro _; simp [plf]
  | succ i ih =>
    intro h
    rw [← ih (by omega)]
    have e1 : l.drop i = nd l i :: l.drop (i + 1) := by rw [List.drop_eq_getElem_cons (by omega), nd_lt (by omega)]
    have e2 : p.drop i = nd p i :: p.drop (i + 1) := by rw [List.drop_eq_getElem_cons (by omega), nd_lt (by omega)]
    rw [e1, e2]
    simp only [plc, pr, plf]
    grind
theorem plf_full (l p : List Nat) (hp : p.length = l.length) : plf l p l.length = plc l p := by
  have h := plf_eq l p hp l.length (Nat.le_refl _)
  rw [List.drop_length] at h
  simpa [plc, pr] using h
theorem plf_lt {l p : List Nat} (h : ∀ i, i < l.length → nd p i < nd l i) : ∀ i, i ≤ l.length → plf l p i < pr (l.take i) := by
  intro i
  induction i with
  | zero => intro _; simp [plf, pr]
  | succ i ih =>
    intro hi
    rw [pr_take_succ l i (by omega)]
    have h1 := ih (by omega)
    have h2 := h i (by omega)
    have h3 : (plf l p i + 1) * nd l i ≤ pr (l.take i) * nd l i := Nat.mul_le_mul_right _ h1
    rw [Nat.add_mul, Nat.one_mul] at h3
    show plf l p i * nd l i + nd p i < _
    omega
theorem plc_lt {l p : List Nat} (hp : p.length = l.length) (h : ∀ i, i < l.length → nd p i < nd l i) : plc l p < pr l := by
  have := plf_lt h l.length (Nat.le_refl _)
  rwa [plf_full l p hp, List.take_length] at this
theorem plc_set (l p : List Nat) (hp : p.length = l.length) (a x : Nat) (ha : a < l.length) : plc l (p.set a x) + nd p a * under l a = plc l p + x * under l a := by
  induction l generalizing p a with
  | nil => simp at ha
  | cons d l ih =>
    cases p with
    | nil => simp at hp
    | cons y p =>
      cases a with
      | zero => simp only [List.set_cons_zero, plc, nd_zero, under, List.drop_succ_cons, List.drop_zero]; omega
      | succ a =>
        have := ih p (by simpa using hp) a (by simpa using ha)
        simp only [List.set_cons_succ, plc, nd_succ]
        have e : under (d :: l) (a + 1) = under l a := by simp [under]
        rw [e]
        omega
theorem mod_mul_div (k a b : Nat) : k % (a * b) / b = k / b % a := by
  rcases Nat.eq_zero_or_pos b with hb | hb
  · subst hb; simp
  · rw [Nat.mul_comm, Nat.mod_mul_right_div_self]
theorem plc_plcs (l : List Nat) (k : Nat) : plc l (plcs l k) = k % pr l := by
  have hg : ∀ i, i ≤ l.length → plc (l.drop (l.length - i)) ((plcs l k).drop (l.length - i)) = k % pr (l.drop (l.length - i)) := by
    intro i
    induction i with
    | zero => intro _; simp [plc, pr, Nat.mod_one]
    | succ i ih =>
      intro hi
      have h1 := ih (by omega)
      have hj : l.length - (i + 1) + 1 = l.length - i := by omega
      have hjl : l.length - (i + 1) < l.length := by omega
      generalize l.length - (i + 1) = j at *
      rw [List.drop_eq_getElem_cons hjl, List.drop_eq_getElem_cons (l := plcs l k) (by rw [plcs_len]; exact hjl)]
      simp only [plc, pr]
      rw [hj, h1, ← nd_lt hjl, ← nd_lt (by rw [plcs_len]; exact hjl), nd_plcs l k j hjl]
      unfold under
      rw [hj]
      generalize pr (l.drop (l.length - i)) = u
      have h2 := Nat.div_add_mod (k % (nd l j * u)) u
      rw [mod_mul_div, Nat.mod_mul_left_mod] at h2
      rw [Nat.mul_comm]
      exact h2
  have := hg l.length (Nat.le_refl _)
  simpa using this
theorem plcs_lt (l : List Nat) (k i : Nat) (hi : i < l.length) (h : 1 ≤ nd l i) : nd (plcs l k) i < nd l i := by
  rw [nd_plcs l k i hi]; exact Nat.mod_lt _ h
/-- the line through k along an axis where k has place 0 -/
theorem plc_line (l : List Nat) (k a x : Nat) (ha : a < l.length) (hk : k < pr l) (h0 : nd (plcs l k) a = 0) : plc l ((plcs l k).set a x) = k + x * under l a := by
  have h := plc_set l (plcs l k) (plcs_len l k) a x ha
  rw [h0, plc_plcs, Nat.mod_eq_of_lt hk] at h
  omega
/-- the numbers that have place 0 on an axis -/
def heads (l : List Nat) (a : Nat) : List Nat := (List.range (pr l)).filter fun k => decide (k / under l a % nd l a = 0)
def lns (l : List Nat) (a : Nat) : List (List Nat) := (heads l a).map fun k => (List.range (nd l a)).map fun i => k + i * under l a
/-- right shapes -/
structure Shp (l : List Nat) : Prop where
  len0 : 1 ≤ l.length
  len3 : l.length ≤ 3
  pow : ∀ d ∈ l, ∃ k, d = 2 ^ k
  le : pr l ≤ 1024
theorem Shp.pos {l : List Nat} (h : Shp l) : ∀ d ∈ l, 1 ≤ d := fun d hd => by
  obtain ⟨k, rfl⟩ := h.pow d hd
  exact Nat.two_pow_pos k
theorem Shp.pr1 {l : List Nat} (h : Shp l) : 1 ≤ pr l := pr_pos h.pos
theorem Shp.nd1 {l : List Nat} (h : Shp l) {i : Nat} (hi : i < l.length) : 1 ≤ nd l i := h.pos _ (nd_mem hi)
theorem Shp.ndle {l : List Nat} (h : Shp l) {i : Nat} (hi : i < l.length) : nd l i ≤ 1024 := Nat.le_trans (nd_le h.pos hi) h.le
theorem Shp.under1 {l : List Nat} (h : Shp l) (i : Nat) : 1 ≤ under l i := under_pos h.pos i
theorem Shp.underle {l : List Nat} (h : Shp l) (i : Nat) : under l i ≤ 1024 := Nat.le_trans (under_le h.pos i) h.le
/-- lines by their numbers -/
theorem lns_eq {l : List Nat} (h : Shp l) {a : Nat} (ha : a < l.length) : lns l a = linesOf (under l a) (nd l a) (pr (l.take a) * under l a) := by
  unfold lns heads linesOf line
  have e : pr l = pr (l.take a) * (nd l a * under l a) := by rw [← pr_split l a, pr_drop l a ha]; rfl
  rw [e, filter_lines _ _ _ (h.under1 a) (h.nd1 ha), List.map_map]
  rfl
/-- powers of two, as integers -/
def pw (d : Int) : Prop := ∃ k : Nat, d = 2 ^ k
theorem pw_pos {d : Int} (h : pw d) : 1 ≤ d := by
  obtain ⟨k, rfl⟩ := h
  have := Nat.two_pow_pos k
  have e : ((2 : Int) ^ k) = ((2 ^ k : Nat) : Int) := by simp
  omega
theorem pw_one : pw 1 := ⟨0, by simp⟩
theorem pw_double {d : Int} : pw (d * 2) ↔ pw d := by
  constructor
  · rintro ⟨k, hk⟩
    cases k with
    | zero => simp at hk; omega
    | succ k => exact ⟨k, by rw [Int.pow_succ] at hk; omega⟩
  · rintro ⟨k, hk⟩
    exact ⟨k + 1, by rw [Int.pow_succ, hk]⟩
theorem pw_odd {d : Int} (h : d % 2 ≠ 0) : pw d ↔ d = 1 := by
  constructor
  · rintro ⟨k, hk⟩
    cases k with
    | zero => simpa using hk
    | succ k => rw [Int.pow_succ] at hk; omega
  · rintro rfl; exact pw_one
theorem pw_low {d : Int} (h : d ≤ 1) : pw d ↔ d = 1 := by
  constructor
  · intro hp; have := pw_pos hp; omega
  · rintro rfl; exact pw_one
theorem and_pred (n : Nat) (h : 1 ≤ n) : n &&& (n - 1) = 0 ↔ pw (n : Int) := by
  induction n using Nat.strongRecOn with
  | _ n ih =>
    rcases Nat.mod_two_eq_zero_or_one n with h0 | h1
    · obtain ⟨m, rfl⟩ : ∃ m, n = 2 * m := ⟨n / 2, by omega⟩
      have hm : 1 ≤ m := by omega
      have e : 2 * m &&& (2 * m - 1) = 2 * (m &&& (m - 1)) := by
        apply Nat.eq_of_testBit_eq
        intro i
        cases i with
        | zero => simp
        | succ i =>
          rw [Nat.testBit_and, Nat.testBit_succ, Nat.testBit_succ, Nat.testBit_succ]
          rw [show 2 * m / 2 = m by omega, show (2 * m - 1) / 2 = m - 1 by omega, show 2 * (m &&& (m - 1)) / 2 = m &&& (m - 1) by omega, Nat.testBit_and]
      rw [e, show ((2 * m : Nat) : Int) = (m : Int) * 2 by omega, pw_double, ← ih m (by omega) hm]
      omega
    · rw [pw_odd (by omega)]
      by_cases hn : n = 1
      · subst hn; simp
      · have : n &&& (n - 1) ≠ 0 := by
          intro e
          obtain ⟨m, rfl⟩ : ∃ m, n = 2 * m + 1 := ⟨n / 2, by omega⟩
          have hm : m ≠ 0 := by omega
          obtain ⟨i, hi⟩ := Nat.exists_testBit_of_ne_zero hm
          have h2 : (2 * m + 1 &&& (2 * m + 1 - 1)).testBit (i + 1) = (0 : Nat).testBit (i + 1) := by rw [e]
          rw [Nat.testBit_and, Nat.testBit_succ, Nat.testBit_succ, Nat.zero_testBit, show (2 * m + 1) / 2 = m by omega, show (2 * m + 1 - 1) / 2 = m by omega, hi] at h2
          simp at h2
        constructor
        · intro e; exact absurd e this
        · intro e; omega
end Go.Proofs.YtdhmmllpldjkbaaGreatDoor.Gm
/- Plain: all axes of an array: the whole transform is one sum with a product of powers. -/
namespace Go.Proofs.YtdhmmllpldjkbaaGreatDoor.Gm
/-- the power that number i has in number j of a row's transform -/
@[irreducible] def ker (back : Bool) (k i j : Nat) : F := if back then inv (cast (2 ^ k)) * inv (root k) ^ (j * i) else root k ^ (j * i)
theorem ker_f (k i j : Nat) : ker false k i j = root k ^ (j * i) := by unfold ker; rw [if_neg (by decide)]
theorem ker_b (k i j : Nat) : ker true k i j = inv (cast (2 ^ k)) * inv (root k) ^ (j * i) := by unfold ker; rw [if_pos rfl]
theorem tr_ker (back : Bool) (k : Nat) (a : Nat → F) (j : Nat) : tr back k a j = S (2 ^ k) (fun i => a i * ker back k i j) := by
  cases back with
  | false => rw [tr_fwd, dft_eq]; exact S_congr (fun i _ => by rw [ker_f])
  | true =>
    rw [tr_inv, dft_eq, ← S_mul_left]
    exact S_congr (fun i _ => by rw [ker_b]; generalize inv (cast (2 ^ k)) = c; generalize inv (root k) ^ (j * i) = d; grind)
theorem S_block (m u : Nat) (f : Nat → F) : S (m * u) f = S m (fun i => S u (fun r => f (i * u + r))) := by
  induction m with
  | zero => rw [Nat.zero_mul]; rfl
  | succ m ih => rw [Nat.succ_mul, S_split, ih, S_succ]
/-- sizes of logs -/
def szs (ks : List Nat) : List Nat := ks.map (2 ^ ·)
theorem szs_pos {ks : List Nat} : ∀ d ∈ szs ks, 1 ≤ d := fun d hd => by
  obtain ⟨k, _, rfl⟩ := List.mem_map.1 hd
  exact Nat.two_pow_pos k
def pk (ks : List Nat) : Nat := pr (szs ks)
theorem pk_nil : pk [] = 1 := rfl
theorem pk_cons (k : Nat) (ks : List Nat) : pk (k :: ks) = 2 ^ k * pk ks := rfl
theorem pk_pos (ks : List Nat) : 0 < pk ks := pr_pos szs_pos
def KER (back : Bool) : List Nat → Nat → Nat → F
  | [], _, _ => 1
  | k :: ks, q, p => ker back k (q / pk ks) (p / pk ks) * KER back ks (q % pk ks) (p % pk ks)
/-- the whole transform -/
@[irreducible] def WT (back : Bool) (ks : List Nat) (a : Nat → F) (p : Nat) : F := S (pk ks) (fun q => a q * KER back ks q p)
theorem WT_eq (back : Bool) (ks : List Nat) (a : Nat → F) (p : Nat) : WT back ks a p = S (pk ks) (fun q => a q * KER back ks q p) := by unfold WT; rfl
theorem WT_congr {back : Bool} {ks : List Nat} {a b : Nat → F} (h : ∀ i, i < pk ks → a i = b i) (p : Nat) : WT back ks a p = WT back ks b p := by
  rw [WT_eq, WT_eq]; exact S_congr (fun i hi => by rw [h i hi])
theorem blk_div {u i r : Nat} (hr : r < u) : (i * u + r) / u = i := by
  rw [Nat.add_comm, Nat.add_mul_div_right _ _ (by omega), Nat.div_eq_of_lt hr, Nat.zero_add]
theorem blk_mod {u i r : Nat} (hr : r < u) : (i * u + r) % u = r := by
  rw [Nat.add_comm, Nat.add_mul_mod_self_right, Nat.mod_eq_of_lt hr]
theorem WT_cons (back : Bool) (k : Nat) (ks : List Nat) (a : Nat → F) (p : Nat) :
    WT back (k :: ks) a p = S (2 ^ k) (fun i => WT back ks (fun r => a (i * pk ks + r)) (p % pk ks) * ker back k i (p / pk ks)) := by
  rw [WT_eq, pk_cons, S_block]
  refine S_congr (fun i _ => ?_)
  rw [WT_eq, ← S_mul_right]
  refine S_congr (fun r hr => ?_)
  show a (i * pk ks + r) * (ker back k ((i * pk ks + r) / pk ks) (p / pk ks) * KER back ks ((i * pk ks + r) % pk ks) (p % pk ks)) = _
  rw [blk_div hr, blk_mod hr]
  generalize KER back ks r (p % pk ks) = x
  generalize ker back k i (p / pk ks) = y
  grind
/-- the axes: how far apart, and their logs -/
def axs : List Nat → List (Nat × Nat)
  | [] => []
  | k :: ks => (pk ks, k) :: axs ks
theorem lineAt_no (s d p : Nat) (hs : 0 < s) : lineAt s d (lineNo s d p) = p / (d * s) * (d * s) + p % s := by
  have h1 : lineNo s d p / s = p / (d * s) := by
    unfold lineNo; rw [Nat.add_comm, Nat.add_mul_div_right _ _ hs, Nat.div_eq_of_lt (Nat.mod_lt _ hs), Nat.zero_add]
  have h2 : lineNo s d p % s = p % s := by
    unfold lineNo; rw [Nat.add_comm, Nat.add_mul_mod_self_right, Nat.mod_mod]
  unfold lineAt
  rw [h1, h2]
theorem axis_eq (back : Bool) (s k : Nat) (hs : 0 < s) (a : Nat → F) (p : Nat) : axis back s k a p = tr back k (fun i => a (p / (2 ^ k * s) * (2 ^ k * s) + p % s + i * s)) (p / s % 2 ^ k) := by
  unfold axis coord
  rw [lineAt_no _ _ _ hs]
theorem axis_block (back : Bool) (s k : Nat) (hs : 0 < s) {u : Nat} (hu : 2 ^ k * s ∣ u) (a : Nat → F) (P r : Nat) : axis back s k a (P * u + r) = axis back s k (fun x => a (P * u + x)) r := by
  obtain ⟨t, rfl⟩ := hu
  have hk : 0 < 2 ^ k := Nat.two_pow_pos k
  generalize hd : 2 ^ k = d at *
  have hds : 0 < d * s := Nat.mul_pos hk hs
  rw [axis_eq _ _ _ hs, axis_eq _ _ _ hs, hd]
  have e1 : (P * (d * s * t) + r) / (d * s) = P * t + r / (d * s) := by
    rw [show P * (d * s * t) + r = r + (P * t) * (d * s) by grind, Nat.add_mul_div_right _ _ hds, Nat.add_comm]
  have e2 : (P * (d * s * t) + r) % s = r % s := by
    rw [show P * (d * s * t) + r = r + (P * d * t) * s by grind, Nat.add_mul_mod_self_right]
  have e3 : (P * (d * s * t) + r) / s % d = r / s % d := by
    rw [show P * (d * s * t) + r = r + (P * t * d) * s by grind, Nat.add_mul_div_right _ _ hs, Nat.add_mul_mod_self_right]
  rw [e1, e2, e3]
  congr 1
  funext i
  congr 1
  grind
theorem axis_congr {back : Bool} {s k u : Nat} (hs : 0 < s) (hu : 2 ^ k * s ∣ u) {a b : Nat → F} (h : ∀ i, i < u → a i = b i) {p : Nat} (hp : p < u) : axis back s k a p = axis back s k b p := by
  rw [axis_eq _ _ _ hs, axis_eq _ _ _ hs]
  refine tr_congr (fun i hi => h _ ?_) _
  obtain ⟨t, rfl⟩ := hu
  have hk : 0 < 2 ^ k := Nat.two_pow_pos k
  generalize 2 ^ k = d at *
  have h1 := Nat.mod_lt p hs
  have h2 : (i + 1) * s ≤ d * s := Nat.mul_le_mul_right s hi
  have h3 : p / (d * s) < t := Nat.div_lt_of_lt_mul hp
  have h4 : (p / (d * s) + 1) * (d * s) ≤ t * (d * s) := Nat.mul_le_mul_right _ h3
  rw [Nat.add_mul, Nat.one_mul] at h2 h4
  rw [Nat.mul_comm (d * s) t]
  omega
def Fit (u : Nat) (l : List (Nat × Nat)) : Prop := ∀ x ∈ l, 0 < x.1 ∧ 2 ^ x.2 * x.1 ∣ u
def run (back : Bool) (l : List (Nat × Nat)) (a : Nat → F) : Nat → F := l.foldl (fun a x => axis back x.1 x.2 a) a
theorem run_nil (back : Bool) (a : Nat → F) : run back [] a = a := rfl
theorem run_cons (back : Bool) (x : Nat × Nat) (l : List (Nat × Nat)) (a : Nat → F) : run back (x :: l) a = run back l (axis back x.1 x.2 a) := rfl
theorem run_append (back : Bool) (l m : List (Nat × Nat)) (a : Nat → F) : run back (l ++ m) a = run back m (run back l a) := List.foldl_append
theorem run_congr {back : Bool} {u : Nat} : ∀ {l : List (Nat × Nat)}, Fit u l → ∀ {a b : Nat → F}, (∀ i, i < u → a i = b i) → ∀ p, p < u → run back l a p = run back l b p
  | [], _, _, _, h, p, hp => h p hp
  | x :: l, hf, a, b, h, p, hp => by
    rw [run_cons, run_cons]
    have hx := hf x (by simp)
    exact run_congr (fun y hy => hf y (by simp [hy])) (fun i hi => axis_congr hx.1 hx.2 h hi) p hp
theorem run_block {back : Bool} {u : Nat} (P : Nat) : ∀ {l : List (Nat × Nat)}, Fit u l → ∀ (a : Nat → F) (r : Nat), r < u → run back l a (P * u + r) = run back l (fun x => a (P * u + x)) r
  | [], _, _, _, _ => rfl
  | x :: l, hf, a, r, hr => by
    have hx := hf x (by simp)
    have hl : Fit u l := fun y hy => hf y (by simp [hy])
    rw [run_cons, run_cons, run_block P hl _ r hr]
    exact run_congr hl (fun i hi => axis_block back x.1 x.2 hx.1 hx.2 a P i) r hr
theorem fit_axs : ∀ ks : List Nat, Fit (pk ks) (axs ks)
  | [] => fun x hx => by simp [axs] at hx
  | k :: ks => fun x hx => by
    rcases List.mem_cons.1 hx with rfl | hx
    · exact ⟨pk_pos ks, Nat.dvd_refl _⟩
    · have := fit_axs ks x hx
      exact ⟨this.1, Nat.dvd_trans this.2 ⟨2 ^ k, by rw [pk_cons, Nat.mul_comm]⟩⟩
theorem axis_first (back : Bool) (k : Nat) (ks : List Nat) (a : Nat → F) {P r : Nat} (hP : P < 2 ^ k) (hr : r < pk ks) : axis back (pk ks) k a (P * pk ks + r) = tr back k (fun i => a (i * pk ks + r)) P := by
  have hu := pk_pos ks
  rw [axis_eq _ _ _ hu]
  generalize pk ks = u at *
  have hlt : P * u + r < 2 ^ k * u := by
    have := Nat.mul_le_mul_right u (show P + 1 ≤ 2 ^ k from hP)
    rw [Nat.add_mul, Nat.one_mul] at this
    omega
  rw [Nat.div_eq_of_lt hlt, blk_div hr, blk_mod hr, Nat.mod_eq_of_lt hP]
  congr 1
  funext i
  congr 1
  omega
theorem pk_split {k : Nat} {ks : List Nat} {p : Nat} (hp : p < pk (k :: ks)) : p / pk ks < 2 ^ k ∧ p % pk ks < pk ks ∧ p / pk ks * pk ks + p % pk ks = p :=
  ⟨Nat.div_lt_of_lt_mul (by rw [Nat.mul_comm]; exact hp), Nat.mod_lt _ (pk_pos ks), by rw [Nat.mul_comm]; exact Nat.div_add_mod p _⟩
/-- axis by axis is the whole -/
theorem run_whole (back : Bool) : ∀ (ks : List Nat) (a : Nat → F) (p : Nat), p < pk ks → run back (axs ks) a p = WT back ks a p
  | [], a, p, hp => by
    have : p = 0 := by rw [pk_nil] at hp; omega
    subst this
    rw [WT_eq, pk_nil]
    show a 0 = S (0 + 1) _
    rw [S_succ, S_zero]
    show a 0 = 0 + a 0 * 1
    grind
  | k :: ks, a, p, hp => by
    obtain ⟨h1, h2, h3⟩ := pk_split hp
    show run back (axs ks) (axis back (pk ks) k a) p = _
    conv => lhs; rw [← h3]
    rw [run_block _ (fit_axs ks) _ _ h2, run_congr (fit_axs ks) (fun r hr => axis_first back k ks a h1 hr) _ h2, run_whole back ks _ _ h2, WT_cons, WT_eq]
    rw [S_congr (g := fun q => S (2 ^ k) (fun i => a (i * pk ks + q) * ker back k i (p / pk ks) * KER back ks q (p % pk ks))) (fun q _ => by rw [tr_ker, S_mul_right]), S_swap]
    refine S_congr (fun i _ => ?_)
    rw [WT_eq, ← S_mul_right]
    refine S_congr (fun q _ => ?_)
    generalize KER back ks q (p % pk ks) = x
    generalize ker back k i (p / pk ks) = y
    grind
/-- the other way round, too -/
theorem run_rev (back : Bool) : ∀ (ks : List Nat) (a : Nat → F) (p : Nat), p < pk ks → run back (axs ks).reverse a p = WT back ks a p
  | [], a, p, hp => run_whole back [] a p hp
  | k :: ks, a, p, hp => by
    obtain ⟨h1, h2, h3⟩ := pk_split hp
    show run back ((pk ks, k) :: axs ks).reverse a p = _
    rw [List.reverse_cons, run_append]
    show axis back (pk ks) k (run back (axs ks).reverse a) p = _
    have hf : Fit (pk ks) (axs ks).reverse := fun x hx => fit_axs ks x (List.mem_reverse.1 hx)
    conv => lhs; rw [← h3]
    rw [axis_first back k ks _ h1 h2, tr_ker, WT_cons]
    refine S_congr (fun i _ => ?_)
    rw [run_block _ hf _ _ h2, run_rev back ks _ _ h2]
end Go.Proofs.YtdhmmllpldjkbaaGreatDoor.Gm
/- Plain: corners of the whole transform: sums with signs alone. -/
namespace Go.Proofs.YtdhmmllpldjkbaaGreatDoor.Gm
theorem range_block (m u : Nat) (A B : Nat → Bool) : (List.range (m * u)).filter (fun p => A (p / u) && B (p % u)) = ((List.range m).filter A).flatMap (fun i => ((List.range u).filter B).map (i * u + ·)) := by
  induction m with
  | zero => simp
  | succ m ih =>
    rw [Nat.succ_mul, List.range_add, List.filter_append, ih, List.range_succ, List.filter_append, List.flatMap_append, List.filter_map]
    congr 1
    have e : (List.range u).filter ((fun p => A (p / u) && B (p % u)) ∘ fun x => m * u + x) = (List.range u).filter (fun r => A m && B r) := by
      apply List.filter_congr
      intro x hx
      have hx := List.mem_range.1 hx
      simp only [Function.comp_def]
      rw [blk_div hx, blk_mod hx]
    rw [e]
    by_cases h : A m = true
    · simp [h]
    · have h : A m = false := by simpa using h
      simp [h]
/-- bit of an axis: is it the half that is meant? -/
def sgn (b : Bool) (i : Nat) : F := if b && i % 2 == 1 then -1 else 1
def SG : List Nat → Nat → Nat → F
  | [], _, _ => 1
  | _ :: ks, c, q => sgn (c / 2 ^ ks.length % 2 == 1) (q / pk ks) * SG ks (c % 2 ^ ks.length) (q % pk ks)
/-- no half of an axis of one place -/
def okc : List Nat → Nat → Bool
  | [], _ => true
  | k :: ks, c => !((c / 2 ^ ks.length % 2 == 1) && k == 0) && okc ks (c % 2 ^ ks.length)
/-- the corner's number -/
def cnr : List Nat → Nat → Nat
  | [], _ => 0
  | k :: ks, c => (if c / 2 ^ ks.length % 2 == 1 then 2 ^ (k - 1) * pk ks else 0) + cnr ks (c % 2 ^ ks.length)
/-- is a number a corner's? -/
def okp : List Nat → Nat → Bool
  | [], _ => true
  | k :: ks, p => (p / pk ks == 0 || 2 * (p / pk ks) == 2 ^ k) && okp ks (p % pk ks)
theorem cnr_lt : ∀ (ks : List Nat) (c : Nat), okc ks c = true → cnr ks c < pk ks
  | [], _, _ => by simp [cnr, pk_nil]
  | k :: ks, c, h => by
    simp only [okc, Bool.and_eq_true] at h
    have h2 := cnr_lt ks _ h.2
    have hu := pk_pos ks
    simp only [cnr, pk_cons]
    by_cases hb : c / 2 ^ ks.length % 2 == 1
    · have hk : k ≠ 0 := by rintro rfl; simp [hb] at h
      obtain ⟨m, rfl⟩ : ∃ m, k = m + 1 := ⟨k - 1, by omega⟩
      rw [if_pos hb, Nat.add_sub_cancel, Nat.pow_succ]
      have hm := Nat.two_pow_pos m
      have h3 := Nat.mul_le_mul_right (pk ks) (show 2 ^ m + 1 ≤ 2 ^ m * 2 by omega)
      rw [Nat.add_mul, Nat.one_mul] at h3
      omega
    · rw [if_neg hb]
      have h3 := Nat.le_mul_of_pos_left (pk ks) (Nat.two_pow_pos k)
      omega
theorem mod_two_pow_lt (c n : Nat) : c % 2 ^ n < 2 ^ n := Nat.mod_lt _ (Nat.two_pow_pos n)
theorem filter_zero (h : Nat) (hh : 0 < h) : (List.range h).filter (fun i => i == 0) = [0] := by
  obtain ⟨m, rfl⟩ : ∃ m, h = m + 1 := ⟨h - 1, by omega⟩
  rw [List.range_succ_eq_map]
  simp only [List.filter_cons, beq_self_eq_true, if_true]
  congr 1
  rw [List.filter_eq_nil_iff]
  intro x hx
  obtain ⟨y, _, rfl⟩ := List.mem_map.1 hx
  simp
theorem filter_half (k : Nat) : (List.range (2 ^ k)).filter (fun i => i == 0 || 2 * i == 2 ^ k) = if k = 0 then [0] else [0, 2 ^ (k - 1)] := by
  cases k with
  | zero => rfl
  | succ m =>
    rw [if_neg (by omega), Nat.add_sub_cancel, Nat.pow_succ]
    have hm := Nat.two_pow_pos m
    generalize 2 ^ m = h at *
    rw [show h * 2 = h + h by omega, List.range_add, List.filter_append]
    have e1 : (List.range h).filter (fun i => i == 0 || 2 * i == h + h) = [0] := by
      rw [← filter_zero h hm]
      apply List.filter_congr
      intro x hx
      have hx := List.mem_range.1 hx
      have : (2 * x == h + h) = false := by simp; omega
      rw [this, Bool.or_false]
    have e2 : ((List.range h).map (h + ·)).filter (fun i => i == 0 || 2 * i == h + h) = [h] := by
      rw [List.filter_map]
      have : (List.range h).filter ((fun i => i == 0 || 2 * i == h + h) ∘ fun x => h + x) = [0] := by
        rw [← filter_zero h hm]
        apply List.filter_congr
        intro x _
        simp only [Function.comp_def]
        rw [Bool.eq_iff_iff]
        simp
        omega
      rw [this]; simp
    rw [e1, e2]; rfl
theorem corners_eq : ∀ ks : List Nat, (List.range (pk ks)).filter (okp ks) = ((List.range (2 ^ ks.length)).filter (okc ks)).map (cnr ks)
  | [] => by simp [pk_nil, okp, okc, cnr]
  | k :: ks => by
    have h1 : (List.range (pk (k :: ks))).filter (okp (k :: ks)) = (List.range (2 ^ k * pk ks)).filter (fun p => (fun i => i == 0 || 2 * i == 2 ^ k) (p / pk ks) && okp ks (p % pk ks)) := rfl
    have h2 : (List.range (2 ^ (k :: ks).length)).filter (okc (k :: ks)) = (List.range (2 * 2 ^ ks.length)).filter (fun c => (fun i => !((i % 2 == 1) && k == 0)) (c / 2 ^ ks.length) && okc ks (c % 2 ^ ks.length)) := by
      rw [List.length_cons, Nat.pow_succ, Nat.mul_comm]; rfl
    rw [h1, h2, range_block (2 ^ k) (pk ks) (fun i => i == 0 || 2 * i == 2 ^ k) (okp ks), range_block 2 (2 ^ ks.length) (fun i => !((i % 2 == 1) && k == 0)) (okc ks), filter_half, corners_eq ks, List.map_flatMap]
    have e0 : ∀ c ∈ (List.range (2 ^ ks.length)).filter (okc ks), cnr (k :: ks) (0 * 2 ^ ks.length + c) = cnr ks c := by
      intro c hc
      have hc := List.mem_range.1 ((List.mem_filter.1 hc).1)
      simp only [cnr]
      rw [blk_div hc, blk_mod hc]
      simp
    have e1 : ∀ c ∈ (List.range (2 ^ ks.length)).filter (okc ks), cnr (k :: ks) (1 * 2 ^ ks.length + c) = 2 ^ (k - 1) * pk ks + cnr ks c := by
      intro c hc
      have hc := List.mem_range.1 ((List.mem_filter.1 hc).1)
      simp only [cnr]
      rw [blk_div hc, blk_mod hc]
      simp
    by_cases hk : k = 0
    · subst hk
      have : (List.range 2).filter (fun i => !((i % 2 == 1) && (0 : Nat) == 0)) = [0] := by decide
      rw [this]
      simp only [if_true, List.flatMap_cons, List.flatMap_nil, List.append_nil, List.map_map]
      apply List.map_congr_left
      intro c hc
      simp only [Function.comp_def]
      rw [e0 c hc]; omega
    · have : (List.range 2).filter (fun i => !((i % 2 == 1) && k == 0)) = [0, 1] := by
        have hk' : (k == 0) = false := by simpa using hk
        rw [hk']; decide
      rw [this, if_neg hk]
      simp only [List.flatMap_cons, List.flatMap_nil, List.append_nil, List.map_map]
      congr 1
      · apply List.map_congr_left
        intro c hc
        simp only [Function.comp_def]
        rw [e0 c hc]; omega
      · apply List.map_congr_left
        intro c hc
        simp only [Function.comp_def]
        rw [e1 c hc]
theorem neg_pow (n : Nat) : (-1 : F) ^ n = if n % 2 = 1 then -1 else 1 := by
  induction n with
  | zero => rw [pow_zero, if_neg (by decide)]
  | succ n ih =>
    rw [pow_succ, ih]
    by_cases h : n % 2 = 1
    · rw [if_pos h, if_neg (by omega)]; grind
    · rw [if_neg h, if_pos (by omega)]; grind
theorem ker_zero (k i : Nat) : ker false k i 0 = 1 := by rw [ker_f, Nat.zero_mul, pow_zero]
theorem ker_half {m : Nat} (hm : m < 32) (i : Nat) : ker false (m + 1) i (2 ^ m) = if i % 2 = 1 then -1 else 1 := by
  rw [ker_f, pow_mul, root_half m hm, neg_pow]
/-- at a corner the powers are signs -/
theorem KER_cnr : ∀ (ks : List Nat) (c q : Nat), (∀ k ∈ ks, k ≤ 32) → okc ks c = true → KER false ks q (cnr ks c) = SG ks c q
  | [], _, _, _, _ => rfl
  | k :: ks, c, q, hk, h => by
    have h' := h
    simp only [okc, Bool.and_eq_true] at h
    have hlt := cnr_lt ks _ h.2
    have ih := KER_cnr ks (c % 2 ^ ks.length) (q % pk ks) (fun x hx => hk x (by simp [hx])) h.2
    simp only [KER, SG, cnr]
    have hu := pk_pos ks
    by_cases hb : c / 2 ^ ks.length % 2 == 1
    · have hk0 : k ≠ 0 := by rintro rfl; simp [hb] at h
      obtain ⟨m, rfl⟩ : ∃ m, k = m + 1 := ⟨k - 1, by omega⟩
      have hk32 := hk (m + 1) (by simp)
      rw [if_pos hb, Nat.add_sub_cancel, blk_div hlt, blk_mod hlt, ih, ker_half (by omega)]
      congr 1
      unfold sgn
      rw [hb, Bool.true_and]
      by_cases hq : q / pk ks % 2 = 1
      · rw [if_pos hq, if_pos (by simpa using hq)]
      · rw [if_neg hq, if_neg (by simpa using hq)]
    · rw [if_neg hb, Nat.zero_add, Nat.div_eq_of_lt hlt, Nat.mod_eq_of_lt hlt, ih, ker_zero]
      congr 1
      unfold sgn
      have hb : (c / 2 ^ ks.length % 2 == 1) = false := by simpa using hb
      rw [hb, Bool.false_and, if_neg (by decide)]
/-- a corner's sum -/
theorem WT_cnr {ks : List Nat} (hk : ∀ k ∈ ks, k ≤ 32) (a : Nat → F) {c : Nat} (h : okc ks c = true) : WT false ks a (cnr ks c) = S (pk ks) (fun q => a q * SG ks c q) := by
  rw [WT_eq]
  exact S_congr (fun q _ => by rw [KER_cnr ks c q hk h])
end Go.Proofs.YtdhmmllpldjkbaaGreatDoor.Gm
/- Plain: cyclic products and transforms; all axes at once. -/
namespace Go.Proofs.YtdhmmllpldjkbaaGreatDoor.Gm
theorem S_turn (n : Nat) (g : Nat → F) : S n (fun k => g ((k + 1) % n)) = S n g := by
  cases n with
  | zero => rfl
  | succ m =>
    rw [S_succ, S_front, Nat.mod_self]
    rw [S_congr (g := fun i => g (i + 1)) (fun i hi => by rw [Nat.mod_eq_of_lt (by omega)])]
    grind
theorem S_rot (n s : Nat) (f : Nat → F) : S n (fun k => f ((k + s) % n)) = S n f := by
  induction s with
  | zero => exact S_congr (fun i hi => by rw [Nat.add_zero, Nat.mod_eq_of_lt hi])
  | succ s ih =>
    rw [← ih, ← S_turn n (fun k => f ((k + s) % n))]
    exact S_congr (fun i hi => by
      show _ = f (((i + 1) % n + s) % n)
      rw [Nat.mod_add_mod, show i + (s + 1) = i + 1 + s by omega])
/-- the cyclic product -/
def cyc (n : Nat) (a b : Nat → F) (k : Nat) : F := S n (fun i => a i * b ((k + (n - i)) % n))
theorem pow_modn {x : F} {n : Nat} (hx : x ^ n = 1) (m : Nat) : x ^ (m % n) = x ^ m := by
  conv => rhs; rw [← Nat.div_add_mod m n, pow_add, pow_mul, hx, one_pow]
  grind
theorem cyc_dft {w : F} {n : Nat} (hw : w ^ n = 1) (a b : Nat → F) (j : Nat) : dft n w (cyc n a b) j = dft n w a j * dft n w b j := by
  have hx : (w ^ j) ^ n = 1 := by rw [← pow_mul, Nat.mul_comm, pow_mul, hw, one_pow]
  show S n (fun k => S n (fun i => a i * b ((k + (n - i)) % n)) * (w ^ j) ^ k) = S n (fun i => a i * (w ^ j) ^ i) * S n (fun i => b i * (w ^ j) ^ i)
  generalize w ^ j = x at *
  rw [S_congr (g := fun k => S n (fun i => a i * b ((k + (n - i)) % n) * x ^ k)) (fun k _ => by rw [S_mul_right]), S_swap, ← S_mul_right]
  refine S_congr (fun i hi => ?_)
  rw [← S_rot n (n - i) (fun m => b m * x ^ m), ← S_mul_left]
  refine S_congr (fun k hk => ?_)
  show _ = a i * x ^ i * (b ((k + (n - i)) % n) * x ^ ((k + (n - i)) % n))
  rw [pow_modn hx]
  have : x ^ i * x ^ (k + (n - i)) = x ^ k := by
    rw [← pow_add, show i + (k + (n - i)) = k + n by omega, pow_add, hx]; grind
  generalize b ((k + (n - i)) % n) = y
  rw [← this]
  grind
theorem cyc_cv {n : Nat} {a b : Nat → F} (ha : ∀ i, n ≤ i → a i = 0) (hb : ∀ i, n ≤ i → b i = 0) {k : Nat} (hk : k < n) : cyc n a b k = cv a b k + cv a b (k + n) := by
  unfold cyc cv
  obtain ⟨m, rfl⟩ : ∃ m, n = (k + 1) + m := ⟨n - k - 1, by omega⟩
  rw [S_split, show k + (k + 1 + m) + 1 = (k + 1) + (m + (k + 1)) by omega, S_split (k + 1) (m + (k + 1))]
  rw [S_all0 (n := k + 1) (f := fun i => a i * b (k + (k + 1 + m) - i)) (fun i hi => by rw [hb _ (by omega)]; grind)]
  rw [S_more (m := m) (n := m + (k + 1)) (by omega) (f := fun i => a (k + 1 + i) * b (k + (k + 1 + m) - (k + 1 + i))) (fun i h1 h2 => by rw [ha _ (by omega)]; grind)]
  have e1 : S (k + 1) (fun i => a i * b ((k + (k + 1 + m - i)) % (k + 1 + m))) = S (k + 1) (fun i => a i * b (k - i)) := S_congr (fun i hi => by
    rw [show k + (k + 1 + m - i) = (k - i) + (k + 1 + m) by omega, Nat.add_mod_right, Nat.mod_eq_of_lt (by omega)])
  have e2 : S m (fun i => a (k + 1 + i) * b ((k + (k + 1 + m - (k + 1 + i))) % (k + 1 + m))) = S m (fun i => a (k + 1 + i) * b (k + (k + 1 + m) - (k + 1 + i))) := S_congr (fun i hi => by
    rw [Nat.mod_eq_of_lt (by omega)]; congr 2; omega)
  rw [e1, e2]
  grind
theorem root_pow (k : Nat) (hk : k ≤ 32) : root k ^ (2 ^ k) = 1 := (rt_root k hk).full
/-- back from the product of transforms -/
theorem tr_cyc {k : Nat} (hk : k ≤ 20) (a b : Nat → F) {i : Nat} (hi : i < 2 ^ k) : tr true k (fun j => tr false k a j * tr false k b j) i = cyc (2 ^ k) a b i := by
  have h := tr_back hk (cyc (2 ^ k) a b) hi false
  rw [show (!false) = true from rfl] at h
  rw [← h]
  refine tr_congr (fun j _ => ?_) i
  rw [tr_fwd, tr_fwd, tr_fwd, cyc_dft (root_pow k (by omega))]
/-- twisted -/
theorem cv_twist (a b : Nat → F) (w : F) (k : Nat) : cv (fun i => a i * w ^ i) (fun i => b i * w ^ i) k = w ^ k * cv a b k := by
  unfold cv
  rw [← S_mul_left]
  refine S_congr (fun i hi => ?_)
  have : w ^ k = w ^ i * w ^ (k - i) := by rw [← pow_add]; congr 1; omega
  show a i * w ^ i * (b (k - i) * w ^ (k - i)) = w ^ k * (a i * b (k - i))
  rw [this]
  generalize w ^ i = x
  generalize w ^ (k - i) = y
  generalize a i = p
  generalize b (k - i) = q
  clear this
  grind
theorem skew_eq {k : Nat} (hk : k ≤ 20) {a b : Nat → F} (ha : ∀ i, 2 ^ k ≤ i → a i = 0) (hb : ∀ i, 2 ^ k ≤ i → b i = 0) {i : Nat} (hi : i < 2 ^ k) :
    tr true k (fun j => tr false k (fun i => a i * root (k + 1) ^ i) j * tr false k (fun i => b i * root (k + 1) ^ i) j) i * inv (root (k + 1)) ^ i = cv a b i - cv a b (i + 2 ^ k) := by
  rw [tr_cyc hk _ _ hi, cyc_cv (fun i h => by rw [ha i h]; grind) (fun i h => by rw [hb i h]; grind) hi, cv_twist, cv_twist, pow_add, root_half k (by omega)]
  have h1 : root (k + 1) ^ i * inv (root (k + 1)) ^ i = 1 := by rw [← pow_mul_pow, mul_inv _ (root_ne _), one_pow]
  generalize root (k + 1) ^ i = x at *
  generalize inv (root (k + 1)) ^ i = y at *
  grind
/-- whole transforms: there and back -/
theorem WT_tr (back : Bool) (k : Nat) (ks : List Nat) (a : Nat → F) (p : Nat) : WT back (k :: ks) a p = tr back k (fun i => WT back ks (fun r => a (i * pk ks + r)) (p % pk ks)) (p / pk ks) := by
  rw [WT_cons, tr_ker]
theorem WT_lin (back : Bool) (ks : List Nat) (n : Nat) (g : Nat → Nat → F) (c : Nat → F) (p : Nat) : WT back ks (fun r => S n (fun i => g i r * c i)) p = S n (fun i => WT back ks (g i) p * c i) := by
  rw [WT_eq, S_congr (g := fun q => S n (fun i => g i q * c i * KER back ks q p)) (fun q _ => by rw [S_mul_right]), S_swap]
  refine S_congr (fun i _ => ?_)
  rw [WT_eq, ← S_mul_right]
  refine S_congr (fun q _ => ?_)
  generalize KER back ks q p = x
  grind
theorem WT_back : ∀ (ks : List Nat), (∀ k ∈ ks, k ≤ 20) → ∀ (a : Nat → F) (b : Bool) (p : Nat), p < pk ks → WT (!b) ks (WT b ks a) p = a p
  | [], _, a, b, p, hp => by
    have e : ∀ (b : Bool) (a : Nat → F), WT b [] a p = a p := fun b a => by
      rw [← run_whole b [] a p hp]; rfl
    rw [e, e]
  | k :: ks, hk, a, b, p, hp => by
    obtain ⟨h1, h2, h3⟩ := pk_split hp
    rw [WT_tr, tr_congr (b := tr b k (fun i => a (i * pk ks + p % pk ks))) (fun i hi => ?_), tr_back (hk k (by simp)) _ h1, h3]
    rw [WT_congr (b := fun r => S (2 ^ k) (fun j => WT b ks (fun x => a (j * pk ks + x)) r * ker b k j i)) (fun r hr => ?_), WT_lin, tr_ker]
    · refine S_congr (fun j _ => ?_)
      rw [WT_back ks (fun x hx => hk x (by simp [hx])) _ b _ h2]
    · rw [WT_cons, blk_div hr, blk_mod hr]
/-- places added, round each axis -/
def AD : List Nat → Nat → Nat → Nat
  | [], _, _ => 0
  | k :: ks, i, j => (i / pk ks + j / pk ks) % 2 ^ k * pk ks + AD ks (i % pk ks) (j % pk ks)
theorem AD_lt : ∀ (ks : List Nat) (i j : Nat), AD ks i j < pk ks
  | [], _, _ => by simp [AD, pk_nil]
  | k :: ks, i, j => by
    have h1 := AD_lt ks (i % pk ks) (j % pk ks)
    have h2 := Nat.mod_lt (i / pk ks + j / pk ks) (Nat.two_pow_pos k)
    have h3 := Nat.mul_le_mul_right (pk ks) (show (i / pk ks + j / pk ks) % 2 ^ k + 1 ≤ 2 ^ k from h2)
    rw [Nat.add_mul, Nat.one_mul] at h3
    show _ < 2 ^ k * pk ks
    simp only [AD]
    omega
theorem ker_add {k : Nat} (hk : k ≤ 32) (i j p : Nat) : ker false k ((i + j) % 2 ^ k) p = ker false k i p * ker false k j p := by
  rw [ker_f, ker_f, ker_f, ← pow_add, ← Nat.mul_add]
  have hx : (root k ^ p) ^ (2 ^ k) = 1 := by rw [← pow_mul, Nat.mul_comm, pow_mul, root_pow k hk, one_pow]
  rw [pow_mul, pow_mul, pow_modn hx]
theorem KER_add : ∀ (ks : List Nat), (∀ k ∈ ks, k ≤ 32) → ∀ (i j p : Nat), KER false ks (AD ks i j) p = KER false ks i p * KER false ks j p
  | [], _, _, _, _ => by simp only [KER]; grind
  | k :: ks, hk, i, j, p => by
    have h1 := AD_lt ks (i % pk ks) (j % pk ks)
    simp only [KER, AD]
    rw [blk_div h1, blk_mod h1, KER_add ks (fun x hx => hk x (by simp [hx])), ker_add (hk k (by simp))]
    grind
/-- the product round all axes -/
def cycs (ks : List Nat) (a b : Nat → F) (p : Nat) : F := S (pk ks) (fun i => S (pk ks) (fun j => if AD ks i j = p then a i * b j else 0))
theorem S_pick {n k : Nat} (hk : k < n) (x : F) (f : Nat → F) : S n (fun q => (if k = q then x else 0) * f q) = x * f k := by
  rw [S_single hk (fun i _ hne => by rw [if_neg (fun e => hne e.symm)]; grind), if_pos rfl]
theorem cycs_WT {ks : List Nat} (hk : ∀ k ∈ ks, k ≤ 32) (a b : Nat → F) (p : Nat) : WT false ks (cycs ks a b) p = WT false ks a p * WT false ks b p := by
  rw [WT_eq, WT_eq, WT_eq, ← S_mul_right]
  rw [S_congr (g := fun q => S (pk ks) (fun i => S (pk ks) (fun j => (if AD ks i j = q then a i * b j else 0) * KER false ks q p))) (fun q _ => by
    rw [cycs, ← S_mul_right]; exact S_congr (fun i _ => by rw [S_mul_right])), S_swap]
  refine S_congr (fun i _ => ?_)
  rw [S_swap, ← S_mul_left]
  refine S_congr (fun j _ => ?_)
  rw [S_pick (AD_lt ks i j), KER_add ks hk]
  grind
theorem WT_cycs {ks : List Nat} (hk : ∀ k ∈ ks, k ≤ 20) (a b : Nat → F) {p : Nat} (hp : p < pk ks) : WT true ks (fun j => WT false ks a j * WT false ks b j) p = cycs ks a b p := by
  have h := WT_back ks hk (cycs ks a b) false p hp
  rw [show (!false) = true from rfl] at h
  rw [← h]
  exact WT_congr (fun j _ => by rw [cycs_WT (fun k hx => by have := hk k hx; omega)]) p
end Go.Proofs.YtdhmmllpldjkbaaGreatDoor.Gm
