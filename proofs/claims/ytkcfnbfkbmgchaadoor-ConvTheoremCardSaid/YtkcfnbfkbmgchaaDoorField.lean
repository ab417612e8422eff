namespace Go.Proofs.YtkcfnbfkbmgchaaDoor.Gm
@[irreducible] def PN : Nat := 18446744069414584321
theorem PN_eq : PN = 18446744069414584321 := by unfold PN; rfl
theorem PN_pos : 0 < PN := by rw [PN_eq]; omega
instance : NeZero PN := ⟨by have := PN_pos; omega⟩
abbrev F := Fin PN
theorem pow_zero (x : F) : x ^ 0 = 1 := by grind
theorem pow_succ (x : F) (n : Nat) : x ^ (n+1) = x ^ n * x := by grind
theorem pow_add (x : F) (m n : Nat) : x ^ (m+n) = x ^ m * x ^ n := by grind
theorem one_pow (n : Nat) : (1:F) ^ n = 1 := by
  induction n with
  | zero => grind
  | succ n ih => rw [pow_succ, ih]; grind
theorem pow_mul (x : F) (m n : Nat) : x ^ (m*n) = (x ^ m) ^ n := by
  induction n with
  | zero => rw [Nat.mul_zero, pow_zero, pow_zero]
  | succ n ih => rw [Nat.mul_succ, pow_add, ih, pow_succ]
theorem val_one : (1:F).val = 1 := by
  show 1 % PN = 1
  rw [PN_eq]
theorem val_zero : (0:F).val = 0 := by
  show 0 % PN = 0
  rw [PN_eq]
theorem val_seven : (7:F).val = 7 := by
  show 7 % PN = 7
  rw [PN_eq]
theorem val_pow (x : F) (n : Nat) : (x ^ n).val = x.val ^ n % PN := by
  induction n with
  | zero => rw [pow_zero, val_one, Nat.pow_zero, PN_eq]
  | succ n ih => rw [pow_succ, Fin.val_mul, ih, Nat.pow_succ, Nat.mod_mul_mod]
/-- quick powers on numbers, for closed facts -/
def qpow (m : Nat) : Nat → Nat → Nat → Nat → Nat
  | 0, _, _, acc => acc
  | f+1, b, n, acc => qpow m f (b * b % m) (n / 2) (if n % 2 = 1 then acc * b % m else acc)
theorem qpow_eq (f : Nat) : ∀ (b n acc : Nat), n < 2 ^ f → acc < PN → qpow PN f b n acc = acc * b ^ n % PN := by
  induction f with
  | zero => intro b n acc h ha; have : n = 0 := by simpa using h
            subst this; simp only [qpow]; rw [Nat.pow_zero, Nat.mul_one, Nat.mod_eq_of_lt ha]
  | succ f ih =>
    intro b n acc h ha
    have hn : n / 2 < 2 ^ f := by rw [Nat.pow_succ] at h; omega
    have e : b ^ n = (b * b) ^ (n / 2) * b ^ (n % 2) := by
      rw [← Nat.pow_two, ← Nat.pow_mul, ← Nat.pow_add]; congr 1; omega
    simp only [qpow]
    split
    · rename_i h1
      rw [ih _ _ _ hn (Nat.mod_lt _ PN_pos), e, h1, Nat.pow_one, Nat.mul_mod, ← Nat.pow_mod, ← Nat.mul_mod, Nat.mod_mul_mod]
      congr 1
      rw [Nat.mul_assoc, Nat.mul_comm b]
    · rename_i h1
      have h0 : n % 2 = 0 := by omega
      rw [ih _ _ _ hn ha, e, h0, Nat.pow_zero, Nat.mul_one, Nat.mul_mod, ← Nat.pow_mod, ← Nat.mul_mod]
theorem seven_pow (n : Nat) (h : n < 2 ^ 64) : ((7:F) ^ n).val = qpow PN 64 7 n 1 := by
  rw [val_pow, val_seven, qpow_eq 64 7 n 1 h (by rw [PN_eq]; omega), Nat.one_mul]
theorem seven_full : (7:F) ^ (18446744069414584320:Nat) = 1 := by
  apply Fin.ext
  rw [seven_pow _ (by omega), val_one, PN_eq]
  decide +kernel
theorem seven_part (n : Nat) (h : n < 2 ^ 64) (hq : (qpow 18446744069414584321 64 7 n 1 == 1) = false) : (7:F) ^ n ≠ 1 := by
  intro e
  have := congrArg Fin.val e
  rw [seven_pow _ h, val_one, PN_eq] at this
  rw [this] at hq
  cases hq
theorem cop_of (m q : Nat) (hq : ∀ d, d ∣ q → d = 1 ∨ d = q) (h : ¬ q ∣ m) : Nat.Coprime m q := by
  rcases hq (Nat.gcd m q) (Nat.gcd_dvd_right _ _) with h1 | h1
  · exact h1
  · exact absurd (h1 ▸ Nat.gcd_dvd_left m q) h
theorem prime_small (q : Nat) (hq : 1 < q) (h : ∀ k, k < 258 → 1 < k → k < q → q % k ≠ 0) (hb : q < 258 * 258) : ∀ d, d ∣ q → d = 1 ∨ d = q := by
  intro d ⟨e, he⟩
  have hd0 : 0 < d := by rcases Nat.eq_zero_or_pos d with h0 | h0; · subst h0; omega
                         · exact h0
  have he0 : 0 < e := by rcases Nat.eq_zero_or_pos e with h0 | h0; · subst h0; omega
                         · exact h0
  by_cases h1 : d = 1
  · exact .inl h1
  by_cases h2 : e = 1
  · subst h2; right; omega
  exfalso
  by_cases h3 : d < 258
  · have : d < q := by rw [he]; exact Nat.lt_mul_iff_one_lt_right hd0 |>.2 (by omega)
    exact h d h3 (by omega) this (by rw [he]; exact Nat.mul_mod_right d e)
  · by_cases h4 : e < 258
    · have : e < q := by rw [he]; exact Nat.lt_mul_iff_one_lt_left he0 |>.2 (by omega)
      exact h e h4 (by omega) this (by rw [he]; exact Nat.mul_mod_left d e)
    · have := Nat.mul_le_mul (Nat.le_of_not_lt h3) (Nat.le_of_not_lt h4)
      omega
theorem p2 : ∀ d, d ∣ 2 → d = 1 ∨ d = 2 := prime_small 2 (by omega) (by intro k; omega) (by omega)
theorem p3 : ∀ d, d ∣ 3 → d = 1 ∨ d = 3 := prime_small 3 (by omega) (by decide +kernel) (by omega)
theorem p5 : ∀ d, d ∣ 5 → d = 1 ∨ d = 5 := prime_small 5 (by omega) (by decide +kernel) (by omega)
theorem p17 : ∀ d, d ∣ 17 → d = 1 ∨ d = 17 := prime_small 17 (by omega) (by decide +kernel) (by omega)
theorem p257 : ∀ d, d ∣ 257 → d = 1 ∨ d = 257 := prime_small 257 (by omega) (by decide +kernel) (by omega)
theorem p65537 : ∀ d, d ∣ 65537 → d = 1 ∨ d = 65537 := prime_small 65537 (by omega) (by decide +kernel) (by omega)
def NN : Nat := 18446744069414584320
theorem NN_fac : NN = 2 ^ 32 * 3 * 5 * 17 * 257 * 65537 := by decide +kernel
/-- a divisor of P - 1 other than 1 has a known prime part -/
theorem has_part (m : Nat) (h : m ∣ NN) (h1 : m ≠ 1) : 2 ∣ m ∨ 3 ∣ m ∨ 5 ∣ m ∨ 17 ∣ m ∨ 257 ∣ m ∨ 65537 ∣ m := by
  apply Classical.byContradiction
  intro hc
  simp only [not_or] at hc
  obtain ⟨a, b, c, d, e, f⟩ := hc
  have hco : Nat.Coprime m NN := by
    rw [NN_fac]
    exact ((((((cop_of m 2 p2 a).pow_right 32).mul_right (cop_of m 3 p3 b)).mul_right (cop_of m 5 p5 c)).mul_right (cop_of m 17 p17 d)).mul_right (cop_of m 257 p257 e)).mul_right (cop_of m 65537 p65537 f)
  have hg : Nat.gcd m NN = m := Nat.gcd_eq_left h
  exact h1 (hg ▸ hco)
theorem one_mul' (a : F) : 1 * a = a := by grind
theorem pow_gcd (i : Nat) : ∀ j, (7:F) ^ i = 1 → (7:F) ^ j = 1 → (7:F) ^ (Nat.gcd i j) = 1 := by
  induction i using Nat.strongRecOn with
  | _ i ih =>
    intro j hi hj
    by_cases h0 : i = 0
    · subst h0; rw [Nat.gcd_zero_left]; exact hj
    · rw [Nat.gcd_rec]
      refine ih (j % i) (Nat.mod_lt _ (by omega)) i ?_ hi
      have e : (7:F) ^ j = (7:F) ^ (i * (j / i)) * (7:F) ^ (j % i) := by rw [← pow_add]; congr 1; exact (Nat.div_add_mod j i).symm
      rw [pow_mul, hi, one_pow, hj, one_mul'] at e
      exact e.symm
theorem pow_of_dvd (a b : Nat) (h : a ∣ b) (e : (7:F) ^ a = 1) : (7:F) ^ b = 1 := by
  obtain ⟨c, rfl⟩ := h
  rw [pow_mul, e, one_pow]
theorem order_seven (i : Nat) (h : (7:F) ^ i = 1) : NN ∣ i := by
  have hg := pow_gcd i NN h seven_full
  have hd : Nat.gcd i NN ∣ NN := Nat.gcd_dvd_right _ _
  obtain ⟨m, hm⟩ := hd
  by_cases h1 : m = 1
  · subst h1
    rw [Nat.mul_one] at hm
    rw [hm]; exact Nat.gcd_dvd_left _ _
  exfalso
  have hmd : m ∣ NN := ⟨_, hm.trans (Nat.mul_comm _ _)⟩
  have key : ∀ q c, NN = q * c → q ∣ m → 0 < q → (7:F) ^ c = 1 := by
    intro q c hq ⟨t, ht⟩ h0
    apply pow_of_dvd _ _ _ hg
    refine ⟨t, ?_⟩
    apply Nat.eq_of_mul_eq_mul_left h0
    rw [← hq]
    exact hm.trans (by rw [ht]; exact Nat.mul_left_comm _ _ _)
  rcases has_part m hmd h1 with h | h | h | h | h | h
  · exact seven_part 9223372034707292160 (by omega) (by decide +kernel) (key 2 _ (by decide +kernel) h (by omega))
  · exact seven_part 6148914689804861440 (by omega) (by decide +kernel) (key 3 _ (by decide +kernel) h (by omega))
  · exact seven_part 3689348813882916864 (by omega) (by decide +kernel) (key 5 _ (by decide +kernel) h (by omega))
  · exact seven_part 1085102592318504960 (by omega) (by decide +kernel) (key 17 _ (by decide +kernel) h (by omega))
  · exact seven_part 71777214277877760 (by omega) (by decide +kernel) (key 257 _ (by decide +kernel) h (by omega))
  · exact seven_part 281470681743360 (by omega) (by decide +kernel) (key 65537 _ (by decide +kernel) h (by omega))

theorem seven_cancel (i : Nat) (h : i ≤ NN) : (7:F) ^ i * (7:F) ^ (NN - i) = 1 := by
  rw [← pow_add, show i + (NN - i) = NN from by omega]; exact seven_full
theorem one_ne : (1:F) ≠ 0 := by
  intro h
  have := congrArg Fin.val h
  rw [val_one, val_zero] at this
  omega
theorem seven_ne (i : Nat) (h : i ≤ NN) : (7:F) ^ i ≠ 0 := by
  intro e
  have h1 := seven_cancel i h
  rw [e] at h1
  exact one_ne (by grind)
theorem seven_inj (i j : Nat) (hij : i < j) (hj : j < NN) : (7:F) ^ i ≠ (7:F) ^ j := by
  intro e
  have h1 := seven_cancel i (by omega)
  have h2 : (7:F) ^ j = (7:F) ^ i * (7:F) ^ (j - i) := by rw [← pow_add]; congr 1; omega
  have h3 : (7:F) ^ (j - i) = 1 := by grind
  have h4 := Nat.le_of_dvd (by omega) (order_seven _ h3)
  omega
theorem NN_PN : NN + 1 = PN := by rw [PN_eq]; rfl
/-- each number but 0 is a power of 7 -/
theorem is_power_of (N : Nat) (hN : N + 1 = PN) (ne : ∀ i, i ≤ N → (7:F) ^ i ≠ 0) (inj : ∀ i j, i < j → j < N → (7:F) ^ i ≠ (7:F) ^ j) (x : F) (hx : x ≠ 0) : ∃ i, i < N ∧ x = (7:F) ^ i := by
  apply Classical.byContradiction
  intro hc
  simp only [not_exists, not_and] at hc
  have hl : ((List.range N).map (fun i => (7:F) ^ i)).Nodup := by
    rw [List.nodup_iff_pairwise_ne, List.pairwise_map]
    refine List.Pairwise.imp_of_mem ?_ List.pairwise_lt_range
    intro i j hi hj hlt
    exact inj i j hlt (List.mem_range.1 hj)
  have hn : (x :: 0 :: (List.range N).map (fun i => (7:F) ^ i)).Nodup := by
    rw [List.nodup_cons, List.nodup_cons]
    refine ⟨?_, ?_, hl⟩
    · intro hm
      rcases List.mem_cons.1 hm with h | h
      · exact hx h
      · obtain ⟨i, hi, rfl⟩ := List.mem_map.1 h
        exact hc i (List.mem_range.1 hi) rfl
    · intro hm
      obtain ⟨i, hi, h0⟩ := List.mem_map.1 hm
      exact ne i (by have := List.mem_range.1 hi; omega) h0
  have := hn.length_le_of_subset (l₂ := List.finRange PN) (fun y _ => List.mem_finRange y)
  rw [List.length_cons, List.length_cons, List.length_map, List.length_range, List.length_finRange, ← hN] at this
  omega
theorem is_power (x : F) (hx : x ≠ 0) : ∃ i, i < NN ∧ x = (7:F) ^ i :=
  is_power_of NN NN_PN seven_ne seven_inj x hx
theorem fermat (x : F) (hx : x ≠ 0) : x ^ NN = 1 := by
  obtain ⟨i, _, rfl⟩ := is_power x hx
  rw [← pow_mul, Nat.mul_comm, pow_mul, show (7:F) ^ NN = 1 from seven_full, one_pow]
@[irreducible] def inv (x : F) : F := x ^ (18446744069414584319 : Nat)
theorem mul_inv (x : F) (hx : x ≠ 0) : x * inv x = 1 := by
  have h := fermat x hx
  rw [show NN = 18446744069414584319 + 1 from rfl, pow_succ] at h
  unfold inv
  grind
theorem no_zero (x y : F) (h : x * y = 0) : x = 0 ∨ y = 0 := by
  by_cases hx : x = 0
  · exact .inl hx
  · right
    have := mul_inv x hx
    grind
theorem inv_unique (x y : F) (h : x * y = 1) : y = inv x := by
  have hx : x ≠ 0 := by intro e; rw [e] at h; exact one_ne (by grind)
  have := mul_inv x hx
  grind
theorem pow_PN (x : F) : x ^ (18446744069414584321 : Nat) = x := by
  by_cases hx : x = 0
  · rw [hx, show (18446744069414584321 : Nat) = 18446744069414584320 + 1 from rfl, pow_succ]; grind
  · have h := fermat x hx
    rw [show (18446744069414584321 : Nat) = NN + 1 from rfl, pow_succ, h]; grind
end Go.Proofs.YtkcfnbfkbmgchaaDoor.Gm
