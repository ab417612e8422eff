import Derived.Test.YtkcfnbfkbmgchaaDoorSums
namespace Go.Proofs.YtkcfnbfkbmgchaaDoor.Gm
/-- the root of order 2^k, k at most 32 -/
@[irreducible] def root (k : Nat) : F := (7:F) ^ (18446744069414584320 / 2 ^ k)
theorem root_div (k : Nat) (h : k ≤ 32) : 18446744069414584320 / 2 ^ k * 2 ^ k = 18446744069414584320 := by
  apply Nat.div_mul_cancel
  have : (18446744069414584320 : Nat) = 2 ^ k * (2 ^ (32 - k) * 4294967295) := by
    rw [← Nat.mul_assoc, ← Nat.pow_add, show k + (32 - k) = 32 by omega]
  exact ⟨_, this⟩
theorem root_full (k : Nat) (h : k ≤ 32) : root k ^ (2 ^ k) = 1 := by
  unfold root
  rw [← pow_mul, root_div k h]
  exact seven_full
theorem minus_one (y : F) (h1 : y * y = 1) (h2 : y ≠ 1) : y = -1 := by
  have h : (y - 1) * (y + 1) = 0 := by grind
  rcases no_zero _ _ h with h | h
  · exact absurd (by grind) h2
  · grind
theorem seven_half : (7:F) ^ (9223372034707292160 : Nat) = -1 := by
  apply minus_one
  · rw [← pow_add]; exact seven_full
  · exact seven_part 9223372034707292160 (by omega) (by decide +kernel)
theorem root_half (k : Nat) (h : k < 32) : root (k+1) ^ (2 ^ k) = -1 := by
  unfold root
  rw [← pow_mul, ← seven_half]
  congr 1
  have h1 := root_div (k+1) (by omega)
  rw [Nat.pow_succ, ← Nat.mul_assoc] at h1
  rw [Nat.pow_succ]
  omega
theorem root_sq (k : Nat) (h : k < 32) : root (k+1) * root (k+1) = root k := by
  unfold root
  rw [← pow_add]
  congr 1
  have h1 := root_div (k+1) (by omega)
  have h2 := root_div k (by omega)
  have h3 : 0 < 2 ^ k := Nat.two_pow_pos k
  apply Nat.eq_of_mul_eq_mul_right h3
  rw [h2, Nat.add_mul]
  rw [Nat.pow_succ, ← Nat.mul_assoc] at h1
  rw [Nat.pow_succ]
  omega
theorem root_zero : root 0 = 1 := by
  unfold root; exact seven_full
theorem two_ne : (1:F) + 1 ≠ 0 := by
  intro h
  have := congrArg Fin.val h
  rw [Fin.val_add, val_one, val_zero, PN_eq] at this
  omega
theorem root_ne (k : Nat) : root k ≠ 0 := by
  unfold root
  refine seven_ne _ ?_
  show 18446744069414584320 / 2 ^ k ≤ 18446744069414584320
  exact Nat.div_le_self _ _
/-- w is a root of order 2^k -/
structure Rt (w : F) (k : Nat) : Prop where
  full : w ^ (2 ^ k) = 1
  half : ∀ j, j + 1 = k → w ^ (2 ^ j) = -1
theorem rt_root (k : Nat) (h : k ≤ 32) : Rt (root k) k :=
  ⟨root_full k h, fun j hj => by subst hj; exact root_half j (by omega)⟩
theorem pow_mul_pow (x y : F) (n : Nat) : (x * y) ^ n = x ^ n * y ^ n := by
  induction n with
  | zero => rw [pow_zero, pow_zero, pow_zero]; grind
  | succ n ih => rw [pow_succ, pow_succ, pow_succ, ih]; grind
theorem rt_inv {w : F} {k : Nat} (h : Rt w k) : Rt (inv w) k := by
  have hw : w ≠ 0 := by
    intro e
    have := h.full
    rw [e] at this
    have h0 : (0:F) ^ (2 ^ k) = 0 := by
      have : 0 < 2 ^ k := Nat.two_pow_pos k
      obtain ⟨m, hm⟩ : ∃ m, 2 ^ k = m + 1 := ⟨2 ^ k - 1, by omega⟩
      rw [hm, pow_succ]; grind
    rw [h0] at this
    exact one_ne this.symm
  have hm := mul_inv w hw
  have hp : ∀ n, w ^ n * inv w ^ n = 1 := fun n => by rw [← pow_mul_pow, hm, one_pow]
  refine ⟨?_, fun j hj => ?_⟩
  · have := hp (2 ^ k); rw [h.full] at this; grind
  · have := hp (2 ^ j); rw [h.half j hj] at this; grind
theorem rt_order {w : F} {k : Nat} (h : Rt w k) {d : Nat} (hd : w ^ d = 1) : 2 ^ k ∣ d := by
  -- the greatest power of two that divides d
  induction k generalizing w d with
  | zero => rw [Nat.pow_zero]; exact Nat.one_dvd d
  | succ k ih =>
    by_cases he : d % 2 = 0
    · obtain ⟨e, rfl⟩ : ∃ e, d = 2 * e := ⟨d / 2, by omega⟩
      have h2 : Rt (w ^ 2) k := ⟨by rw [← pow_mul, Nat.mul_comm, ← Nat.pow_succ]; exact h.full, fun j hj => by
        rw [← pow_mul, Nat.mul_comm, ← Nat.pow_succ]; exact h.half (j+1) (by omega)⟩
      have := ih h2 (d := e) (by rw [← pow_mul]; exact hd)
      rw [Nat.pow_succ, Nat.mul_comm]
      exact Nat.mul_dvd_mul_left 2 this
    · exfalso
      -- w^(2^k) = -1, and (w^d)^(2^k) = (w^(2^k))^d = (-1)^d = -1
      have h1 := h.half k rfl
      have e : (w ^ (2 ^ k)) ^ d = 1 := by rw [← pow_mul, Nat.mul_comm, pow_mul, hd, one_pow]
      obtain ⟨m, hm⟩ : ∃ m, d = 2 * m + 1 := ⟨d / 2, by omega⟩
      rw [h1, hm, pow_succ, pow_mul] at e
      have e2 : (-1 : F) ^ 2 = 1 := by
        rw [show (2:Nat) = 0 + 1 + 1 from rfl, pow_succ, pow_succ, pow_zero]; grind
      rw [e2, one_pow] at e
      exact two_ne (by grind)
/-- the sum of a geometric row -/
theorem geo (x : F) (n : Nat) : (x - 1) * S n (fun i => x ^ i) = x ^ n - 1 := by
  induction n with
  | zero => rw [S_zero, pow_zero]; grind
  | succ n ih => rw [S_succ, pow_succ]; grind
theorem geo_zero {w : F} {k : Nat} (h : Rt w k) (d : Nat) (hd : ¬ 2 ^ k ∣ d) : S (2 ^ k) (fun i => (w ^ d) ^ i) = 0 := by
  have h1 := geo (w ^ d) (2 ^ k)
  rw [← pow_mul, Nat.mul_comm, pow_mul, h.full, one_pow] at h1
  have h2 : w ^ d ≠ 1 := fun e => hd (rt_order h e)
  rcases no_zero _ _ (h1.trans (by grind : (1:F) - 1 = 0)) with h3 | h3
  · exact absurd (by grind) h2
  · exact h3
def cast (n : Nat) : F := S n (fun _ => 1)
/-- the transform of n numbers by w -/
def dft (n : Nat) (w : F) (a : Nat → F) (j : Nat) : F := ev n a (w ^ j)
theorem dft_eq (n : Nat) (w : F) (a : Nat → F) (j : Nat) : dft n w a j = S n (fun i => a i * w ^ (j * i)) := by
  unfold dft ev; exact S_congr (fun i _ => by rw [pow_mul])
theorem S_one (n : Nat) (c : F) : S n (fun _ => c) = cast n * c := by
  unfold cast
  rw [← S_mul_right]
  exact S_congr (fun i _ => by grind)
/-- forth and back: so many times the number -/
theorem dft_back {w v : F} {k : Nat} (h : Rt w k) (hv : w * v = 1) (a : Nat → F) {j : Nat} (hj : j < 2 ^ k) : dft (2 ^ k) v (dft (2 ^ k) w a) j = cast (2 ^ k) * a j := by
  rw [dft_eq]
  rw [S_congr (g := fun i => S (2 ^ k) (fun m => a m * (w ^ (i * m) * v ^ (j * i)))) (fun i _ => by
    rw [dft_eq, ← S_mul_right]; exact S_congr (fun m _ => by grind))]
  rw [S_swap]
  rw [S_congr (g := fun m => a m * S (2 ^ k) (fun i => (w ^ m * v ^ j) ^ i)) (fun m _ => by
    rw [← S_mul_left]
    refine S_congr (fun i _ => ?_)
    rw [pow_mul_pow, ← pow_mul, ← pow_mul, Nat.mul_comm i m])]
  have hp : ∀ n, w ^ n * v ^ n = 1 := fun n => by rw [← pow_mul_pow, hv, one_pow]
  rw [S_single hj (fun m hm hne => ?_)]
  · rw [hp j]
    rw [S_congr (g := fun _ => (1:F)) (fun i _ => one_pow i)]
    unfold cast; grind
  · have : S (2 ^ k) (fun i => (w ^ m * v ^ j) ^ i) = 0 := by
      rcases Nat.lt_or_gt_of_ne hne with hlt | hgt
      · -- w^m v^j = v^(j-m)
        have e : w ^ m * v ^ j = v ^ (j - m) := by
          have : v ^ j = v ^ m * v ^ (j - m) := by rw [← pow_add]; congr 1; omega
          have h2 := hp m
          grind
        rw [e]
        have hr : Rt v k := by
          have := rt_inv h
          rwa [← inv_unique w v hv] at this
        exact geo_zero hr (j - m) (fun hd => by have := Nat.le_of_dvd (by omega) hd; omega)
      · have e : w ^ m * v ^ j = w ^ (m - j) := by
          have : w ^ m = w ^ j * w ^ (m - j) := by rw [← pow_add]; congr 1; omega
          have h2 := hp j
          grind
        rw [e]
        exact geo_zero h (m - j) (fun hd => by have := Nat.le_of_dvd (by omega) hd; omega)
    rw [this]; grind
theorem dft_congr {n : Nat} {w : F} {a b : Nat → F} (h : ∀ i, i < n → a i = b i) (j : Nat) : dft n w a j = dft n w b j :=
  S_congr (fun i hi => by rw [h i hi])
theorem dft_add (n : Nat) (w : F) (a b : Nat → F) (j : Nat) : dft n w (fun i => a i + b i) j = dft n w a j + dft n w b j := ev_add n a b _
theorem dft_smul (n : Nat) (w c : F) (a : Nat → F) (j : Nat) : dft n w (fun i => c * a i) j = c * dft n w a j := ev_smul n a c _
end Go.Proofs.YtkcfnbfkbmgchaaDoor.Gm
