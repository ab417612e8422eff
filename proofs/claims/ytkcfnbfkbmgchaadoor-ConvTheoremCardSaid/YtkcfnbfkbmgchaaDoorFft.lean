import Derived.Test.YtkcfnbfkbmgchaaDoorRoots
namespace Go.Proofs.YtkcfnbfkbmgchaaDoor.Gm
/-- m bits of a number, read from the other end -/
def rev : Nat → Nat → Nat
  | 0, _ => 0
  | m+1, b => (b % 2) * 2 ^ m + rev m (b / 2)
theorem rev_lt (m b : Nat) : rev m b < 2 ^ m := by
  induction m generalizing b with
  | zero => simp [rev]
  | succ m ih =>
    have := ih (b / 2)
    have h2 : b % 2 ≤ 1 := by omega
    have h3 := Nat.mul_le_mul_right (2 ^ m) h2
    simp only [rev, Nat.pow_succ]
    omega
/-- the same, from the highest bit on -/
theorem rev_high (m b : Nat) (hb : b < 2 ^ (m+1)) : rev (m+1) b = 2 * rev m (b % 2 ^ m) + b / 2 ^ m := by
  induction m generalizing b with
  | zero => simp [rev]; have : b < 2 := by simpa using hb
            omega
  | succ m ih =>
    have e1 : rev (m+1+1) b = (b % 2) * 2 ^ (m+1) + rev (m+1) (b / 2) := rfl
    have h2 : b / 2 < 2 ^ (m+1) := by rw [Nat.pow_succ] at hb; omega
    rw [e1, ih _ h2]
    have e2 : rev (m+1) (b % 2 ^ (m+1)) = (b % 2 ^ (m+1) % 2) * 2 ^ m + rev m (b % 2 ^ (m+1) / 2) := rfl
    rw [e2]
    have e3 : b % 2 ^ (m+1) % 2 = b % 2 := Nat.mod_mod_of_dvd b ⟨2 ^ m, by rw [Nat.pow_succ, Nat.mul_comm]⟩
    have e4 : b % 2 ^ (m+1) / 2 = b / 2 % 2 ^ m := by
      rw [Nat.pow_succ, Nat.mul_comm, Nat.mod_mul_right_div_self]
    have e5 : b / 2 ^ (m+1) = b / 2 / 2 ^ m := by rw [Nat.div_div_eq_div_mul, Nat.pow_succ, Nat.mul_comm]
    rw [e3, e4, e5, Nat.pow_succ]
    have : b % 2 * (2 ^ m * 2) = 2 * (b % 2 * 2 ^ m) := by rw [Nat.mul_comm (2 ^ m), ← Nat.mul_assoc, Nat.mul_comm (b % 2), Nat.mul_assoc]
    omega
theorem rev_rev (m b : Nat) (hb : b < 2 ^ m) : rev m (rev m b) = b := by
  induction m generalizing b with
  | zero => simp [rev]; have : b < 1 := by simpa using hb
            omega
  | succ m ih =>
    have hl := rev_lt m (b / 2)
    have h2 : b / 2 < 2 ^ m := by rw [Nat.pow_succ] at hb; omega
    have e1 : rev (m+1) b = (b % 2) * 2 ^ m + rev m (b / 2) := rfl
    rw [rev_high m _ (rev_lt (m+1) b), e1]
    have p : 0 < 2 ^ m := Nat.two_pow_pos m
    have e2 : (b % 2 * 2 ^ m + rev m (b / 2)) % 2 ^ m = rev m (b / 2) := by
      rw [Nat.add_comm, Nat.add_mul_mod_self_right, Nat.mod_eq_of_lt hl]
    have e3 : (b % 2 * 2 ^ m + rev m (b / 2)) / 2 ^ m = b % 2 := by
      rw [Nat.add_comm, Nat.add_mul_div_right _ _ p, Nat.div_eq_of_lt hl, Nat.zero_add]
    rw [e2, e3, ih _ h2]
    omega
theorem rev_even (m b : Nat) : rev (m+1) (2 * b) = rev m b := by
  have : rev (m+1) (2 * b) = (2 * b % 2) * 2 ^ m + rev m (2 * b / 2) := rfl
  rw [this, show 2 * b % 2 = 0 by omega, show 2 * b / 2 = b by omega]; omega
theorem rev_odd (m b : Nat) : rev (m+1) (2 * b + 1) = 2 ^ m + rev m b := by
  have : rev (m+1) (2 * b + 1) = ((2 * b + 1) % 2) * 2 ^ m + rev m ((2 * b + 1) / 2) := rfl
  rw [this, show (2 * b + 1) % 2 = 1 by omega, show (2 * b + 1) / 2 = b by omega]; omega
theorem S_even_odd (h : Nat) (f : Nat → F) : S (2 * h) f = S h (fun i => f (2 * i)) + S h (fun i => f (2 * i + 1)) := by
  induction h with
  | zero => rw [Nat.mul_zero, S_zero, S_zero, S_zero]; grind
  | succ h ih =>
    rw [show 2 * (h + 1) = 2 * h + 1 + 1 by omega, S_succ, S_succ, ih, S_succ, S_succ]
    grind
/-- what stands at place p behind the stages up to half-size 2^s -/
def stage (k : Nat) (w : F) (a : Nat → F) (s p : Nat) : F :=
  S (2 ^ s) (fun i => a (rev (k - s) (p / 2 ^ s) + i * 2 ^ (k - s)) * (w ^ 2 ^ (k - s)) ^ (i * (p % 2 ^ s)))
theorem stage_zero (k : Nat) (w : F) (a : Nat → F) (p : Nat) : stage k w a 0 p = a (rev k p) := by
  unfold stage
  rw [show 2 ^ 0 = 0 + 1 from rfl, S_succ, S_zero, Nat.zero_mul, Nat.zero_mul, pow_zero, show k - 0 = k from rfl, Nat.add_zero, Nat.zero_add, Nat.div_one]
  grind
theorem stage_last (k : Nat) (w : F) (a : Nat → F) (p : Nat) (hp : p < 2 ^ k) : stage k w a k p = dft (2 ^ k) w a p := by
  unfold stage
  rw [dft_eq]
  refine S_congr (fun i hi => ?_)
  rw [Nat.sub_self, Nat.pow_zero, Nat.mul_one, Nat.mod_eq_of_lt hp, Nat.mul_comm p i, show w ^ 1 = w by rw [show (1:Nat) = 0 + 1 from rfl, pow_succ, pow_zero]; grind]
  simp only [rev, Nat.zero_add]
/-- the butterfly -/
theorem stage_step {w : F} {k : Nat} (hw : Rt w k) (a : Nat → F) {s : Nat} (hs : s < k) (B j : Nat) (hj : j < 2 ^ s) :
    stage k w a (s+1) (B * (2 * 2 ^ s) + j) = stage k w a s (B * (2 * 2 ^ s) + j) + (w ^ 2 ^ (k - s - 1)) ^ j * stage k w a s (B * (2 * 2 ^ s) + 2 ^ s + j)
    ∧ stage k w a (s+1) (B * (2 * 2 ^ s) + 2 ^ s + j) = stage k w a s (B * (2 * 2 ^ s) + j) - (w ^ 2 ^ (k - s - 1)) ^ j * stage k w a s (B * (2 * 2 ^ s) + 2 ^ s + j) := by
  obtain ⟨m, rfl⟩ : ∃ m, k = s + 1 + m := ⟨k - s - 1, by omega⟩
  have hh : 0 < 2 ^ s := Nat.two_pow_pos s
  generalize eh : 2 ^ s = h at *
  have e0 : s + 1 + m - s - 1 = m := by omega
  have e1 : s + 1 + m - (s + 1) = m := by omega
  have e2 : s + 1 + m - s = m + 1 := by omega
  have hv : (w ^ 2 ^ m) ^ (2 * h) = 1 := by
    rw [← pow_mul, ← eh, Nat.mul_comm 2, ← Nat.pow_succ, ← Nat.pow_add, show m + (s + 1) = s + 1 + m by omega]; exact hw.full
  have hv2 : (w ^ 2 ^ m) ^ h = -1 := by
    rw [← pow_mul, ← eh, ← Nat.pow_add]; exact hw.half _ (by omega)
  have hv3 : w ^ 2 ^ (m + 1) = (w ^ 2 ^ m) ^ 2 := by rw [← pow_mul, Nat.pow_succ]
  unfold stage
  rw [e0, e1, e2, hv3, Nat.pow_succ, Nat.mul_comm (2 ^ s) 2, eh]
  generalize w ^ 2 ^ m = v at *
  have b1 : B * (2 * h) = h * (2 * B) := by grind
  have b2 : B * (2 * h) + h = h * (2 * B + 1) := by grind
  have q1 : (B * (2 * h) + j) / h = 2 * B := by
    rw [b1, Nat.mul_add_div hh, Nat.div_eq_of_lt hj, Nat.add_zero]
  have q2 : (B * (2 * h) + j) % h = j := by
    rw [b1, Nat.mul_add_mod, Nat.mod_eq_of_lt hj]
  have q3 : (B * (2 * h) + h + j) / h = 2 * B + 1 := by
    rw [b2, Nat.mul_add_div hh, Nat.div_eq_of_lt hj, Nat.add_zero]
  have q4 : (B * (2 * h) + h + j) % h = j := by
    rw [b2, Nat.mul_add_mod, Nat.mod_eq_of_lt hj]
  have q5 : (B * (2 * h) + j) / (2 * h) = B := by
    rw [Nat.mul_comm B, Nat.mul_add_div (by omega), Nat.div_eq_of_lt (by omega)]; omega
  have q6 : (B * (2 * h) + j) % (2 * h) = j := by
    rw [Nat.mul_comm B, Nat.mul_add_mod, Nat.mod_eq_of_lt (by omega)]
  have q7 : (B * (2 * h) + h + j) / (2 * h) = B := by
    rw [Nat.add_assoc, Nat.mul_comm B, Nat.mul_add_div (by omega), Nat.div_eq_of_lt (by omega)]; omega
  have q8 : (B * (2 * h) + h + j) % (2 * h) = h + j := by
    rw [Nat.add_assoc, Nat.mul_comm B, Nat.mul_add_mod, Nat.mod_eq_of_lt (by omega)]
  rw [q1, q2, q3, q4, q5, q6, q7, q8, rev_even, rev_odd, S_even_odd, S_even_odd, ← S_mul_left]
  clear q1 q2 q3 q4 q5 q6 q7 q8 b1 b2
  have p1 : ∀ i, v ^ (2 * i * j) = (v ^ 2) ^ (i * j) := fun i => by rw [← pow_mul, Nat.mul_assoc]
  have p2 : ∀ i, v ^ ((2 * i + 1) * j) = v ^ j * (v ^ 2) ^ (i * j) := fun i => by
    rw [← p1, ← pow_add]; congr 1; rw [Nat.add_mul, Nat.one_mul, Nat.add_comm]
  have p3 : ∀ i, v ^ (2 * i * h) = 1 := fun i => by
    rw [Nat.mul_comm 2 i, Nat.mul_assoc, Nat.mul_comm i, pow_mul, hv, one_pow]
  have p4 : ∀ i, v ^ (2 * i * (h + j)) = (v ^ 2) ^ (i * j) := fun i => by rw [Nat.mul_add, pow_add, p3, p1]; grind
  have p5 : ∀ i, v ^ ((2 * i + 1) * (h + j)) = -(v ^ j * (v ^ 2) ^ (i * j)) := fun i => by
    rw [Nat.mul_add, pow_add, p2, Nat.add_mul, pow_add, p3, Nat.one_mul, hv2]; grind
  have a1 : ∀ i, 2 * i * 2 ^ m = i * 2 ^ (m + 1) := fun i => by rw [Nat.pow_succ, Nat.mul_comm 2 i, Nat.mul_assoc, Nat.mul_comm 2]
  have a2 : ∀ i, rev m B + (2 * i + 1) * 2 ^ m = 2 ^ m + rev m B + i * 2 ^ (m + 1) := fun i => by rw [Nat.add_mul, a1]; omega
  constructor
  · congr 1
    · exact S_congr (fun i hi => by rw [a1, p1])
    · exact S_congr (fun i hi => by rw [a2, p2]; grind)
  · have e : ∀ x y : F, x - y = x + (-1) * y := fun x y => by grind
    rw [e, ← S_mul_left]
    congr 1
    · exact S_congr (fun i hi => by rw [a1, p4])
    · exact S_congr (fun i hi => by rw [a2, p5]; grind)
end Go.Proofs.YtkcfnbfkbmgchaaDoor.Gm
