/- The product of two texts, as at school: plain laws. -/
import Derived.Test.YtdhmmllpldjkbaaGreatDoorBg
namespace Go.Proofs.YtdhmmllpldjkbaaGreatDoor.Gm
set_option linter.unusedVariables false
/-- what the table of places tells behind j digits of the row i -/
def gP (a b : List UInt8) (i j : Nat) : Nat := nv (a.take i) * nv b * 10 ^ (a.length - i) + dg (a.getD i 0) * 10 ^ (a.length - 1 - i) * (nv (b.take j) * 10 ^ (b.length - j))
theorem gP_zero (a b : List UInt8) (i : Nat) : gP a b i 0 = nv (a.take i) * nv b * 10 ^ (a.length - i) := by
  unfold gP
  rw [List.take_zero, show nv [] = 0 from rfl]; simp
theorem gP_step (a b : List UInt8) {i j : Nat} (hi : i < a.length) (hj : j < b.length) : gP a b i (j + 1) = gP a b i j + dg (a.getD i 0) * dg (b.getD j 0) * 10 ^ (a.length + b.length - 1 - (i + j + 1)) := by
  unfold gP
  rw [nv_take b j hj, show b.length - j = (b.length - (j + 1)) + 1 by omega, show a.length + b.length - 1 - (i + j + 1) = (a.length - 1 - i) + (b.length - (j + 1)) by omega, Nat.pow_succ, Nat.pow_add]
  generalize nv (b.take j) = n
  generalize dg (b.getD j 0) = d
  generalize dg (a.getD i 0) = e
  generalize 10 ^ (b.length - (j + 1)) = T
  generalize 10 ^ (a.length - 1 - i) = U
  generalize nv (a.take i) * nv b * 10 ^ (a.length - i) = V
  have h1 : (n * 10 + d) * T = n * (T * 10) + d * T := by rw [Nat.add_mul, Nat.mul_assoc, Nat.mul_comm 10 T]
  rw [h1, Nat.mul_add, Nat.add_assoc]
  congr 2
  rw [Nat.mul_mul_mul_comm]
theorem gP_end (a b : List UInt8) {i : Nat} (hi : i < a.length) : gP a b i b.length = nv (a.take (i + 1)) * nv b * 10 ^ (a.length - (i + 1)) := by
  unfold gP
  rw [nv_take a i hi, List.take_length, Nat.sub_self, Nat.pow_zero, Nat.mul_one, show a.length - i = (a.length - (i + 1)) + 1 by omega, show a.length - 1 - i = a.length - (i + 1) by omega, Nat.pow_succ]
  generalize nv (a.take i) = n
  generalize dg (a.getD i 0) = d
  generalize 10 ^ (a.length - (i + 1)) = T
  generalize nv b = B
  rw [Nat.add_mul, Nat.add_mul]
  have h1 : n * B * (T * 10) = n * 10 * B * T := by
    rw [Nat.mul_comm T 10, ← Nat.mul_assoc, Nat.mul_right_comm n B 10]
  have h2 : d * T * B = d * B * T := Nat.mul_right_comm d T B
  rw [h1, h2]
theorem gP_all (a b : List UInt8) : nv (a.take a.length) * nv b * 10 ^ (a.length - a.length) = nv a * nv b := by
  rw [List.take_length, Nat.sub_self, Nat.pow_zero, Nat.mul_one]
theorem hv_head (l : List Nat) (h : 0 < l.length) : at0 l 0 * 10 ^ (l.length - 1) ≤ hv l := by
  cases l with
  | nil => cases h
  | cons x r =>
    simp only [hv, at0, List.getD_cons_zero, List.length_cons, Nat.add_sub_cancel]
    omega
theorem hv_small {l : List Nat} (h : 0 < l.length) (h1 : hv l < 10 ^ l.length) : at0 l 0 < 10 := by
  have h2 := hv_head l h
  apply Classical.byContradiction
  intro hc
  have h3 := Nat.mul_le_mul_right (10 ^ (l.length - 1)) (show 10 ≤ at0 l 0 by omega)
  have h4 : 10 * 10 ^ (l.length - 1) = 10 ^ l.length := by
    rw [Nat.mul_comm, ← Nat.pow_succ, show (l.length - 1).succ = l.length by omega]
  omega
theorem car_len (l : List Nat) (k : Nat) : (car l k).length = l.length := by unfold car; simp
theorem car_at (l : List Nat) (k j : Nat) (h0 : 0 < k) (h : k < l.length) : at0 (car l k) j = if j = k then at0 l k % 10 else if j = k - 1 then at0 l (k - 1) + at0 l k / 10 else at0 l j := by
  unfold car
  rw [at0_set _ _ _ _ (by rw [List.length_set]; exact h)]
  by_cases e : j = k
  · rw [if_pos e, if_pos e]
  · rw [if_neg e, if_neg e, at0_set _ _ _ _ (by omega)]
/-- stripping noughts from the front, one by one -/
theorem tz0_step (r : List UInt8) (h : r ≠ []) : tz0 (48 :: r) = tz0 r := by
  unfold tz0
  rw [show tzr (48 :: r) = tzr r by simp [tzr]]
theorem tz0_one (x : UInt8) : tz0 [x] = [x] := by
  unfold tz0
  by_cases h : x = 48
  · subst h; simp [tzr]
  · simp [tzr, h]
theorem tz0_head (x : UInt8) (r : List UInt8) (h : x ≠ 48) : tz0 (x :: r) = x :: r := by
  unfold tz0
  simp [tzr, h]
end Go.Proofs.YtdhmmllpldjkbaaGreatDoor.Gm
