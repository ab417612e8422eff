/- The walks of the laws RootSquares and Names. -/
import Derived.Test.YtolkcaelmipkeaaLf
namespace Go.Proofs.Ytolkcaelmipkeaa.Gm
open Go.RowKit
theorem vl_minus : vl (-1) = 18446744069414584320 := by
  have : (-1 : F) = 0 - 1 := by grind
  rw [this, vl_sub, vl_zero, vl_one]; rfl
theorem root_one : root 1 = -1 := by
  have h := root_half 0 (by omega)
  rw [Nat.pow_zero, show (1:Nat) = 0 + 1 from rfl, pow_succ, pow_zero] at h
  rw [← h]; show root 1 = 1 * root 1; grind
theorem root_c0 (w : World) : Calls Try.prog 34 #[.int .i64 0] w fun e w' => e = .returned (.tuple #[.int .u64 1, .int .i64 0]) ∧ w = w' := by
  have h := root_any 0 w (by omega)
  rw [root_zero, vl_one] at h
  exact h
theorem root_c1 (w : World) : Calls Try.prog 34 #[.int .i64 1] w fun e w' => e = .returned (.tuple #[.int .u64 18446744069414584320, .int .i64 0]) ∧ w = w' := by
  have h := root_any 1 w (by omega)
  rw [root_one, vl_minus] at h
  exact h
theorem root_anyZ (z : Int) (k : Nat) (w : World) (h : k ≤ 32) (hz : z = k) :
    Calls Try.prog 34 #[.int .i64 z] w fun e w' => e = .returned (.tuple #[.int .u64 (vl (root k)), .int .i64 0]) ∧ w = w' := by
  subst hz; exact root_any k w h
theorem pow_anyZ (a z : Int) (n : Nat) (w : World) (ha0 : 0 ≤ a) (ha1 : a < 18446744073709551616) (hn : n < 18446744073709551616) (hz : z = n) :
    Calls Try.prog 22 #[.int .u64 a, .int .u64 z] w fun e w' => e = .returned (.int .u64 (vl (toF a ^ n))) ∧ w = w' := by
  subst hz; exact pow_any a n w ha0 ha1 hn
theorem pow_64 (j : Nat) (h : j < 64) : 2 ^ j < 18446744073709551616 := Nat.pow_lt_pow_right (by omega) h
theorem wrap_pow (j : Nat) (h : j < 64) : IntKind.u64.wrap (2 ^ j) = ((2 ^ j : Nat) : Int) := by
  have h1 := pow_64 j h
  have e : ((2 : Int) ^ j) = ((2 ^ j : Nat) : Int) := by rw [Int.natCast_pow]; rfl
  rw [e]
  generalize 2 ^ j = q at h1 ⊢
  exact IntWalk.u64_in _ (by omega)
theorem wRootSquares (k : Int) (wk : (Lit.int .i64 k).wf = true) (w : World) :
    Calls Try.prog 10 #[.int .i64 k] w fun e w' => e = .returned (.bool true) ∧ w = w' := by
  obtain ⟨k0, k1⟩ := i64_bounds wk
  clear wk
  obtain ⟨i, hi⟩ : ∃ i : Nat, k % 32 = i := ⟨(k % 32).toNat, by omega⟩
  have hi2 : i < 32 := by omega
  have Hi := Lib.hid hi
  clear hi
  cases i with
  | zero =>
    go_enter Try.func10, Try.ntmps10
    go_wp2_with fail
    refine (root_c0 _).mono ?_; rintro e w' ⟨rfl, rfl⟩; go_wp2_with fail
    refine (root_c1 _).mono ?_; rintro e w' ⟨rfl, rfl⟩; go_wp2_with fail
    refine (rest_any k 32 _ k0 k1 (by omega) (by omega)).mono ?_; rintro e w' ⟨rfl, rfl⟩; rw [Hi.out]; go_wp2_with fail
    refine (root_any 0 _ (by omega)).mono ?_; rintro e w' ⟨rfl, rfl⟩; go_wp2_with fail
    refine (root_any 1 _ (by omega)).mono ?_; rintro e w' ⟨rfl, rfl⟩; go_wp2_with fail
    refine (mul_F (root 1) (root 1) _).mono ?_; rintro e w' ⟨rfl, rfl⟩; rw [root_sq 0 (by omega)]; go_wp2
    go_ret
    exact ⟨rfl, rfl⟩
  | succ j =>
    go_enter Try.func10, Try.ntmps10
    go_wp2_with fail
    refine (root_c0 _).mono ?_; rintro e w' ⟨rfl, rfl⟩; go_wp2_with fail
    refine (root_c1 _).mono ?_; rintro e w' ⟨rfl, rfl⟩; go_wp2_with fail
    refine (rest_any k 32 _ k0 k1 (by omega) (by omega)).mono ?_; rintro e w' ⟨rfl, rfl⟩; rw [Hi.out]; go_wp2_with fail
    refine (root_any (j+1) _ (by omega)).mono ?_; rintro e w' ⟨rfl, rfl⟩; go_wp2_with fail
    refine (root_anyZ _ (j+2) _ (by omega) (by omega)).mono ?_; rintro e w' ⟨rfl, rfl⟩; go_wp2_with fail
    refine (mul_F (root (j+2)) (root (j+2)) _).mono ?_; rintro e w' ⟨rfl, rfl⟩; rw [root_sq (j+1) (by omega)]; go_wp2_with fail
    refine (pow_anyZ (vl (root (j+1))) _ (2 ^ j) _ (vl_lo _) (vl_64 _) (pow_64 j (by omega)) (wrap_pow j (by omega))).mono ?_; rintro e w' ⟨rfl, rfl⟩; rw [toF_vl, root_half j (by omega), vl_minus]; go_wp2
    go_ret
    exact ⟨rfl, rfl⟩
end Go.Proofs.Ytolkcaelmipkeaa.Gm
