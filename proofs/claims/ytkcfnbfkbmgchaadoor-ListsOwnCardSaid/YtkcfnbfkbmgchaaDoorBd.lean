/- Bounds of numbers; small numbers of the field. -/
import Derived.Test.YtkcfnbfkbmgchaaDoorFx
namespace Go.Proofs.YtkcfnbfkbmgchaaDoor.Gm
open Go.RowKit
theorem u64_bounds {a : Int} (h : (Lit.int .u64 a).wf = true) : 0 ≤ a ∧ a < 18446744073709551616 := by
  have : 0 ≤ a ∧ a ≤ 18446744073709551615 := by simpa [Lit.wf, IntKind.min, IntKind.max, IntKind.signed, IntKind.bits] using h
  omega
theorem i64_bounds {a : Int} (h : (Lit.int .i64 a).wf = true) : -9223372036854775808 ≤ a ∧ a ≤ 9223372036854775807 := by
  simpa [Lit.wf, IntKind.min, IntKind.max, IntKind.signed, IntKind.bits] using h
theorem vl_minus : vl (-1) = 18446744069414584320 := by
  have : (-1 : F) = 0 - 1 := by grind
  rw [this, vl_sub, vl_zero, vl_one]; rfl
theorem root_one : root 1 = -1 := by
  have h := root_half 0 (by omega)
  rw [Nat.pow_zero, show (1:Nat) = 0 + 1 from rfl, pow_succ, pow_zero] at h
  rw [← h]; show root 1 = 1 * root 1; grind
theorem root_anyZ (z : Int) (k : Nat) (w : World) (h : k ≤ 32) (hz : z = k) :
    Calls Tryd.prog 16 #[.int .i64 z] w fun e w' => e = .returned (.tuple #[.int .u64 (vl (root k)), .int .i64 0]) ∧ w = w' := by
  subst hz; exact root_any k w h
theorem pow_anyZ (a z : Int) (n : Nat) (w : World) (ha0 : 0 ≤ a) (ha1 : a < 18446744073709551616) (hn : n < 18446744073709551616) (hz : z = n) :
    Calls Tryd.prog 60 #[.int .u64 a, .int .u64 z] w fun e w' => e = .returned (.int .u64 (vl (toF a ^ n))) ∧ w = w' := by
  subst hz; exact pow_any a n w ha0 ha1 hn
theorem pow_64 (j : Nat) (h : j < 64) : 2 ^ j < 18446744073709551616 := Nat.pow_lt_pow_right (by omega) h
theorem wrap_pow (j : Nat) (h : j < 64) : IntKind.u64.wrap (2 ^ j) = ((2 ^ j : Nat) : Int) := by
  have h1 := pow_64 j h
  have e : ((2 : Int) ^ j) = ((2 ^ j : Nat) : Int) := by rw [Int.natCast_pow]; rfl
  rw [e]
  generalize 2 ^ j = q at h1 ⊢
  exact IntWalk.u64_in _ (by omega)
end Go.Proofs.YtkcfnbfkbmgchaaDoor.Gm
