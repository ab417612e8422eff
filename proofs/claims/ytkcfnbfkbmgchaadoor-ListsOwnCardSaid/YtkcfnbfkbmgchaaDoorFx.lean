/- The walks of package field: Inv, Root. -/
import Derived.Test.YtkcfnbfkbmgchaaDoorFw
namespace Go.Proofs.YtkcfnbfkbmgchaaDoor.Gm
open Go.RowKit
theorem toF_eq_zero {a : Int} : vl (toF a) = 0 ↔ toF a = 0 := vl_eq_zero _
theorem inv_none (a : Int) (w : World) (ha0 : 0 ≤ a) (ha1 : a < 18446744073709551616) (h : toF a = 0) :
    Calls Tryd.prog 63 #[.int .u64 a] w fun e w' => e = .returned (.tuple #[.int .u64 0, .int .i64 4]) ∧ w = w' := by
  have hz : vl (toF a) = 0 := (vl_eq_zero _).2 h
  have Hh := Lib.hid h
  clear h
  go_enter Tryd.func63, Tryd.ntmps63
  go_wp2_with fail
  refine (norm_any a _ ha0 ha1).mono ?_
  rintro e w' ⟨rfl, rfl⟩
  go_wp2
  go_ret2
  exact ⟨rfl, rfl⟩
theorem pow_inv (a : Int) (w : World) (ha0 : 0 ≤ a) (ha1 : a < 18446744073709551616) :
    Calls Tryd.prog 60 #[.int .u64 a, .int .u64 18446744069414584319] w fun e w' => e = .returned (.int .u64 (vl (inv (toF a)))) ∧ w = w' := by
  have e : inv (toF a) = toF a ^ (18446744069414584319 : Nat) := by unfold inv; rfl
  rw [e]
  exact pow_any a 18446744069414584319 w ha0 ha1 (by omega)
theorem inv_any (a : Int) (w : World) (ha0 : 0 ≤ a) (ha1 : a < 18446744073709551616) (h : toF a ≠ 0) :
    Calls Tryd.prog 63 #[.int .u64 a] w fun e w' => e = .returned (.tuple #[.int .u64 (vl (inv (toF a))), .int .i64 0]) ∧ w = w' := by
  have hz : (vl (toF a) == 0) = false := by rw [beq_eq_false_iff_ne]; exact fun e => h ((vl_eq_zero _).1 e)
  clear h
  go_enter Tryd.func63, Tryd.ntmps63
  go_wp2_with fail
  refine (norm_any a _ ha0 ha1).mono ?_
  rintro e w' ⟨rfl, rfl⟩
  go_wp2_with fail
  refine (pow_inv a _ ha0 ha1).mono ?_
  rintro e w' ⟨rfl, rfl⟩
  go_wp2
  go_ret2
  exact ⟨rfl, rfl⟩
theorem root_no (k : Int) (w : World) (h : k < 0 ∨ 32 < k) :
    Calls Tryd.prog 16 #[.int .i64 k] w fun e w' => e = .returned (.tuple #[.int .u64 0, .int .i64 1]) ∧ w = w' := by
  rcases h with h | h
  · go_enter Tryd.func16, Tryd.ntmps16
    go_wp2
    go_ret2
    exact ⟨rfl, rfl⟩
  · go_enter Tryd.func16, Tryd.ntmps16
    go_wp2
    go_ret2
    exact ⟨rfl, rfl⟩
theorem toF_seven : toF 7 = 7 := by
  apply vl_inj; rw [vl_toF]; unfold vl; rw [val_seven]; rfl
theorem root_exp (k : Nat) : (18446744069414584320 : Int) / 2 ^ k = ((18446744069414584320 / 2 ^ k : Nat) : Int) := by
  rw [Int.natCast_ediv, Int.natCast_pow]; rfl
theorem pow_root (k : Nat) (w : World) :
    Calls Tryd.prog 60 #[.int .u64 7, .int .u64 (18446744069414584320 / 2 ^ k)] w fun e w' => e = .returned (.int .u64 (vl (root k))) ∧ w = w' := by
  have h := pow_any 7 (18446744069414584320 / 2 ^ k) w (by omega) (by omega) (by have := Nat.div_le_self 18446744069414584320 (2 ^ k); omega)
  rw [root_exp]
  rw [toF_seven] at h
  unfold root
  exact h
theorem root_any (k : Nat) (w : World) (h : k ≤ 32) :
    Calls Tryd.prog 16 #[.int .i64 k] w fun e w' => e = .returned (.tuple #[.int .u64 (vl (root k)), .int .i64 0]) ∧ w = w' := by
  go_enter Tryd.func16, Tryd.ntmps16
  go_wp2_with fail
  refine (pow_root k _).mono ?_
  rintro e w' ⟨rfl, rfl⟩
  go_wp2
  go_ret2
  exact ⟨rfl, rfl⟩
end Go.Proofs.YtkcfnbfkbmgchaaDoor.Gm
