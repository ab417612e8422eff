import Derived.Test.YtkcfnbfkbmgchaaDoorThrough
namespace Go.Proofs.YtkcfnbfkbmgchaaDoor.Gm
/-- a number of the field as it is told -/
@[irreducible] def vl (x : F) : Int := (x.val : Int)
/-- the rest of a number by P -/
@[irreducible] def toF (a : Int) : F := Fin.ofNat PN (a % (PN : Int)).toNat
theorem vl_lo (x : F) : 0 ≤ vl x := by unfold vl; exact Int.natCast_nonneg _
theorem vl_lt (x : F) : vl x < (PN : Int) := by have := x.isLt; unfold vl; omega
theorem vl_hi (x : F) : vl x < 18446744069414584321 := by
  have := vl_lt x
  have h : (PN : Int) = 18446744069414584321 := by rw [PN_eq]; rfl
  omega
theorem vl_inj {x y : F} (h : vl x = vl y) : x = y := Fin.ext (by unfold vl at h; omega)
theorem vl_toF (a : Int) : vl (toF a) = a % 18446744069414584321 := by
  have h : (PN : Int) = 18446744069414584321 := by rw [PN_eq]; rfl
  unfold toF vl
  rw [Fin.val_ofNat, h, PN_eq]
  omega
theorem toF_vl (x : F) : toF (vl x) = x := by
  apply vl_inj
  rw [vl_toF]
  have h1 := vl_lo x
  have h2 := vl_hi x
  omega
theorem vl_add (x y : F) : vl (x + y) = (vl x + vl y) % 18446744069414584321 := by
  unfold vl; rw [Fin.val_add, Int.natCast_emod, show ((PN : Nat) : Int) = 18446744069414584321 by rw [PN_eq]; rfl, Int.natCast_add]
theorem vl_mul (x y : F) : vl (x * y) = (vl x * vl y) % 18446744069414584321 := by
  unfold vl; rw [Fin.val_mul, Int.natCast_emod, show ((PN : Nat) : Int) = 18446744069414584321 by rw [PN_eq]; rfl, Int.natCast_mul]
theorem toF_add (a b : Int) : toF (a + b) = toF a + toF b := by
  apply vl_inj; rw [vl_add, vl_toF, vl_toF, vl_toF]; omega
theorem toF_mul (a b : Int) : toF (a * b) = toF a * toF b := by
  apply vl_inj; rw [vl_mul, vl_toF, vl_toF, vl_toF]; exact Int.mul_emod _ _ _
theorem toF_zero : toF 0 = 0 := by apply vl_inj; rw [vl_toF]; unfold vl; rw [val_zero]; rfl
theorem toF_one : toF 1 = 1 := by apply vl_inj; rw [vl_toF]; unfold vl; rw [val_one]; rfl
theorem toF_sub (a b : Int) : toF (a - b) = toF a - toF b := by
  have := toF_add (a - b) b
  rw [Int.sub_add_cancel] at this
  grind
theorem toF_P : toF 18446744069414584321 = 0 := by apply vl_inj; rw [vl_toF]; unfold vl; rw [val_zero]; rfl
theorem toF_emod (a : Int) : toF (a % 18446744069414584321) = toF a := by apply vl_inj; rw [vl_toF, vl_toF]; omega
/-- a number is its own rest -/
theorem toF_id {a : Int} (h0 : 0 ≤ a) (h1 : a < 18446744069414584321) : vl (toF a) = a := by rw [vl_toF]; omega
theorem norm_ge {a : Int} (h0 : 18446744069414584321 ≤ a) (h1 : a < 18446744073709551616) : a - 18446744069414584321 = vl (toF a) := by rw [vl_toF]; omega
theorem vl_sub (x y : F) : vl (x - y) = (vl x - vl y) % 18446744069414584321 := by
  have h := toF_sub (vl x) (vl y)
  rw [toF_vl, toF_vl] at h
  rw [← h, vl_toF]
/-- 2^64 is 2^32 - 1, 2^96 is -1 -/
theorem mul_fold (x y : F) (hi lo top mid : Int) (h1 : vl x * vl y = hi * 18446744073709551616 + lo) (h2 : hi = top * 4294967296 + mid) :
    toF lo - toF top + toF (mid * 4294967296 - mid) = x * y := by
  have e : x * y = toF (vl x * vl y) := by rw [toF_mul, toF_vl, toF_vl]
  rw [e, h1, h2, ← toF_sub, ← toF_add]
  apply vl_inj
  rw [vl_toF, vl_toF]
  omega
theorem vl_zero : vl 0 = 0 := by unfold vl; rw [val_zero]; rfl
theorem vl_one : vl 1 = 1 := by unfold vl; rw [val_one]; rfl
theorem vl_eq_zero (x : F) : vl x = 0 ↔ x = 0 := ⟨fun h => vl_inj (h.trans vl_zero.symm), fun h => by rw [h, vl_zero]⟩
theorem toF_nat_one (n : Nat) : toF ((n : Int) + 1) = toF (n : Int) + 1 := by rw [toF_add, toF_one]
theorem cast_toF (n : Nat) : cast n = toF (n : Int) := by
  induction n with
  | zero => rw [show ((0:Nat):Int) = 0 from rfl, toF_zero]; rfl
  | succ n ih =>
    have : cast (n+1) = cast n + 1 := rfl
    rw [this, ih, Int.natCast_add, toF_add]
    congr 1
    exact toF_one.symm
theorem toF_ne {a : Int} (h0 : 0 < a) (h1 : a < 18446744069414584321) : toF a ≠ 0 := by
  intro h
  have := (vl_eq_zero _).2 h
  rw [toF_id (by omega) h1] at this
  omega
end Go.Proofs.YtkcfnbfkbmgchaaDoor.Gm
