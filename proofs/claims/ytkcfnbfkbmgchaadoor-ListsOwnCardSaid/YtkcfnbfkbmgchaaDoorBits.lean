/- The library's 128-bit product, by the shelf's contract. -/
import Derived.Shelf.Bits.Mul64
import Derived.Test.YtkcfnbfkbmgchaaDoorProg
import Derived.Test.YtkcfnbfkbmgchaaDoorPla
namespace Go.Proofs.YtkcfnbfkbmgchaaDoor.Gm
open Go.Shelf
def lays264_ren : Go.Shelf.Ren := ⟨fun | 264 => 61 | n => n, fun | 53 => 25 | 46 => 78 | n => n, fun | n => n⟩
theorem lays264 : Go.Proofs.Lays.n264 Tryd.prog lays264_ren := {
  mixed := by kernel_rfl
  f264 := Tryd.func61.trans (congrArg some (by kernel_rfl))
  t46 := Tryd.underlying78
  a46 := Tryd.isAgg78
  z46 := Tryd.sizeOf78
  v46 := Tryd.zeroValue78
  t53 := Tryd.underlying25
  a53 := Tryd.isAgg25
  z53 := Tryd.sizeOf25
  v53 := Tryd.zeroValue25 }
@[irreducible] def hiM (x y : F) : Int := vl x * vl y / 18446744073709551616
@[irreducible] def loM (x y : F) : Int := vl x * vl y % 18446744073709551616
theorem hilo (x y : F) : vl x * vl y = hiM x y * 18446744073709551616 + loM x y := by unfold hiM loM; omega
theorem lo_lo (x y : F) : 0 ≤ loM x y := by unfold loM; omega
theorem lo_hi (x y : F) : loM x y < 18446744073709551616 := by unfold loM; omega
theorem hi_lo (x y : F) : 0 ≤ hiM x y := by
  have := Int.mul_nonneg (vl_lo x) (vl_lo y)
  unfold hiM; omega
theorem hi_hi (x y : F) : hiM x y < 18446744073709551616 := by
  have h1 := vl_hi x
  have h2 := vl_hi y
  have h3 := vl_lo x
  have h4 := vl_lo y
  have := Int.mul_le_mul (Int.le_of_lt h1) (Int.le_of_lt h2) h4 (by omega)
  unfold hiM; omega
open Go.RowKit Go.Lib in
theorem mul64_any (x y : F) (w : World) :
    Calls Tryd.prog 61 #[.int .u64 (vl x), .int .u64 (vl y)] w fun e w' => e = .returned (.tuple #[.int .u64 (hiM x y), .int .u64 (loM x y)]) ∧ w = w' := by
  have h1 := vl_hi x
  have h2 := vl_hi y
  have hx : x.val < 18446744073709551616 := by unfold vl at h1; omega
  have hy : y.val < 18446744073709551616 := by unfold vl at h2; omega
  have e1 : ∀ z : F, vl z = ((z.val : Nat) : Int) := fun z => by unfold vl; rfl
  unfold hiM loM
  rw [e1, e1]
  refine (Any.bits_Mul64 lays264 x.val y.val hx hy w).mono fun e w' h => ⟨h.1.trans ?_, h.2.symm⟩

  rw [Int.natCast_ediv, Int.natCast_emod, Int.natCast_mul]
  rfl
end Go.Proofs.YtkcfnbfkbmgchaaDoor.Gm
