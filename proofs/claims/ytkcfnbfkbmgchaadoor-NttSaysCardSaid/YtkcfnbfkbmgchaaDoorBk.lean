/- Bits from the other end, as the law NttSays reckons them. -/
import Derived.Test.YtkcfnbfkbmgchaaDoorNb
import Derived.WalkKit
import Derived.Test.YtkcfnbfkbmgchaaDoorRd
namespace Go.Proofs.YtkcfnbfkbmgchaaDoor.Gm
open Go.RowKit
/-- the bits of i from the other end, as the law reckons them -/
def bkI (k : Nat) (i : Int) : Nat → Int
  | 0 => 0
  | b + 1 => bits BinOp.or IntKind.i64 (bkI k i b) (wrap64 (bits BinOp.and IntKind.i64 (i / 2 ^ b) 1 * 2 ^ (k - 1 - b)))
theorem bkI_rev : ∀ k : Fin 11, ∀ i : Fin 1024, i.val < 2 ^ k.val → bkI k.val (i.val : Int) k.val = (rev k.val i.val : Int) := by decide +kernel
end Go.Proofs.YtkcfnbfkbmgchaaDoor.Gm
