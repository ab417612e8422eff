/- Lists of literals. -/
import Derived.Test.YtkcfnbfkbmgchaaDoorRd
namespace Go.Proofs.YtkcfnbfkbmgchaaDoor.Gm
open Go.RowKit
/-- a list of literals, just laid -/
theorem Rd.lit (k : IntKind) (w : World) (zs : List Int) (t : TypeId) (n : Nat) (hn : n = zs.length) (hl : zs.length ≤ 1000000) :
    Rd k (w.alloc (.cells (zs.map (Value.int k)).toArray t)) (.slice (some ⟨w.heap.size, 0, none⟩) n n) zs := by
  subst hn
  refine ⟨_, _, w.heap.size, 0, rfl, Nat.le_refl _, by omega, .inr rfl, fun i hi => ?_⟩
  rw [World.cell?_alloc_at _ _ _ _ rfl, Nat.zero_add, gd_eq]
  simp [List.getElem?_eq_getElem hi]
end Go.Proofs.YtkcfnbfkbmgchaaDoor.Gm
