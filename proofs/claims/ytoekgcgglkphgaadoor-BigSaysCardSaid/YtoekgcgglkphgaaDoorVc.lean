/- conv.Cyclic, conv.Skew. -/
import Derived.Test.YtoekgcgglkphgaaDoorGd
namespace Go.Proofs.YtoekgcgglkphgaaDoor.Gm
open Go.RowKit
set_option linter.unusedVariables false
/-- the skew product of lists -/
def skL (k : Nat) (l m : List F) : List F := twL (cycL k (twL l (root (k + 1)) (2 ^ k)) (twL m (root (k + 1)) (2 ^ k))) (inv (root (k + 1))) (2 ^ k)
theorem skL_len (k : Nat) (l m : List F) : (skL k l m).length = 2 ^ k := by unfold skL; rw [twL_len, cycL_len]
theorem cf_skL {k : Nat} (hk : k ≤ 20) {l m : List F} (hl : l.length = 2 ^ k) (hm : m.length = 2 ^ k) {i : Nat} (hi : i < 2 ^ k) : cf (skL k l m) i = cv (cf l) (cf m) i - cv (cf l) (cf m) (i + 2 ^ k) := by
  unfold skL
  rw [cf_twL _ _ _ (by rw [cycL_len]; exact hi), if_pos hi, cf_cycL _ _ _ hi]
  rw [← skew_eq hk (fun j hj => cf_ge (l := l) (by omega)) (fun j hj => cf_ge (l := m) (by omega)) hi, tr_cyc hk _ _ hi]
  congr 1
  refine S_congr (fun j hj => ?_)
  rw [cf_twL _ _ _ (by omega), if_pos hj, cf_twL _ _ _ (by rw [hm]; exact Nat.mod_lt _ (Nat.two_pow_pos k)), if_pos (Nat.mod_lt _ (Nat.two_pow_pos k))]
theorem inv_root (k : Nat) (w : World) : Calls Tryd.prog 55 #[.int .u64 (vl (root k))] w fun e w' => e = .returned (.tuple #[.int .u64 (vl (inv (root k))), .int .i64 0]) ∧ w = w' := by
  have := inv_any (vl (root k)) w (vl_lo _) (vl_64 _) (by rw [toF_vl]; exact root_ne k)
  rwa [toF_vl] at this
theorem first_pow (N : Nat) : ∀ c, N ≤ 2 ^ c → ∃ d, d ≤ c ∧ N ≤ 2 ^ d ∧ ∀ e, e < d → 2 ^ e < N
  | 0, h => ⟨0, Nat.le_refl _, h, fun e he => absurd he (by omega)⟩
  | c + 1, h => by
    by_cases h1 : N ≤ 2 ^ c
    · obtain ⟨d, h2, h3, h4⟩ := first_pow N c h1
      exact ⟨d, by omega, h3, h4⟩
    · refine ⟨c + 1, Nat.le_refl _, h, fun e he => ?_⟩
      have := Nat.pow_le_pow_right (show 0 < 2 by omega) (show e ≤ c by omega)
      omega
end Go.Proofs.YtoekgcgglkphgaaDoor.Gm
