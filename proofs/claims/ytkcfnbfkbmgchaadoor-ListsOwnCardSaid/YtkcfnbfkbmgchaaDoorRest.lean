/- The walk of goldref.Rest. -/
import Derived.Test.YtkcfnbfkbmgchaaDoorBd
namespace Go.Proofs.YtkcfnbfkbmgchaaDoor.Gm
open Go.RowKit
theorem rest_any (n m : Int) (w : World) (h0 : -9223372036854775808 ≤ n) (h1 : n ≤ 9223372036854775807) (m0 : 0 < m) (m1 : m ≤ 9223372036854775807) :
    Calls Tryd.prog 57 #[.int .i64 n, .int .i64 m] w fun e w' => e = .returned (.int .i64 (n % m)) ∧ w = w' := by
  by_cases hn : 0 ≤ n
  · have hd : decide (n % m < 0) = false := by simp; exact Int.emod_nonneg _ (by omega)
    go_enter Tryd.func57, Tryd.ntmps57
    go_wp2
    go_ret
    exact ⟨rfl, rfl⟩
  · have hm1 := Int.emod_lt_of_pos n m0
    have hm2 := Int.emod_nonneg n (show m ≠ 0 by omega)
    have ht := @Int.tmod_eq_emod n m
    by_cases hd : m ∣ n
    · have hz : n.tmod m = 0 := by rw [ht, if_pos (.inr hd)]; have := Int.emod_eq_zero_of_dvd hd; omega
      have h2 : n % m = 0 := Int.emod_eq_zero_of_dvd hd
      have H2 := Lib.hid h2
      clear h2 hd ht hm1 hm2
      go_enter Tryd.func57, Tryd.ntmps57
      go_wp2
      go_ret
      exact ⟨by rw [H2.out]; rfl, rfl⟩
    · have hz : n.tmod m = n % m - m := by rw [ht, if_neg (by simp; exact ⟨by omega, hd⟩)]; omega
      have hlt : n % m - m < 0 := by omega
      have he : n % m - m + m = n % m := by omega
      generalize n % m = q at *
      clear ht hd
      go_enter Tryd.func57, Tryd.ntmps57
      go_wp2
      go_ret
      exact ⟨rfl, rfl⟩
end Go.Proofs.YtkcfnbfkbmgchaaDoor.Gm
