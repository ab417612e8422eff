/- The walks of package field, each function once: what it answers, in the field's own words. -/
import Derived.Test.YtkcfnbfkbmgchaaDoorChecked
import Derived.WalkKit
import Derived.WalkLawsBesides
import Derived.WalkSpells
import Derived.Lib.Hide
import Derived.Outline
import Derived.Test.YtkcfnbfkbmgchaaDoorBits
namespace Go.Proofs.YtkcfnbfkbmgchaaDoor.Gm
open Go.RowKit
theorem lt_ge (a b : Int) : a < b ∨ b ≤ a := by omega
theorem ret_u64 {a b : Int} (h : a = b) : Ending.returned (.int .u64 a) = .returned (.int .u64 b) := by rw [h]
theorem norm_any (a : Int) (w : World) (h0 : 0 ≤ a) (h1 : a < 18446744073709551616) :
    Calls Tryd.prog 26 #[.int .u64 a] w fun e w' => e = .returned (.int .u64 (vl (toF a))) ∧ w = w' := by
  by_cases hc : 18446744069414584321 ≤ a
  · go_enter Tryd.func26, Tryd.ntmps26
    go_wp2
    go_ret
    exact ⟨ret_u64 (norm_ge hc h1), rfl⟩
  · go_enter Tryd.func26, Tryd.ntmps26
    go_wp2
    go_ret
    exact ⟨ret_u64 (toF_id h0 (by omega)).symm, rfl⟩
theorem add_ge {x y : F} (h : 18446744069414584321 - vl y ≤ vl x) : vl x - (18446744069414584321 - vl y) = vl (x + y) := by
  have h1 := vl_lo x; have h2 := vl_hi x; have h3 := vl_lo y; have h4 := vl_hi y
  rw [vl_add]; omega
theorem add_lt {x y : F} (h : vl x < 18446744069414584321 - vl y) : vl x + vl y = vl (x + y) := by
  have h1 := vl_lo x; have h2 := vl_hi x; have h3 := vl_lo y; have h4 := vl_hi y
  rw [vl_add]; omega
theorem sub_lt {x y : F} (h : vl x < vl y) : vl x + (18446744069414584321 - vl y) = vl (x - y) := by
  have h1 := vl_lo x; have h2 := vl_hi x; have h3 := vl_lo y; have h4 := vl_hi y
  rw [vl_sub]; omega
theorem sub_ge {x y : F} (h : vl y ≤ vl x) : vl x - vl y = vl (x - y) := by
  have h1 := vl_lo x; have h2 := vl_hi x; have h3 := vl_lo y; have h4 := vl_hi y
  rw [vl_sub]; omega
theorem add_any (a b : Int) (w : World) (ha0 : 0 ≤ a) (ha1 : a < 18446744073709551616) (hb0 : 0 ≤ b) (hb1 : b < 18446744073709551616) :
    Calls Tryd.prog 19 #[.int .u64 a, .int .u64 b] w fun e w' => e = .returned (.int .u64 (vl (toF a + toF b))) ∧ w = w' := by
  have h1 := vl_lo (toF a); have h2 := vl_hi (toF a); have h3 := vl_lo (toF b); have h4 := vl_hi (toF b)
  rcases lt_ge (vl (toF a)) (18446744069414584321 - vl (toF b)) with hc | hc
  rotate_left
  · go_enter Tryd.func19, Tryd.ntmps19
    go_wp2_with fail
    refine (norm_any a _ ha0 ha1).mono ?_
    rintro e w' ⟨rfl, rfl⟩
    go_wp2_with fail
    refine (norm_any b _ hb0 hb1).mono ?_
    rintro e w' ⟨rfl, rfl⟩
    go_wp2
    go_ret
    exact ⟨ret_u64 (add_ge hc), rfl⟩
  · go_enter Tryd.func19, Tryd.ntmps19
    go_wp2_with fail
    refine (norm_any a _ ha0 ha1).mono ?_
    rintro e w' ⟨rfl, rfl⟩
    go_wp2_with fail
    refine (norm_any b _ hb0 hb1).mono ?_
    rintro e w' ⟨rfl, rfl⟩
    go_wp2
    go_ret
    exact ⟨ret_u64 (add_lt hc), rfl⟩
theorem sub_any (a b : Int) (w : World) (ha0 : 0 ≤ a) (ha1 : a < 18446744073709551616) (hb0 : 0 ≤ b) (hb1 : b < 18446744073709551616) :
    Calls Tryd.prog 32 #[.int .u64 a, .int .u64 b] w fun e w' => e = .returned (.int .u64 (vl (toF a - toF b))) ∧ w = w' := by
  have h1 := vl_lo (toF a); have h2 := vl_hi (toF a); have h3 := vl_lo (toF b); have h4 := vl_hi (toF b)
  rcases lt_ge (vl (toF a)) (vl (toF b)) with hc | hc
  · go_enter Tryd.func32, Tryd.ntmps32
    go_wp2_with fail
    refine (norm_any a _ ha0 ha1).mono ?_
    rintro e w' ⟨rfl, rfl⟩
    go_wp2_with fail
    refine (norm_any b _ hb0 hb1).mono ?_
    rintro e w' ⟨rfl, rfl⟩
    go_wp2
    go_ret
    exact ⟨ret_u64 (sub_lt hc), rfl⟩
  · go_enter Tryd.func32, Tryd.ntmps32
    go_wp2_with fail
    refine (norm_any a _ ha0 ha1).mono ?_
    rintro e w' ⟨rfl, rfl⟩
    go_wp2_with fail
    refine (norm_any b _ hb0 hb1).mono ?_
    rintro e w' ⟨rfl, rfl⟩
    go_wp2
    go_ret
    exact ⟨ret_u64 (sub_ge hc), rfl⟩
theorem and_mask (E : Int) (h0 : 0 ≤ E) (h1 : E < 18446744073709551616) : bits BinOp.and IntKind.u64 E 4294967295 = E % 4294967296 := by
  have h := bits_and_u64_nat E.toNat (2 ^ 32 - 1) (by omega) (by omega)
  rw [Nat.and_two_pow_sub_one_eq_mod, Int.toNat_of_nonneg h0] at h
  have h2 : ((E.toNat % 2 ^ 32 : Nat) : Int) = E % 4294967296 := by omega
  exact h.trans h2
@[irreducible] def midM (x y : F) : Int := hiM x y % 4294967296
theorem mid_lo (x y : F) : 0 ≤ midM x y := by unfold midM; omega
theorem mid_hi (x y : F) : midM x y < 4294967296 := by unfold midM; omega
theorem mid_eq (x y : F) : hiM x y = hiM x y / 4294967296 * 4294967296 + midM x y := by unfold midM; omega
theorem mid_and (x y : F) : bits BinOp.and IntKind.u64 (hiM x y) 4294967295 = midM x y := by
  unfold midM; exact and_mask _ (hi_lo x y) (hi_hi x y)
theorem mul_any (a b : Int) (w : World) (ha0 : 0 ≤ a) (ha1 : a < 18446744073709551616) (hb0 : 0 ≤ b) (hb1 : b < 18446744073709551616) :
    Calls Tryd.prog 18 #[.int .u64 a, .int .u64 b] w fun e w' => e = .returned (.int .u64 (vl (toF a * toF b))) ∧ w = w' := by
  have l0 := lo_lo (toF a) (toF b); have l1 := lo_hi (toF a) (toF b); have l2 := hi_lo (toF a) (toF b); have l3 := hi_hi (toF a) (toF b)
  have hb := mid_and (toF a) (toF b)
  have n0 := mid_lo (toF a) (toF b)
  have n1 := mid_hi (toF a) (toF b)
  have Hm := Lib.hid (mid_eq (toF a) (toF b))
  have m1 := vl_lo (toF (loM (toF a) (toF b)))
  have m2 : vl (toF (loM (toF a) (toF b))) < 18446744073709551616 := by have := vl_hi (toF (loM (toF a) (toF b))); omega
  have m3 : 0 ≤ hiM (toF a) (toF b) / 4294967296 := by omega
  have m4 : hiM (toF a) (toF b) / 4294967296 < 18446744073709551616 := by omega
  have m5 : 0 ≤ midM (toF a) (toF b) * 4294967296 - midM (toF a) (toF b) := by omega
  have m6 : midM (toF a) (toF b) * 4294967296 - midM (toF a) (toF b) < 18446744073709551616 := by omega
  have m7 := vl_lo (toF (loM (toF a) (toF b)) - toF (hiM (toF a) (toF b) / 4294967296))
  have m8 : vl (toF (loM (toF a) (toF b)) - toF (hiM (toF a) (toF b) / 4294967296)) < 18446744073709551616 := by have := vl_hi (toF (loM (toF a) (toF b)) - toF (hiM (toF a) (toF b) / 4294967296)); omega
  have m9 := vl_lo (toF (midM (toF a) (toF b) * 4294967296 - midM (toF a) (toF b)))
  have m10 : vl (toF (midM (toF a) (toF b) * 4294967296 - midM (toF a) (toF b))) < 18446744073709551616 := by have := vl_hi (toF (midM (toF a) (toF b) * 4294967296 - midM (toF a) (toF b))); omega
  go_enter Tryd.func18, Tryd.ntmps18
  go_wp2_with fail
  refine (norm_any a _ ha0 ha1).mono ?_
  rintro e w' ⟨rfl, rfl⟩
  go_wp2_with fail
  refine (norm_any b _ hb0 hb1).mono ?_
  rintro e w' ⟨rfl, rfl⟩
  go_wp2_with fail
  refine (mul64_any (toF a) (toF b) _).mono ?_
  rintro e w' ⟨rfl, rfl⟩
  go_wp2_with fail
  refine (norm_any _ _ l0 l1).mono ?_
  rintro e w' ⟨rfl, rfl⟩
  go_wp2_with fail
  refine (sub_any _ _ _ m1 m2 m3 m4).mono ?_
  rintro e w' ⟨rfl, rfl⟩
  rw [toF_vl]
  go_wp2_with fail
  refine (norm_any _ _ m5 m6).mono ?_
  rintro e w' ⟨rfl, rfl⟩
  go_wp2_with fail
  refine (add_any _ _ _ m7 m8 m9 m10).mono ?_
  rintro e w' ⟨rfl, rfl⟩
  go_wp2
  go_ret
  refine ⟨ret_u64 ?_, rfl⟩
  rw [toF_vl, toF_vl]
  congr 1
  exact mul_fold _ _ _ _ _ _ (hilo _ _) Hm.out
theorem vl_64 (x : F) : vl x < 18446744073709551616 := by have := vl_hi x; omega
theorem mul_F (x y : F) (w : World) :
    Calls Tryd.prog 18 #[.int .u64 (vl x), .int .u64 (vl y)] w fun e w' => e = .returned (.int .u64 (vl (x * y))) ∧ w = w' := by
  have h := mul_any (vl x) (vl y) w (vl_lo x) (vl_64 x) (vl_lo y) (vl_64 y)
  rwa [toF_vl, toF_vl] at h
theorem add_F (x y : F) (w : World) :
    Calls Tryd.prog 19 #[.int .u64 (vl x), .int .u64 (vl y)] w fun e w' => e = .returned (.int .u64 (vl (x + y))) ∧ w = w' := by
  have h := add_any (vl x) (vl y) w (vl_lo x) (vl_64 x) (vl_lo y) (vl_64 y)
  rwa [toF_vl, toF_vl] at h
theorem sub_F (x y : F) (w : World) :
    Calls Tryd.prog 32 #[.int .u64 (vl x), .int .u64 (vl y)] w fun e w' => e = .returned (.int .u64 (vl (x - y))) ∧ w = w' := by
  have h := sub_any (vl x) (vl y) w (vl_lo x) (vl_64 x) (vl_lo y) (vl_64 y)
  rwa [toF_vl, toF_vl] at h
theorem norm_F (x : F) (w : World) :
    Calls Tryd.prog 26 #[.int .u64 (vl x)] w fun e w' => e = .returned (.int .u64 (vl x)) ∧ w = w' := by
  have h := norm_any (vl x) w (vl_lo x) (vl_64 x)
  rwa [toF_vl] at h
theorem pow_odd {x y c : F} {m : Nat} (h : y * x ^ m = c) (ho : m % 2 = 1) : y * x * (x * x) ^ (m / 2) = c := by
  have e : x ^ m = (x * x) ^ (m / 2) * x := by
    rw [pow_mul_pow, ← pow_add, ← pow_succ]; congr 1; omega
  rw [e] at h; grind
theorem pow_even {x y c : F} {m : Nat} (h : y * x ^ m = c) (ho : m % 2 = 0) : y * (x * x) ^ (m / 2) = c := by
  have e : x ^ m = (x * x) ^ (m / 2) := by
    rw [pow_mul_pow, ← pow_add]; congr 1; omega
  rw [e] at h; exact h
def PowRel (c : F) (a n out : Value) : Prop := ∃ (x : F) (m : Nat) (y : F), a = .int .u64 (vl x) ∧ n = .int .u64 m ∧ out = .int .u64 (vl y) ∧ y * x ^ m = c ∧ m < 18446744073709551616
theorem pow_any (a : Int) (n : Nat) (w : World) (ha0 : 0 ≤ a) (ha1 : a < 18446744073709551616) (hn : n < 18446744073709551616) :
    Calls Tryd.prog 60 #[.int .u64 a, .int .u64 n] w fun e w' => e = .returned (.int .u64 (vl (toF a ^ n))) ∧ w = w' := by
  go_enter Tryd.func60, Tryd.ntmps60
  go_wp2_with fail
  refine (norm_any a _ ha0 ha1).mono ?_
  rintro e w' ⟨rfl, rfl⟩
  go_wp2_with fail
  go_loop [0, 1, 5] (fun a' n' out => PowRel (toF a ^ n) a' n' out) (fun _ n' _ => (intOf n').toNat)
  case atStart => exact ⟨toF a, n, 1, rfl, rfl, by rw [vl_one], by grind, hn⟩
  case round =>
    obtain ⟨x, m, y, rfl, rfl, rfl, hm, hlt⟩ := hrel
    have Hm := Lib.hid hm
    clear hm
    have hb : bits BinOp.and IntKind.u64 (m : Int) 1 = (m : Int) % 2 := and_one_u64 m (by omega) (by omega)
    by_cases h0 : 0 < m
    · by_cases ho : m % 2 = 1
      · have hz : ((m : Int) % 2 == 1) = true := by rw [beq_iff_eq]; omega
        have Ho := Lib.hid ho
        clear ho
        go_wp2_with fail
        refine (mul_F y x _).mono ?_
        rintro e w' ⟨rfl, rfl⟩
        go_wp2_with fail
        refine (mul_F x x _).mono ?_
        rintro e w' ⟨rfl, rfl⟩
        go_wp2
        go_round
        case rel => exact ⟨x * x, m / 2, y * x, rfl, by go_num, rfl, pow_odd Hm.out Ho.out, by omega⟩
        case measure => simp [intOf]; omega
      · have hz : ((m : Int) % 2 == 1) = false := by rw [beq_eq_false_iff_ne]; omega
        have Ho := Lib.hid ho
        clear ho
        go_wp2_with fail
        refine (mul_F x x _).mono ?_
        rintro e w' ⟨rfl, rfl⟩
        go_wp2
        go_round
        case rel => exact ⟨x * x, m / 2, y, rfl, by go_num, rfl, pow_even Hm.out (by have := Ho.out; omega), by omega⟩
        case measure => simp [intOf]; omega
    · obtain rfl : m = 0 := by omega
      go_wp2
      go_ret
      exact ⟨ret_u64 (by congr 1; have := Hm.out; rw [pow_zero] at this; grind), rfl⟩
end Go.Proofs.YtkcfnbfkbmgchaaDoor.Gm
