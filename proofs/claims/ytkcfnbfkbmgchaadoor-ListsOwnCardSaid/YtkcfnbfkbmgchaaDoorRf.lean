/- The walks of the reference's field part. -/
import Derived.Test.YtkcfnbfkbmgchaaDoorFx
namespace Go.Proofs.YtkcfnbfkbmgchaaDoor.Gm
open Go.RowKit
theorem rnorm_any (a : Int) (w : World) (h0 : 0 ≤ a) (h1 : a < 18446744073709551616) :
    Calls Tryd.prog 93 #[.int .u64 a] w fun e w' => e = .returned (.int .u64 (vl (toF a))) ∧ w = w' := by
  go_enter Tryd.func93, Tryd.ntmps93
  go_wp2
  go_ret
  exact ⟨ret_u64 (vl_toF a).symm, rfl⟩
theorem radd_any (a b : Int) (w : World) (ha0 : 0 ≤ a) (ha1 : a < 18446744073709551616) (hb0 : 0 ≤ b) (hb1 : b < 18446744073709551616) :
    Calls Tryd.prog 72 #[.int .u64 a, .int .u64 b] w fun e w' => e = .returned (.int .u64 (vl (toF a + toF b))) ∧ w = w' := by
  rcases lt_ge (a % 18446744069414584321) (18446744069414584321 - b % 18446744069414584321) with hc | hc
  · go_enter Tryd.func72, Tryd.ntmps72
    go_wp2
    go_ret
    exact ⟨ret_u64 (by rw [← add_lt (by rw [vl_toF, vl_toF]; exact hc), vl_toF, vl_toF]), rfl⟩
  · go_enter Tryd.func72, Tryd.ntmps72
    go_wp2
    go_ret
    exact ⟨ret_u64 (by rw [← add_ge (by rw [vl_toF, vl_toF]; exact hc), vl_toF, vl_toF]), rfl⟩
theorem rsub_arg (b : Int) : toF (18446744069414584321 - b % 18446744069414584321) = 0 - toF b := by
  rw [toF_sub, toF_P, toF_emod]
theorem rsub_any (a b : Int) (w : World) (ha0 : 0 ≤ a) (ha1 : a < 18446744073709551616) (hb0 : 0 ≤ b) (hb1 : b < 18446744073709551616) :
    Calls Tryd.prog 71 #[.int .u64 a, .int .u64 b] w fun e w' => e = .returned (.int .u64 (vl (toF a - toF b))) ∧ w = w' := by
  have h1 : 0 ≤ 18446744069414584321 - b % 18446744069414584321 := by omega
  have h2 : 18446744069414584321 - b % 18446744069414584321 < 18446744073709551616 := by omega
  go_enter Tryd.func71, Tryd.ntmps71
  go_wp2_with fail
  refine (radd_any a _ _ ha0 ha1 h1 h2).mono ?_
  rintro e w' ⟨rfl, rfl⟩
  go_wp2
  go_ret
  exact ⟨ret_u64 (by congr 1; rw [rsub_arg]; grind), rfl⟩
theorem radd_F (x y : F) (w : World) :
    Calls Tryd.prog 72 #[.int .u64 (vl x), .int .u64 (vl y)] w fun e w' => e = .returned (.int .u64 (vl (x + y))) ∧ w = w' := by
  have h := radd_any (vl x) (vl y) w (vl_lo x) (vl_64 x) (vl_lo y) (vl_64 y)
  rwa [toF_vl, toF_vl] at h
/-- the bits from i on -/
@[irreducible] def top (b i : Nat) : Nat := b / 2 ^ i
theorem top_eq (b i : Nat) : top b i = b / 2 ^ i := by unfold top; rfl
theorem top_zero (b : Nat) : top b 0 = b := by rw [top_eq, Nat.pow_zero, Nat.div_one]
theorem top_64 {b : Nat} (h : b < 18446744073709551616) : top b 64 = 0 := by rw [top_eq, Nat.div_eq_of_lt (by omega)]
/-- doubled, bit by bit: behind the bits from i on -/
theorem bit_step (b : Nat) (i : Nat) : b / 2 ^ i = 2 * (b / 2 ^ (i+1)) + b / 2 ^ i % 2 := by
  rw [Nat.pow_succ, ← Nat.div_div_eq_div_mul]; omega
theorem cast_bit (b i : Nat) (h : b / 2 ^ i % 2 = 1) (x : F) : toF (top b (i+1) : Int) * x + toF (top b (i+1) : Int) * x + x = toF (top b i : Int) * x := by
  rw [top_eq, top_eq, bit_step b i, h, Int.natCast_add, Int.natCast_mul, toF_add, toF_mul, show ((2:Nat):Int) = 1 + 1 from rfl, toF_add, show ((1:Nat):Int) = 1 from rfl, toF_one]
  grind
theorem cast_bit0 (b i : Nat) (h : b / 2 ^ i % 2 = 0) (x : F) : toF (top b (i+1) : Int) * x + toF (top b (i+1) : Int) * x = toF (top b i : Int) * x := by
  rw [top_eq, top_eq, bit_step b i, h, Int.natCast_add, Int.natCast_mul, toF_add, toF_mul, show ((0:Nat):Int) = 0 from rfl, toF_zero, show ((2:Nat):Int) = 1 + 1 from rfl, toF_add, toF_one]
  grind
theorem bit_cast (b j : Nat) : (b : Int) / 2 ^ j % 2 = ((b / 2 ^ j % 2 : Nat) : Int) := by
  rw [Int.natCast_emod, Int.natCast_ediv, Int.natCast_pow]; rfl
theorem bit_lo (b j : Nat) : 0 ≤ (b : Int) / 2 ^ j := by
  have : (b : Int) / 2 ^ j = ((b / 2 ^ j : Nat) : Int) := by rw [Int.natCast_ediv, Int.natCast_pow]; rfl
  rw [this]; exact Int.natCast_nonneg _
def RMulRel (x : F) (b : Nat) (out i : Value) : Prop := ∃ k : Nat, k ≤ 64 ∧ i = .int .i64 ((k : Int) - 1) ∧ out = .int .u64 (vl (toF (top b k : Int) * x))
theorem rmul_any (a b' : Int) (w : World) (ha0 : 0 ≤ a) (ha1 : a < 18446744073709551616) (hb0 : 0 ≤ b') (hb1 : b' < 18446744073709551616) :
    Calls Tryd.prog 66 #[.int .u64 a, .int .u64 b'] w fun e w' => e = .returned (.int .u64 (vl (toF a * toF b'))) ∧ w = w' := by
  obtain ⟨b, hb⟩ : ∃ b : Nat, b' % 18446744069414584321 = b := ⟨(b' % 18446744069414584321).toNat, by omega⟩
  have hyb : toF (b : Int) = toF b' := by rw [← hb, toF_emod]
  have hy1 : b < 18446744069414584321 := by omega
  have Hyb := Lib.hid hyb
  have Hb := Lib.hid hb
  have Hx := Lib.hid (vl_toF a)
  clear hyb hb
  go_enter Tryd.func66, Tryd.ntmps66
  go_wp2
  rw [Hb.out, ← Hx.out]
  have hx0 := vl_lo (toF a); have hx1 := vl_hi (toF a)
  go_loop [5, 6] (fun out i => RMulRel (toF a) b out i) (fun _ i => (intOf i + 1).toNat)
  case atStart => exact ⟨64, by omega, rfl, by rw [top_64 (by omega), show ((0:Nat):Int) = 0 from rfl, toF_zero, show (0:F) * toF a = 0 by grind, vl_zero]⟩
  case round =>
    obtain ⟨k, hk, rfl, rfl⟩ := hrel
    cases k with
    | zero =>
      go_wp2
      go_ret
      exact ⟨ret_u64 (by have := Hyb.out; rw [top_zero, this]; congr 1; grind), rfl⟩
    | succ j =>
      rw [show ((j + 1 : Nat) : Int) - 1 = (j : Int) by omega]
      have hz0 := bit_lo b j
      by_cases hz : b / 2 ^ j % 2 = 1
      · have hz2 : ((b : Int) / 2 ^ j % 2 == 1) = true := by rw [beq_iff_eq, bit_cast, hz]; rfl
        have Hz := Lib.hid hz
        clear hz
        go_wp2_with fail
        refine (radd_F _ _ _).mono ?_
        rintro e w' ⟨rfl, rfl⟩
        go_wp2_with fail
        refine (radd_F _ _ _).mono ?_
        rintro e w' ⟨rfl, rfl⟩
        go_wp2
        go_round
        case rel => exact ⟨j, by omega, rfl, by rw [cast_bit b j Hz.out]⟩
        case measure => simp [intOf] <;> omega
      · have hz2 : ((b : Int) / 2 ^ j % 2 == 1) = false := by rw [beq_eq_false_iff_ne, bit_cast]; omega
        have Hz := Lib.hid hz
        clear hz
        go_wp2_with fail
        refine (radd_F _ _ _).mono ?_
        rintro e w' ⟨rfl, rfl⟩
        go_wp2
        go_round
        case rel => exact ⟨j, by omega, rfl, by rw [cast_bit0 b j (by have := Hz.out; omega)]⟩
        case measure => simp [intOf] <;> omega
theorem rmul_F (x y : F) (w : World) :
    Calls Tryd.prog 66 #[.int .u64 (vl x), .int .u64 (vl y)] w fun e w' => e = .returned (.int .u64 (vl (x * y))) ∧ w = w' := by
  have h := rmul_any (vl x) (vl y) w (vl_lo x) (vl_64 x) (vl_lo y) (vl_64 y)
  rwa [toF_vl, toF_vl] at h
theorem rmul_Fa (x : F) (a : Int) (w : World) (ha0 : 0 ≤ a) (ha1 : a < 18446744073709551616) :
    Calls Tryd.prog 66 #[.int .u64 (vl x), .int .u64 a] w fun e w' => e = .returned (.int .u64 (vl (x * toF a))) ∧ w = w' := by
  have h := rmul_any (vl x) a w (vl_lo x) (vl_64 x) ha0 ha1
  rwa [toF_vl] at h
theorem rsub_F (x y : F) (w : World) :
    Calls Tryd.prog 71 #[.int .u64 (vl x), .int .u64 (vl y)] w fun e w' => e = .returned (.int .u64 (vl (x - y))) ∧ w = w' := by
  have h := rsub_any (vl x) (vl y) w (vl_lo x) (vl_64 x) (vl_lo y) (vl_64 y)
  rwa [toF_vl, toF_vl] at h
theorem powbit1 (c : F) (b i : Nat) (h : b / 2 ^ i % 2 = 1) : c ^ top b (i+1) * c ^ top b (i+1) * c = c ^ top b i := by
  rw [top_eq, top_eq, ← pow_add, ← pow_succ]; congr 1; have := bit_step b i; omega
theorem powbit0 (c : F) (b i : Nat) (h : b / 2 ^ i % 2 = 0) : c ^ top b (i+1) * c ^ top b (i+1) = c ^ top b i := by
  rw [top_eq, top_eq, ← pow_add]; congr 1; have := bit_step b i; omega
def RPowRel (c : F) (b : Nat) (out i : Value) : Prop := ∃ k : Nat, k ≤ 64 ∧ i = .int .i64 ((k : Int) - 1) ∧ out = .int .u64 (vl (c ^ top b k))
theorem rpow_any (a : Int) (b : Nat) (w : World) (ha0 : 0 ≤ a) (ha1 : a < 18446744073709551616) (hb1 : b < 18446744073709551616) :
    Calls Tryd.prog 92 #[.int .u64 a, .int .u64 b] w fun e w' => e = .returned (.int .u64 (vl (toF a ^ b))) ∧ w = w' := by
  go_enter Tryd.func92, Tryd.ntmps92
  go_wp2
  go_loop [5, 6] (fun out i => RPowRel (toF a) b out i) (fun _ i => (intOf i + 1).toNat)
  case atStart => exact ⟨64, by omega, rfl, by rw [top_64 hb1, pow_zero, vl_one]⟩
  case round =>
    obtain ⟨k, hk, rfl, rfl⟩ := hrel
    cases k with
    | zero =>
      go_wp2
      go_ret
      exact ⟨ret_u64 (by rw [top_zero]), rfl⟩
    | succ j =>
      rw [show ((j + 1 : Nat) : Int) - 1 = (j : Int) by omega]
      have hz0 := bit_lo b j
      by_cases hz : b / 2 ^ j % 2 = 1
      · have hz2 : ((b : Int) / 2 ^ j % 2 == 1) = true := by rw [beq_iff_eq, bit_cast, hz]; rfl
        have Hz := Lib.hid hz
        clear hz
        go_wp2_with fail
        refine (rmul_F _ _ _).mono ?_
        rintro e w' ⟨rfl, rfl⟩
        go_wp2_with fail
        refine (rmul_Fa _ a _ ha0 ha1).mono ?_
        rintro e w' ⟨rfl, rfl⟩
        go_wp2
        go_round
        case rel => exact ⟨j, by omega, rfl, by rw [powbit1 _ b j Hz.out]⟩
        case measure => simp [intOf] <;> omega
      · have hz2 : ((b : Int) / 2 ^ j % 2 == 1) = false := by rw [beq_eq_false_iff_ne, bit_cast]; omega
        have Hz := Lib.hid hz
        clear hz
        go_wp2_with fail
        refine (rmul_F _ _ _).mono ?_
        rintro e w' ⟨rfl, rfl⟩
        go_wp2
        go_round
        case rel => exact ⟨j, by omega, rfl, by rw [powbit0 _ b j (by have := Hz.out; omega)]⟩
        case measure => simp [intOf] <;> omega
def RRootRel (k : Nat) (n i : Value) : Prop := ∃ j : Nat, j ≤ k ∧ i = .int .i64 j ∧ n = .int .u64 (top 18446744069414584320 j : Int)
theorem half_cast (a : Nat) : (a : Int) / 2 = ((a / 2 : Nat) : Int) := by omega
theorem rroot_any (k : Nat) (w : World) (h : k ≤ 32) :
    Calls Tryd.prog 64 #[.int .i64 k] w fun e w' => e = .returned (.int .u64 (vl (root k))) ∧ w = w' := by
  go_enter Tryd.func64, Tryd.ntmps64
  go_wp2
  go_loop [3, 4] (fun n i => RRootRel k n i) (fun _ i => k - (intOf i).toNat)
  case atStart => exact ⟨0, by omega, rfl, by rw [top_zero]; rfl⟩
  case round =>
    obtain ⟨j, hj, rfl, rfl⟩ := hrel
    have hb : top 18446744069414584320 j < 18446744073709551616 := by rw [top_eq]; have := Nat.div_le_self 18446744069414584320 (2 ^ j); omega
    have Hd := Lib.hid (show top 18446744069414584320 j / 2 = top 18446744069414584320 (j+1) by rw [top_eq, top_eq, Nat.pow_succ, Nat.div_div_eq_div_mul])
    by_cases hlt : j < k
    · go_wp2
      go_round
      case rel => exact ⟨j + 1, by omega, by go_num, by rw [half_cast, Hd.out]⟩
      case measure => simp [intOf] <;> omega
    · obtain rfl : j = k := by omega
      go_wp2_with fail
      refine (rpow_any 7 (top 18446744069414584320 j) _ (by omega) (by omega) hb).mono ?_
      rintro e w' ⟨rfl, rfl⟩
      go_wp2
      go_ret
      refine ⟨ret_u64 ?_, rfl⟩
      rw [toF_seven, top_eq]
      unfold root
      rfl
end Go.Proofs.YtkcfnbfkbmgchaaDoor.Gm
