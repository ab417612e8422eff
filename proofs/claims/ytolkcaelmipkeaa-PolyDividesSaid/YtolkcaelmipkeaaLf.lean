/- The walks of the laws on the field. -/
import Derived.Test.YtolkcaelmipkeaaRi
namespace Go.Proofs.Ytolkcaelmipkeaa.Gm
open Go.RowKit
theorem u64_bounds {a : Int} (h : (Lit.int .u64 a).wf = true) : 0 ≤ a ∧ a < 18446744073709551616 := by
  have : 0 ≤ a ∧ a ≤ 18446744073709551615 := by simpa [Lit.wf, IntKind.min, IntKind.max, IntKind.signed, IntKind.bits] using h
  omega
theorem i64_bounds {a : Int} (h : (Lit.int .i64 a).wf = true) : -9223372036854775808 ≤ a ∧ a ≤ 9223372036854775807 := by
  simpa [Lit.wf, IntKind.min, IntKind.max, IntKind.signed, IntKind.bits] using h
theorem wFieldSays (a b n' : Int) (wa : (Lit.int .u64 a).wf = true) (wb : (Lit.int .u64 b).wf = true) (wn : (Lit.int .u64 n').wf = true) (w : World) :
    Calls Try.prog 7 #[.int .u64 a, .int .u64 b, .int .u64 n'] w fun e w' => e = .returned (.bool true) ∧ w = w' := by
  obtain ⟨a0, a1⟩ := u64_bounds wa
  obtain ⟨b0, b1⟩ := u64_bounds wb
  obtain ⟨n0, n1⟩ := u64_bounds wn
  obtain ⟨n, hn⟩ : ∃ n : Nat, n' = n := ⟨n'.toNat, by omega⟩
  subst hn
  have n2 : n < 18446744073709551616 := by omega
  clear wa wb wn
  by_cases h : toF a = 0
  · have hz : vl (toF a) = 0 := (vl_eq_zero _).2 h
    have hz2 : (vl (toF a) != 0) = false := by rw [hz]; rfl
    have H := Lib.hid h
    clear h hz
    go_enter Try.func7, Try.ntmps7
    go_wp2_with fail
    refine (inv_none a _ a0 a1 H.out).mono ?_; rintro e w' ⟨rfl, rfl⟩; go_wp2_with fail
    refine (rnorm_any a _ a0 a1).mono ?_; rintro e w' ⟨rfl, rfl⟩; go_wp2_with fail
    refine (norm_any a _ a0 a1).mono ?_; rintro e w' ⟨rfl, rfl⟩; go_wp2_with fail
    refine (rnorm_any a _ a0 a1).mono ?_; rintro e w' ⟨rfl, rfl⟩; go_wp2_with fail
    refine (add_any a b _ a0 a1 b0 b1).mono ?_; rintro e w' ⟨rfl, rfl⟩; go_wp2_with fail
    refine (radd_any a b _ a0 a1 b0 b1).mono ?_; rintro e w' ⟨rfl, rfl⟩; go_wp2_with fail
    refine (sub_any a b _ a0 a1 b0 b1).mono ?_; rintro e w' ⟨rfl, rfl⟩; go_wp2_with fail
    refine (rsub_any a b _ a0 a1 b0 b1).mono ?_; rintro e w' ⟨rfl, rfl⟩; go_wp2_with fail
    refine (mul_any a b _ a0 a1 b0 b1).mono ?_; rintro e w' ⟨rfl, rfl⟩; go_wp2_with fail
    refine (rmul_any a b _ a0 a1 b0 b1).mono ?_; rintro e w' ⟨rfl, rfl⟩; go_wp2_with fail
    refine (pow_any a n _ a0 a1 n2).mono ?_; rintro e w' ⟨rfl, rfl⟩; go_wp2_with fail
    refine (rpow_any a n _ a0 a1 n2).mono ?_; rintro e w' ⟨rfl, rfl⟩; go_wp2
    go_ret
    exact ⟨rfl, rfl⟩
  · have hz : (vl (toF a) != 0) = true := by rw [bne_iff_ne]; exact fun e => h ((vl_eq_zero _).1 e)
    have H := Lib.hid h
    clear h
    go_enter Try.func7, Try.ntmps7
    go_wp2_with fail
    refine (inv_any a _ a0 a1 H.out).mono ?_; rintro e w' ⟨rfl, rfl⟩; go_wp2_with fail
    refine (rnorm_any a _ a0 a1).mono ?_; rintro e w' ⟨rfl, rfl⟩; go_wp2_with fail
    refine (rinv_any a _ a0 a1 H.out).mono ?_; rintro e w' ⟨rfl, rfl⟩; go_wp2_with fail
    refine (norm_any a _ a0 a1).mono ?_; rintro e w' ⟨rfl, rfl⟩; go_wp2_with fail
    refine (rnorm_any a _ a0 a1).mono ?_; rintro e w' ⟨rfl, rfl⟩; go_wp2_with fail
    refine (add_any a b _ a0 a1 b0 b1).mono ?_; rintro e w' ⟨rfl, rfl⟩; go_wp2_with fail
    refine (radd_any a b _ a0 a1 b0 b1).mono ?_; rintro e w' ⟨rfl, rfl⟩; go_wp2_with fail
    refine (sub_any a b _ a0 a1 b0 b1).mono ?_; rintro e w' ⟨rfl, rfl⟩; go_wp2_with fail
    refine (rsub_any a b _ a0 a1 b0 b1).mono ?_; rintro e w' ⟨rfl, rfl⟩; go_wp2_with fail
    refine (mul_any a b _ a0 a1 b0 b1).mono ?_; rintro e w' ⟨rfl, rfl⟩; go_wp2_with fail
    refine (rmul_any a b _ a0 a1 b0 b1).mono ?_; rintro e w' ⟨rfl, rfl⟩; go_wp2_with fail
    refine (pow_any a n _ a0 a1 n2).mono ?_; rintro e w' ⟨rfl, rfl⟩; go_wp2_with fail
    refine (rpow_any a n _ a0 a1 n2).mono ?_; rintro e w' ⟨rfl, rfl⟩; go_wp2
    go_ret
    exact ⟨rfl, rfl⟩
theorem in_yes (n lo hi : Int) (w : World) (h1 : lo ≤ n) (h2 : n ≤ hi) :
    Calls Try.prog 20 #[.int .i64 n, .int .i64 lo, .int .i64 hi] w fun e w' => e = .returned (.bool true) ∧ w = w' := by
  have d1 : decide (lo ≤ n) = true := by simpa using h1
  have d2 : decide (n ≤ hi) = true := by simpa using h2
  go_enter Try.func20, Try.ntmps20
  go_wp2
  go_ret
  exact ⟨rfl, rfl⟩
theorem in_no (n lo hi : Int) (w : World) (h : n < lo ∨ hi < n) :
    Calls Try.prog 20 #[.int .i64 n, .int .i64 lo, .int .i64 hi] w fun e w' => e = .returned (.bool false) ∧ w = w' := by
  by_cases h1 : lo ≤ n
  · have h2 : decide (n ≤ hi) = false := by simp; omega
    go_enter Try.func20, Try.ntmps20
    go_wp2
    go_ret
    exact ⟨rfl, rfl⟩
  · go_enter Try.func20, Try.ntmps20
    go_wp2
    go_ret
    exact ⟨rfl, rfl⟩
theorem wFieldRoots (k : Int) (wk : (Lit.int .i64 k).wf = true) (w : World) :
    Calls Try.prog 8 #[.int .i64 k] w fun e w' => e = .returned (.bool true) ∧ w = w' := by
  obtain ⟨k0, k1⟩ := i64_bounds wk
  clear wk
  by_cases h : k < 0 ∨ 32 < k
  · have H := Lib.hid h
    clear h
    go_enter Try.func8, Try.ntmps8
    go_wp2_with fail
    refine (root_no k _ H.out).mono ?_; rintro e w' ⟨rfl, rfl⟩; go_wp2_with fail
    refine (in_no k 0 32 _ H.out).mono ?_; rintro e w' ⟨rfl, rfl⟩; go_wp2
    go_ret
    exact ⟨rfl, rfl⟩
  · obtain ⟨n, hn⟩ : ∃ n : Nat, k = n := ⟨k.toNat, by omega⟩
    subst hn
    have h1 : n ≤ 32 := by omega
    have h2 : (0 : Int) ≤ n := by omega
    have h3 : (n : Int) ≤ 32 := by omega
    clear h k0 k1
    go_enter Try.func8, Try.ntmps8
    go_wp2_with fail
    refine (root_any n _ h1).mono ?_; rintro e w' ⟨rfl, rfl⟩; go_wp2_with fail
    refine (in_yes n 0 32 _ h2 h3).mono ?_; rintro e w' ⟨rfl, rfl⟩; go_wp2_with fail
    refine (rroot_any n _ h1).mono ?_; rintro e w' ⟨rfl, rfl⟩; go_wp2
    go_ret
    exact ⟨rfl, rfl⟩
theorem fl_e1 : vl (toF 4294967296 * toF 4294967296) = 4294967295 := by rw [vl_mul, vl_toF]; rfl
theorem fl_e2 : vl (toF 18446744069414584320 + toF 2) = 1 := by rw [vl_add, vl_toF, vl_toF]; rfl
theorem fl_add_comm (x y : F) : x + y = y + x := by grind
theorem fl_mul_comm (x y : F) : x * y = y * x := by grind
theorem fl_sub_add (x y : F) : x - y + y = x := by grind
theorem fl_mul_one (x : F) : x * 1 = x := by grind
theorem fl_mul_assoc (x y z : F) : x * y * z = x * (y * z) := by grind
theorem fl_mul_add (x y z : F) : x * (y + z) = x * y + x * z := by grind
theorem wFieldLaws (a b c : Int) (wa : (Lit.int .u64 a).wf = true) (wb : (Lit.int .u64 b).wf = true) (wc : (Lit.int .u64 c).wf = true) (w : World) :
    Calls Try.prog 9 #[.int .u64 a, .int .u64 b, .int .u64 c] w fun e w' => e = .returned (.bool true) ∧ w = w' := by
  obtain ⟨a0, a1⟩ := u64_bounds wa
  obtain ⟨b0, b1⟩ := u64_bounds wb
  obtain ⟨c0, c1⟩ := u64_bounds wc
  clear wa wb wc
  by_cases h : toF a = 0
  · have hz : (vl (toF a) == 0) = true := by rw [beq_iff_eq]; exact (vl_eq_zero _).2 h
    have H := Lib.hid h
    clear h
    go_enter Try.func9, Try.ntmps9
    go_wp2_with fail
    refine (mul_any 4294967296 4294967296 _ (by omega) (by omega) (by omega) (by omega)).mono ?_; rintro e w' ⟨rfl, rfl⟩; rw [fl_e1]; go_wp2_with fail
    refine (add_any 18446744069414584320 2 _ (by omega) (by omega) (by omega) (by omega)).mono ?_; rintro e w' ⟨rfl, rfl⟩; rw [fl_e2]; go_wp2_with fail
    refine (add_any a b _ a0 a1 b0 b1).mono ?_; rintro e w' ⟨rfl, rfl⟩; go_wp2_with fail
    refine (add_any b a _ b0 b1 a0 a1).mono ?_; rintro e w' ⟨rfl, rfl⟩; rw [fl_add_comm (toF b) (toF a)]; go_wp2_with fail
    refine (mul_any a b _ a0 a1 b0 b1).mono ?_; rintro e w' ⟨rfl, rfl⟩; go_wp2_with fail
    refine (mul_any b a _ b0 b1 a0 a1).mono ?_; rintro e w' ⟨rfl, rfl⟩; rw [fl_mul_comm (toF b) (toF a)]; go_wp2_with fail
    refine (sub_any a b _ a0 a1 b0 b1).mono ?_; rintro e w' ⟨rfl, rfl⟩; go_wp2_with fail
    refine (add_any (vl (toF a - toF b)) b _ (vl_lo _) (vl_64 _) b0 b1).mono ?_; rintro e w' ⟨rfl, rfl⟩; rw [toF_vl, fl_sub_add]; go_wp2_with fail
    refine (norm_any a _ a0 a1).mono ?_; rintro e w' ⟨rfl, rfl⟩; go_wp2_with fail
    refine (mul_any a 1 _ a0 a1 (by omega) (by omega)).mono ?_; rintro e w' ⟨rfl, rfl⟩; rw [toF_one, fl_mul_one]; go_wp2_with fail
    refine (norm_any a _ a0 a1).mono ?_; rintro e w' ⟨rfl, rfl⟩; go_wp2_with fail
    refine (mul_any b c _ b0 b1 c0 c1).mono ?_; rintro e w' ⟨rfl, rfl⟩; go_wp2_with fail
    refine (mul_any a (vl (toF b * toF c)) _ a0 a1 (vl_lo _) (vl_64 _)).mono ?_; rintro e w' ⟨rfl, rfl⟩; rw [toF_vl, ← fl_mul_assoc]; go_wp2_with fail
    refine (mul_any a b _ a0 a1 b0 b1).mono ?_; rintro e w' ⟨rfl, rfl⟩; go_wp2_with fail
    refine (mul_any (vl (toF a * toF b)) c _ (vl_lo _) (vl_64 _) c0 c1).mono ?_; rintro e w' ⟨rfl, rfl⟩; rw [toF_vl]; go_wp2_with fail
    refine (add_any b c _ b0 b1 c0 c1).mono ?_; rintro e w' ⟨rfl, rfl⟩; go_wp2_with fail
    refine (mul_any a (vl (toF b + toF c)) _ a0 a1 (vl_lo _) (vl_64 _)).mono ?_; rintro e w' ⟨rfl, rfl⟩; rw [toF_vl, fl_mul_add]; go_wp2_with fail
    refine (mul_any a b _ a0 a1 b0 b1).mono ?_; rintro e w' ⟨rfl, rfl⟩; go_wp2_with fail
    refine (mul_any a c _ a0 a1 c0 c1).mono ?_; rintro e w' ⟨rfl, rfl⟩; go_wp2_with fail
    refine (add_F (toF a * toF b) (toF a * toF c) _).mono ?_; rintro e w' ⟨rfl, rfl⟩; go_wp2_with fail
    refine (inv_none a _ a0 a1 H.out).mono ?_; rintro e w' ⟨rfl, rfl⟩; go_wp2_with fail
    refine (norm_any a _ a0 a1).mono ?_; rintro e w' ⟨rfl, rfl⟩; go_wp2
    go_ret
    exact ⟨rfl, rfl⟩
  · have H := Lib.hid h
    clear h
    go_enter Try.func9, Try.ntmps9
    go_wp2_with fail
    refine (mul_any 4294967296 4294967296 _ (by omega) (by omega) (by omega) (by omega)).mono ?_; rintro e w' ⟨rfl, rfl⟩; rw [fl_e1]; go_wp2_with fail
    refine (add_any 18446744069414584320 2 _ (by omega) (by omega) (by omega) (by omega)).mono ?_; rintro e w' ⟨rfl, rfl⟩; rw [fl_e2]; go_wp2_with fail
    refine (add_any a b _ a0 a1 b0 b1).mono ?_; rintro e w' ⟨rfl, rfl⟩; go_wp2_with fail
    refine (add_any b a _ b0 b1 a0 a1).mono ?_; rintro e w' ⟨rfl, rfl⟩; rw [fl_add_comm (toF b) (toF a)]; go_wp2_with fail
    refine (mul_any a b _ a0 a1 b0 b1).mono ?_; rintro e w' ⟨rfl, rfl⟩; go_wp2_with fail
    refine (mul_any b a _ b0 b1 a0 a1).mono ?_; rintro e w' ⟨rfl, rfl⟩; rw [fl_mul_comm (toF b) (toF a)]; go_wp2_with fail
    refine (sub_any a b _ a0 a1 b0 b1).mono ?_; rintro e w' ⟨rfl, rfl⟩; go_wp2_with fail
    refine (add_any (vl (toF a - toF b)) b _ (vl_lo _) (vl_64 _) b0 b1).mono ?_; rintro e w' ⟨rfl, rfl⟩; rw [toF_vl, fl_sub_add]; go_wp2_with fail
    refine (norm_any a _ a0 a1).mono ?_; rintro e w' ⟨rfl, rfl⟩; go_wp2_with fail
    refine (mul_any a 1 _ a0 a1 (by omega) (by omega)).mono ?_; rintro e w' ⟨rfl, rfl⟩; rw [toF_one, fl_mul_one]; go_wp2_with fail
    refine (norm_any a _ a0 a1).mono ?_; rintro e w' ⟨rfl, rfl⟩; go_wp2_with fail
    refine (mul_any b c _ b0 b1 c0 c1).mono ?_; rintro e w' ⟨rfl, rfl⟩; go_wp2_with fail
    refine (mul_any a (vl (toF b * toF c)) _ a0 a1 (vl_lo _) (vl_64 _)).mono ?_; rintro e w' ⟨rfl, rfl⟩; rw [toF_vl, ← fl_mul_assoc]; go_wp2_with fail
    refine (mul_any a b _ a0 a1 b0 b1).mono ?_; rintro e w' ⟨rfl, rfl⟩; go_wp2_with fail
    refine (mul_any (vl (toF a * toF b)) c _ (vl_lo _) (vl_64 _) c0 c1).mono ?_; rintro e w' ⟨rfl, rfl⟩; rw [toF_vl]; go_wp2_with fail
    refine (add_any b c _ b0 b1 c0 c1).mono ?_; rintro e w' ⟨rfl, rfl⟩; go_wp2_with fail
    refine (mul_any a (vl (toF b + toF c)) _ a0 a1 (vl_lo _) (vl_64 _)).mono ?_; rintro e w' ⟨rfl, rfl⟩; rw [toF_vl, fl_mul_add]; go_wp2_with fail
    refine (mul_any a b _ a0 a1 b0 b1).mono ?_; rintro e w' ⟨rfl, rfl⟩; go_wp2_with fail
    refine (mul_any a c _ a0 a1 c0 c1).mono ?_; rintro e w' ⟨rfl, rfl⟩; go_wp2_with fail
    refine (add_F (toF a * toF b) (toF a * toF c) _).mono ?_; rintro e w' ⟨rfl, rfl⟩; go_wp2_with fail
    refine (inv_any a _ a0 a1 H.out).mono ?_; rintro e w' ⟨rfl, rfl⟩; go_wp2_with fail
    refine (mul_any a (vl (inv (toF a))) _ a0 a1 (vl_lo _) (vl_64 _)).mono ?_; rintro e w' ⟨rfl, rfl⟩; rw [toF_vl, mul_inv _ H.out, vl_one]; go_wp2
    go_ret
    exact ⟨rfl, rfl⟩
theorem fp_e1 : vl (toF 3 ^ 4) = 81 := by
  rw [show (4:Nat) = 0 + 1 + 1 + 1 + 1 from rfl, pow_succ, pow_succ, pow_succ, pow_succ, pow_zero, vl_mul, vl_mul, vl_mul, vl_mul, vl_one, vl_toF]; rfl
theorem fp_c1 (w : World) : Calls Try.prog 22 #[.int .u64 3, .int .u64 4] w fun e w' => e = .returned (.int .u64 81) ∧ w = w' := by
  have h := pow_any 3 4 w (by omega) (by omega) (by omega)
  rw [fp_e1] at h
  exact h
theorem fp_c2 (w : World) : Calls Try.prog 22 #[.int .u64 0, .int .u64 0] w fun e w' => e = .returned (.int .u64 1) ∧ w = w' := by
  have h := pow_any 0 0 w (by omega) (by omega) (by omega)
  rw [pow_zero, vl_one] at h
  exact h
theorem fp_c3 (a : Int) (w : World) (ha0 : 0 ≤ a) (ha1 : a < 18446744073709551616) : Calls Try.prog 22 #[.int .u64 a, .int .u64 18446744069414584321] w fun e w' => e = .returned (.int .u64 (vl (toF a))) ∧ w = w' := by
  have h := pow_any a 18446744069414584321 w ha0 ha1 (by omega)
  rw [pow_PN] at h
  exact h
theorem wFieldPowers (a m' n' : Int) (wa : (Lit.int .u64 a).wf = true) (wm : (Lit.int .u64 m').wf = true) (wn : (Lit.int .u64 n').wf = true) (w : World) :
    Calls Try.prog 6 #[.int .u64 a, .int .u64 m', .int .u64 n'] w fun e w' => e = .returned (.bool true) ∧ w = w' := by
  obtain ⟨a0, a1⟩ := u64_bounds wa
  obtain ⟨m0, m1⟩ := u64_bounds wm
  obtain ⟨n0, n1⟩ := u64_bounds wn
  clear wa wm wn
  obtain ⟨m, hm⟩ : ∃ m : Nat, m' / 2 = m := ⟨(m' / 2).toNat, by omega⟩
  obtain ⟨n, hn⟩ : ∃ n : Nat, n' / 2 = n := ⟨(n' / 2).toNat, by omega⟩
  have m2 : m < 9223372036854775808 := by omega
  have n2 : n < 9223372036854775808 := by omega
  have hs : (m : Int) + (n : Int) = ((m + n : Nat) : Int) := by omega
  have Hs := Lib.hid hs
  clear hs
  go_enter Try.func6, Try.ntmps6
  go_wp2_with fail
  refine (fp_c1 _).mono ?_; rintro e w' ⟨rfl, rfl⟩; go_wp2_with fail
  refine (fp_c2 _).mono ?_; rintro e w' ⟨rfl, rfl⟩; go_wp2_with fail
  rw [Hs.out]
  refine (pow_any a (m + n) _ a0 a1 (by omega)).mono ?_; rintro e w' ⟨rfl, rfl⟩; go_wp2_with fail
  refine (pow_any a m _ a0 a1 (by omega)).mono ?_; rintro e w' ⟨rfl, rfl⟩; go_wp2_with fail
  refine (pow_any a n _ a0 a1 (by omega)).mono ?_; rintro e w' ⟨rfl, rfl⟩; go_wp2_with fail
  refine (mul_F (toF a ^ m) (toF a ^ n) _).mono ?_; rintro e w' ⟨rfl, rfl⟩; rw [← pow_add]; go_wp2_with fail
  refine (fp_c3 a _ a0 a1).mono ?_; rintro e w' ⟨rfl, rfl⟩; go_wp2_with fail
  refine (norm_any a _ a0 a1).mono ?_; rintro e w' ⟨rfl, rfl⟩; go_wp2
  go_ret
  exact ⟨rfl, rfl⟩
theorem rest_any (n m : Int) (w : World) (h0 : -9223372036854775808 ≤ n) (h1 : n ≤ 9223372036854775807) (m0 : 0 < m) (m1 : m ≤ 9223372036854775807) :
    Calls Try.prog 36 #[.int .i64 n, .int .i64 m] w fun e w' => e = .returned (.int .i64 (n % m)) ∧ w = w' := by
  by_cases hn : 0 ≤ n
  · have hd : decide (n % m < 0) = false := by simp; exact Int.emod_nonneg _ (by omega)
    go_enter Try.func36, Try.ntmps36
    go_wp2
    go_ret
    exact ⟨rfl, rfl⟩
  · have hm1 := Int.emod_lt_of_pos n m0
    have hm2 := Int.emod_nonneg n (show m ≠ 0 by omega)
    have ht := @Int.tmod_eq_emod n m
    by_cases hd : m ∣ n
    · have hz : n.tmod m = 0 := by rw [ht, if_pos (.inr hd)]; have := Int.emod_eq_zero_of_dvd hd; omega
      have h2 : n % m = 0 := Int.emod_eq_zero_of_dvd hd
      have H2 := Lib.hid h2
      clear h2 hd ht hm1 hm2
      go_enter Try.func36, Try.ntmps36
      go_wp2
      go_ret
      exact ⟨by rw [H2.out]; rfl, rfl⟩
    · have hz : n.tmod m = n % m - m := by rw [ht, if_neg (by simp; exact ⟨by omega, hd⟩)]; omega
      have hlt : n % m - m < 0 := by omega
      have he : n % m - m + m = n % m := by omega
      generalize n % m = q at *
      clear ht hd
      go_enter Try.func36, Try.ntmps36
      go_wp2
      go_ret
      exact ⟨rfl, rfl⟩
end Go.Proofs.Ytolkcaelmipkeaa.Gm
