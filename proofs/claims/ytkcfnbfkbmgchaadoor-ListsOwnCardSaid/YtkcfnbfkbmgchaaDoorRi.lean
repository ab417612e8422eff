/- The walk of the reference's Inv: Euclid. -/
import Derived.Test.YtkcfnbfkbmgchaaDoorRf
namespace Go.Proofs.YtkcfnbfkbmgchaaDoor.Gm
open Go.RowKit
theorem gcd_start {a : Int} (h : toF a ≠ 0) : Nat.gcd 18446744069414584321 (a % 18446744069414584321).toNat = 1 := by
  have h1 := mul_inv (toF a) h
  have h2 := congrArg vl h1
  rw [vl_mul, vl_one, vl_toF] at h2
  generalize vl (inv (toF a)) = u at h2
  have hg : (Nat.gcd 18446744069414584321 (a % 18446744069414584321).toNat : Int) ∣ 1 := by
    have d1 : (Nat.gcd 18446744069414584321 (a % 18446744069414584321).toNat : Int) ∣ 18446744069414584321 := Int.natCast_dvd_natCast.2 (Nat.gcd_dvd_left _ _)
    have d2 : (Nat.gcd 18446744069414584321 (a % 18446744069414584321).toNat : Int) ∣ a % 18446744069414584321 := by
      have := Int.natCast_dvd_natCast.2 (Nat.gcd_dvd_right 18446744069414584321 (a % 18446744069414584321).toNat)
      rwa [Int.toNat_of_nonneg (by omega)] at this
    have e : (1 : Int) = a % 18446744069414584321 * u - 18446744069414584321 * (a % 18446744069414584321 * u / 18446744069414584321) := by
      have := Int.mul_ediv_add_emod (a % 18446744069414584321 * u) 18446744069414584321
      omega
    rw [e]
    exact Int.dvd_sub (Int.dvd_mul_of_dvd_left d2) (Int.dvd_mul_of_dvd_left d1)
  have := Int.natCast_dvd_natCast.1 (show ((Nat.gcd 18446744069414584321 (a % 18446744069414584321).toNat : Nat) : Int) ∣ ((1 : Nat) : Int) from hg)
  exact Nat.dvd_one.1 this
def RInvRel (c : F) (r next x then_ : Value) : Prop := ∃ (m n : Nat) (u v : F), r = .int .u64 m ∧ next = .int .u64 n ∧ x = .int .u64 (vl u) ∧ then_ = .int .u64 (vl v) ∧ u * c = toF m ∧ v * c = toF n ∧ Nat.gcd m n = 1 ∧ n < m ∧ m ≤ 18446744069414584321
theorem inv_step {c u v : F} {m n : Nat} (h1 : u * c = toF m) (h2 : v * c = toF n) : (u - toF ((m / n : Nat) : Int) * v) * c = toF ((m % n : Nat) : Int) := by
  have e : ((m % n : Nat) : Int) = (m : Int) - ((m / n : Nat) : Int) * (n : Int) := by
    have h3 := Nat.div_add_mod m n
    have h4 : ((n * (m / n) + m % n : Nat) : Int) = (m : Int) := by rw [h3]
    rw [Int.natCast_add, Int.natCast_mul] at h4
    have h5 := Int.mul_comm ((m / n : Nat) : Int) (n : Int)
    omega
  rw [e, toF_sub, toF_mul, ← h1, ← h2]; grind
theorem rinv_any (a : Int) (w : World) (ha0 : 0 ≤ a) (ha1 : a < 18446744073709551616) (h : toF a ≠ 0) :
    Calls Tryd.prog 67 #[.int .u64 a] w fun e w' => e = .returned (.int .u64 (vl (inv (toF a)))) ∧ w = w' := by
  have hg := Lib.hid (gcd_start h)
  obtain ⟨n0, hn0⟩ : ∃ n0 : Nat, a % 18446744069414584321 = n0 := ⟨(a % 18446744069414584321).toNat, by omega⟩
  have Hn := Lib.hid hn0
  have hlt : n0 < 18446744069414584321 := by omega
  clear hn0 h
  go_enter Tryd.func67, Tryd.ntmps67
  go_wp2
  rw [Hn.out]
  go_loop [3, 4, 5, 6] (fun r n x t => RInvRel (toF a) r n x t) (fun _ n _ _ => (intOf n).toNat)
  case atStart =>
    refine ⟨18446744069414584321, n0, 0, 1, rfl, rfl, by rw [vl_zero], by rw [vl_one], ?_, ?_, ?_, hlt, Nat.le_refl _⟩
    · have := toF_P
      rw [show (((18446744069414584321 : Nat) : Int)) = 18446744069414584321 from rfl, toF_P]; grind
    · rw [← Hn.out, toF_emod]; grind
    · have := hg.out
      rwa [Hn.out] at this
  case round =>
    obtain ⟨m, n, u, v, rfl, rfl, rfl, rfl, h1, h2, h3, h4, h5⟩ := hrel
    have H1 := Lib.hid h1
    have H2 := Lib.hid h2
    have H3 := Lib.hid h3
    clear h1 h2 h3
    by_cases h0 : 0 < n
    · have hq : (m : Int) / (n : Int) = ((m / n : Nat) : Int) := by rw [Int.natCast_ediv]
      have hle : ((m / n : Nat) : Int) * (n : Int) ≤ (m : Int) := by rw [← Int.natCast_mul]; have := Nat.div_mul_le_self m n; omega
      have hge : 0 ≤ ((m / n : Nat) : Int) * (n : Int) := by rw [← Int.natCast_mul]; exact Int.natCast_nonneg _
      have hqle : m / n ≤ m := Nat.div_le_self _ _
      have hr : (m : Int) - ((m / n : Nat) : Int) * (n : Int) = ((m % n : Nat) : Int) := by
        have h3 := Nat.div_add_mod m n
        have h4 : ((n * (m / n) + m % n : Nat) : Int) = (m : Int) := by rw [h3]
        rw [Int.natCast_add, Int.natCast_mul] at h4
        have h5 := Int.mul_comm ((m / n : Nat) : Int) (n : Int)
        omega
      have hml : m % n < n := Nat.mod_lt _ h0
      have Hr := Lib.hid hr
      have Hs := Lib.hid (inv_step H1.out H2.out)
      have Hg : Hid (Nat.gcd n (m % n) = 1) := Lib.hid (by rw [Nat.gcd_comm, ← Nat.gcd_rec, Nat.gcd_comm]; exact H3.out)
      generalize m / n = q at *
      generalize m % n = r at *
      clear hr
      go_wp2_with fail
      refine (rmul_any (q : Int) (vl v) _ (by omega) (by omega) (vl_lo v) (vl_64 v)).mono ?_
      rintro e w' ⟨rfl, rfl⟩
      rw [toF_vl]
      go_wp2_with fail
      refine (rsub_F _ _ _).mono ?_
      rintro e w' ⟨rfl, rfl⟩
      go_wp2
      rw [Hr.out]
      go_round
      case rel => exact ⟨n, r, v, _, rfl, rfl, rfl, rfl, H2.out, Hs.out, Hg.out, hml, by omega⟩
      case measure => simp [intOf] <;> omega
    · obtain rfl : n = 0 := by omega
      have hm1 : m = 1 := by have := H3.out; rwa [Nat.gcd_zero_right] at this
      have h6 := H1.out
      rw [hm1] at h6
      have Hu : Hid (toF a * u = 1) := Lib.hid (by rw [show ((1:Nat):Int) = 1 from rfl, toF_one] at h6; grind)
      subst hm1
      clear h4 h5 hlt H1 H2 H3 h6
      go_wp2
      go_ret
      refine ⟨ret_u64 ?_, rfl⟩
      congr 1
      exact inv_unique _ _ Hu.out
end Go.Proofs.YtkcfnbfkbmgchaaDoor.Gm
