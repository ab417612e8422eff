/- math/bits over its own table: TrailingZeros; Reverse64 of small numbers; ntt.log. -/
import Derived.Test.YtkcfnbfkbmgchaaDoorNr
import Derived.Test.YtkcfnbfkbmgchaaDoorNb
import Derived.Lib.TrailingZeros
import Derived.Laws.Bits64b
namespace Go.Proofs.YtkcfnbfkbmgchaaDoor.Gm
open Go.RowKit
set_option linter.unusedVariables false
/-- the table lies in its variable -/
def Tb (w : World) : Prop := ∀ j, j < 64 → w.cell? ⟨1, j, none⟩ = some (.int .u8 ((Lib.deBruijn64tab.getD j 0 : Nat) : Int))
theorem Tb.below {w w' : World} (h : Tb w) (hb : Below w.heap.size w w') : Tb w' := fun j hj =>
  (hb.cell (p := ⟨1, j, none⟩) (World.block_lt_of_cell? w _ (h j hj))).trans (h j hj)
theorem Tb.drewN {w : World} (h : Tb w) (n : Nat) : Tb (w.drewN n) := h
theorem tz_key (x a : Nat) (hx : x < 18446744073709551616) (hx0 : x ≠ 0) (hlow : x &&& (18446744073709551616 - x) = a) :
    IntKind.u64.wrap (bits BinOp.and IntKind.u64 (x : Int) (IntKind.u64.wrap (-(x : Int))) * 285870213051353865) / 288230376151711744 = ((a * 285870213051353865 % 18446744073709551616 / 288230376151711744 : Nat) : Int) := by
  have e1 : IntKind.u64.wrap (-(x : Int)) = ((18446744073709551616 - x : Nat) : Int) := by rw [IntKind.wrap_u64]; omega
  rw [e1, bits_and_u64_nat x _ hx (by omega), hlow, IntKind.wrap_u64]
  omega
theorem tz64_core (x k idx : Nat) (w : World) (hx0 : ((x : Int) == 0) = false)
    (key : IntKind.u64.wrap (bits BinOp.and IntKind.u64 (x : Int) (IntKind.u64.wrap (-(x : Int))) * 285870213051353865) / 288230376151711744 = (idx : Int))
    (hi : idx < 64) (hk : k < 64) (hcell : w.cell? ⟨1, idx, none⟩ = some (.int .u8 k)) :
    Calls Tryd.prog 100 #[.int .u64 x] w fun e w' => e = .returned (.int .i64 k) ∧ w = w' := by
  go_enter Tryd.func100, Tryd.ntmps100
  go_wp2_with (simp only [key])
  go_ret
  exact ⟨rfl, rfl⟩
theorem tz_zero (w : World) : Calls Tryd.prog 90 #[.int .u64 0] w fun e w' => e = .returned (.int .i64 64) ∧ w = w' := by
  have h : Calls Tryd.prog 100 #[.int .u64 0] w fun e w' => e = .returned (.int .i64 64) ∧ w = w' := by
    go_enter Tryd.func100, Tryd.ntmps100
    go_wp2
    go_ret
    exact ⟨rfl, rfl⟩
  go_enter Tryd.func90, Tryd.ntmps90
  go_wp2_with fail
  refine h.mono ?_
  rintro e w' ⟨rfl, rfl⟩
  go_wp2
  go_ret
  exact ⟨rfl, rfl⟩
theorem tz_any (x : Nat) (hx : x < 18446744073709551616) (hx0 : x ≠ 0) (w : World) (hT : Tb w) :
    Calls Tryd.prog 90 #[.int .u64 x] w fun e w' => e = .returned (.int .i64 (Lib.ctz 64 x)) ∧ w = w' := by
  obtain ⟨hlow, hk⟩ := Lib.lowest_bit 64 x hx0 hx
  obtain ⟨hi, htab⟩ := Lib.deBruijn64_at _ hk
  have hcell := hT _ hi
  rw [htab] at hcell
  have h := tz64_core x _ _ w (by simp; omega) (tz_key x _ hx hx0 hlow) hi hk hcell
  have hw : IntKind.u64.wrap (x : Int) = (x : Int) := by rw [IntKind.wrap_u64]; omega
  generalize Lib.ctz 64 x = c at *
  clear hlow hk hi htab hcell
  go_enter Tryd.func90, Tryd.ntmps90
  go_wp2_with fail
  refine h.mono ?_
  rintro e w' ⟨rfl, rfl⟩
  go_wp2
  go_ret
  exact ⟨rfl, rfl⟩
theorem ctz_pow {c k m : Nat} (h : 2 ^ k = 2 ^ c * (2 * m + 1)) : c = k := by
  have hc : c ≤ k := by
    rcases Nat.lt_or_ge k c with h1 | h1
    · have h2 := Nat.pow_lt_pow_right (show 1 < 2 by omega) h1
      have h3 := Nat.le_mul_of_pos_right (2 ^ c) (show 0 < 2 * m + 1 by omega)
      omega
    · exact h1
  obtain ⟨d, rfl⟩ := Nat.exists_eq_add_of_le hc
  rw [Nat.pow_add] at h
  have h2 := Nat.eq_of_mul_eq_mul_left (Nat.two_pow_pos c) h
  cases d with
  | zero => rfl
  | succ d => rw [Nat.pow_succ] at h2; omega
/-- what ntt.log answers -/
def NLog (n : Nat) (e : Ending) : Prop := (∃ k : Nat, k ≤ 10 ∧ n = 2 ^ k ∧ e = .returned (.tuple #[.int .i64 k, .bool true])) ∨ ((∀ k : Nat, k ≤ 10 → n ≠ 2 ^ k) ∧ ∃ z : Int, e = .returned (.tuple #[.int .i64 z, .bool false]))
set_option maxHeartbeats 1000000 in
theorem nlog_any (n : Nat) (w : World) (hn : n ≤ 9223372036854775807) (hT : Tb w) :
    Calls Tryd.prog 58 #[.int .i64 n] w fun e w' => NLog n e ∧ Below w.heap.size w w' := by
  by_cases h0 : n = 0
  · subst h0
    have N := Lib.hid (fun (k : Nat) (_ : k ≤ 10) => (Nat.ne_of_gt (Nat.two_pow_pos k)).symm)
    go_enter Tryd.func58, Tryd.ntmps58
    go_wp2_with fail
    refine (tz_zero _).mono ?_
    rintro e w' ⟨rfl, rfl⟩
    go_wp2
    go_region
    go_wp2
    go_ret2
    exact ⟨.inr ⟨N.out, _, rfl⟩, below_drewN (Below.refl _ _) _⟩
  · have hz := Lib.ctzFrom_spec 64 n (by omega) (by omega)
    have ec : Lib.ctz 64 n = Lib.ctzFrom 64 n := by simp [Lib.ctz, h0]
    have ht := tz_any n (by omega) h0 w hT
    rw [ec] at ht
    generalize Lib.ctzFrom 64 n = c at *
    obtain ⟨m, hm, hc⟩ := hz
    have hw : IntKind.u64.wrap (n : Int) = (n : Int) := by rw [IntKind.wrap_u64]; omega
    have NO := Lib.hid (show (c > 10 ∨ n ≠ 2 ^ c) → ∀ k : Nat, k ≤ 10 → n ≠ 2 ^ k from fun h k hk e => by
      have := ctz_pow (e.symm.trans hm)
      subst this
      rcases h with h | h
      · omega
      · exact h e)
    have YES := Lib.hid (fun (h : c ≤ 10) (e : n = 2 ^ c) => (show NLog n (.returned (.tuple #[.int .i64 c, .bool true])) from .inl ⟨c, h, e, rfl⟩))
    have HT := Lib.hid ht
    clear ht hm ec
    have hn0 : (n : Int) > 0 := by omega
    have hnp : 0 < n := by omega
    by_cases hc10 : c ≤ 10
    · have hcc : (c : Int) ≤ 10 := by omega
      have e1 := wrap_two c (by omega)
      have e2 : IntKind.i64.wrap (1 * 2 ^ c) = ((2 ^ c : Nat) : Int) := by rw [Int.one_mul]; exact e1
      by_cases he : n = 2 ^ c
      · have FIN := Lib.hid (YES.out hc10 he)
        have hb : ((n : Int) == ((2 ^ c : Nat) : Int)) = true := by rw [← he]; simp
        generalize ((2 ^ c : Nat) : Int) = p at *
        clear he YES NO
        go_enter Tryd.func58, Tryd.ntmps58
        go_wp2_with fail
        refine HT.out.mono ?_
        rintro e w' ⟨rfl, rfl⟩
        go_wp2
        go_quiet (fail)
        go_wp2
        go_ret2
        exact ⟨FIN.out, below_drewN (Below.refl _ _) _⟩
      · have FIN := Lib.hid (NO.out (.inr he))
        have hb : ((n : Int) == ((2 ^ c : Nat) : Int)) = false := by
          rw [beq_eq_false_iff_ne]; intro h; exact he (by omega)
        generalize ((2 ^ c : Nat) : Int) = p at *
        clear he YES NO
        go_enter Tryd.func58, Tryd.ntmps58
        go_wp2_with fail
        refine HT.out.mono ?_
        rintro e w' ⟨rfl, rfl⟩
        go_wp2
        go_quiet (fail)
        go_wp2
        go_ret2
        exact ⟨.inr ⟨FIN.out, _, rfl⟩, below_drewN (Below.refl _ _) _⟩
    · have FIN := Lib.hid (NO.out (.inl (by omega)))
      have hcd : decide ((c : Int) ≤ 10) = false := by rw [decide_eq_false_iff_not]; omega
      have hcd2 : decide (c ≤ 10) = false := by rw [decide_eq_false_iff_not]; omega
      clear YES NO
      go_enter Tryd.func58, Tryd.ntmps58
      go_wp2_with fail
      refine HT.out.mono ?_
      rintro e w' ⟨rfl, rfl⟩
      go_wp2
      go_quiet (fail)
      go_wp2
      go_ret2
      exact ⟨.inr ⟨FIN.out, _, rfl⟩, below_drewN (Below.refl _ _) _⟩
theorem nlog_pow (k : Nat) (n : Nat) (w : World) (hk : k ≤ 10) (hn : n = 2 ^ k) (hT : Tb w) :
    Calls Tryd.prog 58 #[.int .i64 n] w fun e w' => e = .returned (.tuple #[.int .i64 k, .bool true]) ∧ Below w.heap.size w w' := by
  have h1 : 2 ^ k ≤ 2 ^ 10 := Nat.pow_le_pow_right (by omega) hk
  refine (nlog_any n w (by omega) hT).mono ?_
  rintro e w' ⟨⟨j, hj, he, rfl⟩ | ⟨hno, _⟩, hb⟩
  · obtain rfl : k = j := (Nat.pow_right_inj (by omega)).1 (hn.symm.trans he)
    exact ⟨rfl, hb⟩
  · exact absurd hn (hno k hk)
def stp (d m x : Int) : Int := bits BinOp.or IntKind.u64 (bits BinOp.and IntKind.u64 (x / d) m) (IntKind.u64.wrap (bits BinOp.and IntKind.u64 x m * d))
def hlf (x : Int) : Int := bits BinOp.or IntKind.u64 (x / 4294967296) (IntKind.u64.wrap (x * 4294967296))
def rb64 (x : Int) : Int := hlf (stp 65536 281470681808895 (stp 256 71777214294589695 x))
def r64 (x : Int) : Int := rb64 (stp 16 1085102592571150095 (stp 4 3689348814741910323 (stp 2 6148914691236517205 x)))
theorem r64_rev : ∀ k : Fin 11, ∀ i : Fin 1024, i.val < 2 ^ k.val → r64 (i.val : Int) / ((2 ^ (64 - k.val) : Nat) : Int) = (rev k.val i.val : Int) := by decide +kernel
theorem rev64_any (n : Int) (w : World) : Calls Tryd.prog 62 #[.int .u64 n] w fun e w' => e = .returned (.int .u64 (r64 n)) ∧ w = w' := by
  have h : ∀ x : Int, Calls Tryd.prog 91 #[.int .u64 x] w fun e w' => e = .returned (.int .u64 (rb64 x)) ∧ w = w' := by
    intro x
    go_enter Tryd.func91, Tryd.ntmps91
    go_wp2
    go_ret
    exact ⟨rfl, rfl⟩
  go_enter Tryd.func62, Tryd.ntmps62
  go_wp2_with fail
  refine (h _).mono ?_
  rintro e w' ⟨rfl, rfl⟩
  go_wp2
  go_ret
  exact ⟨rfl, rfl⟩
end Go.Proofs.YtkcfnbfkbmgchaaDoor.Gm
