/- Shapes: many.Check. -/
import Derived.Test.YtkcfnbfkbmgchaaDoorHs
namespace Go.Proofs.YtkcfnbfkbmgchaaDoor.Gm
open Go.RowKit
theorem i64_and_nat (a b : Nat) (ha : a < 9223372036854775808) (hb : b < 9223372036854775808) : bits .and .i64 (a : Int) (b : Int) = ((a &&& b : Nat) : Int) := by
  have hx : a &&& b < 2 ^ 63 := Nat.and_lt_two_pow _ (by omega)
  have o : ∀ c : Nat, c < 9223372036854775808 → (BitVec.ofInt 64 (c : Int)).toNat = c := fun c hc => by
    rw [BitVec.ofInt_natCast, BitVec.toNat_ofNat]; exact Nat.mod_eq_of_lt (by omega)
  show IntKind.i64.wrap ((BitVec.ofInt 64 (a : Int) &&& BitVec.ofInt 64 (b : Int)).toNat : Int) = _
  rw [BitVec.toNat_and, o a ha, o b hb, IntKind.wrap_i64]
  omega
theorem odd_any (d : Int) (w : World) (h0 : -9223372036854775808 ≤ d) (h1 : d ≤ 9223372036854775807) :
    Calls Tryd.prog 98 #[.int .i64 d] w fun e w' => ((pw d ∧ e = .returned (.bool false)) ∨ (¬ pw d ∧ e = .returned (.bool true))) ∧ w = w' := by
  by_cases hd : d < 1
  · have NP := Lib.hid (show ¬ pw d from fun h => by have := pw_pos h; omega)
    go_enter Tryd.func98, Tryd.ntmps98
    go_wp2
    go_ret
    exact ⟨.inr ⟨NP.out, rfl⟩, rfl⟩
  · obtain ⟨n, rfl⟩ : ∃ n : Nat, d = (n : Int) := ⟨d.toNat, by omega⟩
    have hn : 1 ≤ n := by omega
    have hb := i64_and_nat n (n - 1) (by omega) (by omega)
    rw [show ((n - 1 : Nat) : Int) = (n : Int) - 1 by omega] at hb
    have AP := Lib.hid (and_pred n hn)
    by_cases hz : n &&& (n - 1) = 0
    · have PP := Lib.hid (AP.out.1 hz)
      rw [hz] at hb
      clear hz
      go_enter Tryd.func98, Tryd.ntmps98
      go_wp2
      go_ret
      exact ⟨.inl ⟨PP.out, by first | rfl | (simp; done) | (simp; omega)⟩, rfl⟩
    · have PP := Lib.hid (show ¬ pw (n : Int) from fun h => hz (AP.out.2 h))
      have hne : (((n &&& (n - 1) : Nat) : Int) != 0) = true := by simpa using hz
      generalize n &&& (n - 1) = q at *
      clear hz AP
      go_enter Tryd.func98, Tryd.ntmps98
      go_wp2
      go_ret
      exact ⟨.inr ⟨PP.out, by simp⟩, rfl⟩
set_option maxHeartbeats 2000000 in
theorem indexf_any (zs : List Int) (v : Value) (w : World) (h : Rd .i64 w v zs) (hw : W64 zs) :
    Calls Tryd.prog 102 #[v, .func (Fn.func 98) #[] #[]] w fun e w' => (((∀ d ∈ zs, pw d) ∧ e = .returned (.int .i64 (-1))) ∨ ((∃ d ∈ zs, ¬ pw d) ∧ ∃ k : Nat, e = .returned (.int .i64 k))) ∧ w = w' := by
  obtain ⟨a, cap, b, off, rfl, hcap, hm, hx, hc⟩ := h.opened
  have HC := Lib.hid hc
  clear hc h
  rcases hx with hx | rfl
  all_goals
    go_enter Tryd.func102, Tryd.ntmps102
    go_wp2
    go_loop [8] (fun i => ∃ k : Nat, k ≤ zs.length ∧ i = .int .i64 k ∧ ∀ d ∈ zs.take k, pw d) (fun i => zs.length - (intOf i).toNat)
    case atStart => exact ⟨0, by omega, rfl, by simp⟩
    case round =>
      obtain ⟨k, hk, rfl, hp⟩ := hrel
      have HP := Lib.hid hp
      clear hp
      by_cases hkl : k < zs.length
      · first
        | (exfalso; omega)
        | (have hcell := HC.out k hkl
           have hb := hw.get hkl
           have TP := Lib.hid (take_pw hkl HP.out)
           have MM := Lib.hid (gd_memZ hkl)
           generalize gd zs k = d at *
           go_wp2_with fail
           refine (odd_any d _ hb.1 hb.2).mono ?_
           rintro e w' ⟨hr, rfl⟩
           rcases hr with ⟨hpd, rfl⟩ | ⟨hpd, rfl⟩
           · have PP := Lib.hid (TP.out hpd)
             clear hpd
             go_wp2
             go_round
             case rel => exact ⟨k + 1, by omega, by go_num, PP.out⟩
             case measure => simp [intOf]; omega
           · have PP := Lib.hid hpd
             clear hpd
             go_wp2
             go_ret
             exact ⟨.inr ⟨⟨d, MM.out, PP.out⟩, k, rfl⟩, rfl⟩)
      · obtain rfl : k = zs.length := by omega
        rw [List.take_length] at HP
        go_wp2
        go_ret
        exact ⟨.inl ⟨HP.out, rfl⟩, rfl⟩
theorem containsf_any (zs : List Int) (v : Value) (w : World) (h : Rd .i64 w v zs) (hw : W64 zs) :
    Calls Tryd.prog 97 #[v, .func (Fn.func 98) #[] #[]] w fun e w' => (((∀ d ∈ zs, pw d) ∧ e = .returned (.bool false)) ∨ ((∃ d ∈ zs, ¬ pw d) ∧ e = .returned (.bool true))) ∧ w = w' := by
  go_enter Tryd.func97, Tryd.ntmps97
  go_wp2_with fail
  refine (indexf_any zs v _ h hw).mono ?_
  rintro e w' ⟨hr, rfl⟩
  rcases hr with ⟨hp, rfl⟩ | ⟨hp, k, rfl⟩
  · have PP := Lib.hid hp
    clear hp
    go_wp2
    go_ret
    exact ⟨.inl ⟨PP.out, rfl⟩, rfl⟩
  · have PP := Lib.hid hp
    clear hp
    go_wp2
    go_ret
    exact ⟨.inr ⟨PP.out, by simp⟩, rfl⟩
theorem div_lt_mul {p d : Nat} (hp : 1 ≤ p) : 1024 / p < d ↔ 1024 < p * d := by
  rw [Nat.div_lt_iff_lt_mul hp, Nat.mul_comm]
set_option maxHeartbeats 2000000 in
theorem mcheck_any (zs : List Int) (v : Value) (w : World) (h : Rd .i64 w v zs) (hw : W64 zs) :
    Calls Tryd.prog 82 #[v] w fun e w' => ShAns zs e ∧ w = w' := by
  have HR := Lib.hid h
  obtain ⟨a, cap, b, off, rfl, hcap, hm, hx, hc⟩ := h.opened
  have HC := Lib.hid hc
  clear hc h
  by_cases hlen : 1 ≤ zs.length ∧ zs.length ≤ 3
  · obtain ⟨hl1, hl3⟩ := hlen
    rcases hx with hx | rfl
    · exfalso; omega
    go_enter Tryd.func82, Tryd.ntmps82
    go_wp2_with fail
    refine (containsf_any zs _ _ HR.out hw).mono ?_
    rintro e w' ⟨hr, rfl⟩
    rcases hr with ⟨hp, rfl⟩ | ⟨hp, rfl⟩
    · obtain ⟨ds, hds, hpd⟩ := to_nat hp
      subst hds
      have hpos : ∀ d ∈ ds, 1 ≤ d := fun d hd => by obtain ⟨k, rfl⟩ := hpd d hd; exact Nat.two_pow_pos k
      have HPD := Lib.hid hpd
      have HPS := Lib.hid hpos
      rw [zi_len] at hl1 hl3
      have LZ := Lib.hid (zi_len ds)
      clear hpd hpos hp HR
      rw [LZ.out]
      go_wp2
      go_loop [4, 19] (fun n i => ∃ k : Nat, k ≤ ds.length ∧ i = .int .i64 k ∧ n = .int .i64 (pr (ds.take k)) ∧ pr (ds.take k) ≤ 1024) (fun _ i => ds.length - (intOf i).toNat)
      case atStart => exact ⟨0, by omega, rfl, rfl, by simp [pr]⟩
      case round =>
        obtain ⟨k, hk, rfl, rfl, hle⟩ := hrel
        by_cases hkl : k < ds.length
        · have hcell := HC.out k (by rw [LZ.out]; exact hkl)
          rw [gd_zi] at hcell
          have PT := Lib.hid (pr_take_succ ds k hkl)
          have hd1 := HPS.out _ (nd_mem hkl)
          have TN := Lib.hid (pr_pos (l := ds.take k) (fun d hd => HPS.out d (List.mem_of_mem_take hd)))
          have hn1 := TN.out
          have SPL := Lib.hid (pr_take_le HPS.out (k + 1))
          have hbw : ((nd ds k : Nat) : Int) ≤ 9223372036854775807 := by
            have := hw.get (i := k) (by rw [LZ.out]; exact hkl)
            rw [gd_zi] at this
            exact this.2
          generalize pr (ds.take k) = p at *
          generalize nd ds k = d at *
          have DL := Lib.hid (div_lt_mul (p := p) (d := d) hn1)
          have hq : ((1024 : Int)).tdiv (p : Int) = ((1024 / p : Nat) : Int) := rfl
          have hqw : IntKind.i64.wrap ((1024 : Int).tdiv (p : Int)) = ((1024 / p : Nat) : Int) := by
            rw [hq]; have h := Nat.div_le_self 1024 p; generalize 1024 / p = q at *; exact IntWalk.i64_in _ (by omega)
          have hp0 : ¬ p = 0 := by omega
          clear hq
          by_cases hbig : 1024 / p < d
          · have BB := Lib.hid (show 1024 < pr ds by have h1 := SPL.out; rw [PT.out] at h1; have := DL.out.1 hbig; omega)
            generalize 1024 / p = q at *
            go_wp2
            go_ret2
            exact ⟨.inr (.inl ⟨⟨ds, rfl, hl1, hl3, HPD.out, BB.out⟩, rfl⟩), rfl⟩
          · have HLE := Lib.hid (show p * d ≤ 1024 by have : ¬ 1024 < p * d := fun h => hbig (DL.out.2 h); omega)
            have hm0 : (0 : Int) ≤ (p : Int) * (d : Int) := by rw [← Int.natCast_mul]; exact Int.natCast_nonneg _
            have hm1 : (p : Int) * (d : Int) ≤ 1024 := by have := HLE.out; rw [← Int.natCast_mul]; omega
            generalize 1024 / p = q at *
            clear DL
            go_wp2
            go_round
            case rel => exact ⟨k + 1, by omega, by go_num, by rw [PT.out, Int.natCast_mul], by rw [PT.out]; exact HLE.out⟩
            case measure => simp [intOf]; omega
        · obtain rfl : k = ds.length := by omega
          rw [List.take_length] at hle ⊢
          go_wp2
          go_ret2
          exact ⟨.inr (.inr ⟨ds, rfl, ⟨hl1, hl3, HPD.out, hle⟩, rfl⟩), rfl⟩
    · have PP := Lib.hid hp
      clear hp
      go_wp2
      go_ret2
      exact ⟨.inl ⟨.inr PP.out, rfl⟩, rfl⟩
  · have HL := Lib.hid hlen
    rcases (show zs.length < 1 ∨ (1 ≤ zs.length ∧ 3 < zs.length) by omega) with h1 | ⟨h1, h2⟩
    all_goals
      clear hlen
      go_enter Tryd.func82, Tryd.ntmps82
      go_wp2
      go_ret2
      exact ⟨.inl ⟨.inl HL.out, rfl⟩, rfl⟩
end Go.Proofs.YtkcfnbfkbmgchaaDoor.Gm
