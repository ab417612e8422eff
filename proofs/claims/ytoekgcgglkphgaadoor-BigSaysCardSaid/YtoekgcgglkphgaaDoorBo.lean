/- The walk of the law BigOrder. -/
import Derived.Test.YtoekgcgglkphgaaDoorBb
namespace Go.Proofs.YtoekgcgglkphgaaDoor.Gm
open Go.RowKit
set_option linter.unusedVariables false
theorem cn_lit {l : List UInt8} (h : (l.all fun b => decide (48 ≤ b.toNat ∧ b.toNat ≤ 57)) = true) (h0 : l.isEmpty = false) (h1 : (l.head? == some 48) = false) : Cn l := by
  refine ⟨fun e => (by rw [e] at h0; cases h0), fun b hb => ?_, fun _ e => (by rw [e] at h1; exact absurd h1 (by decide))⟩
  have := List.all_eq_true.1 h b hb
  unfold isD
  exact of_decide_eq_true this
theorem sum_len {a b u : List UInt8} (hu : Cn u) (ha : AllD a) (hb : AllD b) (h : nv u = nv a + nv b) {k : Nat} (h1 : a.length ≤ k) (h2 : b.length ≤ k) : u.length ≤ k + 1 := by
  refine hu.len_le (by omega) ?_
  have e1 := nv_lt ha
  have e2 := nv_lt hb
  have e3 := Nat.pow_le_pow_right (show 0 < 10 by omega) h1
  have e4 := Nat.pow_le_pow_right (show 0 < 10 by omega) h2
  rw [Nat.pow_succ]
  omega
theorem sg_neg (x y : Nat) : sg x y = - sg y x := by
  rcases Nat.lt_trichotomy x y with h | h | h
  · rw [sg_lt h, sg_gt h]
  · rw [sg_eq h, sg_eq h.symm]; rfl
  · rw [sg_gt h, sg_lt h]; rfl
theorem sg_add (x y z : Nat) : sg (x + z) (y + z) = sg x y := by
  rcases Nat.lt_trichotomy x y with h | h | h
  · rw [sg_lt h, sg_lt (by omega)]
  · rw [sg_eq h, sg_eq (by omega)]
  · rw [sg_gt h, sg_gt (by omega)]
theorem sg_zero {x y : Nat} : sg x y = 0 ↔ x = y := by
  rcases Nat.lt_trichotomy x y with h | h | h
  · rw [sg_lt h]; omega
  · rw [sg_eq h]; omega
  · rw [sg_gt h]; omega
theorem sg_abs (x y : Nat) : -1 ≤ sg x y ∧ sg x y ≤ 1 := by
  rcases Nat.lt_trichotomy x y with h | h | h
  · rw [sg_lt h]; omega
  · rw [sg_eq h]; omega
  · rw [sg_gt h]; omega
theorem c99 (w : World) : Calls Tryd.prog 6 #[.string ⟨#[57, 57]⟩, .string ⟨#[49, 48, 48]⟩] w fun e w' => e = .returned (.tuple #[.int .i64 (-1), .int .i64 0]) ∧ w = w' := by
  have e1 : bl ⟨#[57, 57]⟩ = [57, 57] := bl_mk _
  have e2 : bl ⟨#[49, 48, 48]⟩ = [49, 48, 48] := bl_mk _
  have h := cmp_ok ⟨#[57, 57]⟩ ⟨#[49, 48, 48]⟩ (by rw [e1]; exact .inr (.inl ⟨by decide, cn_lit (by decide) rfl (by decide), rfl⟩)) (by rw [e2]; exact .inr (.inl ⟨by decide, cn_lit (by decide) rfl (by decide), rfl⟩)) w
  rw [e1, e2, sg_lt (by decide)] at h
  exact h
set_option maxHeartbeats 4000000 in
set_option maxRecDepth 100000 in
theorem wBigOrder (a b c : ByteArray) (w : World) (hT : Tp w) : Calls Tryd.prog 3 #[.string a, .string b, .string c] w (RetV w (.bool true)) := by
  have C9 := Lib.hid c99
  have TP := Lib.hid hT
  clear hT
  obtain ⟨n, hn⟩ := gb_ex (bl a) (bl b)
  obtain ⟨m, hm⟩ := gb_ex (bl b) (bl a)
  by_cases h0 : n = 0
  · subst h0
    obtain ⟨ga, gb⟩ := hn.zero
    clear hm m hn
    have C1 := Lib.hid (cmp_ok a b ga gb)
    have C2 := Lib.hid (cmp_ok b a gb ga)
    have GA := Lib.hid ga
    have GBB := Lib.hid gb
    obtain ⟨r, hr⟩ : ∃ r, r = sg (nv (bl a)) (nv (bl b)) := ⟨_, rfl⟩
    obtain ⟨r', hr'⟩ : ∃ r, r = sg (nv (bl b)) (nv (bl a)) := ⟨_, rfl⟩
    have hrr : r = - r' := by rw [hr, hr']; exact sg_neg _ _
    have hab := sg_abs (nv (bl b)) (nv (bl a))
    have hz : (r = 0) ↔ a = b := by
      rw [hr, sg_zero]
      exact ⟨fun h => bl_inj (Cn.inj ga.zero.1 gb.zero.1 h), fun h => by rw [h]⟩
    have HR := Lib.hid hr
    rw [← hr'] at hab C2
    rw [← hr] at C1
    clear hr hr' ga gb
    subst hrr
    by_cases hL : a.size ≤ 1990 ∧ b.size ≤ 1990 ∧ c.size ≤ 1990
    · obtain ⟨l1, l2, l3⟩ := hL
      have q1 : decide ((1990 : Int) < (a.size : Int)) = false := decide_eq_false (by omega)
      have q2 : decide ((1990 : Int) < (b.size : Int)) = false := decide_eq_false (by omega)
      have q3 : decide ((1990 : Int) < (c.size : Int)) = false := decide_eq_false (by omega)
      have q4 : decide (1990 < a.size) = false := decide_eq_false (by omega)
      have q5 : decide (1990 < b.size) = false := decide_eq_false (by omega)
      have q6 : decide (1990 < c.size) = false := decide_eq_false (by omega)
      obtain ⟨m, hm⟩ := ge_ex (bl c)
      by_cases hm0 : m = 0
      · subst hm0
        by_cases hab : a = b
        · subst hab
          obtain rfl : r' = 0 := by have := hz.2 rfl; omega
          clear hz hab
          rw [Int.neg_zero] at C1 HR
          go_enter Tryd.func3, Tryd.ntmps3
          go_wp2_with fail
          refine (C9.out _).mono ?_
          rintro e w1 ⟨rfl, rfl⟩
          go_wp2_with fail
          refine (C1.out _).mono ?_
          rintro e w1 ⟨rfl, rfl⟩
          go_wp2_with fail
          refine (C2.out _).mono ?_
          rintro e w1 ⟨rfl, rfl⟩
          have D1 := Lib.hid (fun w hT => add_ok a c GA.out hm w hT)
          have D2 := Lib.hid (fun w hT => add_ok a c GBB.out hm w hT)
          have HM := Lib.hid hm
          clear hm
          go_wp2_with fail
          refine (D1.out _ TP.out).mono ?_
          rintro e w1 ⟨u, rfl, hu, hnu, hb⟩
          have B1 := Lib.hid hb
          have U1 := Lib.hid hu
          have N1 := Lib.hid hnu
          have hs1 := hb.size
          clear hb hu hnu D1
          go_wp2_with fail
          refine (D2.out _ (TP.out.below B1.out)).mono ?_
          rintro e w2 ⟨v, rfl, hv, hnv, hb⟩
          have B2 := Lib.hid (B1.out.trans (hb.mono hs1))
          have GU := Lib.hid (show GE (bl u) 0 from .inr (.inl ⟨Nat.le_trans (sum_len U1.out GA.out.zero.1.2.1 HM.out.zero.1.2.1 N1.out (k := 1990) (by rw [bl_len]; omega) (by rw [bl_len]; omega)) (by omega), U1.out, rfl⟩))
          have GV := Lib.hid (show GE (bl v) 0 from .inr (.inl ⟨Nat.le_trans (sum_len hv GBB.out.zero.1.2.1 HM.out.zero.1.2.1 hnv (k := 1990) (by rw [bl_len]; omega) (by rw [bl_len]; omega)) (by omega), hv, rfl⟩))
          have D3 := Lib.hid (cmp_ok u v GU.out GV.out)
          rw [N1.out, hnv, sg_add, ← HR.out] at D3
          clear hb hv hnv D2 GU GV
          go_wp2_with fail
          refine (D3.out _).mono ?_
          rintro e w3 ⟨rfl, rfl⟩
          go_wp2
          go_ret
          exact ⟨rfl, B2.out⟩
        · have f1 : decide (a = b) = false := decide_eq_false hab
          have hr0 : r' ≠ 0 := fun e => hab (hz.1 (by omega))
          have f2 : (-r' == 0) = false := by rw [beq_eq_false_iff_ne]; omega
          have f4 : (a.toList == b.toList) = false := by
            rw [beq_eq_false_iff_ne, Lib.toList_data, Lib.toList_data]
            intro e
            exact hab (bl_inj (by unfold bl; exact e))
          clear hz
          go_enter Tryd.func3, Tryd.ntmps3
          go_wp2_with fail
          refine (C9.out _).mono ?_
          rintro e w1 ⟨rfl, rfl⟩
          go_wp2_with fail
          refine (C1.out _).mono ?_
          rintro e w1 ⟨rfl, rfl⟩
          go_wp2_with fail
          refine (C2.out _).mono ?_
          rintro e w1 ⟨rfl, rfl⟩
          have D1 := Lib.hid (fun w hT => add_ok a c GA.out hm w hT)
          have D2 := Lib.hid (fun w hT => add_ok b c GBB.out hm w hT)
          have HM := Lib.hid hm
          clear hm
          go_wp2_with fail
          refine (D1.out _ TP.out).mono ?_
          rintro e w1 ⟨u, rfl, hu, hnu, hb⟩
          have B1 := Lib.hid hb
          have U1 := Lib.hid hu
          have N1 := Lib.hid hnu
          have hs1 := hb.size
          clear hb hu hnu D1
          go_wp2_with fail
          refine (D2.out _ (TP.out.below B1.out)).mono ?_
          rintro e w2 ⟨v, rfl, hv, hnv, hb⟩
          have B2 := Lib.hid (B1.out.trans (hb.mono hs1))
          have GU := Lib.hid (show GE (bl u) 0 from .inr (.inl ⟨Nat.le_trans (sum_len U1.out GA.out.zero.1.2.1 HM.out.zero.1.2.1 N1.out (k := 1990) (by rw [bl_len]; omega) (by rw [bl_len]; omega)) (by omega), U1.out, rfl⟩))
          have GV := Lib.hid (show GE (bl v) 0 from .inr (.inl ⟨Nat.le_trans (sum_len hv GBB.out.zero.1.2.1 HM.out.zero.1.2.1 hnv (k := 1990) (by rw [bl_len]; omega) (by rw [bl_len]; omega)) (by omega), hv, rfl⟩))
          have D3 := Lib.hid (cmp_ok u v GU.out GV.out)
          rw [N1.out, hnv, sg_add, ← HR.out] at D3
          clear hb hv hnv D2 GU GV
          go_wp2_with fail
          refine (D3.out _).mono ?_
          rintro e w3 ⟨rfl, rfl⟩
          go_wp2
          go_ret
          exact ⟨rfl, B2.out⟩
      · have hm0 := hm0
        by_cases hab : a = b
        · subst hab
          obtain rfl : r' = 0 := by have := hz.2 rfl; omega
          clear hz hab
          rw [Int.neg_zero] at C1 HR
          go_enter Tryd.func3, Tryd.ntmps3
          go_wp2_with fail
          refine (C9.out _).mono ?_
          rintro e w1 ⟨rfl, rfl⟩
          go_wp2_with fail
          refine (C1.out _).mono ?_
          rintro e w1 ⟨rfl, rfl⟩
          go_wp2_with fail
          refine (C2.out _).mono ?_
          rintro e w1 ⟨rfl, rfl⟩
          have D1 := Lib.hid (add_err a c m (.inr ⟨GA.out, hm⟩) hm0)
          have D2 := Lib.hid (add_err a c m (.inr ⟨GBB.out, hm⟩) hm0)
          have D3 := Lib.hid (check_is c m hm)
          have hn0 : (m == 0) = false := by rw [beq_eq_false_iff_ne]; exact hm0
          have hn1 : (m != 0) = true := bne_iff_ne.2 hm0
          clear hm hm0
          go_wp2_with fail
          refine (D1.out _).mono ?_
          rintro e w1 ⟨rfl, rfl⟩
          go_wp2_with fail
          refine (D2.out _).mono ?_
          rintro e w1 ⟨rfl, rfl⟩
          go_wp2_with fail
          refine (D3.out _).mono ?_
          rintro e w1 ⟨rfl, rfl⟩
          go_wp2
          go_ret
          exact ⟨rfl, Below.refl _ _⟩
        · have f1 : decide (a = b) = false := decide_eq_false hab
          have hr0 : r' ≠ 0 := fun e => hab (hz.1 (by omega))
          have f2 : (-r' == 0) = false := by rw [beq_eq_false_iff_ne]; omega
          have f4 : (a.toList == b.toList) = false := by
            rw [beq_eq_false_iff_ne, Lib.toList_data, Lib.toList_data]
            intro e
            exact hab (bl_inj (by unfold bl; exact e))
          clear hz
          go_enter Tryd.func3, Tryd.ntmps3
          go_wp2_with fail
          refine (C9.out _).mono ?_
          rintro e w1 ⟨rfl, rfl⟩
          go_wp2_with fail
          refine (C1.out _).mono ?_
          rintro e w1 ⟨rfl, rfl⟩
          go_wp2_with fail
          refine (C2.out _).mono ?_
          rintro e w1 ⟨rfl, rfl⟩
          have D1 := Lib.hid (add_err a c m (.inr ⟨GA.out, hm⟩) hm0)
          have D2 := Lib.hid (add_err b c m (.inr ⟨GBB.out, hm⟩) hm0)
          have D3 := Lib.hid (check_is c m hm)
          have hn0 : (m == 0) = false := by rw [beq_eq_false_iff_ne]; exact hm0
          have hn1 : (m != 0) = true := bne_iff_ne.2 hm0
          clear hm hm0
          go_wp2_with fail
          refine (D1.out _).mono ?_
          rintro e w1 ⟨rfl, rfl⟩
          go_wp2_with fail
          refine (D2.out _).mono ?_
          rintro e w1 ⟨rfl, rfl⟩
          go_wp2_with fail
          refine (D3.out _).mono ?_
          rintro e w1 ⟨rfl, rfl⟩
          go_wp2
          go_ret
          exact ⟨rfl, Below.refl _ _⟩
    · have hL := hL
      by_cases hab : a = b
      · subst hab
        obtain rfl : r' = 0 := by have := hz.2 rfl; omega
        clear hz hab
        rw [Int.neg_zero] at C1 HR
        go_enter Tryd.func3, Tryd.ntmps3
        go_wp2_with fail
        refine (C9.out _).mono ?_
        rintro e w1 ⟨rfl, rfl⟩
        go_wp2_with fail
        refine (C1.out _).mono ?_
        rintro e w1 ⟨rfl, rfl⟩
        go_wp2_with fail
        refine (C2.out _).mono ?_
        rintro e w1 ⟨rfl, rfl⟩
        go_wp2
        all_goals (try (go_ret; exact ⟨rfl, Below.refl _ _⟩))
        all_goals omega
      · have f1 : decide (a = b) = false := decide_eq_false hab
        have hr0 : r' ≠ 0 := fun e => hab (hz.1 (by omega))
        have f2 : (-r' == 0) = false := by rw [beq_eq_false_iff_ne]; omega
        have f4 : (a.toList == b.toList) = false := by
          rw [beq_eq_false_iff_ne, Lib.toList_data, Lib.toList_data]
          intro e
          exact hab (bl_inj (by unfold bl; exact e))
        clear hz
        go_enter Tryd.func3, Tryd.ntmps3
        go_wp2_with fail
        refine (C9.out _).mono ?_
        rintro e w1 ⟨rfl, rfl⟩
        go_wp2_with fail
        refine (C1.out _).mono ?_
        rintro e w1 ⟨rfl, rfl⟩
        go_wp2_with fail
        refine (C2.out _).mono ?_
        rintro e w1 ⟨rfl, rfl⟩
        go_wp2
        all_goals (try (go_ret; exact ⟨rfl, Below.refl _ _⟩))
        all_goals omega
  · have hm0 : m ≠ 0 := fun e => h0 (by
      subst e
      obtain ⟨g1, g2⟩ := hm.zero
      rcases hn with ⟨_, hn⟩ | ⟨_, hn⟩
      · exact hn.of g2.zero.1 g2.zero.2
      · exact hn.of g1.zero.1 g1.zero.2)
    have C1 := Lib.hid (cmp_err a b n hn h0)
    have C2 := Lib.hid (cmp_err b a m hm hm0)
    have f1 : (n == 0) = false := by rw [beq_eq_false_iff_ne]; exact h0
    have f2 : (m == 0) = false := by rw [beq_eq_false_iff_ne]; exact hm0
    clear hn hm
    go_enter Tryd.func3, Tryd.ntmps3
    go_wp2_with fail
    refine (C9.out _).mono ?_
    rintro e w1 ⟨rfl, rfl⟩
    go_wp2_with fail
    refine (C1.out _).mono ?_
    rintro e w1 ⟨rfl, rfl⟩
    go_wp2_with fail
    refine (C2.out _).mono ?_
    rintro e w1 ⟨rfl, rfl⟩
    go_wp2
    go_ret
    exact ⟨rfl, Below.refl _ _⟩
end Go.Proofs.YtoekgcgglkphgaaDoor.Gm
