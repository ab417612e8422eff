/- The walk of the law BigLaws. -/
import Derived.Test.YtoekgcgglkphgaaDoorBo
import Derived.Test.YtoekgcgglkphgaaDoorBr
namespace Go.Proofs.YtoekgcgglkphgaaDoor.Gm
open Go.RowKit
set_option linter.unusedVariables false
theorem prod_len {a b u : List UInt8} (hu : Cn u) (ha : AllD a) (hb : AllD b) (h : nv u = nv a * nv b) {j k : Nat} (h1 : a.length ≤ j) (h2 : b.length ≤ k) (hj : 1 ≤ j) : u.length ≤ j + k := by
  refine hu.len_le (by omega) ?_
  have e1 := nv_lt ha
  have e2 := nv_lt hb
  have e3 := Nat.pow_le_pow_right (show 0 < 10 by omega) h1
  have e4 := Nat.pow_le_pow_right (show 0 < 10 by omega) h2
  rw [h, Nat.pow_add]
  exact Nat.mul_lt_mul'' (Nat.lt_of_lt_of_le e1 e3) (Nat.lt_of_lt_of_le e2 e4)
theorem txt_eq {u v : ByteArray} (hu : Cn (bl u)) (hv : Cn (bl v)) (h : nv (bl u) = nv (bl v)) : u = v := bl_inj (Cn.inj hu hv h)
theorem ge_lit {l : List UInt8} (h : (l.all fun b => decide (48 ≤ b.toNat ∧ b.toNat ≤ 57)) = true) (h0 : l.isEmpty = false) (h1 : (l.head? == some 48) = false) (h2 : l.length ≤ 2000) : GE (bl ⟨l.toArray⟩) 0 := by
  rw [bl_mk]; exact .inr (.inl ⟨h2, cn_lit h h0 h1, rfl⟩)
theorem ge_nought : GE (bl ⟨#[48]⟩) 0 := by
  rw [show bl ⟨#[48]⟩ = [48] from bl_mk [48]]
  refine .inr (.inl ⟨by decide, ⟨by simp, fun b hb => ?_, fun h => by simp at h⟩, rfl⟩)
  have : b = 48 := by simpa using hb
  subst this; exact ⟨by decide, by decide⟩
theorem m9801 (w : World) (hT : Tp w) (hTb : Tb w) : Calls Tryd.prog 9 #[.string ⟨#[57, 57]⟩, .string ⟨#[57, 57]⟩] w fun e w' => e = .returned (.tuple #[.string ⟨#[57, 56, 48, 49]⟩, .int .i64 0]) ∧ Below w.heap.size w w' := by
  have g : GE (bl ⟨#[57, 57]⟩) 0 := ge_lit (l := [57, 57]) (by decide) rfl (by decide) (by decide)
  have g2 : GE (bl ⟨#[57, 56, 48, 49]⟩) 0 := ge_lit (l := [57, 56, 48, 49]) (by decide) rfl (by decide) (by decide)
  refine (mul_ok _ _ g g w hT hTb).mono ?_
  rintro e w' ⟨u, rfl, hu, hn, hb⟩
  obtain rfl := txt_eq hu g2.zero.1 (by rw [hn, show bl ⟨#[57, 57]⟩ = [57, 57] from bl_mk _, show bl ⟨#[57, 56, 48, 49]⟩ = [57, 56, 48, 49] from bl_mk _]; rfl)
  exact ⟨rfl, hb⟩
theorem mul_one_txt (a : ByteArray) (h : GE (bl a) 0) (w : World) (hT : Tp w) (hTb : Tb w) : Calls Tryd.prog 9 #[.string a, .string ⟨#[49]⟩] w fun e w' => e = .returned (.tuple #[.string a, .int .i64 0]) ∧ Below w.heap.size w w' := by
  have g : GE (bl ⟨#[49]⟩) 0 := ge_lit (l := [49]) (by decide) rfl (by decide) (by decide)
  refine (mul_ok _ _ h g w hT hTb).mono ?_
  rintro e w' ⟨u, rfl, hu, hn, hb⟩
  obtain rfl := txt_eq hu h.zero.1 (by rw [hn, show bl ⟨#[49]⟩ = [49] from bl_mk _, show nv [49] = 1 from rfl, Nat.mul_one])
  exact ⟨rfl, hb⟩
theorem add_none_txt (a : ByteArray) (h : GE (bl a) 0) (w : World) (hT : Tp w) : Calls Tryd.prog 7 #[.string a, .string ⟨#[48]⟩] w fun e w' => e = .returned (.tuple #[.string a, .int .i64 0]) ∧ Below w.heap.size w w' := by
  refine (add_ok _ _ h ge_nought w hT).mono ?_
  rintro e w' ⟨u, rfl, hu, hn, hb⟩
  obtain rfl := txt_eq hu h.zero.1 (by rw [hn, show bl ⟨#[48]⟩ = [48] from bl_mk _, show nv [48] = 0 from rfl, Nat.add_zero])
  exact ⟨rfl, hb⟩
def mo (i : Nat) : Nat := if i = 0 then 9 else if i = 1 then 11 else if i = 2 then 7 else 1000003
theorem mo_pos (i : Nat) : 0 < mo i ∧ mo i ≤ 1000003 := by
  unfold mo
  by_cases h0 : i = 0
  · rw [if_pos h0]; omega
  · rw [if_neg h0]
    by_cases h1 : i = 1
    · rw [if_pos h1]; omega
    · rw [if_neg h1]
      by_cases h2 : i = 2
      · rw [if_pos h2]; omega
      · rw [if_neg h2]; omega
theorem mo_cell (w : World) (i : Nat) (h : i < 4) : (w.alloc (.cells #[.int .i64 9, .int .i64 11, .int .i64 7, .int .i64 1000003] 3)).cell? ⟨w.heap.size, i, none⟩ = some (.int .i64 (mo i : Int)) := by
  rw [World.cell?_alloc_at _ _ _ _ rfl]
  rcases i with _ | _ | _ | _ | i
  · rfl
  · rfl
  · rfl
  · rfl
  · omega
theorem mod_mul' (a b M : Nat) : (a % M) * (b % M) % M = a * b % M := (Nat.mul_mod a b M).symm
theorem mod_add' (a b M : Nat) : (a % M + b % M) % M = (a + b) % M := (Nat.add_mod a b M).symm
def MoR (w w0 : World) (v : Value) (wr : World) : Prop := ∃ i : Nat, i ≤ 4 ∧ v = .int .i64 i ∧ Below w0.heap.size w0 wr
set_option maxHeartbeats 8000000 in
set_option maxRecDepth 100000 in
theorem wBigLaws (a b c : ByteArray) (w : World) (hT : Tp w) (hTb : Tb w) : Calls Tryd.prog 4 #[.string a, .string b, .string c] w (RetV w (.bool true)) := by
  have M9 := Lib.hid (m9801 w hT hTb)
  have TP := Lib.hid hT
  have TB := Lib.hid hTb
  clear hT hTb
  by_cases hL : a.size ≤ 400 ∧ b.size ≤ 400 ∧ c.size ≤ 400
  · obtain ⟨l1, l2, l3⟩ := hL
    have q1 : decide ((400 : Int) < (a.size : Int)) = false := decide_eq_false (by omega)
    have q2 : decide ((400 : Int) < (b.size : Int)) = false := decide_eq_false (by omega)
    have q3 : decide ((400 : Int) < (c.size : Int)) = false := decide_eq_false (by omega)
    have q4 : decide (400 < a.size) = false := decide_eq_false (by omega)
    have q5 : decide (400 < b.size) = false := decide_eq_false (by omega)
    have q6 : decide (400 < c.size) = false := decide_eq_false (by omega)
    obtain ⟨n1, hn1⟩ := ge_ex (bl a)
    obtain ⟨n2, hn2⟩ := ge_ex (bl b)
    obtain ⟨n3, hn3⟩ := ge_ex (bl c)
    have C1 := Lib.hid (check_is a n1 hn1)
    have C2 := Lib.hid (check_is b n2 hn2)
    have C3 := Lib.hid (check_is c n3 hn3)
    by_cases h1 : n1 = 0
    · subst h1
      by_cases h2 : n2 = 0
      · subst h2
        by_cases h3 : n3 = 0
        · subst h3
          have GA := Lib.hid hn1
          have GBB := Lib.hid hn2
          have GC := Lib.hid hn3
          have D1 := Lib.hid (fun w hT hB => mul_ok a b hn1 hn2 w hT hB)
          have D2 := Lib.hid (fun w hT hB => mul_ok b a hn2 hn1 w hT hB)
          have D3 := Lib.hid (fun w hT => add_ok b c hn2 hn3 w hT)
          have D5 := Lib.hid (fun w hT hB => mul_ok a c hn1 hn3 w hT hB)
          have D7 := Lib.hid (fun w hT hB => mul_one_txt a hn1 w hT hB)
          have D8 := Lib.hid (fun w hT => add_none_txt a hn1 w hT)
          have LA := Lib.hid (show (bl a).length ≤ 400 by rw [bl_len]; exact l1)
          have LB := Lib.hid (show (bl b).length ≤ 400 by rw [bl_len]; exact l2)
          have LC := Lib.hid (show (bl c).length ≤ 400 by rw [bl_len]; exact l3)
          clear hn1 hn2 hn3
          go_enter Tryd.func4, Tryd.ntmps4
          go_wp2_with fail
          refine M9.out.mono ?_
          rintro e w1 ⟨rfl, hb⟩
          have B1 := Lib.hid hb
          have hs1 := hb.size
          clear hb M9
          go_wp2_with fail
          refine (C1.out _).mono ?_
          rintro e w' ⟨rfl, rfl⟩
          go_wp2_with fail
          refine (C2.out _).mono ?_
          rintro e w' ⟨rfl, rfl⟩
          go_wp2_with fail
          refine (C3.out _).mono ?_
          rintro e w' ⟨rfl, rfl⟩
          clear C1 C2 C3
          go_wp2_with fail
          refine (D1.out _ (TP.out.below B1.out) (TB.out.below B1.out)).mono ?_
          rintro e w2 ⟨ab, rfl, hu, hn, hb⟩
          have UAB := Lib.hid hu
          have NAB := Lib.hid hn
          have B2 := Lib.hid (B1.out.trans (hb.mono hs1))
          have hs2 := B2.out.size
          have LAB := Lib.hid (prod_len hu GA.out.zero.1.2.1 GBB.out.zero.1.2.1 hn LA.out LB.out (by omega))
          have GAB := Lib.hid (show GE (bl ab) 0 from .inr (.inl ⟨Nat.le_trans LAB.out (by omega), hu, rfl⟩))
          clear hu hn hb D1 B1
          go_wp2_with fail
          refine (D2.out _ (TP.out.below B2.out) (TB.out.below B2.out)).mono ?_
          rintro e w3 ⟨ba, rfl, hu, hn, hb⟩
          obtain rfl := (txt_eq hu UAB.out (by rw [hn, NAB.out, Nat.mul_comm])).symm
          have B3 := Lib.hid (B2.out.trans (hb.mono hs2))
          have hs3 := B3.out.size
          clear hu hn hb D2 B2
          go_wp2_with fail
          refine (D3.out _ (TP.out.below B3.out)).mono ?_
          rintro e w4 ⟨sm, rfl, hu, hn, hb⟩
          have USM := Lib.hid hu
          have NSM := Lib.hid hn
          have B4 := Lib.hid (B3.out.trans (hb.mono hs3))
          have hs4 := B4.out.size
          have LSM := Lib.hid (sum_len hu GBB.out.zero.1.2.1 GC.out.zero.1.2.1 hn LB.out LC.out)
          have GSM := Lib.hid (show GE (bl sm) 0 from .inr (.inl ⟨Nat.le_trans LSM.out (by omega), hu, rfl⟩))
          have D4 := Lib.hid (fun w hT hB => mul_ok a sm GA.out GSM.out w hT hB)
          clear hu hn hb D3 B3
          go_wp2_with fail
          refine (D4.out _ (TP.out.below B4.out) (TB.out.below B4.out)).mono ?_
          rintro e w5 ⟨lf, rfl, hu, hn, hb⟩
          have ULF := Lib.hid hu
          have NLF := Lib.hid hn
          have B5 := Lib.hid (B4.out.trans (hb.mono hs4))
          have hs5 := B5.out.size
          clear hu hn hb D4 B4
          go_wp2_with fail
          refine (D5.out _ (TP.out.below B5.out) (TB.out.below B5.out)).mono ?_
          rintro e w6 ⟨ac, rfl, hu, hn, hb⟩
          have NAC := Lib.hid hn
          have B6 := Lib.hid (B5.out.trans (hb.mono hs5))
          have hs6 := B6.out.size
          have GAC := Lib.hid (show GE (bl ac) 0 from .inr (.inl ⟨Nat.le_trans (prod_len hu GA.out.zero.1.2.1 GC.out.zero.1.2.1 hn LA.out LC.out (by omega)) (by omega), hu, rfl⟩))
          have D6 := Lib.hid (fun w hT => add_ok ab ac GAB.out GAC.out w hT)
          clear hu hn hb D5 B5
          go_wp2_with fail
          refine (D6.out _ (TP.out.below B6.out)).mono ?_
          rintro e w7 ⟨rg, rfl, hu, hn, hb⟩
          obtain rfl := (txt_eq hu ULF.out (by rw [hn, NLF.out, NSM.out, NAB.out, NAC.out, Nat.mul_add])).symm
          have B7 := Lib.hid (B6.out.trans (hb.mono hs6))
          have hs7 := B7.out.size
          clear hu hn hb D6 B6 ULF NLF NAC GAC GSM hs1 hs2 hs3 hs4 hs5 hs6
          have hal : Below w7.heap.size w7 (w7.alloc (.cells #[.int .i64 9, .int .i64 11, .int .i64 7, .int .i64 1000003] 3)) := (Below.refl w7.heap.size w7).alloc (Nat.le_refl _) _
          have CM := Lib.hid (mo_cell w7)
          go_wp2
          obtain ⟨wL, hwL⟩ : ∃ wL, wL = w7.alloc (.cells #[.int .i64 9, .int .i64 11, .int .i64 7, .int .i64 1000003] 3) := ⟨_, rfl⟩
          obtain ⟨g, hg⟩ : ∃ g, g = w7.heap.size := ⟨_, rfl⟩
          rw [← hwL, ← hg] at CM
          rw [← hwL] at hal
          rw [← hwL, ← hg]
          have BL := Lib.hid (B7.out.trans (hal.mono hs7))
          have hsL := BL.out.size
          clear hal hwL hg B7 hs7
          go_loopw [135] (fun v wr => MoR w wL v wr) (fun i _ => 4 - (intOf i).toNat)
          case atStart => exact ⟨0, by omega, rfl, Below.refl _ _⟩
          case round =>
            obtain ⟨i, hi, rfl, hb⟩ := hrel
            have BR := Lib.hid hb
            have hsR := hb.size
            clear hb
            by_cases hi4 : i < 4
            · have c0 := (BR.out.cell (p := ⟨g, i, none⟩) (World.block_lt_of_cell? wL _ (CM.out i hi4))).trans (CM.out i hi4)
              obtain ⟨hM0, hM1⟩ := mo_pos i
              have g1 : decide ((i : Int) < 4) = true := decide_eq_true (by omega)
              have g2 : decide (i < 4) = true := decide_eq_true hi4
              generalize mo i = M at *
              have R1 := Lib.hid (rest_ok ab M UAB.out.2.1 hM0 hM1 (by rw [← bl_len]; have := LAB.out; omega))
              have R2 := Lib.hid (rest_ok a M GA.out.zero.1.2.1 hM0 hM1 (by omega))
              have R3 := Lib.hid (rest_ok b M GBB.out.zero.1.2.1 hM0 hM1 (by omega))
              have R4 := Lib.hid (rest_ok sm M USM.out.2.1 hM0 hM1 (by rw [← bl_len]; have := LSM.out; omega))
              have R5 := Lib.hid (rest_ok c M GC.out.zero.1.2.1 hM0 hM1 (by omega))
              have F1 : nv (bl a) % M * (nv (bl b) % M) % M = nv (bl ab) % M := by rw [mod_mul', NAB.out]
              have F2 : (nv (bl b) % M + nv (bl c) % M) % M = nv (bl sm) % M := by rw [mod_add', NSM.out]
              have k1 : nv (bl a) % M < M := Nat.mod_lt _ hM0
              have k2 : nv (bl b) % M < M := Nat.mod_lt _ hM0
              have k3 : nv (bl c) % M < M := Nat.mod_lt _ hM0
              generalize nv (bl a) % M = ra at *
              generalize nv (bl b) % M = rb at *
              generalize nv (bl c) % M = rc at *
              generalize nv (bl ab) % M = rab at *
              generalize nv (bl sm) % M = rsm at *
              have hpb : ra * rb ≤ 1000003 * 1000003 := Nat.mul_le_mul (by omega) (by omega)
              have e1 : IntKind.i64.wrap ((ra : Int) * (rb : Int)) = (ra : Int) * (rb : Int) := IntWalk.i64_in _ (by
                rw [← Int.natCast_mul]; omega)
              have e2 : (ra : Int) * (rb : Int) % (M : Int) = (rab : Int) := by rw [← F1, Int.natCast_emod, Int.natCast_mul]
              have e3 : ((rb : Int) + (rc : Int)) % (M : Int) = (rsm : Int) := by rw [← F2, Int.natCast_emod, Int.natCast_add]
              have e4 : ((ra : Int) * (rb : Int)).tmod (M : Int) = (rab : Int) := by rw [Int.tmod_eq_emod_of_nonneg (by rw [← Int.natCast_mul]; omega)]; exact e2
              have e5 : ((rb : Int) + (rc : Int)).tmod (M : Int) = (rsm : Int) := by rw [Int.tmod_eq_emod_of_nonneg (by omega)]; exact e3
              have hMz : ((M : Int) == 0) = false := by rw [beq_eq_false_iff_ne]; omega
              clear F1 F2 hpb
              go_wp2_with fail
              refine (R1.out _).mono ?_
              rintro e w' ⟨rfl, rfl⟩
              go_wp2_with fail
              refine (R2.out _).mono ?_
              rintro e w' ⟨rfl, rfl⟩
              go_wp2_with fail
              refine (R3.out _).mono ?_
              rintro e w' ⟨rfl, rfl⟩
              go_wp2_with fail
              refine (R4.out _).mono ?_
              rintro e w' ⟨rfl, rfl⟩
              go_wp2_with fail
              refine (R3.out _).mono ?_
              rintro e w' ⟨rfl, rfl⟩
              go_wp2_with fail
              refine (R5.out _).mono ?_
              rintro e w' ⟨rfl, rfl⟩
              go_wp2
              go_roundw
              case rel => exact ⟨i + 1, by omega, by go_num, BR.out⟩
              case measure => simp [intOf] <;> omega
            · obtain rfl : i = 4 := by omega
              have BZ := Lib.hid (BL.out.trans (BR.out.mono hsL))
              have hsZ := BZ.out.size
              have D9 := Lib.hid (check_is ab 0 GAB.out)
              clear BL BR CM
              go_wp2_with fail
              refine (D7.out _ (TP.out.below BZ.out) (TB.out.below BZ.out)).mono ?_
              rintro e w8 ⟨rfl, hb⟩
              have B8 := Lib.hid (BZ.out.trans (hb.mono hsZ))
              have hs8 := B8.out.size
              clear hb BZ D7
              go_wp2_with fail
              refine (D8.out _ (TP.out.below B8.out)).mono ?_
              rintro e w9 ⟨rfl, hb⟩
              have B9 := Lib.hid (B8.out.trans (hb.mono hs8))
              clear hb B8 D8
              go_wp2_with fail
              refine (D9.out _).mono ?_
              rintro e w' ⟨rfl, rfl⟩
              go_wp2
              go_ret
              exact ⟨rfl, B9.out⟩
        · skip
          have f3 : (n3 == 0) = false := by rw [beq_eq_false_iff_ne]; exact h3
          go_enter Tryd.func4, Tryd.ntmps4
          go_wp2_with fail
          refine M9.out.mono ?_
          rintro e w1 ⟨rfl, hb⟩
          have B1 := Lib.hid hb
          clear hb M9
          go_wp2_with fail
          refine (C1.out _).mono ?_
          rintro e w' ⟨rfl, rfl⟩
          go_wp2_with fail
          refine (C2.out _).mono ?_
          rintro e w' ⟨rfl, rfl⟩
          go_wp2_with fail
          refine (C3.out _).mono ?_
          rintro e w' ⟨rfl, rfl⟩
          go_wp2
          go_ret
          exact ⟨rfl, B1.out⟩
      · skip
        have f2 : (n2 == 0) = false := by rw [beq_eq_false_iff_ne]; exact h2
        go_enter Tryd.func4, Tryd.ntmps4
        go_wp2_with fail
        refine M9.out.mono ?_
        rintro e w1 ⟨rfl, hb⟩
        have B1 := Lib.hid hb
        clear hb M9
        go_wp2_with fail
        refine (C1.out _).mono ?_
        rintro e w' ⟨rfl, rfl⟩
        go_wp2_with fail
        refine (C2.out _).mono ?_
        rintro e w' ⟨rfl, rfl⟩
        go_wp2
        go_ret
        exact ⟨rfl, B1.out⟩
    · skip
      have f1 : (n1 == 0) = false := by rw [beq_eq_false_iff_ne]; exact h1
      go_enter Tryd.func4, Tryd.ntmps4
      go_wp2_with fail
      refine M9.out.mono ?_
      rintro e w1 ⟨rfl, hb⟩
      have B1 := Lib.hid hb
      clear hb M9
      go_wp2_with fail
      refine (C1.out _).mono ?_
      rintro e w' ⟨rfl, rfl⟩
      go_wp2
      go_ret
      exact ⟨rfl, B1.out⟩
  · skip
    by_cases z1 : a.size ≤ 400
    · have q1 : decide ((400 : Int) < (a.size : Int)) = false := decide_eq_false (by omega)
      have q4 : decide (400 < a.size) = false := decide_eq_false (by omega)
      by_cases z2 : b.size ≤ 400
      · have q2 : decide ((400 : Int) < (b.size : Int)) = false := decide_eq_false (by omega)
        have q5 : decide (400 < b.size) = false := decide_eq_false (by omega)
        have q3 : decide ((400 : Int) < (c.size : Int)) = true := decide_eq_true (by omega)
        have q6 : decide (400 < c.size) = true := decide_eq_true (by omega)
        go_enter Tryd.func4, Tryd.ntmps4
        go_wp2_with fail
        refine M9.out.mono ?_
        rintro e w1 ⟨rfl, hb⟩
        have B1 := Lib.hid hb
        clear hb M9
        go_wp2
        go_ret
        exact ⟨rfl, B1.out⟩
      · have q2 : decide ((400 : Int) < (b.size : Int)) = true := decide_eq_true (by omega)
        have q5 : decide (400 < b.size) = true := decide_eq_true (by omega)
        go_enter Tryd.func4, Tryd.ntmps4
        go_wp2_with fail
        refine M9.out.mono ?_
        rintro e w1 ⟨rfl, hb⟩
        have B1 := Lib.hid hb
        clear hb M9
        go_wp2
        go_ret
        exact ⟨rfl, B1.out⟩
    · have q1 : decide ((400 : Int) < (a.size : Int)) = true := decide_eq_true (by omega)
      have q4 : decide (400 < a.size) = true := decide_eq_true (by omega)
      go_enter Tryd.func4, Tryd.ntmps4
      go_wp2_with fail
      refine M9.out.mono ?_
      rintro e w1 ⟨rfl, hb⟩
      have B1 := Lib.hid hb
      clear hb M9
      go_wp2
      go_ret
      exact ⟨rfl, B1.out⟩
end Go.Proofs.YtoekgcgglkphgaaDoor.Gm
