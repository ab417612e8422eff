/- big.Check, goldref.Great: which texts are right. -/
import Derived.Test.YtdhmmllpldjkbaaGreatDoorGa
import Derived.Test.YtdhmmllpldjkbaaGreatDoorBg
import Derived.Lib.ItoaWalk
namespace Go.Proofs.YtdhmmllpldjkbaaGreatDoor.Gm
open Go.RowKit
set_option linter.unusedVariables false
/-- a text's bytes -/
@[irreducible] def bl (s : ByteArray) : List UInt8 := s.data.toList
theorem bl_len (s : ByteArray) : (bl s).length = s.size := by unfold bl; exact (Lib.size_eq s).symm
theorem bl_mk (l : List UInt8) : bl ⟨l.toArray⟩ = l := by unfold bl; rfl
theorem mk_bl (s : ByteArray) : (⟨(bl s).toArray⟩ : ByteArray) = s := by unfold bl; exact Lib.mk_data s
theorem bl_inj {s t : ByteArray} (h : bl s = bl t) : s = t := by rw [← mk_bl s, ← mk_bl t, h]
theorem bl_cut (s : ByteArray) (a b : Nat) : bl (s.extract a b) = ((bl s).drop a).take (b - a) := by unfold bl; exact Lib.extract_data s a b
theorem bl_app (s t : ByteArray) : bl (s ++ t) = bl s ++ bl t := by unfold bl; simp
/-- the byte k as a number -/
@[irreducible] def bn (s : ByteArray) (k : Nat) : Nat := ((bl s).getD k 0).toNat
theorem bn_eq (s : ByteArray) (k : Nat) : bn s k = ((bl s).getD k 0).toNat := by unfold bn; rfl
theorem bn_lt (s : ByteArray) (k : Nat) : bn s k < 256 := by unfold bn; exact UInt8.toNat_lt _
theorem ix_str {s : ByteArray} {k : Nat} (h : k < s.size) (W : World) : (Instr.index 9 (.string s) (.int .i64 (k : Int))).run Tryz.prog W = .ok (.int .u8 (bn s k : Int)) W := by
  rw [run_index_string _ _ _ _ _ Tryz.underlying9, dif_pos ⟨by omega, by omega⟩]
  have e : s[(k : Int).toNat]'(by omega) = (bl s).getD k 0 := by
    unfold bl; exact Lib.getD_at s k h
  rw [e, bn_eq]
/-- what is told of a text -/
def GE (l : List UInt8) (n : Int) : Prop := (2000 < l.length ∧ n = 2) ∨ (l.length ≤ 2000 ∧ Cn l ∧ n = 0) ∨ (l.length ≤ 2000 ∧ ¬ Cn l ∧ n = 3)
theorem ge_ex (l : List UInt8) : ∃ n, GE l n := by
  by_cases h : l.length ≤ 2000
  · by_cases hc : Cn l
    · exact ⟨0, .inr (.inl ⟨h, hc, rfl⟩)⟩
    · exact ⟨3, .inr (.inr ⟨h, hc, rfl⟩)⟩
  · exact ⟨2, .inl ⟨by omega, rfl⟩⟩
theorem GE.zero {l : List UInt8} (h : GE l 0) : Cn l ∧ l.length ≤ 2000 := by
  rcases h with ⟨_, h⟩ | ⟨h1, h2, _⟩ | ⟨_, _, h⟩
  · cases h
  · exact ⟨h2, h1⟩
  · cases h
theorem GE.of {l : List UInt8} {n : Int} (h : GE l n) (hc : Cn l) (hl : l.length ≤ 2000) : n = 0 := by
  rcases h with ⟨h, _⟩ | ⟨_, _, h⟩ | ⟨_, h, _⟩
  · omega
  · exact h
  · exact absurd hc h
theorem GE.lo {l : List UInt8} {n : Int} (h : GE l n) : n = 0 ∨ n = 2 ∨ n = 3 := by
  rcases h with ⟨_, h⟩ | ⟨_, _, h⟩ | ⟨_, _, h⟩
  · exact .inr (.inl h)
  · exact .inl h
  · exact .inr (.inr h)
def dB (n : Nat) : Prop := 48 ≤ n ∧ n ≤ 57
def ChR (s : ByteArray) (w : World) (i : Value) (wr : World) : Prop := ∃ m : Nat, m ≤ s.size ∧ i = .int .i64 m ∧ (∀ k, k < m → dB (bn s k)) ∧ wr = w
theorem alld_bn {s : ByteArray} (h : ∀ k, k < s.size → dB (bn s k)) : AllD (bl s) := by
  intro b hb
  obtain ⟨k, hk, rfl⟩ := List.getElem_of_mem hb
  have := h k (by rw [← bl_len]; exact hk)
  rw [bn_eq, List.getD, List.getElem?_eq_getElem hk] at this
  exact this
theorem bn_alld {s : ByteArray} (h : AllD (bl s)) {k : Nat} (hk : k < s.size) : dB (bn s k) := by
  have hk : k < (bl s).length := by rw [bl_len]; exact hk
  rw [bn_eq, List.getD, List.getElem?_eq_getElem hk]
  exact h _ (List.getElem_mem hk)
theorem head_bn {s : ByteArray} (h : 0 < s.size) : (bl s).head? = some 48 ↔ bn s 0 = 48 := by
  have hk : 0 < (bl s).length := by rw [bl_len]; exact h
  rw [bn_eq, List.getD, List.getElem?_eq_getElem hk, List.head?_eq_getElem?, List.getElem?_eq_getElem hk]
  simp only [Option.some.injEq, Option.getD_some]
  constructor
  · intro e; rw [e]; rfl
  · intro e; apply UInt8.toNat.inj; rw [e]; rfl
theorem cn_bn {s : ByteArray} (h : ∀ k, k < s.size → dB (bn s k)) (h0 : 0 < s.size) (h1 : ¬ (bn s 0 = 48 ∧ 1 < s.size)) : Cn (bl s) :=
  ⟨fun e => by have := bl_len s; rw [e] at this; simp at this; omega, alld_bn h, fun hl he => h1 ⟨(head_bn h0).1 he, by rw [← bl_len]; exact hl⟩⟩
theorem ncn_dig {s : ByteArray} {k : Nat} (hk : k < s.size) (h : ¬ dB (bn s k)) : ¬ Cn (bl s) := fun hc => h (bn_alld hc.2.1 hk)
theorem ncn_head {s : ByteArray} (h0 : 0 < s.size) (h1 : bn s 0 = 48) (h2 : 1 < s.size) : ¬ Cn (bl s) := fun hc => hc.2.2 (by rw [bl_len]; exact h2) ((head_bn h0).2 h1)
theorem ncn_nil {s : ByteArray} (h0 : s.size = 0) : ¬ Cn (bl s) := fun hc => hc.1 (List.length_eq_zero_iff.1 (by rw [bl_len]; exact h0))
set_option maxHeartbeats 2000000 in
theorem check_any (s : ByteArray) (w : World) :
    Calls Tryz.prog 111 #[.string s] w fun e w' => ∃ n, e = .returned (.int .i64 n) ∧ GE (bl s) n ∧ w = w' := by
  have HL := Lib.hid (bl_len s)
  by_cases hl : 2000 < s.size
  · have g1 : decide ((2000 : Int) < (s.size : Int)) = true := decide_eq_true (by omega)
    have g2 : decide (2000 < s.size) = true := decide_eq_true hl
    go_enter Tryz.func111, Tryz.ntmps111
    go_wp2
    go_ret
    exact ⟨2, rfl, .inl ⟨by rw [HL.out]; exact hl, rfl⟩, rfl⟩
  have g1 : decide ((2000 : Int) < (s.size : Int)) = false := decide_eq_false (by omega)
  have g2 : decide (2000 < s.size) = false := decide_eq_false hl
  have hl : s.size ≤ 2000 := by omega
  go_enter Tryz.func111, Tryz.ntmps111
  go_wp2
  go_loopw [3, 9] (fun _ i wr => ChR s w i wr) (fun _ i _ => s.size - (intOf i).toNat)
  case atStart => exact ⟨0, by omega, rfl, fun k hk => by omega, rfl⟩
  case round =>
    obtain ⟨m, hm, rfl, hd, rfl⟩ := hrel
    have HD := Lib.hid hd
    clear hd
    by_cases hml : m < s.size
    · have IX := ix_str hml
      have HB := Lib.hid (show ∀ n, n = bn s m → ¬ dB n → ¬ Cn (bl s) from fun n e h => ncn_dig hml (by rw [← e]; exact h))
      have HD2 := Lib.hid (show ∀ n, n = bn s m → dB n → ∀ k, k < m + 1 → dB (bn s k) from fun n e h k hk => by
        rcases Nat.lt_or_ge k m with h1 | h1
        · exact HD.out k h1
        · have : k = m := by omega
          subst this; rw [← e]; exact h)
      have hb := bn_lt s m
      obtain ⟨c, hc⟩ : ∃ c, c = bn s m := ⟨_, rfl⟩
      have HC := Lib.hid hc
      rw [← hc] at IX hb
      clear hc HD
      by_cases h1 : c < 48
      · have q1 : decide ((c : Int) < 48) = true := decide_eq_true (by omega)
        have q2 : decide (c < 48) = true := decide_eq_true h1
        go_wp2
        go_ret
        exact ⟨3, rfl, .inr (.inr ⟨by rw [HL.out]; omega, HB.out c HC.out (by unfold dB; omega), rfl⟩), rfl⟩
      · have q1 : decide ((c : Int) < 48) = false := decide_eq_false (by omega)
        have q2 : decide (c < 48) = false := decide_eq_false h1
        by_cases h2 : 57 < c
        · have q3 : decide ((57 : Int) < (c : Int)) = true := decide_eq_true (by omega)
          have q4 : decide (57 < c) = true := decide_eq_true h2
          go_wp2
          go_ret
          exact ⟨3, rfl, .inr (.inr ⟨by rw [HL.out]; omega, HB.out c HC.out (by unfold dB; omega), rfl⟩), rfl⟩
        · have q3 : decide ((57 : Int) < (c : Int)) = false := decide_eq_false (by omega)
          have q4 : decide (57 < c) = false := decide_eq_false h2
          go_wp2
          go_roundw
          case rel => exact ⟨m + 1, by omega, by go_num, HD2.out c HC.out (by unfold dB; omega), rfl⟩
          case measure => simp [intOf] <;> omega
    · obtain rfl : m = s.size := by omega
      by_cases h0 : s.size = 0
      · have hs : s = ⟨#[]⟩ := by
          apply bl_inj
          rw [List.length_eq_zero_iff.1 (show (bl s).length = 0 by rw [HL.out]; exact h0)]
          unfold bl; rfl
        have NC := Lib.hid (ncn_nil h0)
        subst hs
        go_wp2
        go_ret
        exact ⟨3, rfl, .inr (.inr ⟨by rw [HL.out]; omega, NC.out, rfl⟩), rfl⟩
      · have hp : 0 < s.size := by omega
        have e2 : ((s.size : Int) == 0) = false := by rw [beq_eq_false_iff_ne]; omega
        have e3 : (s.size == 0) = false := by rw [beq_eq_false_iff_ne]; omega
        have e1 : s.toList.isEmpty = false := by
          rw [Lib.toList_data]
          cases hh : s.data.toList with
          | nil => exact absurd (by rw [Lib.size_eq, hh]; rfl) h0
          | cons _ _ => rfl
        have IX := ix_str hp
        have HB := Lib.hid (ncn_head hp)
        have HG := Lib.hid (cn_bn HD.out hp)
        have hb := bn_lt s 0
        obtain ⟨c, hc⟩ : ∃ c, c = bn s 0 := ⟨_, rfl⟩
        have HC := Lib.hid hc
        rw [← hc] at IX hb HB HG
        rw [show ((0 : Nat) : Int) = 0 from rfl] at IX
        clear hc HD
        by_cases h1 : c = 48
        · have H48 := Lib.hid h1
          have q1 : ((c : Int) == 48) = true := by rw [beq_iff_eq]; omega
          have q2 : decide (c = 48) = true := decide_eq_true h1
          clear h1
          by_cases h2 : 1 < s.size
          · have q3 : decide ((1 : Int) < (s.size : Int)) = true := decide_eq_true (by omega)
            have q4 : decide (1 < s.size) = true := decide_eq_true h2
            go_wp2
            go_ret
            exact ⟨3, rfl, .inr (.inr ⟨by rw [HL.out]; omega, HB.out H48.out h2, rfl⟩), rfl⟩
          · have q3 : decide ((1 : Int) < (s.size : Int)) = false := decide_eq_false (by omega)
            have q4 : decide (1 < s.size) = false := decide_eq_false h2
            go_wp2
            go_ret
            exact ⟨0, rfl, .inr (.inl ⟨by rw [HL.out]; omega, HG.out (by omega), rfl⟩), rfl⟩
        · have q1 : ((c : Int) == 48) = false := by rw [beq_eq_false_iff_ne]; omega
          have q2 : decide (c = 48) = false := decide_eq_false h1
          go_wp2
          go_ret
          exact ⟨0, rfl, .inr (.inl ⟨by rw [HL.out]; omega, HG.out (by omega), rfl⟩), rfl⟩
set_option maxHeartbeats 2000000 in
theorem great_any (s : ByteArray) (w : World) :
    Calls Tryz.prog 44 #[.string s] w fun e w' => ∃ n, e = .returned (.int .i64 n) ∧ GE (bl s) n ∧ w = w' := by
  have HL := Lib.hid (bl_len s)
  by_cases hl : 2000 < s.size
  · have g1 : decide ((2000 : Int) < (s.size : Int)) = true := decide_eq_true (by omega)
    have g2 : decide (2000 < s.size) = true := decide_eq_true hl
    go_enter Tryz.func44, Tryz.ntmps44
    go_wp2
    go_ret
    exact ⟨2, rfl, .inl ⟨by rw [HL.out]; exact hl, rfl⟩, rfl⟩
  have g1 : decide ((2000 : Int) < (s.size : Int)) = false := decide_eq_false (by omega)
  have g2 : decide (2000 < s.size) = false := decide_eq_false hl
  have hl : s.size ≤ 2000 := by omega
  go_enter Tryz.func44, Tryz.ntmps44
  go_wp2
  go_loopw [3] (fun i wr => ChR s w i wr) (fun i _ => s.size - (intOf i).toNat)
  case atStart => exact ⟨0, by omega, rfl, fun k hk => by omega, rfl⟩
  case round =>
    obtain ⟨m, hm, rfl, hd, rfl⟩ := hrel
    have HD := Lib.hid hd
    clear hd
    by_cases hml : m < s.size
    · have IX := ix_str hml
      have HB := Lib.hid (show ∀ n, n = bn s m → ¬ dB n → ¬ Cn (bl s) from fun n e h => ncn_dig hml (by rw [← e]; exact h))
      have HD2 := Lib.hid (show ∀ n, n = bn s m → dB n → ∀ k, k < m + 1 → dB (bn s k) from fun n e h k hk => by
        rcases Nat.lt_or_ge k m with h1 | h1
        · exact HD.out k h1
        · have : k = m := by omega
          subst this; rw [← e]; exact h)
      have hb := bn_lt s m
      obtain ⟨c, hc⟩ : ∃ c, c = bn s m := ⟨_, rfl⟩
      have HC := Lib.hid hc
      rw [← hc] at IX hb
      clear hc HD
      by_cases h1 : c < 48
      · have q1 : decide ((c : Int) < 48) = true := decide_eq_true (by omega)
        have q2 : decide (c < 48) = true := decide_eq_true h1
        go_wp2
        go_ret
        exact ⟨3, rfl, .inr (.inr ⟨by rw [HL.out]; omega, HB.out c HC.out (by unfold dB; omega), rfl⟩), rfl⟩
      · have q1 : decide ((c : Int) < 48) = false := decide_eq_false (by omega)
        have q2 : decide (c < 48) = false := decide_eq_false h1
        by_cases h2 : 57 < c
        · have q3 : decide ((57 : Int) < (c : Int)) = true := decide_eq_true (by omega)
          have q4 : decide (57 < c) = true := decide_eq_true h2
          go_wp2
          go_ret
          exact ⟨3, rfl, .inr (.inr ⟨by rw [HL.out]; omega, HB.out c HC.out (by unfold dB; omega), rfl⟩), rfl⟩
        · have q3 : decide ((57 : Int) < (c : Int)) = false := decide_eq_false (by omega)
          have q4 : decide (57 < c) = false := decide_eq_false h2
          go_wp2
          go_roundw
          case rel => exact ⟨m + 1, by omega, by go_num, HD2.out c HC.out (by unfold dB; omega), rfl⟩
          case measure => simp [intOf] <;> omega
    · obtain rfl : m = s.size := by omega
      by_cases h0 : s.size = 0
      · have hs : s = ⟨#[]⟩ := by
          apply bl_inj
          rw [List.length_eq_zero_iff.1 (show (bl s).length = 0 by rw [HL.out]; exact h0)]
          unfold bl; rfl
        have NC := Lib.hid (ncn_nil h0)
        subst hs
        go_wp2
        go_ret
        exact ⟨3, rfl, .inr (.inr ⟨by rw [HL.out]; omega, NC.out, rfl⟩), rfl⟩
      · have hp : 0 < s.size := by omega
        have e2 : ((s.size : Int) == 0) = false := by rw [beq_eq_false_iff_ne]; omega
        have e3 : (s.size == 0) = false := by rw [beq_eq_false_iff_ne]; omega
        have e1 : s.toList.isEmpty = false := by
          rw [Lib.toList_data]
          cases hh : s.data.toList with
          | nil => exact absurd (by rw [Lib.size_eq, hh]; rfl) h0
          | cons _ _ => rfl
        have IX := ix_str hp
        have HB := Lib.hid (ncn_head hp)
        have HG := Lib.hid (cn_bn HD.out hp)
        have hb := bn_lt s 0
        obtain ⟨c, hc⟩ : ∃ c, c = bn s 0 := ⟨_, rfl⟩
        have HC := Lib.hid hc
        rw [← hc] at IX hb HB HG
        rw [show ((0 : Nat) : Int) = 0 from rfl] at IX
        clear hc HD
        by_cases h1 : c = 48
        · have H48 := Lib.hid h1
          have q1 : ((c : Int) == 48) = true := by rw [beq_iff_eq]; omega
          have q2 : decide (c = 48) = true := decide_eq_true h1
          clear h1
          by_cases h2 : 1 < s.size
          · have q3 : decide ((1 : Int) < (s.size : Int)) = true := decide_eq_true (by omega)
            have q4 : decide (1 < s.size) = true := decide_eq_true h2
            go_wp2
            go_ret
            exact ⟨3, rfl, .inr (.inr ⟨by rw [HL.out]; omega, HB.out H48.out h2, rfl⟩), rfl⟩
          · have q3 : decide ((1 : Int) < (s.size : Int)) = false := decide_eq_false (by omega)
            have q4 : decide (1 < s.size) = false := decide_eq_false h2
            go_wp2
            go_ret
            exact ⟨0, rfl, .inr (.inl ⟨by rw [HL.out]; omega, HG.out (by omega), rfl⟩), rfl⟩
        · have q1 : ((c : Int) == 48) = false := by rw [beq_eq_false_iff_ne]; omega
          have q2 : decide (c = 48) = false := decide_eq_false h1
          by_cases h2 : 1 < s.size
          · have q3 : decide ((1 : Int) < (s.size : Int)) = true := decide_eq_true (by omega)
            have q4 : decide (1 < s.size) = true := decide_eq_true h2
            go_wp2
            go_ret
            exact ⟨0, rfl, .inr (.inl ⟨by rw [HL.out]; omega, HG.out (by omega), rfl⟩), rfl⟩
          · have q3 : decide ((1 : Int) < (s.size : Int)) = false := decide_eq_false (by omega)
            have q4 : decide (1 < s.size) = false := decide_eq_false h2
            go_wp2
            go_ret
            exact ⟨0, rfl, .inr (.inl ⟨by rw [HL.out]; omega, HG.out (by omega), rfl⟩), rfl⟩
theorem ge_uniq {l : List UInt8} {n m : Int} (h : GE l n) (k : GE l m) : n = m := by
  rcases h with ⟨h1, rfl⟩ | ⟨h1, h2, rfl⟩ | ⟨h1, h2, rfl⟩ <;> rcases k with ⟨k1, rfl⟩ | ⟨k1, k2, rfl⟩ | ⟨k1, k2, rfl⟩
  · rfl
  · omega
  · omega
  · omega
  · rfl
  · exact absurd h2 k2
  · omega
  · exact absurd k2 h2
  · rfl
theorem check_is (s : ByteArray) (n : Int) (h : GE (bl s) n) (w : World) : Calls Tryz.prog 111 #[.string s] w fun e w' => e = .returned (.int .i64 n) ∧ w = w' :=
  (check_any s w).mono fun e w' ⟨m, he, hm, hw⟩ => ⟨by rw [he, ge_uniq hm h], hw⟩
theorem great_is (s : ByteArray) (n : Int) (h : GE (bl s) n) (w : World) : Calls Tryz.prog 44 #[.string s] w fun e w' => e = .returned (.int .i64 n) ∧ w = w' :=
  (great_any s w).mono fun e w' ⟨m, he, hm, hw⟩ => ⟨by rw [he, ge_uniq hm h], hw⟩
/-- both texts: the first one's fault ahead -/
def GB (l r : List UInt8) (n : Int) : Prop := (n ≠ 0 ∧ GE l n) ∨ (GE l 0 ∧ GE r n)
theorem gb_ex (l r : List UInt8) : ∃ n, GB l r n := by
  obtain ⟨n, hn⟩ := ge_ex l
  by_cases h : n = 0
  · subst h
    obtain ⟨m, hm⟩ := ge_ex r
    exact ⟨m, .inr ⟨hn, hm⟩⟩
  · exact ⟨n, .inl ⟨h, hn⟩⟩
theorem GB.zero {l r : List UInt8} (h : GB l r 0) : GE l 0 ∧ GE r 0 := by
  rcases h with ⟨h, _⟩ | h
  · exact absurd rfl h
  · exact h
theorem both_is (s t : ByteArray) (n : Int) (h : GB (bl s) (bl t) n) (w : World) : Calls Tryz.prog 93 #[.string s, .string t] w fun e w' => e = .returned (.int .i64 n) ∧ w = w' := by
  rcases h with ⟨hn, h⟩ | ⟨h0, h⟩
  · have C1 := Lib.hid (check_is s n h)
    have hn0 : (n == 0) = false := by rw [beq_eq_false_iff_ne]; exact hn
    go_enter Tryz.func93, Tryz.ntmps93
    go_wp2_with fail
    refine (C1.out _).mono ?_
    rintro e w1 ⟨rfl, rfl⟩
    go_wp2
    go_ret
    exact ⟨rfl, rfl⟩
  · have C1 := Lib.hid (check_is s 0 h0)
    have C2 := Lib.hid (check_is t n h)
    go_enter Tryz.func93, Tryz.ntmps93
    go_wp2_with fail
    refine (C1.out _).mono ?_
    rintro e w1 ⟨rfl, rfl⟩
    go_wp2_with fail
    refine (C2.out _).mono ?_
    rintro e w1 ⟨rfl, rfl⟩
    go_wp2
    go_ret
    exact ⟨rfl, rfl⟩
end Go.Proofs.YtdhmmllpldjkbaaGreatDoor.Gm
