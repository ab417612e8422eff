/- The walk of the law BigSays. -/
import Derived.Test.YtoekgcgglkphgaaDoorBl
import Derived.Test.YtoekgcgglkphgaaDoorBq
namespace Go.Proofs.YtoekgcgglkphgaaDoor.Gm
open Go.RowKit
set_option linter.unusedVariables false
/-- the texts' order where the lengths are the same -/
theorem less_nv (l r : List UInt8) (hl : AllD l) (hr : AllD r) (hn : l.length = r.length) : Op.bytesLess l r = decide (nv l < nv r) := by
  induction l generalizing r with
  | nil => cases r with
    | nil => simp [Op.bytesLess, nv]
    | cons => cases hn
  | cons b l ih => cases r with
    | nil => cases hn
    | cons c r =>
      have hn' : l.length = r.length := by simpa using hn
      have hl' : AllD l := fun x hx => hl x (List.mem_cons_of_mem _ hx)
      have hr' : AllD r := fun x hx => hr x (List.mem_cons_of_mem _ hx)
      have hb := hl b (List.mem_cons_self ..)
      have hc := hr c (List.mem_cons_self ..)
      have ih := ih r hl' hr' hn'
      have n1 : b.toNat < c.toNat → nv (b :: l) < nv (c :: r) := nv_lex hb hc hl' hr' hn'
      have n2 : c.toNat < b.toNat → nv (c :: r) < nv (b :: l) := nv_lex hc hb hr' hl' hn'.symm
      have n3 : b = c → (nv (b :: l) < nv (c :: r) ↔ nv l < nv r) := fun e => by
        subst e; simp only [nv, hn']; omega
      simp only [Op.bytesLess]
      by_cases h1 : b.toNat < c.toNat
      · have e := n1 h1
        have h1' : b < c := UInt8.lt_iff_toNat_lt.2 h1
        simp [h1', e]
      · by_cases h2 : c.toNat < b.toNat
        · have e := n2 h2
          have h1' : ¬ b < c := fun h => h1 (UInt8.lt_iff_toNat_lt.1 h)
          have h3 : ¬ b = c := fun h => by rw [h] at h2; omega
          have e' : ¬ nv (b :: l) < nv (c :: r) := by omega
          simp [h1', h3, e']
        · have h3 : b = c := UInt8.toNat.inj (by omega)
          have h1' : ¬ b < c := fun h => h1 (UInt8.lt_iff_toNat_lt.1 h)
          rw [ih]
          have := n3 h3
          simp only [this]
          simp [h3]
set_option maxHeartbeats 8000000 in
set_option maxRecDepth 100000 in
theorem bs_err (s t : ByteArray) (n1 n : Int) (h1 : GE (bl s) n1) (h : GB (bl s) (bl t) n) (hn : n ≠ 0) (w : World) : Calls Tryd.prog 5 #[.string s, .string t] w (RetV w (.bool true)) := by
  have D1 := Lib.hid (cmp_err s t n h hn)
  have D2 := Lib.hid (add_err s t n h hn)
  have D3 := Lib.hid (mul_err s t n h hn)
  have f1 : (n == 0) = false := by rw [beq_eq_false_iff_ne]; exact hn
  rcases h with ⟨_, h⟩ | ⟨h0, h⟩
  · obtain rfl := ge_uniq h1 h
    have C1 := Lib.hid (great_is s n1 h)
    have C2 := Lib.hid (check_is s n1 h)
    clear h1 h hn
    go_enter Tryd.func5, Tryd.ntmps5
    go_wp2_with fail
    refine (C1.out _).mono ?_
    rintro e w' ⟨rfl, rfl⟩
    go_wp2_with fail
    refine (C2.out _).mono ?_
    rintro e w' ⟨rfl, rfl⟩
    go_wp2_with fail
    refine (D1.out _).mono ?_
    rintro e w' ⟨rfl, rfl⟩
    go_wp2_with fail
    refine (D2.out _).mono ?_
    rintro e w' ⟨rfl, rfl⟩
    go_wp2_with fail
    refine (D3.out _).mono ?_
    rintro e w' ⟨rfl, rfl⟩
    go_wp2
    go_ret
    exact ⟨rfl, Below.refl _ _⟩
  · obtain rfl := ge_uniq h1 h0
    have C1 := Lib.hid (great_is s 0 h0)
    have C2 := Lib.hid (check_is s 0 h0)
    have C3 := Lib.hid (great_is t n h)
    clear h1 h hn h0
    go_enter Tryd.func5, Tryd.ntmps5
    go_wp2_with fail
    refine (C1.out _).mono ?_
    rintro e w' ⟨rfl, rfl⟩
    go_wp2_with fail
    refine (C2.out _).mono ?_
    rintro e w' ⟨rfl, rfl⟩
    go_wp2_with fail
    refine (C3.out _).mono ?_
    rintro e w' ⟨rfl, rfl⟩
    go_wp2_with fail
    refine (D1.out _).mono ?_
    rintro e w' ⟨rfl, rfl⟩
    go_wp2_with fail
    refine (D2.out _).mono ?_
    rintro e w' ⟨rfl, rfl⟩
    go_wp2_with fail
    refine (D3.out _).mono ?_
    rintro e w' ⟨rfl, rfl⟩
    go_wp2
    go_ret
    exact ⟨rfl, Below.refl _ _⟩
set_option maxHeartbeats 8000000 in
set_option maxRecDepth 100000 in
theorem bs_ok (s t : ByteArray) (hs : GE (bl s) 0) (ht : GE (bl t) 0) (w : World) (hT : Tp w) (hTb : Tb w) : Calls Tryd.prog 5 #[.string s, .string t] w (RetV w (.bool true)) := by
  have TP := Lib.hid hT
  have TB := Lib.hid hTb
  have GS := Lib.hid hs
  have GT := Lib.hid ht
  have C1 := Lib.hid (great_is s 0 hs)
  have C2 := Lib.hid (check_is s 0 hs)
  have C3 := Lib.hid (great_is t 0 ht)
  have l1 : s.size ≤ 2000 := by rw [← bl_len]; exact hs.zero.2
  have l2 : t.size ≤ 2000 := by rw [← bl_len]; exact ht.zero.2
  have S1 := Lib.hid (fun w hT => gsum_ok s t hs.zero.1 ht.zero.1 l1 l2 w hT)
  have S2 := Lib.hid (gprod_ok s t hs.zero.1 ht.zero.1 l1 l2)
  have D1 := Lib.hid (cmp_ok s t hs ht)
  have D2 := Lib.hid (fun w hT => add_ok s t hs ht w hT)
  have D3 := Lib.hid (fun w hT hB => mul_ok s t hs ht w hT hB)
  have BLS : s.size = t.size → Op.bytesLess s.toList t.toList = decide (nv (bl s) < nv (bl t)) := fun h => by
    rw [Lib.toList_data, Lib.toList_data]
    have := less_nv (bl s) (bl t) hs.zero.1.2.1 ht.zero.1.2.1 (by rw [bl_len, bl_len, h])
    unfold bl at this ⊢
    exact this
  have LT1 : s.size < t.size → nv (bl s) < nv (bl t) := fun h => hs.zero.1.len_lt ht.zero.1 (by rw [bl_len, bl_len]; exact h)
  have LT2 : t.size < s.size → nv (bl t) < nv (bl s) := fun h => ht.zero.1.len_lt hs.zero.1 (by rw [bl_len, bl_len]; exact h)
  have EQN : nv (bl s) = nv (bl t) → s = t := fun h => txt_eq hs.zero.1 ht.zero.1 h
  clear hs ht hT hTb
  by_cases z1 : s.size < t.size
  · rw [sg_lt (LT1 z1)] at D1
    have g1 : decide ((s.size : Int) < (t.size : Int)) = true := decide_eq_true (by omega)
    have g2 : decide (s.size < t.size) = true := decide_eq_true (by omega)
    have g3 : ((s.size : Int) == (t.size : Int)) = false := by rw [beq_eq_false_iff_ne]; omega
    have g4 : (s.size == t.size) = false := by rw [beq_eq_false_iff_ne]; omega
    clear BLS LT1 LT2 EQN
    go_enter Tryd.func5, Tryd.ntmps5
    go_wp2_with fail
    refine (C1.out _).mono ?_
    rintro e w' ⟨rfl, rfl⟩
    go_wp2_with fail
    refine (C2.out _).mono ?_
    rintro e w' ⟨rfl, rfl⟩
    go_wp2_with fail
    refine (C3.out _).mono ?_
    rintro e w' ⟨rfl, rfl⟩
    go_wp2_with fail
    refine (S1.out _ TP.out).mono ?_
    rintro e w1 ⟨u1, rfl, hu, hn, hb⟩
    have U1 := Lib.hid hu
    have N1 := Lib.hid hn
    have B1 := Lib.hid hb
    have hs1 := hb.size
    clear hu hn hb S1
    go_wp2_with fail
    refine (S2.out _).mono ?_
    rintro e w2 ⟨u2, rfl, hu, hn, hb⟩
    have U2 := Lib.hid hu
    have N2 := Lib.hid hn
    have B2 := Lib.hid (B1.out.trans (hb.mono hs1))
    have hs2 := B2.out.size
    clear hu hn hb S2 B1
    go_wp2_with fail
    refine (D1.out _).mono ?_
    rintro e w' ⟨rfl, rfl⟩
    go_wp2_with fail
    refine (D2.out _ (TP.out.below B2.out)).mono ?_
    rintro e w3 ⟨u3, rfl, hu, hn, hb⟩
    obtain rfl := (txt_eq hu U1.out (by rw [hn, N1.out])).symm
    have B3 := Lib.hid (B2.out.trans (hb.mono hs2))
    have hs3 := B3.out.size
    clear hu hn hb D2 B2
    go_wp2_with fail
    refine (D3.out _ (TP.out.below B3.out) (TB.out.below B3.out)).mono ?_
    rintro e w4 ⟨u4, rfl, hu, hn, hb⟩
    obtain rfl := (txt_eq hu U2.out (by rw [hn, N2.out])).symm
    have B4 := Lib.hid (B3.out.trans (hb.mono hs3))
    clear hu hn hb D3 B3
    go_wp2
    go_ret
    exact ⟨rfl, B4.out⟩
  by_cases z2 : t.size < s.size
  · rw [sg_gt (LT2 z2)] at D1
    have g1 : decide ((s.size : Int) < (t.size : Int)) = false := decide_eq_false (by omega)
    have g2 : decide (s.size < t.size) = false := decide_eq_false (by omega)
    have g3 : ((s.size : Int) == (t.size : Int)) = false := by rw [beq_eq_false_iff_ne]; omega
    have g4 : (s.size == t.size) = false := by rw [beq_eq_false_iff_ne]; omega
    have g5 : (s.toList == t.toList) = false := by
      rw [beq_eq_false_iff_ne, Lib.toList_data, Lib.toList_data]
      intro e
      have e2 : s = t := bl_inj (by unfold bl; exact e)
      rw [e2] at z2; omega
    clear BLS LT1 LT2 EQN
    go_enter Tryd.func5, Tryd.ntmps5
    go_wp2_with fail
    refine (C1.out _).mono ?_
    rintro e w' ⟨rfl, rfl⟩
    go_wp2_with fail
    refine (C2.out _).mono ?_
    rintro e w' ⟨rfl, rfl⟩
    go_wp2_with fail
    refine (C3.out _).mono ?_
    rintro e w' ⟨rfl, rfl⟩
    go_wp2_with fail
    refine (S1.out _ TP.out).mono ?_
    rintro e w1 ⟨u1, rfl, hu, hn, hb⟩
    have U1 := Lib.hid hu
    have N1 := Lib.hid hn
    have B1 := Lib.hid hb
    have hs1 := hb.size
    clear hu hn hb S1
    go_wp2_with fail
    refine (S2.out _).mono ?_
    rintro e w2 ⟨u2, rfl, hu, hn, hb⟩
    have U2 := Lib.hid hu
    have N2 := Lib.hid hn
    have B2 := Lib.hid (B1.out.trans (hb.mono hs1))
    have hs2 := B2.out.size
    clear hu hn hb S2 B1
    go_wp2_with fail
    refine (D1.out _).mono ?_
    rintro e w' ⟨rfl, rfl⟩
    go_wp2_with fail
    refine (D2.out _ (TP.out.below B2.out)).mono ?_
    rintro e w3 ⟨u3, rfl, hu, hn, hb⟩
    obtain rfl := (txt_eq hu U1.out (by rw [hn, N1.out])).symm
    have B3 := Lib.hid (B2.out.trans (hb.mono hs2))
    have hs3 := B3.out.size
    clear hu hn hb D2 B2
    go_wp2_with fail
    refine (D3.out _ (TP.out.below B3.out) (TB.out.below B3.out)).mono ?_
    rintro e w4 ⟨u4, rfl, hu, hn, hb⟩
    obtain rfl := (txt_eq hu U2.out (by rw [hn, N2.out])).symm
    have B4 := Lib.hid (B3.out.trans (hb.mono hs3))
    clear hu hn hb D3 B3
    go_wp2
    go_ret
    exact ⟨rfl, B4.out⟩
  have z3 : s.size = t.size := by omega
  have BL := BLS z3
  have g1 : decide ((s.size : Int) < (t.size : Int)) = false := decide_eq_false (by omega)
  have g2 : decide (s.size < t.size) = false := decide_eq_false (by omega)
  have g3 : ((s.size : Int) == (t.size : Int)) = true := by rw [beq_iff_eq]; omega
  have g4 : (s.size == t.size) = true := by rw [beq_iff_eq]; omega
  by_cases y1 : nv (bl s) < nv (bl t)
  · rw [sg_lt y1] at D1
    rw [decide_eq_true y1] at BL
    clear BLS LT1 LT2 EQN
    go_enter Tryd.func5, Tryd.ntmps5
    go_wp2_with fail
    refine (C1.out _).mono ?_
    rintro e w' ⟨rfl, rfl⟩
    go_wp2_with fail
    refine (C2.out _).mono ?_
    rintro e w' ⟨rfl, rfl⟩
    go_wp2_with fail
    refine (C3.out _).mono ?_
    rintro e w' ⟨rfl, rfl⟩
    go_wp2_with fail
    refine (S1.out _ TP.out).mono ?_
    rintro e w1 ⟨u1, rfl, hu, hn, hb⟩
    have U1 := Lib.hid hu
    have N1 := Lib.hid hn
    have B1 := Lib.hid hb
    have hs1 := hb.size
    clear hu hn hb S1
    go_wp2_with fail
    refine (S2.out _).mono ?_
    rintro e w2 ⟨u2, rfl, hu, hn, hb⟩
    have U2 := Lib.hid hu
    have N2 := Lib.hid hn
    have B2 := Lib.hid (B1.out.trans (hb.mono hs1))
    have hs2 := B2.out.size
    clear hu hn hb S2 B1
    go_wp2_with fail
    refine (D1.out _).mono ?_
    rintro e w' ⟨rfl, rfl⟩
    go_wp2_with fail
    refine (D2.out _ (TP.out.below B2.out)).mono ?_
    rintro e w3 ⟨u3, rfl, hu, hn, hb⟩
    obtain rfl := (txt_eq hu U1.out (by rw [hn, N1.out])).symm
    have B3 := Lib.hid (B2.out.trans (hb.mono hs2))
    have hs3 := B3.out.size
    clear hu hn hb D2 B2
    go_wp2_with fail
    refine (D3.out _ (TP.out.below B3.out) (TB.out.below B3.out)).mono ?_
    rintro e w4 ⟨u4, rfl, hu, hn, hb⟩
    obtain rfl := (txt_eq hu U2.out (by rw [hn, N2.out])).symm
    have B4 := Lib.hid (B3.out.trans (hb.mono hs3))
    clear hu hn hb D3 B3
    go_wp2
    go_ret
    exact ⟨rfl, B4.out⟩
  rw [decide_eq_false y1] at BL
  by_cases y2 : nv (bl s) = nv (bl t)
  · rw [sg_eq y2] at D1
    have g5 : (s.toList == t.toList) = true := by rw [EQN y2]; exact beq_self_eq_true _
    clear BLS LT1 LT2 EQN
    go_enter Tryd.func5, Tryd.ntmps5
    go_wp2_with fail
    refine (C1.out _).mono ?_
    rintro e w' ⟨rfl, rfl⟩
    go_wp2_with fail
    refine (C2.out _).mono ?_
    rintro e w' ⟨rfl, rfl⟩
    go_wp2_with fail
    refine (C3.out _).mono ?_
    rintro e w' ⟨rfl, rfl⟩
    go_wp2_with fail
    refine (S1.out _ TP.out).mono ?_
    rintro e w1 ⟨u1, rfl, hu, hn, hb⟩
    have U1 := Lib.hid hu
    have N1 := Lib.hid hn
    have B1 := Lib.hid hb
    have hs1 := hb.size
    clear hu hn hb S1
    go_wp2_with fail
    refine (S2.out _).mono ?_
    rintro e w2 ⟨u2, rfl, hu, hn, hb⟩
    have U2 := Lib.hid hu
    have N2 := Lib.hid hn
    have B2 := Lib.hid (B1.out.trans (hb.mono hs1))
    have hs2 := B2.out.size
    clear hu hn hb S2 B1
    go_wp2_with fail
    refine (D1.out _).mono ?_
    rintro e w' ⟨rfl, rfl⟩
    go_wp2_with fail
    refine (D2.out _ (TP.out.below B2.out)).mono ?_
    rintro e w3 ⟨u3, rfl, hu, hn, hb⟩
    obtain rfl := (txt_eq hu U1.out (by rw [hn, N1.out])).symm
    have B3 := Lib.hid (B2.out.trans (hb.mono hs2))
    have hs3 := B3.out.size
    clear hu hn hb D2 B2
    go_wp2_with fail
    refine (D3.out _ (TP.out.below B3.out) (TB.out.below B3.out)).mono ?_
    rintro e w4 ⟨u4, rfl, hu, hn, hb⟩
    obtain rfl := (txt_eq hu U2.out (by rw [hn, N2.out])).symm
    have B4 := Lib.hid (B3.out.trans (hb.mono hs3))
    clear hu hn hb D3 B3
    go_wp2
    go_ret
    exact ⟨rfl, B4.out⟩
  · rw [sg_gt (by omega)] at D1
    have g5 : (s.toList == t.toList) = false := by
      rw [beq_eq_false_iff_ne, Lib.toList_data, Lib.toList_data]
      intro e
      have e2 : s = t := bl_inj (by unfold bl; exact e)
      exact y2 (by rw [e2])
    clear BLS LT1 LT2 EQN
    go_enter Tryd.func5, Tryd.ntmps5
    go_wp2_with fail
    refine (C1.out _).mono ?_
    rintro e w' ⟨rfl, rfl⟩
    go_wp2_with fail
    refine (C2.out _).mono ?_
    rintro e w' ⟨rfl, rfl⟩
    go_wp2_with fail
    refine (C3.out _).mono ?_
    rintro e w' ⟨rfl, rfl⟩
    go_wp2_with fail
    refine (S1.out _ TP.out).mono ?_
    rintro e w1 ⟨u1, rfl, hu, hn, hb⟩
    have U1 := Lib.hid hu
    have N1 := Lib.hid hn
    have B1 := Lib.hid hb
    have hs1 := hb.size
    clear hu hn hb S1
    go_wp2_with fail
    refine (S2.out _).mono ?_
    rintro e w2 ⟨u2, rfl, hu, hn, hb⟩
    have U2 := Lib.hid hu
    have N2 := Lib.hid hn
    have B2 := Lib.hid (B1.out.trans (hb.mono hs1))
    have hs2 := B2.out.size
    clear hu hn hb S2 B1
    go_wp2_with fail
    refine (D1.out _).mono ?_
    rintro e w' ⟨rfl, rfl⟩
    go_wp2_with fail
    refine (D2.out _ (TP.out.below B2.out)).mono ?_
    rintro e w3 ⟨u3, rfl, hu, hn, hb⟩
    obtain rfl := (txt_eq hu U1.out (by rw [hn, N1.out])).symm
    have B3 := Lib.hid (B2.out.trans (hb.mono hs2))
    have hs3 := B3.out.size
    clear hu hn hb D2 B2
    go_wp2_with fail
    refine (D3.out _ (TP.out.below B3.out) (TB.out.below B3.out)).mono ?_
    rintro e w4 ⟨u4, rfl, hu, hn, hb⟩
    obtain rfl := (txt_eq hu U2.out (by rw [hn, N2.out])).symm
    have B4 := Lib.hid (B3.out.trans (hb.mono hs3))
    clear hu hn hb D3 B3
    go_wp2
    go_ret
    exact ⟨rfl, B4.out⟩
theorem wBigSays (s t : ByteArray) (w : World) (hT : Tp w) (hTb : Tb w) : Calls Tryd.prog 5 #[.string s, .string t] w (RetV w (.bool true)) := by
  obtain ⟨n1, h1⟩ := ge_ex (bl s)
  by_cases z1 : n1 = 0
  · subst z1
    obtain ⟨n2, h2⟩ := ge_ex (bl t)
    by_cases z2 : n2 = 0
    · subst z2
      exact bs_ok s t h1 h2 w hT hTb
    · exact bs_err s t 0 n2 h1 (.inr ⟨h1, h2⟩) z2 w
  · exact bs_err s t n1 n1 h1 (.inl ⟨z1, h1⟩) z1 w
end Go.Proofs.YtoekgcgglkphgaaDoor.Gm
