/- The walk of the law DeskCounts. (Printed by wip/mk_dkv.py.) -/
import Derived.Test.YtdhmmllpldjkbaaGreatDoorDku
namespace Go.Proofs.YtdhmmllpldjkbaaGreatDoor.Gm
open Go.RowKit
set_option linter.unusedVariables false
/-- so many of the first k lines ask for an answer -/
@[irreducible] def cntA (ls : List (List UInt8)) (k : Nat) : Nat := ((ls.take k).filter actL).length
theorem cntA_zero (ls : List (List UInt8)) : cntA ls 0 = 0 := by unfold cntA; rfl
theorem cntA_yes {ls : List (List UInt8)} {k : Nat} {x : List UInt8} (h : ls[k]? = some x) (ha : actL x = true) : cntA ls (k + 1) = cntA ls k + 1 := by
  obtain ⟨h1, h2⟩ := List.getElem?_eq_some_iff.1 h
  unfold cntA
  rw [List.take_succ_eq_append_getElem h1, h2, List.filter_append, List.filter_cons_of_pos ha, List.filter_nil, List.length_append]
  rfl
theorem cntA_no {ls : List (List UInt8)} {k : Nat} {x : List UInt8} (h : ls[k]? = some x) (ha : actL x = false) : cntA ls (k + 1) = cntA ls k := by
  obtain ⟨h1, h2⟩ := List.getElem?_eq_some_iff.1 h
  unfold cntA
  rw [List.take_succ_eq_append_getElem h1, h2, List.filter_append, List.filter_cons_of_neg (by rw [ha]; decide), List.filter_nil, List.append_nil]
theorem cntA_le (ls : List (List UInt8)) (k : Nat) : cntA ls k ≤ k := by
  unfold cntA
  have h1 := List.length_filter_le actL (ls.take k)
  rw [List.length_take] at h1
  omega
theorem count_ge (O : List UInt8 → ByteArray) (ls : List (List UInt8)) : ∀ k, k ≤ ls.length → cntA ls k ≤ (ouL O ls k).count 10
  | 0, _ => by rw [cntA_zero]; exact Nat.zero_le _
  | k + 1, hk => by
    have ih := count_ge O ls k (by omega)
    have hx : ls[k]? = some ls[k] := List.getElem?_eq_getElem (by omega)
    rw [ouL_succ O ls hx, List.count_append]
    by_cases ha : actL ls[k] = true
    · rw [cntA_yes hx ha, pcO_yes ha, List.count_append]
      have e1 : ([10] : List UInt8).count 10 = 1 := by decide
      omega
    · rw [cntA_no hx (by simpa using ha)]
      omega
theorem last_10 (O : List UInt8 → ByteArray) (ls : List (List UInt8)) : ∀ k, k ≤ ls.length → ouL O ls k = [] ∨ (ouL O ls k).getLast? = some 10
  | 0, _ => .inl (ouL_zero O ls)
  | k + 1, hk => by
    have ih := last_10 O ls k (by omega)
    have hx : ls[k]? = some ls[k] := List.getElem?_eq_getElem (by omega)
    rw [ouL_succ O ls hx]
    by_cases ha : actL ls[k] = true
    · right
      rw [pcO_yes ha, ← List.append_assoc, List.getLast?_append]
      rfl
    · rw [pcO_no (by simpa using ha), List.append_nil]
      exact ih
theorem end_10 {s : ByteArray} {l : List UInt8} (h : bl s = l) (hl : l = [] ∨ l.getLast? = some 10) (h0 : 0 < s.size) : bn s (s.size - 1) = 10 := by
  have hz := bl_len s
  rcases hl with hl | hl
  · rw [h, hl, List.length_nil] at hz; omega
  · rw [bn_eq, List.getD_eq_getElem?_getD, ← bl_len, h]
    rw [List.getLast?_eq_getElem?] at hl
    rw [hl]
    rfl
def CtR (lns : List (List UInt8)) (n : Nat) (w3 : World) (v4 vi : Value) (wr : World) : Prop :=
  ∃ k : Nat, k ≤ n ∧ vi = .int .i64 k ∧ v4 = .int .i64 (cntA lns k : Int) ∧ Below w3.heap.size w3 wr
set_option maxHeartbeats 8000000 in
set_option maxRecDepth 100000 in
theorem dc_bad1 (t : ByteArray) (hz : t.size ≤ 4000000) (h6 : 65536 < t.size) (W : World) (HP : Tp W) (HT : Tb W) (HM : Mx W) :
    Calls Tryz.prog 4 #[.string t] W fun e W' => e = .returned (.bool true) ∧ Below W.heap.size W W' := by
  have C0 := Lib.hid (run_c0 W HP HT HM)
  have C1 := Lib.hid (fun w hM => run_bad t (by omega) (.inl h6) w hM)
  have MX := Lib.hid HM
  have g1 : decide ((65536 : Int) < (t.size : Int)) = true := decide_eq_true (by omega)
  have g2 : decide (65536 < t.size) = true := decide_eq_true h6
  clear HP HT HM
  go_enter Tryz.func4, Tryz.ntmps4
  go_wp2_with fail
  refine C0.out.mono ?_
  rintro e w1 ⟨rfl, hb⟩
  have B1 := Lib.hid hb
  have hs1 := hb.size
  clear hb
  go_wp2_with fail
  refine (C1.out _ (MX.out.below B1.out)).mono ?_
  rintro e w2 ⟨rfl, hb⟩
  have B2 := Lib.hid (B1.out.trans (hb.mono hs1))
  clear hb
  go_wp2
  go_ret
  exact ⟨rfl, B2.out⟩
set_option maxHeartbeats 8000000 in
set_option maxRecDepth 100000 in
theorem dc_bad2 (t : ByteArray) (h6 : t.size ≤ 65536) (h7 : 200 < (lnsOf (bl t)).length) (W : World) (HP : Tp W) (HT : Tb W) (HM : Mx W) :
    Calls Tryz.prog 4 #[.string t] W fun e W' => e = .returned (.bool true) ∧ Below W.heap.size W W' := by
  have C0 := Lib.hid (run_c0 W HP HT HM)
  have C1 := Lib.hid (fun w hM => run_bad t (by omega) (.inr h7) w hM)
  have TL := Lib.hid (fun w => tlines_any t w (by omega))
  have MX := Lib.hid HM
  have H7 := Lib.hid h7
  have g1 : decide ((65536 : Int) < (t.size : Int)) = false := decide_eq_false (by omega)
  have g2 : decide (65536 < t.size) = false := decide_eq_false (by omega)
  clear HP HT HM h7
  go_enter Tryz.func4, Tryz.ntmps4
  go_wp2_with fail
  refine C0.out.mono ?_
  rintro e w1 ⟨rfl, hb⟩
  have B1 := Lib.hid hb
  have hs1 := hb.size
  clear hb
  go_wp2_with fail
  refine (C1.out _ (MX.out.below B1.out)).mono ?_
  rintro e w2 ⟨rfl, hb⟩
  have B2 := Lib.hid (B1.out.trans (hb.mono hs1))
  have hs2 := B2.out.size
  clear hb
  go_wp2_with fail
  refine (TL.out _).mono ?_
  rintro e w3 ⟨v, ls, rfl, hrs, hlm, hb⟩
  have B3 := Lib.hid (B2.out.trans (hb.mono hs2))
  obtain ⟨a, cap, rfl, hk, hm⟩ := hrs.shape
  have hn : 200 < ls.length := by have := H7.out; rw [← hlm, List.length_map] at this; exact this
  clear hb hrs hlm H7 TL
  generalize ls.length = n at *
  have g3 : decide ((200 : Int) < (n : Int)) = true := decide_eq_true (by omega)
  have g4 : decide (200 < n) = true := decide_eq_true hn
  go_wp2
  go_ret
  exact ⟨rfl, B3.out⟩
set_option maxHeartbeats 8000000 in
set_option maxRecDepth 100000 in
theorem dc_good (t : ByteArray) (h6 : t.size ≤ 65536) (h7 : (lnsOf (bl t)).length ≤ 200) (W : World) (HP : Tp W) (HT : Tb W) (HM : Mx W) :
    Calls Tryz.prog 4 #[.string t] W fun e W' => e = .returned (.bool true) ∧ Below W.heap.size W W' := by
  have C0 := Lib.hid (run_c0 W HP HT HM)
  obtain ⟨O, o1, o2, o3⟩ := o_ex (lnsOf (bl t)) (lines_65 h6)
  have C1 := Lib.hid (fun w hT hTb hM => run_any t O o1 o3 h6 h7 w hT hTb hM)
  have TL := Lib.hid (fun w => tlines_any t w (by omega))
  have LS := Lib.hid (lines_65 h6)
  have CG := Lib.hid (count_ge O (lnsOf (bl t)) _ (Nat.le_refl _))
  have LE := Lib.hid (last_10 O (lnsOf (bl t)) _ (Nat.le_refl _))
  have OLN := Lib.hid (ouL_len O (lnsOf (bl t)) o3 _ (Nat.le_refl _))
  obtain ⟨lns, hln⟩ : ∃ lns, lns = lnsOf (bl t) := ⟨_, rfl⟩
  rw [← hln] at C1 TL LS CG LE h7 OLN
  have TP := Lib.hid HP
  have TB := Lib.hid HT
  have MX := Lib.hid HM
  obtain ⟨out, hout⟩ : ∃ out : ByteArray, out = ⟨(ouL O lns lns.length).toArray⟩ := ⟨_, rfl⟩
  rw [← hout] at C1
  have BO := Lib.hid (show bl out = ouL O lns lns.length from by rw [hout]; exact bl_mk _)
  have g1 : decide ((65536 : Int) < (t.size : Int)) = false := decide_eq_false (by omega)
  have g2 : decide (65536 < t.size) = false := decide_eq_false (by omega)
  have osz : out.size ≤ 200 * 1000000001 := by
    rw [← bl_len, BO.out]
    exact Nat.le_trans OLN.out (Nat.mul_le_mul_right _ h7)
  clear HP HT HM hout hln o1 o2 o3
  go_enter Tryz.func4, Tryz.ntmps4
  go_wp2_with fail
  refine C0.out.mono ?_
  rintro e w1 ⟨rfl, hb⟩
  have B1 := Lib.hid hb
  have hs1 := hb.size
  clear hb C0
  go_wp2_with fail
  refine (C1.out _ (TP.out.below B1.out) (TB.out.below B1.out) (MX.out.below B1.out)).mono ?_
  rintro e w2 ⟨rfl, hb⟩
  have B2 := Lib.hid (B1.out.trans (hb.mono hs1))
  have hs2 := B2.out.size
  clear hb C1
  go_wp2_with fail
  refine (TL.out _).mono ?_
  rintro e w3 ⟨v, ls, rfl, hrs, hlm, hb⟩
  have B3 := Lib.hid (B2.out.trans (hb.mono hs2))
  have hs3 := B3.out.size
  obtain ⟨a, cap, rfl, hk, hm⟩ := hrs.shape
  have hn : ls.length ≤ 200 := by rw [← List.length_map (f := bl), hlm]; exact h7
  clear hb hrs hlm
  generalize ls.length = n0 at *
  have g3 : decide ((200 : Int) < (n0 : Int)) = false := decide_eq_false (by omega)
  have g4 : decide (200 < n0) = false := decide_eq_false (by omega)
  go_wp2_with fail
  refine (TL.out _).mono ?_
  rintro e w4 ⟨v, ls, rfl, hrs, hlm, hb⟩
  have B4 := Lib.hid (B3.out.trans (hb.mono hs3))
  have hs4 := B4.out.size
  have LM := Lib.hid hlm
  obtain ⟨a, cap, b, off, rfl, hk, hm, hx, hc⟩ := hrs
  have HC := Lib.hid hc
  have HA := Lib.hid hx
  obtain ⟨n, hn⟩ : ∃ n, n = ls.length := ⟨_, rfl⟩
  have HN := Lib.hid hn
  have EL := Lib.hid (show lns.length = n from by rw [← hlm, List.length_map, hn])
  rw [EL.out] at h7
  rw [← hn] at hk HA ⊢
  have CZ := Lib.hid (cntA_zero lns)
  have CL := Lib.hid (fun k => cntA_le lns k)
  clear hb hlm TL hc hx hn g3 g4
  go_wp2
  go_loopw [4, 6, 7, 26] (fun v4 _ _ vi wr => CtR lns n w4 v4 vi wr) (fun _ _ _ i _ => n - (intOf i).toNat)
  case atStart => exact ⟨0, by omega, rfl, by rw [CZ.out]; rfl, Below.refl _ _⟩
  case round =>
    obtain ⟨k, hkn, rfl, rfl, hb⟩ := hrel
    have B5 := Lib.hid hb
    have hs5 := hb.size
    have ckl := CL.out k
    clear hb
    by_cases hkl : k < n
    · obtain rfl := HA.out.resolve_left (by omega)
      have g3 : decide ((k : Int) < (n : Int)) = true := decide_eq_true (by omega)
      have g4 : decide (k < n) = true := decide_eq_true hkl
      have hks : k < ls.length := by rw [← HN.out]; exact hkl
      obtain ⟨x0, hx0⟩ : ∃ x0, x0 = ls[k] := ⟨_, rfl⟩
      have hxk : ls[k]? = some x0 := by rw [hx0]; exact List.getElem?_eq_getElem hks
      have c0 := HC.out k x0 hxk
      have c0 := (B5.out.cell (p := ⟨b, off + k, none⟩) (World.block_lt_of_cell? w4 _ c0)).trans c0
      have hlk : lns[k]? = some (bl x0) := by rw [← LM.out, List.getElem?_map, hxk]; rfl
      have LK := Lib.hid hlk
      have hmem := List.mem_of_getElem? hlk
      have hx0s : x0.size ≤ 65536 := by rw [← bl_len]; exact LS.out _ hmem
      have WA := Lib.hid (words_any x0 wr (by omega))
      have ewr : IntKind.i64.wrap ((cntA lns k : Int) + 1) = (cntA lns k : Int) + 1 := IntWalk.i64_in _ (by omega)
      have CY := Lib.hid (fun ha => cntA_yes LK.out ha)
      have CN := Lib.hid (fun ha => cntA_no LK.out ha)
      clear hx0 hxk hlk hmem
      go_wp2_with fail
      refine WA.out.mono ?_
      rintro e w6 ⟨v6, ws, rfl, hos, hwm, hb⟩
      have WF := Lib.hid hwm
      have OF := Lib.hid hos
      have B6 := Lib.hid (B5.out.trans (hb.mono hs5))
      have WN := Lib.hid (show ∀ p, bl p ∈ ws.map bl → bl p ≠ [] from fun p hp => by rw [WF.out] at hp; exact words_ne hp)
      clear hos hwm hb WA c0
      rcases ws with _ | ⟨p, rest⟩
      · have NA := Lib.hid (CN.out (act_nil WF.out.symm))
        obtain ⟨a7, c7, rfl, _, _, _⟩ := ownShape OF.out
        go_wp2
        go_roundw
        case rel => exact ⟨k + 1, by omega, by go_num, by rw [NA.out], B6.out⟩
        case measure => simp [intOf] <;> omega
      · have hp0 : 0 < p.size := by
          have h1 := WN.out p (by simp)
          rw [← bl_len]
          exact List.length_pos_iff.2 h1
        have R7 := Lib.hid OF.out.rs
        obtain ⟨c7, b7, o7, rfl, hk7, hm7, hx7⟩ := R7.out.cells (by simp)
        have c8 := hx7 0 p rfl
        rw [Nat.add_zero] at c8
        have ixp := ix_str hp0 w6
        rw [show ((0 : Nat) : Int) = 0 from rfl] at ixp
        have ghl : decide ((0 : Int) < ((p :: rest).length : Int)) = true := decide_eq_true (by simp only [List.length_cons]; omega)
        have ghn : decide (0 < (p :: rest).length) = true := decide_eq_true (by simp)
        rw [List.map_cons] at WF
        have WC := Lib.hid WF.out.symm
        have h35 := head35 hp0
        obtain ⟨nw, hnw⟩ : ∃ nw, nw = (p :: rest).length := ⟨_, rfl⟩
        rw [← hnw] at hk7 ghl ghn ⊢
        have hnwi : 0 < nw := by rw [hnw]; simp
        clear hx7 hnw
        by_cases hh : (bl p).head? = some 35
        · have NA := Lib.hid (CN.out (act_no WC.out hh))
          have h36 := h35.1 hh
          rw [h36] at ixp
          go_wp2
          go_roundw
          case rel => exact ⟨k + 1, by omega, by go_num, by rw [NA.out], B6.out⟩
          case measure => simp [intOf] <;> omega
        · have NY := Lib.hid (CY.out (act_yes WC.out hh))
          have h36 : bn p 0 ≠ 35 := fun e => hh (h35.2 e)
          have g5 : ((bn p 0 : Int) == 35) = false := by rw [beq_eq_false_iff_ne]; omega
          have g6 : (bn p 0 == 35) = false := by rw [beq_eq_false_iff_ne]; exact h36
          clear h35 hh WN WF
          generalize bn p 0 = bp at *
          go_wp2
          go_roundw
          case rel => exact ⟨k + 1, by omega, by go_num, by rw [NY.out]; go_num, B6.out⟩
          case measure => simp [intOf] <;> omega
    · obtain rfl : n = k := by omega
      have g3 : decide ((n : Int) < (n : Int)) = false := decide_eq_false (by omega)
      have B6 := Lib.hid (B4.out.trans (B5.out.mono hs4))
      have CT := Lib.hid (Tryz.strings_Count_one out 10 wr)
      have hcc : cntA lns n ≤ Lib.countByte out.data.toList 10 := by
        have h1 := CG.out
        rw [EL.out] at h1
        have h2 := BO.out
        rw [EL.out] at h2
        unfold bl at h2
        unfold Lib.countByte
        rw [h2]
        exact h1
      have e10 : 0 < out.size → bn out (out.size - 1) = 10 := fun h0 => end_10 BO.out LE.out h0
      generalize Lib.countByte out.data.toList 10 = cc at *
      generalize cntA lns n = ca at *
      have g5 : decide ((ca : Int) ≤ (cc : Int)) = true := decide_eq_true (by omega)
      have g6 : decide (ca ≤ cc) = true := decide_eq_true hcc
      by_cases he : out.toList.isEmpty = true
      · go_wp2_with fail
        refine CT.out.mono ?_
        rintro e w7 ⟨rfl, rfl⟩
        go_wp2
        go_ret
        exact ⟨rfl, B6.out⟩
      · have he : out.toList.isEmpty = false := by simpa using he
        have h0 : 0 < out.size := by
          rw [← bl_len]
          refine List.length_pos_iff.2 (fun e => ?_)
          unfold bl at e
          rw [Lib.toList_data, e] at he
          cases he
        obtain ⟨m, hm1⟩ : ∃ m, m = out.size - 1 := ⟨_, rfl⟩
        have em : (out.size : Int) - 1 = (m : Int) := by omega
        have emw : IntKind.i64.wrap ((out.size : Int) - 1) = (m : Int) := by rw [em]; exact IntWalk.i64_in _ (by omega)
        have ixm := ix_str (show m < out.size by omega) wr
        rw [hm1, e10 h0, ← hm1] at ixm
        have e11 : (out[out.size - 1]'(by omega)).toNat = 10 := by
          have h1 := e10 h0
          rw [bn_eq] at h1
          unfold bl at h1
          have hlt : out.size - 1 < out.data.toList.length := by rw [← Lib.size_eq]; omega
          rw [List.getD_eq_getElem?_getD, List.getElem?_eq_getElem hlt] at h1
          exact h1
        have E11 := Lib.hid e11
        clear e11
        go_wp2_with fail
        refine CT.out.mono ?_
        rintro e w7 ⟨rfl, rfl⟩
        go_wp2
        go_ret
        exact ⟨by show Ending.returned (Value.bool (((out[out.size - 1]'(by omega)).toNat : Int) == 10)) = _; rw [E11.out]; rfl, B6.out⟩
theorem wDeskCounts (t : ByteArray) (W : World) (HP : Tp W) (HT : Tb W) (HM : Mx W) (hz : t.size ≤ 4000000) :
    Calls Tryz.prog 4 #[.string t] W fun e W' => e = .returned (.bool true) ∧ Below W.heap.size W W' := by
  by_cases h6 : 65536 < t.size
  · exact dc_bad1 t hz h6 W HP HT HM
  · by_cases h7 : 200 < (lnsOf (bl t)).length
    · exact dc_bad2 t (by omega) h7 W HP HT HM
    · exact dc_good t (by omega) (by omega) W HP HT HM
end Go.Proofs.YtdhmmllpldjkbaaGreatDoor.Gm
