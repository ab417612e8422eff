/- goldkeep.rest, goldref.GreatSum. -/
import Derived.Test.YtdhmmllpldjkbaaGreatDoorBm
namespace Go.Proofs.YtdhmmllpldjkbaaGreatDoor.Gm
open Go.RowKit
set_option linter.unusedVariables false
theorem dg_bn {s : ByteArray} (h : AllD (bl s)) {k : Nat} (hk : k < s.size) : ∃ d, d < 10 ∧ bn s k = d + 48 ∧ dg ((bl s).getD k 0) = d := by
  obtain ⟨h1, h2⟩ := bn_alld h hk
  refine ⟨bn s k - 48, by omega, by omega, ?_⟩
  rw [bn_eq]; rfl
def ReR (s : ByteArray) (M : Nat) (w : World) (v5 v9 : Value) (wr : World) : Prop :=
  ∃ m : Nat, m ≤ s.size ∧ v9 = .int .i64 m ∧ v5 = .int .i64 ((nv ((bl s).take m) % M : Nat) : Int) ∧ wr = w
/-- one digit as a text -/
theorem itoa_db {x : Nat} (h : x < 10) : Lib.itoa (x : Int) = [db x] := by
  unfold Lib.itoa
  rw [if_neg (by omega), Int.toNat_natCast, Lib.decDigits_one h]
  rfl
def GsR (a b : List UInt8) (w : World) (v5 v6 v7 : Value) (wr : World) : Prop :=
  ∃ (k : Nat) (y : ByteArray), v7 = .int .i64 k ∧ v6 = .int .i64 (cr 10 (fs a b) k : Int) ∧ v5 = .string y ∧ bl y = tx1 (fs a b) k ∧ k ≤ max a.length b.length + 1 ∧
    (k ≤ a.length ∨ k ≤ b.length ∨ ∃ m, k = m + 1 ∧ a.length ≤ m ∧ b.length ≤ m ∧ cr 10 (fs a b) m ≠ 0) ∧ Below w.heap.size w wr
set_option maxHeartbeats 4000000 in
set_option maxRecDepth 100000 in
theorem gsum_ok (s t : ByteArray) (hs : Cn (bl s)) (ht : Cn (bl t)) (l1 : s.size ≤ 2000) (l2 : t.size ≤ 2000) (w : World) (hT : Tp w) :
    Calls Tryz.prog 45 #[.string s, .string t] w fun e w' => ∃ u : ByteArray, e = .returned (.string u) ∧ Cn (bl u) ∧ nv (bl u) = nv (bl s) + nv (bl t) ∧ Below w.heap.size w w' := by
  have TP := Lib.hid hT
  have HS := Lib.hid hs
  have HT := Lib.hid ht
  have E1 := Lib.hid (bl_len s)
  have E2 := Lib.hid (bl_len t)
  have FC := Lib.hid (fun k => fs_cr hs.2.1 ht.2.1 k)
  clear hs ht hT
  go_enter Tryz.func45, Tryz.ntmps45
  go_wp2
  go_loopw [5, 6, 7] (fun v5 v6 v7 wr => GsR (bl s) (bl t) w v5 v6 v7 wr) (fun _ _ i _ => 2005 - (intOf i).toNat)
  case atStart => exact ⟨0, ⟨#[]⟩, rfl, rfl, rfl, bl_mk [], by omega, .inl (Nat.zero_le _), Below.refl _ _⟩
  case round =>
    obtain ⟨k, y, rfl, rfl, rfl, hy, hk, hj, hb⟩ := hrel
    rw [E1.out, E2.out] at hk hj
    have HY := Lib.hid hy
    have HJ := Lib.hid hj
    have B1 := Lib.hid hb
    have hs1 := hb.size
    have hyk : y.size = k := by rw [← bl_len, hy, tx1_len]
    clear hy hj hb
    have hck := FC.out k
    have CS : cr 10 (fs (bl s) (bl t)) (k + 1) = (cr 10 (fs (bl s) (bl t)) k + fs (bl s) (bl t) k) / 10 := rfl
    have CH : chk1 10 (fs (bl s) (bl t)) k = (cr 10 (fs (bl s) (bl t)) k + fs (bl s) (bl t) k) % 10 := rfl
    have TX := Lib.hid (show tx1 (fs (bl s) (bl t)) (k + 1) = db (chk1 10 (fs (bl s) (bl t)) k) :: tx1 (fs (bl s) (bl t)) k from rfl)
    by_cases hdone : s.size ≤ k ∧ t.size ≤ k ∧ cr 10 (fs (bl s) (bl t)) k = 0
    · obtain ⟨d1, d2, d3⟩ := hdone
      have g1 : decide ((k : Int) < (s.size : Int)) = false := decide_eq_false (by omega)
      have g2 : decide (k < s.size) = false := decide_eq_false (by omega)
      have g3 : decide ((k : Int) < (t.size : Int)) = false := decide_eq_false (by omega)
      have g4 : decide (k < t.size) = false := decide_eq_false (by omega)
      have SC := Lib.hid (sum_Cn HS.out HT.out k (by rw [E1.out]; exact d1) (by rw [E2.out]; exact d2) d3 (by
        rw [E1.out, E2.out]
        rcases HJ.out with h | h | ⟨m, h1, h2, h3, h4⟩
        · exact .inl (by omega)
        · exact .inr (.inl (by omega))
        · exact .inr (.inr ⟨m, h1, h2, h3, h4⟩)))
      have SN := Lib.hid (sum_nv k (by rw [E1.out]; exact d1) (by rw [E2.out]; exact d2) d3 : nv (tx1 (fs (bl s) (bl t)) k) = nv (bl s) + nv (bl t))
      rw [d3]
      clear d3 CS CH TX hck
      go_wp2
      go_ret
      exact ⟨y, rfl, by rw [HY.out]; exact SC.out, by rw [HY.out]; exact SN.out, B1.out⟩
    have hkm : k ≤ max s.size t.size := by
      rcases Nat.lt_or_ge (max s.size t.size) k with h1 | h1
      · exfalso
        have e : k = max s.size t.size + 1 := by omega
        have := fs_end HS.out.2.1 HT.out.2.1 (max s.size t.size) (by rw [E1.out]; omega) (by rw [E2.out]; omega)
        rw [← e] at this
        exact hdone ⟨by omega, by omega, this⟩
      · exact h1
    have hk20 : k ≤ 2000 := by omega
    have HJ2 := Lib.hid (show k + 1 ≤ (bl s).length ∨ k + 1 ≤ (bl t).length ∨ ∃ m, k + 1 = m + 1 ∧ (bl s).length ≤ m ∧ (bl t).length ≤ m ∧ cr 10 (fs (bl s) (bl t)) m ≠ 0 from by
      rw [E1.out, E2.out]
      by_cases h1 : k < s.size
      · exact .inl (by omega)
      · by_cases h2 : k < t.size
        · exact .inr (.inl (by omega))
        · exact .inr (.inr ⟨k, rfl, by omega, by omega, fun h => hdone ⟨by omega, by omega, h⟩⟩))
    have HK2 := Lib.hid (show k + 1 ≤ max (bl s).length (bl t).length + 1 by rw [E1.out, E2.out]; omega)
    obtain ⟨c, hc⟩ : ∃ c, c = cr 10 (fs (bl s) (bl t)) k := ⟨_, rfl⟩
    obtain ⟨c2, hc2⟩ : ∃ c, c = cr 10 (fs (bl s) (bl t)) (k + 1) := ⟨_, rfl⟩
    obtain ⟨q, hq⟩ : ∃ q, q = chk1 10 (fs (bl s) (bl t)) k := ⟨_, rfl⟩
    have HC2 := Lib.hid hc2
    rw [← hc2, ← hc] at CS
    rw [← hq, ← hc] at CH
    rw [← hc] at hck hdone
    rw [← hq] at TX
    rw [← hc]
    have hq9 : q < 10 := by omega
    obtain ⟨z, hz⟩ : ∃ z : ByteArray, z = ⟨(Lib.itoa (q : Int)).toArray⟩ := ⟨_, rfl⟩
    have hbz : bl z = [db q] := by rw [hz, bl_mk, itoa_db hq9]
    have hz1 : z.size = 1 := by rw [← bl_len, hbz]; rfl
    have HZ := Lib.hid (show bl (z ++ y) = tx1 (fs (bl s) (bl t)) (k + 1) by rw [bl_app, hbz, HY.out, TX.out]; rfl)
    have IT := Lib.hid (fun w hT => itoa_any (q : Int) w (by omega) (by omega) hT)
    rw [← hz] at IT
    have hov : ¬ 9223372036854775807 < z.size + y.size := by omega
    clear hz hbz hc hc2 hq TX
    by_cases hk1 : k < s.size
    · by_cases hk2 : k < t.size
      · skip
        have ha1 : k < s.size := hk1
        have g1 : decide ((k : Int) < (s.size : Int)) = true := decide_eq_true (by omega)
        have gg1 : decide (k < s.size) = true := decide_eq_true ha1
        obtain ⟨j1, hj1⟩ : ∃ j, j = s.size - 1 - k := ⟨_, rfl⟩
        have hjl1 : j1 < s.size := by omega
        obtain ⟨d1, hd1, hb1, hdg1⟩ := dg_bn HS.out.2.1 hjl1
        have IX1 := ix_str hjl1
        rw [hb1] at IX1
        have ej1 : (s.size : Int) - 1 - (k : Int) = (j1 : Int) := by omega
        have hda1 : da (bl s) k = d1 := by
          unfold da
          rw [if_pos (by rw [E1.out]; exact ha1), E1.out, ← hj1]
          exact hdg1
        clear hj1 hb1 hdg1
        have ha2 : k < t.size := hk2
        have g2 : decide ((k : Int) < (t.size : Int)) = true := decide_eq_true (by omega)
        have gg2 : decide (k < t.size) = true := decide_eq_true ha2
        obtain ⟨j2, hj2⟩ : ∃ j, j = t.size - 1 - k := ⟨_, rfl⟩
        have hjl2 : j2 < t.size := by omega
        obtain ⟨d2, hd2, hb2, hdg2⟩ := dg_bn HT.out.2.1 hjl2
        have IX2 := ix_str hjl2
        rw [hb2] at IX2
        have ej2 : (t.size : Int) - 1 - (k : Int) = (j2 : Int) := by omega
        have hda2 : da (bl t) k = d2 := by
          unfold da
          rw [if_pos (by rw [E2.out]; exact ha2), E2.out, ← hj2]
          exact hdg2
        clear hj2 hb2 hdg2
        have hfs : fs (bl s) (bl t) k = da (bl s) k + da (bl t) k := rfl
        rw [hda1, hda2] at hfs
        rw [hfs] at CS CH
        clear hfs hda1 hda2 hdone
        have em : ((c : Int) + (d1 : Int) + (d2 : Int)) % 10 = (q : Int) := by omega
        have ed : ((c : Int) + (d1 : Int) + (d2 : Int)) / 10 = (c2 : Int) := by omega
        clear CS CH
        go_wp2_with fail
        refine (IT.out _ (TP.out.below B1.out)).mono ?_
        rintro e w2 ⟨rfl, hb⟩
        have B2 := Lib.hid (B1.out.trans (hb.mono hs1))
        clear hb IT B1
        go_wp2
        go_roundw
        case rel => exact ⟨k + 1, z ++ y, by go_num, by rw [← HC2.out, ← ed], rfl, HZ.out, HK2.out, HJ2.out, B2.out⟩
        case measure => simp [intOf] <;> omega
      · skip
        have ha1 : k < s.size := hk1
        have g1 : decide ((k : Int) < (s.size : Int)) = true := decide_eq_true (by omega)
        have gg1 : decide (k < s.size) = true := decide_eq_true ha1
        obtain ⟨j1, hj1⟩ : ∃ j, j = s.size - 1 - k := ⟨_, rfl⟩
        have hjl1 : j1 < s.size := by omega
        obtain ⟨d1, hd1, hb1, hdg1⟩ := dg_bn HS.out.2.1 hjl1
        have IX1 := ix_str hjl1
        rw [hb1] at IX1
        have ej1 : (s.size : Int) - 1 - (k : Int) = (j1 : Int) := by omega
        have hda1 : da (bl s) k = d1 := by
          unfold da
          rw [if_pos (by rw [E1.out]; exact ha1), E1.out, ← hj1]
          exact hdg1
        clear hj1 hb1 hdg1
        have g2 : decide ((k : Int) < (t.size : Int)) = false := decide_eq_false (by omega)
        have gg2 : decide (k < t.size) = false := decide_eq_false hk2
        have hda2 : da (bl t) k = 0 := by unfold da; rw [if_neg (by rw [E2.out]; exact hk2)]
        have hfs : fs (bl s) (bl t) k = da (bl s) k + da (bl t) k := rfl
        rw [hda1, hda2] at hfs
        rw [hfs] at CS CH
        clear hfs hda1 hda2 hdone
        have em : ((c : Int) + (d1 : Int)) % 10 = (q : Int) := by omega
        have ed : ((c : Int) + (d1 : Int)) / 10 = (c2 : Int) := by omega
        clear CS CH
        go_wp2_with fail
        refine (IT.out _ (TP.out.below B1.out)).mono ?_
        rintro e w2 ⟨rfl, hb⟩
        have B2 := Lib.hid (B1.out.trans (hb.mono hs1))
        clear hb IT B1
        go_wp2
        go_roundw
        case rel => exact ⟨k + 1, z ++ y, by go_num, by rw [← HC2.out, ← ed], rfl, HZ.out, HK2.out, HJ2.out, B2.out⟩
        case measure => simp [intOf] <;> omega
    · by_cases hk2 : k < t.size
      · skip
        have g1 : decide ((k : Int) < (s.size : Int)) = false := decide_eq_false (by omega)
        have gg1 : decide (k < s.size) = false := decide_eq_false hk1
        have hda1 : da (bl s) k = 0 := by unfold da; rw [if_neg (by rw [E1.out]; exact hk1)]
        have ha2 : k < t.size := hk2
        have g2 : decide ((k : Int) < (t.size : Int)) = true := decide_eq_true (by omega)
        have gg2 : decide (k < t.size) = true := decide_eq_true ha2
        obtain ⟨j2, hj2⟩ : ∃ j, j = t.size - 1 - k := ⟨_, rfl⟩
        have hjl2 : j2 < t.size := by omega
        obtain ⟨d2, hd2, hb2, hdg2⟩ := dg_bn HT.out.2.1 hjl2
        have IX2 := ix_str hjl2
        rw [hb2] at IX2
        have ej2 : (t.size : Int) - 1 - (k : Int) = (j2 : Int) := by omega
        have hda2 : da (bl t) k = d2 := by
          unfold da
          rw [if_pos (by rw [E2.out]; exact ha2), E2.out, ← hj2]
          exact hdg2
        clear hj2 hb2 hdg2
        have hfs : fs (bl s) (bl t) k = da (bl s) k + da (bl t) k := rfl
        rw [hda1, hda2] at hfs
        rw [hfs] at CS CH
        clear hfs hda1 hda2 hdone
        have em : ((c : Int) + (d2 : Int)) % 10 = (q : Int) := by omega
        have ed : ((c : Int) + (d2 : Int)) / 10 = (c2 : Int) := by omega
        clear CS CH
        go_wp2_with fail
        refine (IT.out _ (TP.out.below B1.out)).mono ?_
        rintro e w2 ⟨rfl, hb⟩
        have B2 := Lib.hid (B1.out.trans (hb.mono hs1))
        clear hb IT B1
        go_wp2
        go_roundw
        case rel => exact ⟨k + 1, z ++ y, by go_num, by rw [← HC2.out, ← ed], rfl, HZ.out, HK2.out, HJ2.out, B2.out⟩
        case measure => simp [intOf] <;> omega
      · skip
        have g1 : decide ((k : Int) < (s.size : Int)) = false := decide_eq_false (by omega)
        have gg1 : decide (k < s.size) = false := decide_eq_false hk1
        have hda1 : da (bl s) k = 0 := by unfold da; rw [if_neg (by rw [E1.out]; exact hk1)]
        have g2 : decide ((k : Int) < (t.size : Int)) = false := decide_eq_false (by omega)
        have gg2 : decide (k < t.size) = false := decide_eq_false hk2
        have hda2 : da (bl t) k = 0 := by unfold da; rw [if_neg (by rw [E2.out]; exact hk2)]
        have hfs : fs (bl s) (bl t) k = da (bl s) k + da (bl t) k := rfl
        rw [hda1, hda2] at hfs
        rw [hfs] at CS CH
        have hcp : 0 < c := Nat.pos_of_ne_zero (fun e => hdone ⟨by omega, by omega, e⟩)
        have g5 : decide ((0 : Int) < (c : Int)) = true := decide_eq_true (by omega)
        have g6 : decide (0 < c) = true := decide_eq_true hcp
        clear hfs hda1 hda2 hdone
        have em : ((c : Int)) % 10 = (q : Int) := by omega
        have ed : ((c : Int)) / 10 = (c2 : Int) := by omega
        clear CS CH
        go_wp2_with fail
        refine (IT.out _ (TP.out.below B1.out)).mono ?_
        rintro e w2 ⟨rfl, hb⟩
        have B2 := Lib.hid (B1.out.trans (hb.mono hs1))
        clear hb IT B1
        go_wp2
        go_roundw
        case rel => exact ⟨k + 1, z ++ y, by go_num, by rw [← HC2.out, ← ed], rfl, HZ.out, HK2.out, HJ2.out, B2.out⟩
        case measure => simp [intOf] <;> omega
end Go.Proofs.YtdhmmllpldjkbaaGreatDoor.Gm
