/- big.digits: a text's digits, four by four. -/
import Derived.Test.YtdhmmllpldjkbaaGreatDoorBc
import Derived.Test.YtdhmmllpldjkbaaGreatDoorStd
import Derived.Lib.AtoiErrMem
namespace Go.Proofs.YtdhmmllpldjkbaaGreatDoor.Gm
open Go.RowKit
set_option linter.unusedVariables false
/-- a list of numbers as ints -/
def nz (l : List Nat) : List Int := l.map fun n : Nat => (n : Int)
theorem nz_len (l : List Nat) : (nz l).length = l.length := by simp [nz]
theorem nz_snoc (l : List Nat) (x : Nat) : nz (l ++ [x]) = nz l ++ [(x : Int)] := by simp [nz]
theorem atoi4 (s : ByteArray) (h : AllD (bl s)) (h0 : 0 < s.size) (h1 : s.size ≤ 4) (w : World) :
    Calls Tryz.prog 112 #[.string s] w fun e w' => e = .returned (.tuple #[.int .i64 (nv (bl s) : Int), .nilIface]) ∧ Below w.heap.size w w' := by
  have hne : bl s ≠ [] := fun e => by have := bl_len s; rw [e] at this; simp at this; omega
  have ha := atoi_nv (bl s) h hne
  refine (Tryz.strconv_Atoi s (nv (bl s)) (by omega) (by unfold bl at ha ⊢; exact ha) w).mono ?_
  rintro e w' ⟨rfl, t, rfl⟩
  exact ⟨rfl, Lib.bytesWorld_below _ _ _⟩
def szOf : Value → Nat
  | .string b => b.size
  | _ => 0
def DgR (s : ByteArray) (w : World) (vs vo : Value) (wr : World) : Prop :=
  ∃ (t : ByteArray) (l : List Nat) (F : Nat), vs = .string t ∧ AllD (bl t) ∧ t.size ≤ 4 * F ∧ l.length + F = 500 ∧ d4 500 (bl s) = l ++ d4 F (bl t) ∧ Oz .u64 51 w.heap.size wr vo (nz l) ∧ Below w.heap.size w wr
theorem sl_from {t : ByteArray} {k : Nat} (h : k ≤ t.size) (W : World) : (Instr.slice 9 (.string t) (some (.int .i64 (k : Int))) none none).run Tryz.prog W = .ok (.string (t.extract k t.size)) W := by
  rw [run_slice_string_from_if _ _ _ _ _ Tryz.underlying9, if_pos ⟨by omega, by omega⟩]
  rfl
theorem sl_to {t : ByteArray} {k : Nat} (h : k ≤ t.size) (W : World) : (Instr.slice 9 (.string t) none (some (.int .i64 (k : Int))) none).run Tryz.prog W = .ok (.string (t.extract 0 k)) W := by
  rw [run_slice_string_to_if _ _ _ _ _ Tryz.underlying9, if_pos ⟨by omega, by omega⟩]
  rfl
set_option maxHeartbeats 2000000 in
theorem digits_any (s : ByteArray) (hd : AllD (bl s)) (hl : s.size ≤ 2000) (w : World) :
    Calls Tryz.prog 94 #[.string s] w fun e w' => ∃ v, e = .returned v ∧ Oz .u64 51 w.heap.size w' v (nz (d4 500 (bl s))) ∧ Below w.heap.size w w' := by
  have HD := Lib.hid hd
  go_enter Tryz.func94, Tryz.ntmps94
  go_wp2
  go_loopw [0, 3] (fun vs vo wr => DgR s w vs vo wr) (fun vs _ _ => szOf vs)
  case atStart => exact ⟨s, [], 500, rfl, HD.out, by omega, rfl, rfl, Oz.nil _ _ _ _, Below.refl _ _⟩
  case round =>
    obtain ⟨t, l, F, rfl, htd, htl, hlF, hde, ho, hb⟩ := hrel
    have TD := Lib.hid htd
    have DE := Lib.hid hde
    have O1 := Lib.hid ho
    have B1 := Lib.hid hb
    have hs1 := hb.size
    clear htd hde ho hb
    by_cases h0 : 0 < t.size
    · obtain ⟨k, hk⟩ : ∃ k, k = t.size - 4 := ⟨_, rfl⟩
      have hkl : k ≤ t.size := by omega
      have SF := sl_from hkl
      have ST := sl_to hkl
      have hx : (t.extract k t.size).size = t.size - k := by rw [ByteArray.size_extract]; omega
      have hy : (t.extract 0 k).size = k := by rw [ByteArray.size_extract]; omega
      have XD : AllD (bl (t.extract k t.size)) := fun b hb => by
        rw [bl_cut] at hb; exact TD.out b (List.mem_of_mem_drop (List.mem_of_mem_take hb))
      have AT := Lib.hid (atoi4 (t.extract k t.size) XD (by omega) (by omega))
      have YD := Lib.hid (show AllD (bl (t.extract 0 k)) from fun b hb => by
        rw [bl_cut] at hb; exact TD.out b (List.mem_of_mem_drop (List.mem_of_mem_take hb)))
      obtain ⟨F', rfl⟩ : ∃ F', F = F' + 1 := ⟨F - 1, by omega⟩
      have DE2 := Lib.hid (show d4 500 (bl s) = (l ++ [nv (bl (t.extract k t.size))]) ++ d4 F' (bl (t.extract 0 k)) from by
        have hne : bl t ≠ [] := fun e => by have := bl_len t; rw [e] at this; simp at this; omega
        have e1 : bl (t.extract k t.size) = (bl t).drop k := by rw [bl_cut]; exact List.take_of_length_le (by rw [List.length_drop, bl_len]; omega)
        have e2 : bl (t.extract 0 k) = (bl t).take k := by rw [bl_cut, List.drop_zero, Nat.sub_zero]
        rw [DE.out, List.append_assoc, e1, e2, d4, if_neg hne, bl_len, ← hk]; rfl)
      have hw : nv (bl (t.extract k t.size)) < 10000 := by
        have h1 := nv_lt XD
        rw [bl_len, hx] at h1
        have := Nat.pow_le_pow_right (show 0 < 10 by omega) (show t.size - k ≤ 4 by omega)
        omega
      have g1 : decide ((0 : Int) < (t.size : Int)) = true := decide_eq_true (by omega)
      have g2 : decide (0 < t.size) = true := decide_eq_true h0
      have em : max ((t.size : Int) - 4) 0 = (k : Int) := by omega
      have hnl : (nz l).length ≤ 1000000 := by rw [nz_len]; omega
      clear DE TD XD hk
      generalize t.extract k t.size = x at *
      generalize t.extract 0 k = y at *
      generalize nv (bl x) = n at *
      have eu : IntKind.u64.wrap (n : Int) = (n : Int) := IntWalk.u64_in _ (by omega)
      go_wp2_with fail
      refine (AT.out _).mono ?_
      rintro e w2 ⟨rfl, hb⟩
      have O2 := Lib.hid (O1.out.below hb)
      have B2 := Lib.hid (B1.out.trans (hb.mono hs1))
      have hs2 := B2.out.size
      clear hb AT O1 B1
      go_wp2_with (at_builtin; refine wl_app_u64 _ rfl (.tmp 21) (.tmp 24) rfl w.heap.size _ (nz l) (n : Int) w rfl rfl O2.out B2.out hs2 hnl ?_)
      intro v3 w3 hown3 hbel3
      rw [← nz_snoc] at hown3
      have O3 := Lib.hid hown3
      have B3 := Lib.hid hbel3
      clear hown3 hbel3
      go_wp2
      go_roundw
      case rel => exact ⟨y, l ++ [n], F', rfl, YD.out, by omega, by rw [List.length_append, List.length_singleton]; omega, DE2.out, O3.out, B3.out⟩
      case measure => simp [szOf] <;> omega
    · have g1 : decide ((0 : Int) < (t.size : Int)) = false := decide_eq_false (by omega)
      have g2 : decide (0 < t.size) = false := decide_eq_false h0
      have hnil : bl t = [] := List.length_eq_zero_iff.1 (by rw [bl_len]; omega)
      have e : d4 500 (bl s) = l := by
        rw [DE.out, hnil]
        have : d4 F [] = [] := by cases F <;> simp [d4]
        rw [this, List.append_nil]
      rw [← e] at O1
      go_wp2
      go_ret
      exact ⟨_, rfl, O1.out, B1.out⟩
end Go.Proofs.YtdhmmllpldjkbaaGreatDoor.Gm
