/- big.Mul. -/
import Derived.Test.YtdhmmllpldjkbaaGreatDoorBb
import Derived.Test.YtdhmmllpldjkbaaGreatDoorBgm
import Derived.Test.YtdhmmllpldjkbaaGreatDoorVd
namespace Go.Proofs.YtdhmmllpldjkbaaGreatDoor.Gm
open Go.RowKit
set_option linter.unusedVariables false
theorem mul_err (s t : ByteArray) (n : Int) (h : GB (bl s) (bl t) n) (hn : n ≠ 0) (w : World) :
    Calls Tryz.prog 57 #[.string s, .string t] w fun e w' => e = .returned (.tuple #[.string ⟨#[]⟩, .int .i64 n]) ∧ w = w' := by
  have CB := Lib.hid (both_is s t n h)
  have hn0 : (n == 0) = false := by rw [beq_eq_false_iff_ne]; exact hn
  go_enter Tryz.func57, Tryz.ntmps57
  go_wp2_with fail
  refine (CB.out _).mono ?_
  rintro e w1 ⟨rfl, rfl⟩
  go_wp2
  go_ret2
  exact ⟨rfl, rfl⟩
theorem d4_pos {l : List UInt8} (h : l ≠ []) (f : Nat) : 0 < (d4 (f + 1) l).length := by
  rw [d4, if_neg h]; simp
theorem nz_B64 {l : List Nat} (h : ∀ x ∈ l, x < 10000) : B64 (nz l) := by
  intro z hz
  obtain ⟨x, hx, rfl⟩ := List.mem_map.1 hz
  have := h x hx
  omega
theorem vl_nz (p : List F) : p.map vl = nz (p.map fun x => (vl x).toNat) := by
  unfold nz
  rw [List.map_map]
  refine List.map_congr_left (fun x _ => ?_)
  have := vl_lo x
  show vl x = ((vl x).toNat : Int)
  omega
set_option maxHeartbeats 4000000 in
set_option maxRecDepth 100000 in
theorem mul_ok (s t : ByteArray) (hs : GE (bl s) 0) (ht : GE (bl t) 0) (w : World) (hT : Tp w) (hTb : Tb w) :
    Calls Tryz.prog 57 #[.string s, .string t] w fun e w' => ∃ u : ByteArray, e = .returned (.tuple #[.string u, .int .i64 0]) ∧ Cn (bl u) ∧ nv (bl u) = nv (bl s) * nv (bl t) ∧ Below w.heap.size w w' := by
  have CB := Lib.hid (both_is s t 0 (.inr ⟨hs, ht⟩))
  obtain ⟨c1, l1⟩ := hs.zero
  obtain ⟨c2, l2⟩ := ht.zero
  have CD1 := Lib.hid (digits_any s c1.2.1 (by rw [← bl_len]; exact l1))
  have CD2 := Lib.hid (digits_any t c2.2.1 (by rw [← bl_len]; exact l2))
  have TP := Lib.hid hT
  have TB := Lib.hid hTb
  rw [← d4_bv 500 (bl s) (by omega), ← d4_bv 500 (bl t) (by omega)]
  have hx1 := d4_lt 500 (bl s) c1.2.1
  have hx2 := d4_lt 500 (bl t) c2.2.1
  have hl1 := d4_len 500 (bl s) (by omega)
  have hl2 := d4_len 500 (bl t) (by omega)
  have hp1 : 0 < (d4 500 (bl s)).length := d4_pos c1.1 499
  have hp2 : 0 < (d4 500 (bl t)).length := d4_pos c2.1 499
  generalize d4 500 (bl s) = x at *
  generalize d4 500 (bl t) = y at *
  have hM : x.length * (9999 * 9999) ≤ 500 * (9999 * 9999) := Nat.mul_le_mul_right _ hl1
  obtain ⟨m1, m2⟩ := mulL_bv 10000 9999 x y (fun a ha => by have := hx1 a ha; omega) (fun a ha => by have := hx2 a ha; omega) (by omega)
  have CL := Lib.hid (fun v v2 w h h2 hT => lin_ok (nz x) (nz y) v v2 w h h2 (nz_B64 hx1) (nz_B64 hx2) (by unfold TooBig; rw [nz_len, nz_len]; omega) (by rw [nz_len]; exact hp1) (by rw [nz_len]; exact hp2) hT)
  have ep : mulL ((nz x).map toF) ((nz y).map toF) = mulL ((x.map fun n : Nat => (n : Int)).map toF) ((y.map fun n : Nat => (n : Int)).map toF) := rfl
  rw [ep] at CL
  have hpl : (mulL ((x.map fun n : Nat => (n : Int)).map toF) ((y.map fun n : Nat => (n : Int)).map toF)).length ≤ 1000 := by
    have hn1 : (x.map fun n : Nat => (n : Int)).map toF ≠ [] := fun e => by have := congrArg List.length e; simp at this; rw [this] at hp1; simp at hp1
    have hn2 : (y.map fun n : Nat => (n : Int)).map toF ≠ [] := fun e => by have := congrArg List.length e; simp at this; rw [this] at hp2; simp at hp2
    rw [mulL_len hn1 hn2]
    simp only [List.length_map]
    omega
  generalize mulL ((x.map fun n : Nat => (n : Int)).map toF) ((y.map fun n : Nat => (n : Int)).map toF) = p at *
  have M2 := Lib.hid (show ∀ a ∈ (p.map fun x => (vl x).toNat), a ≤ 9223372036854775807 from fun a ha => by
    obtain ⟨z, hz, rfl⟩ := List.mem_map.1 ha
    have := m2 z hz
    have h3 : (x.length : Int) * (9999 * 9999) ≤ 500 * (9999 * 9999) := by omega
    omega)
  have CT := Lib.hid (fun v w (h : Rd .u64 w v (p.map vl)) hT => text_any (p.map fun x => (vl x).toNat) v w (by rw [← vl_nz]; exact h) M2.out (by rw [List.length_map]; omega) hT)
  rw [m1] at CT
  clear c1 c2 l1 l2 hs ht hT hTb hx1 hx2 m1 m2 ep M2
  go_enter Tryz.func57, Tryz.ntmps57
  go_wp2_with fail
  refine (CB.out _).mono ?_
  rintro e w1 ⟨rfl, rfl⟩
  go_wp2_with fail
  refine (CD1.out _).mono ?_
  rintro e w1 ⟨v1, rfl, ho1, hb1⟩
  go_wp2_with fail
  refine (CD2.out _).mono ?_
  rintro e w2 ⟨v2, rfl, ho2, hb2⟩
  have X2 := Lib.hid (ho1.below hb2).rd
  have Y2 := Lib.hid ho2.rd
  have hs1 := hb1.size
  have B2 := Lib.hid (hb1.trans (hb2.mono hs1))
  have hs2 := B2.out.size
  clear ho1 ho2 hb1 hb2 CB CD1 CD2
  have CL2 := Lib.hid (CL.out v1 v2 w2 X2.out Y2.out (TB.out.below B2.out))
  clear CL
  go_wp2_with fail
  refine CL2.out.mono ?_
  rintro e w3 ⟨v3, rfl, hr, hb, _⟩
  have B3 := Lib.hid (B2.out.trans (hb.mono hs2))
  have hs3 := B3.out.size
  have CT3 := Lib.hid (CT.out v3 w3 hr (TP.out.below B3.out))
  clear hr hb CL2 CT B2
  go_wp2_with fail
  refine CT3.out.mono ?_
  rintro e w4 ⟨u, rfl, hu, hn, hb⟩
  have B4 := Lib.hid (B3.out.trans (hb.mono hs3))
  have U := Lib.hid hu
  have NU := Lib.hid hn
  clear hu hn hb CT3
  go_wp2
  go_ret2
  exact ⟨u, rfl, U.out, NU.out, B4.out⟩
end Go.Proofs.YtdhmmllpldjkbaaGreatDoor.Gm
