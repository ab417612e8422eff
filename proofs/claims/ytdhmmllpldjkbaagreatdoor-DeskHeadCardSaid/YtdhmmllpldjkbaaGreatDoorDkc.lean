/- desk.two (mul, pow), desk.listed. (Printed by wip/mk_dkc.py.) -/
import Derived.Test.YtdhmmllpldjkbaaGreatDoorDeb
import Derived.Test.YtdhmmllpldjkbaaGreatDoorRh
namespace Go.Proofs.YtdhmmllpldjkbaaGreatDoor.Gm
open Go.RowKit
set_option linter.unusedVariables false
theorem two_mul (x y z : Int) (w : World) (h0 : 0 ≤ z) (h1 : z < 18446744073709551616) (hc : ∀ w, Calls Tryz.prog 66 #[.int .u64 x, .int .u64 y] w fun e w' => e = .returned (.int .u64 z) ∧ w = w') (hT : Tp w) :
    Calls Tryz.prog 32 #[.string ⟨#[109, 117, 108]⟩, .int .u64 x, .int .u64 y] w (RetV w (.string (o1B z))) := by
  have C := Lib.hid (hc w)
  have D := Lib.hid (one_1 z h0 h1 w hT)
  generalize o1B z = r at *
  clear hc
  go_enter Tryz.func32, Tryz.ntmps32
  go_wp2_with fail
  refine C.out.mono ?_
  rintro e w' ⟨rfl, rfl⟩
  go_wp2_with fail
  refine D.out.mono ?_
  rintro e w' ⟨rfl, hb⟩
  have B := Lib.hid hb
  clear hb
  go_wp2
  go_ret
  exact ⟨rfl, B.out⟩
theorem two_pow (x y z : Int) (w : World) (h0 : 0 ≤ z) (h1 : z < 18446744073709551616) (hc : ∀ w, Calls Tryz.prog 67 #[.int .u64 x, .int .u64 y] w fun e w' => e = .returned (.int .u64 z) ∧ w = w') (hT : Tp w) :
    Calls Tryz.prog 32 #[.string ⟨#[112, 111, 119]⟩, .int .u64 x, .int .u64 y] w (RetV w (.string (o1B z))) := by
  have C := Lib.hid (hc w)
  have D := Lib.hid (one_1 z h0 h1 w hT)
  generalize o1B z = r at *
  clear hc
  go_enter Tryz.func32, Tryz.ntmps32
  go_wp2_with fail
  refine C.out.mono ?_
  rintro e w' ⟨rfl, rfl⟩
  go_wp2_with fail
  refine D.out.mono ?_
  rintro e w' ⟨rfl, hb⟩
  have B := Lib.hid hb
  clear hb
  go_wp2
  go_ret
  exact ⟨rfl, B.out⟩
set_option maxRecDepth 100000 in
theorem ls_ntt (L : List Nat) (n : Int) (v : Value) (w : World) (hL : OkN L) (hn0 : 0 ≤ n) (hn1 : n < 10) (hc : Calls Tryz.prog 60 #[v] w (RetNE w L n)) (hT : Tp w) :
    Calls Tryz.prog 31 #[.string ⟨#[110, 116, 116]⟩, v] w (RetV w (.string (lnB L n))) := by
  have C := Lib.hid hc
  have TP := Lib.hid hT
  clear hc hT
  go_enter Tryz.func31, Tryz.ntmps31
  go_wp2_with fail
  refine C.out.mono ?_
  rintro e w1 ⟨v1, rfl, h1, hb⟩
  have R1 := Lib.hid h1
  have B1 := Lib.hid hb
  have hs1 := hb.size
  clear h1 hb
  go_wp2_with fail
  refine (told_ln L n hL hn0 hn1 _ _ R1.out (TP.out.below B1.out)).mono ?_
  rintro e w2 ⟨rfl, hb⟩
  have B2 := Lib.hid (B1.out.trans (hb.mono hs1))
  clear hb
  go_wp2
  go_ret
  exact ⟨rfl, B2.out⟩
set_option maxRecDepth 100000 in
theorem ls_back (L : List Nat) (n : Int) (v : Value) (w : World) (hL : OkN L) (hn0 : 0 ≤ n) (hn1 : n < 10) (hc : Calls Tryz.prog 61 #[v] w (RetNE w L n)) (hT : Tp w) :
    Calls Tryz.prog 31 #[.string ⟨#[98, 97, 99, 107]⟩, v] w (RetV w (.string (lnB L n))) := by
  have C := Lib.hid hc
  have TP := Lib.hid hT
  clear hc hT
  go_enter Tryz.func31, Tryz.ntmps31
  go_wp2_with fail
  refine C.out.mono ?_
  rintro e w1 ⟨v1, rfl, h1, hb⟩
  have R1 := Lib.hid h1
  have B1 := Lib.hid hb
  have hs1 := hb.size
  clear h1 hb
  go_wp2_with fail
  refine (told_ln L n hL hn0 hn1 _ _ R1.out (TP.out.below B1.out)).mono ?_
  rintro e w2 ⟨rfl, hb⟩
  have B2 := Lib.hid (B1.out.trans (hb.mono hs1))
  clear hb
  go_wp2
  go_ret
  exact ⟨rfl, B2.out⟩
set_option maxRecDepth 100000 in
theorem ls_plan_none (v : Value) (w : World) (h : Rd .u64 w v []) (hT : Tp w) :
    Calls Tryz.prog 31 #[.string ⟨#[112, 108, 97, 110]⟩, v] w (RetV w (.string (erB 3))) := by
  obtain ⟨a, cap, rfl, hcap, hm⟩ := h.shape
  have D := Lib.hid (failed_is 3 (by omega) (by omega) w hT)
  generalize erB 3 = r at *
  clear h hT
  go_enter Tryz.func31, Tryz.ntmps31
  go_wp2_with fail
  refine D.out.mono ?_
  rintro e w' ⟨rfl, hb⟩
  have B := Lib.hid hb
  clear hb
  go_wp2
  go_ret
  exact ⟨rfl, B.out⟩
set_option maxRecDepth 100000 in
theorem ls_share_none (v : Value) (w : World) (h : Rd .u64 w v []) (hT : Tp w) :
    Calls Tryz.prog 31 #[.string ⟨#[115, 104, 97, 114, 101]⟩, v] w (RetV w (.string (erB 3))) := by
  obtain ⟨a, cap, rfl, hcap, hm⟩ := h.shape
  have D := Lib.hid (failed_is 3 (by omega) (by omega) w hT)
  generalize erB 3 = r at *
  clear h hT
  go_enter Tryz.func31, Tryz.ntmps31
  go_wp2_with fail
  refine D.out.mono ?_
  rintro e w' ⟨rfl, hb⟩
  have B := Lib.hid hb
  clear hb
  go_wp2
  go_ret
  exact ⟨rfl, B.out⟩
set_option maxRecDepth 100000 in
theorem ls_plan (ns : List Nat) (r : ByteArray) (v : Value) (w : World) (h : Rd .u64 w v (nz ns)) (h0 : 0 < ns.length) (hc : Calls Tryz.prog 62 #[v] w (RetV w (.string r))) :
    Calls Tryz.prog 31 #[.string ⟨#[112, 108, 97, 110]⟩, v] w (RetV w (.string r)) := by
  obtain ⟨cap, b, off, rfl, hcap, hm, hx⟩ := h.cells h0
  have C := Lib.hid hc
  have g1 : ((ns.length : Int) == 0) = false := by rw [beq_eq_false_iff_ne]; omega
  have g2 : (ns.length == 0) = false := by rw [beq_eq_false_iff_ne]; omega
  clear h hc hx
  go_enter Tryz.func31, Tryz.ntmps31
  go_wp2_with fail
  refine C.out.mono ?_
  rintro e w' ⟨rfl, hb⟩
  have B := Lib.hid hb
  clear hb
  go_wp2
  go_ret
  exact ⟨rfl, B.out⟩
set_option maxHeartbeats 2000000 in
set_option maxRecDepth 100000 in
theorem ls_share (ns : List Nat) (L : List Nat) (n : Int) (v : Value) (w : World) (h : Rd .u64 w v (nz ns)) (h0 : 0 < ns.length) (hL : OkN L) (hn0 : 0 ≤ n) (hn1 : n < 10)
    (hc : ∀ v' w', Rd .u64 w' v' ((nz ns).drop 1) → Calls Tryz.prog 63 #[v', .int .i64 (sml (at0 ns 0) : Int)] w' (RetNE w' L n)) (hT : Tp w) :
    Calls Tryz.prog 31 #[.string ⟨#[115, 104, 97, 114, 101]⟩, v] w (RetV w (.string (lnB L n))) := by
  obtain ⟨v2, hsl, h2⟩ := h.from 1 (by rw [nz_len]; exact h0)
  rw [show ((1 : Nat) : Int) = 1 from rfl] at hsl
  obtain ⟨cap, b, off, rfl, hcap, hm, hx⟩ := h.cells h0
  have c0 := hx 0 h0
  rw [Nat.add_zero] at c0
  have C := Lib.hid hc
  have R2 := Lib.hid h2
  have TP := Lib.hid hT
  have SM := Lib.hid (fun w => small_any (at0 ns 0) w)
  have g1 : ((ns.length : Int) == 0) = false := by rw [beq_eq_false_iff_ne]; omega
  have g2 : (ns.length == 0) = false := by rw [beq_eq_false_iff_ne]; omega
  clear h hc hx hT h2
  generalize at0 ns 0 = x at *
  go_enter Tryz.func31, Tryz.ntmps31
  go_wp2_with fail
  refine wp_region_N [4] [5, 6, 9] (fun w' => w'.cell? ⟨b, off, none⟩ = some (.int .u64 (x : Int))) (by kernel_rfl) ?_
  have hS : w.drew.cell? ⟨b, off, none⟩ = some (.int .u64 (x : Int)) := c0
  refine wpN_pure (i := 0) (v := ?_) rfl (by kernel_rfl) (by kernel_rfl) (by kernel_rfl) (by kernel_rfl) (fun _ _ _ h => h) (Or.inl ⟨by rfl, ?_⟩) (fun _ => hS) ?_
  rotate_left
  · ((intro w' hw'; (try dsimp only at hw'); go_simp) <;> with_reducible rfl)
  simp only [Act.put, List.setIfInBounds_toArray, List.set_cons_zero, List.set_cons_succ]
  refine wpN_pure (i := 1) (v := ?_) rfl (by kernel_rfl) (by kernel_rfl) (by kernel_rfl) (by kernel_rfl) (fun _ _ _ h => h) (Or.inl ⟨by rfl, ?_⟩) (fun _ => hS) ?_
  rotate_left
  · ((intro w' hw'; (try dsimp only at hw'); go_simp) <;> with_reducible rfl)
  simp only [Act.put, List.setIfInBounds_toArray, List.set_cons_zero, List.set_cons_succ]
  refine wpN_pure (i := 2) (v := ?_) rfl (by kernel_rfl) (by kernel_rfl) (by kernel_rfl) (by kernel_rfl) (fun _ _ _ h => h) (Or.inl ⟨by rfl, ?_⟩) (fun _ => hS) ?_
  rotate_left
  · ((intro w' hw'; (try dsimp only at hw'); go_simp) <;> with_reducible rfl)
  simp only [Act.put, List.setIfInBounds_toArray, List.set_cons_zero, List.set_cons_succ]
  refine wpN_pure (i := 3) (v := ?_) rfl (by kernel_rfl) (by kernel_rfl) (by kernel_rfl) (by kernel_rfl) (fun _ _ _ h => h) (Or.inl ⟨by rfl, ?_⟩) (fun _ => hS) ?_
  rotate_left
  · ((intro w' hw'; (try dsimp only at hw'); go_simp) <;> with_reducible rfl)
  simp only [Act.put, List.setIfInBounds_toArray, List.set_cons_zero, List.set_cons_succ]
  refine wpN_read (i := 4) (v := ?_) rfl (by kernel_rfl) (by kernel_rfl) (by kernel_rfl) (by kernel_rfl) (by kernel_rfl) (fun _ _ _ h => h) (Or.inl ⟨by rfl, ?_⟩) hS ?_
  rotate_left
  · ((intro w' hw'; (try dsimp only at hw'); go_simp) <;> with_reducible rfl)
  simp only [Act.put, List.setIfInBounds_toArray, List.set_cons_zero, List.set_cons_succ]
  refine wpN_oneS (i := 5) rfl rfl (by kernel_rfl) (fun K hK => ?_)
  go_simp
  refine (SM.out _).mono ?_
  rintro e w' ⟨rfl, rfl⟩
  refine ⟨hS, hK.out _ _ hS ?_⟩
  clear hK K
  refine wpN_one (i := 6) rfl rfl (by kernel_rfl) (by kernel_rfl) (fun K hK => ?_)
  go_simp
  refine (C.out _ _ (R2.out.below (below_drewN (Below.refl _ _) 1))).mono ?_
  rintro e w1 ⟨v1, rfl, h1, hb⟩
  refine hK.out _ _ ?_
  clear hK K hS
  have R1 := Lib.hid h1
  have B1 := Lib.hid ((below_drewN (Below.refl w.heap.size w) 1).trans hb)
  have hs1 := B1.out.size
  clear h1 hb
  refine wpN_pure (i := 7) (v := ?_) rfl (by kernel_rfl) (by kernel_rfl) (by kernel_rfl) (by kernel_rfl) (fun _ _ _ h => h) (Or.inl ⟨by rfl, ?_⟩) (fun h => Bool.noConfusion (h.symm.trans (show _ = false by kernel_rfl))) ?_
  rotate_left
  · ((intro w' hw'; (try dsimp only at hw'); go_simp) <;> with_reducible rfl)
  simp only [Act.put, List.setIfInBounds_toArray, List.set_cons_zero, List.set_cons_succ]
  refine wpN_pure (i := 8) (v := ?_) rfl (by kernel_rfl) (by kernel_rfl) (by kernel_rfl) (by kernel_rfl) (fun _ _ _ h => h) (Or.inl ⟨by rfl, ?_⟩) (fun h => Bool.noConfusion (h.symm.trans (show _ = false by kernel_rfl))) ?_
  rotate_left
  · ((intro w' hw'; (try dsimp only at hw'); go_simp) <;> with_reducible rfl)
  simp only [Act.put, List.setIfInBounds_toArray, List.set_cons_zero, List.set_cons_succ]
  refine wpN_one (i := 9) rfl rfl (by kernel_rfl) (by kernel_rfl) (fun K hK => ?_)
  go_simp
  refine (told_ln L n hL hn0 hn1 _ _ R1.out (TP.out.below B1.out)).mono ?_
  rintro e w2 ⟨rfl, hb⟩
  refine hK.out _ _ ?_
  have B2 := Lib.hid (B1.out.trans (hb.mono hs1))
  clear hb hK K
  refine wpN_pure (i := 10) (v := ?_) rfl (by kernel_rfl) (by kernel_rfl) (by kernel_rfl) (by kernel_rfl) (fun _ _ _ h => h) (Or.inl ⟨by rfl, ?_⟩) (fun h => Bool.noConfusion (h.symm.trans (show _ = false by kernel_rfl))) ?_
  rotate_left
  · ((intro w' hw'; (try dsimp only at hw'); go_simp) <;> with_reducible rfl)
  simp only [Act.put, List.setIfInBounds_toArray, List.set_cons_zero, List.set_cons_succ]
  refine wpN_done (by kernel_rfl) ?_
  go_wp2
  go_ret
  exact ⟨rfl, B2.out⟩
end Go.Proofs.YtdhmmllpldjkbaaGreatDoor.Gm
