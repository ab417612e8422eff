/- desk.do, verb by verb. (Printed by wip/mk_dkf.py.) -/
import Derived.Test.YtdhmmllpldjkbaaGreatDoorDke
namespace Go.Proofs.YtdhmmllpldjkbaaGreatDoor.Gm
open Go.RowKit
set_option linter.unusedVariables false
theorem lit_ne {vb : ByteArray} {l : List UInt8} (h : vb ≠ ⟨l.toArray⟩) : (vb.toList == l) = false := by
  rw [beq_eq_false_iff_ne]
  intro e
  apply h
  apply bl_inj
  unfold bl
  rw [← Lib.toList_data, e]
set_option maxRecDepth 100000 in
theorem do_cyclic (r : ByteArray) (v : Value) (w : World) (hc : Calls Tryz.prog 27 #[.string ⟨#[99, 121, 99, 108, 105, 99]⟩, v] w (RetV w (.string r))) :
    Calls Tryz.prog 16 #[.string ⟨#[99, 121, 99, 108, 105, 99]⟩, v] w (RetV w (.string r)) := by
  have C := Lib.hid hc
  clear hc
  go_enter Tryz.func16, Tryz.ntmps16
  go_wp2_with fail
  refine C.out.mono ?_
  rintro e w1 ⟨rfl, hb⟩
  have B1 := Lib.hid hb
  clear hb
  go_wp2
  go_ret
  exact ⟨rfl, B1.out⟩
set_option maxRecDepth 100000 in
theorem do_linear (r : ByteArray) (v : Value) (w : World) (hc : Calls Tryz.prog 27 #[.string ⟨#[108, 105, 110, 101, 97, 114]⟩, v] w (RetV w (.string r))) :
    Calls Tryz.prog 16 #[.string ⟨#[108, 105, 110, 101, 97, 114]⟩, v] w (RetV w (.string r)) := by
  have C := Lib.hid hc
  clear hc
  go_enter Tryz.func16, Tryz.ntmps16
  go_wp2_with fail
  refine C.out.mono ?_
  rintro e w1 ⟨rfl, hb⟩
  have B1 := Lib.hid hb
  clear hb
  go_wp2
  go_ret
  exact ⟨rfl, B1.out⟩
set_option maxRecDepth 100000 in
theorem do_sum (r : ByteArray) (v : Value) (w : World) (hc : Calls Tryz.prog 28 #[.string ⟨#[115, 117, 109]⟩, v] w (RetV w (.string r))) :
    Calls Tryz.prog 16 #[.string ⟨#[115, 117, 109]⟩, v] w (RetV w (.string r)) := by
  have C := Lib.hid hc
  clear hc
  go_enter Tryz.func16, Tryz.ntmps16
  go_wp2_with fail
  refine C.out.mono ?_
  rintro e w1 ⟨rfl, hb⟩
  have B1 := Lib.hid hb
  clear hb
  go_wp2
  go_ret
  exact ⟨rfl, B1.out⟩
set_option maxRecDepth 100000 in
theorem do_times (r : ByteArray) (v : Value) (w : World) (hc : Calls Tryz.prog 28 #[.string ⟨#[116, 105, 109, 101, 115]⟩, v] w (RetV w (.string r))) :
    Calls Tryz.prog 16 #[.string ⟨#[116, 105, 109, 101, 115]⟩, v] w (RetV w (.string r)) := by
  have C := Lib.hid hc
  clear hc
  go_enter Tryz.func16, Tryz.ntmps16
  go_wp2_with fail
  refine C.out.mono ?_
  rintro e w1 ⟨rfl, hb⟩
  have B1 := Lib.hid hb
  clear hb
  go_wp2
  go_ret
  exact ⟨rfl, B1.out⟩
set_option maxHeartbeats 2000000 in
set_option maxRecDepth 100000 in
theorem do_nan (vb : ByteArray) (h0 : vb ≠ ⟨#[99, 121, 99, 108, 105, 99]⟩) (h1 : vb ≠ ⟨#[108, 105, 110, 101, 97, 114]⟩) (h2 : vb ≠ ⟨#[115, 117, 109]⟩) (h3 : vb ≠ ⟨#[116, 105, 109, 101, 115]⟩) (ws : List ByteArray) (hn : ∀ ns, ¬ NumsW ws ns) (hl : ws.length ≤ 1000000) (v : Value) (w : World) (h : Rs w v ws) (hT : Tp w) :
    Calls Tryz.prog 16 #[.string vb, v] w (RetV w (.string (erB 3))) := by
  have TP := Lib.hid hT
  have RR := Lib.hid h
  have HN := Lib.hid hn
  have D := Lib.hid (fun w hT => failed_is 3 (by omega) (by omega) w hT)
  generalize erB 3 = r at *
  have g0 : (vb.toList == [99, 121, 99, 108, 105, 99]) = false := lit_ne h0
  have g1 : (vb.toList == [108, 105, 110, 101, 97, 114]) = false := lit_ne h1
  have g2 : (vb.toList == [115, 117, 109]) = false := lit_ne h2
  have g3 : (vb.toList == [116, 105, 109, 101, 115]) = false := lit_ne h3
  clear h0 h1 h2 h3
  clear h hT hn
  go_enter Tryz.func16, Tryz.ntmps16
  go_wp2_with fail
  refine (dnums_bad ws HN.out _ _ RR.out hl).mono ?_
  rintro e w1 ⟨rfl, hb⟩
  have B1 := Lib.hid hb
  have hs1 := hb.size
  clear hb
  go_wp2_with fail
  refine (D.out _ (TP.out.below B1.out)).mono ?_
  rintro e w2 ⟨rfl, hb⟩
  have B2 := Lib.hid (B1.out.trans (hb.mono hs1))
  clear hb
  go_wp2
  go_ret
  exact ⟨rfl, B2.out⟩
set_option maxRecDepth 100000 in
theorem do_ntt (r : ByteArray) (ws : List ByteArray) (ns : List Nat) (hn : NumsW ws ns) (hl : ws.length ≤ 1000000) (v : Value) (w : World) (h : Rs w v ws) (hT : Tp w) (hTb : Tb w)
    (hc : ∀ v' w', Rd .u64 w' v' (nz ns) → Tp w' → Tb w' → Calls Tryz.prog 31 #[.string ⟨#[110, 116, 116]⟩, v'] w' (RetV w' (.string r))) :
    Calls Tryz.prog 16 #[.string ⟨#[110, 116, 116]⟩, v] w (RetV w (.string r)) := by
  have C := Lib.hid hc
  have TB := Lib.hid hTb
  clear hc hTb
  have TP := Lib.hid hT
  have RR := Lib.hid h
  have HN := Lib.hid hn
  clear h hT hn
  go_enter Tryz.func16, Tryz.ntmps16
  go_wp2_with fail
  refine (dnums_ok ws ns HN.out _ _ RR.out hl).mono ?_
  rintro e w1 ⟨v1, rfl, hr, hb⟩
  have B1 := Lib.hid hb
  have hs1 := hb.size
  have R1 := Lib.hid hr
  clear hb hr
  go_wp2_with fail
  refine (C.out _ _ R1.out (TP.out.below B1.out) (TB.out.below B1.out)).mono ?_
  rintro e w2 ⟨rfl, hb⟩
  have B2 := Lib.hid (B1.out.trans (hb.mono hs1))
  clear hb
  go_wp2
  go_ret
  exact ⟨rfl, B2.out⟩
set_option maxRecDepth 100000 in
theorem do_back (r : ByteArray) (ws : List ByteArray) (ns : List Nat) (hn : NumsW ws ns) (hl : ws.length ≤ 1000000) (v : Value) (w : World) (h : Rs w v ws) (hT : Tp w) (hTb : Tb w)
    (hc : ∀ v' w', Rd .u64 w' v' (nz ns) → Tp w' → Tb w' → Calls Tryz.prog 31 #[.string ⟨#[98, 97, 99, 107]⟩, v'] w' (RetV w' (.string r))) :
    Calls Tryz.prog 16 #[.string ⟨#[98, 97, 99, 107]⟩, v] w (RetV w (.string r)) := by
  have C := Lib.hid hc
  have TB := Lib.hid hTb
  clear hc hTb
  have TP := Lib.hid hT
  have RR := Lib.hid h
  have HN := Lib.hid hn
  clear h hT hn
  go_enter Tryz.func16, Tryz.ntmps16
  go_wp2_with fail
  refine (dnums_ok ws ns HN.out _ _ RR.out hl).mono ?_
  rintro e w1 ⟨v1, rfl, hr, hb⟩
  have B1 := Lib.hid hb
  have hs1 := hb.size
  have R1 := Lib.hid hr
  clear hb hr
  go_wp2_with fail
  refine (C.out _ _ R1.out (TP.out.below B1.out) (TB.out.below B1.out)).mono ?_
  rintro e w2 ⟨rfl, hb⟩
  have B2 := Lib.hid (B1.out.trans (hb.mono hs1))
  clear hb
  go_wp2
  go_ret
  exact ⟨rfl, B2.out⟩
set_option maxRecDepth 100000 in
theorem do_plan (r : ByteArray) (ws : List ByteArray) (ns : List Nat) (hn : NumsW ws ns) (hl : ws.length ≤ 1000000) (v : Value) (w : World) (h : Rs w v ws) (hT : Tp w) (hTb : Tb w)
    (hc : ∀ v' w', Rd .u64 w' v' (nz ns) → Tp w' → Tb w' → Calls Tryz.prog 31 #[.string ⟨#[112, 108, 97, 110]⟩, v'] w' (RetV w' (.string r))) :
    Calls Tryz.prog 16 #[.string ⟨#[112, 108, 97, 110]⟩, v] w (RetV w (.string r)) := by
  have C := Lib.hid hc
  have TB := Lib.hid hTb
  clear hc hTb
  have TP := Lib.hid hT
  have RR := Lib.hid h
  have HN := Lib.hid hn
  clear h hT hn
  go_enter Tryz.func16, Tryz.ntmps16
  go_wp2_with fail
  refine (dnums_ok ws ns HN.out _ _ RR.out hl).mono ?_
  rintro e w1 ⟨v1, rfl, hr, hb⟩
  have B1 := Lib.hid hb
  have hs1 := hb.size
  have R1 := Lib.hid hr
  clear hb hr
  go_wp2_with fail
  refine (C.out _ _ R1.out (TP.out.below B1.out) (TB.out.below B1.out)).mono ?_
  rintro e w2 ⟨rfl, hb⟩
  have B2 := Lib.hid (B1.out.trans (hb.mono hs1))
  clear hb
  go_wp2
  go_ret
  exact ⟨rfl, B2.out⟩
set_option maxRecDepth 100000 in
theorem do_share (r : ByteArray) (ws : List ByteArray) (ns : List Nat) (hn : NumsW ws ns) (hl : ws.length ≤ 1000000) (v : Value) (w : World) (h : Rs w v ws) (hT : Tp w) (hTb : Tb w)
    (hc : ∀ v' w', Rd .u64 w' v' (nz ns) → Tp w' → Tb w' → Calls Tryz.prog 31 #[.string ⟨#[115, 104, 97, 114, 101]⟩, v'] w' (RetV w' (.string r))) :
    Calls Tryz.prog 16 #[.string ⟨#[115, 104, 97, 114, 101]⟩, v] w (RetV w (.string r)) := by
  have C := Lib.hid hc
  have TB := Lib.hid hTb
  clear hc hTb
  have TP := Lib.hid hT
  have RR := Lib.hid h
  have HN := Lib.hid hn
  clear h hT hn
  go_enter Tryz.func16, Tryz.ntmps16
  go_wp2_with fail
  refine (dnums_ok ws ns HN.out _ _ RR.out hl).mono ?_
  rintro e w1 ⟨v1, rfl, hr, hb⟩
  have B1 := Lib.hid hb
  have hs1 := hb.size
  have R1 := Lib.hid hr
  clear hb hr
  go_wp2_with fail
  refine (C.out _ _ R1.out (TP.out.below B1.out) (TB.out.below B1.out)).mono ?_
  rintro e w2 ⟨rfl, hb⟩
  have B2 := Lib.hid (B1.out.trans (hb.mono hs1))
  clear hb
  go_wp2
  go_ret
  exact ⟨rfl, B2.out⟩
set_option maxRecDepth 100000 in
theorem do_add_len (ws : List ByteArray) (ns : List Nat) (hn : NumsW ws ns) (hne : ns.length ≠ 2) (hl : ws.length ≤ 1000000) (v : Value) (w : World) (h : Rs w v ws) (hT : Tp w) :
    Calls Tryz.prog 16 #[.string ⟨#[97, 100, 100]⟩, v] w (RetV w (.string (erB 3))) := by
  have D := Lib.hid (fun w hT => failed_is 3 (by omega) (by omega) w hT)
  generalize erB 3 = r at *
  have g1 : ((ns.length : Int) == 2) = false := by rw [beq_eq_false_iff_ne]; omega
  have g2 : (ns.length == 2) = false := by rw [beq_eq_false_iff_ne]; exact hne
  have TP := Lib.hid hT
  have RR := Lib.hid h
  have HN := Lib.hid hn
  clear h hT hn
  go_enter Tryz.func16, Tryz.ntmps16
  go_wp2_with fail
  refine (dnums_ok ws ns HN.out _ _ RR.out hl).mono ?_
  rintro e w1 ⟨v1, rfl, hr, hb⟩
  have B1 := Lib.hid hb
  have hs1 := hb.size
  have R1 := Lib.hid hr
  clear hb hr
  obtain ⟨a1, c1, rfl, hc1, hm1⟩ := R1.out.shape
  rw [nz_len] at *
  go_wp2_with fail
  refine (D.out _ (TP.out.below B1.out)).mono ?_
  rintro e w2 ⟨rfl, hb⟩
  have B2 := Lib.hid (B1.out.trans (hb.mono hs1))
  clear hb
  go_wp2
  go_ret
  exact ⟨rfl, B2.out⟩
set_option maxHeartbeats 2000000 in
set_option maxRecDepth 100000 in
theorem do_add (r : ByteArray) (ws : List ByteArray) (x y : Nat) (hn : NumsW ws [x, y]) (hl : ws.length ≤ 1000000) (v : Value) (w : World) (h : Rs w v ws) (hT : Tp w)
    (hc : ∀ w', Tp w' → Calls Tryz.prog 32 #[.string ⟨#[97, 100, 100]⟩, .int .u64 (x : Int), .int .u64 (y : Int)] w' (RetV w' (.string r))) :
    Calls Tryz.prog 16 #[.string ⟨#[97, 100, 100]⟩, v] w (RetV w (.string r)) := by
  have C := Lib.hid hc
  clear hc
  obtain ⟨ns, hns⟩ : ∃ ns, ns = [x, y] := ⟨_, rfl⟩
  rw [← hns] at hn
  have TP := Lib.hid hT
  have RR := Lib.hid h
  have HN := Lib.hid hn
  clear h hT hn
  go_enter Tryz.func16, Tryz.ntmps16
  go_wp2_with fail
  refine (dnums_ok ws ns HN.out _ _ RR.out hl).mono ?_
  rintro e w1 ⟨v1, rfl, hr, hb⟩
  have B1 := Lib.hid hb
  have hs1 := hb.size
  have R1 := Lib.hid hr
  clear hb hr
  subst hns
  obtain ⟨cap, b, off, rfl, hcap, hm, hx⟩ := R1.out.cells (by simp)
  have c0 : w1.cell? ⟨b, off, none⟩ = some (.int .u64 (x : Int)) := hx 0 (by simp)
  have c1 : w1.cell? ⟨b, off + 1, none⟩ = some (.int .u64 (y : Int)) := hx 1 (by simp)
  clear hx R1
  go_wp2_with fail
  refine wp_region_N [3, 6] [7] (fun w' => w'.cell? ⟨b, off, none⟩ = some (.int .u64 (x : Int)) ∧ w'.cell? ⟨b, off + 1, none⟩ = some (.int .u64 (y : Int))) (by kernel_rfl) ?_
  have hS : w1.drew.cell? ⟨b, off, none⟩ = some (.int .u64 (x : Int)) ∧ w1.drew.cell? ⟨b, off + 1, none⟩ = some (.int .u64 (y : Int)) := ⟨c0, c1⟩
  refine wpN_pure (i := 0) (v := ?_) rfl (by kernel_rfl) (by kernel_rfl) (by kernel_rfl) (by kernel_rfl) (fun _ _ _ h => h) (Or.inl ⟨by rfl, ?_⟩) (fun _ => hS) ?_
  rotate_left
  · ((intro w' hw'; (try dsimp only at hw'); go_simp) <;> with_reducible rfl)
  simp only [Act.put, List.setIfInBounds_toArray, List.set_cons_zero, List.set_cons_succ]
  refine wpN_pure (i := 1) (v := ?_) rfl (by kernel_rfl) (by kernel_rfl) (by kernel_rfl) (by kernel_rfl) (fun _ _ _ h => h) (Or.inl ⟨by rfl, ?_⟩) (fun _ => hS) ?_
  rotate_left
  · ((intro w' hw'; (try dsimp only at hw'); go_simp) <;> with_reducible rfl)
  simp only [Act.put, List.setIfInBounds_toArray, List.set_cons_zero, List.set_cons_succ]
  refine wpN_pure (i := 2) (v := ?_) rfl (by kernel_rfl) (by kernel_rfl) (by kernel_rfl) (by kernel_rfl) (fun _ _ _ h => h) (Or.inl ⟨by rfl, ?_⟩) (fun _ => hS) ?_
  rotate_left
  · ((intro w' hw'; (try dsimp only at hw'); go_simp) <;> with_reducible rfl)
  simp only [Act.put, List.setIfInBounds_toArray, List.set_cons_zero, List.set_cons_succ]
  refine wpN_read (i := 3) (v := ?_) rfl (by kernel_rfl) (by kernel_rfl) (by kernel_rfl) (by kernel_rfl) (by kernel_rfl) (fun _ _ _ h => h) (Or.inl ⟨by rfl, ?_⟩) hS ?_
  rotate_left
  · ((intro w' hw'; (try dsimp only at hw'); go_simp) <;> with_reducible rfl)
  simp only [Act.put, List.setIfInBounds_toArray, List.set_cons_zero, List.set_cons_succ]
  refine wpN_pure (i := 4) (v := ?_) rfl (by kernel_rfl) (by kernel_rfl) (by kernel_rfl) (by kernel_rfl) (fun _ _ _ h => h) (Or.inl ⟨by rfl, ?_⟩) (fun _ => hS) ?_
  rotate_left
  · ((intro w' hw'; (try dsimp only at hw'); go_simp) <;> with_reducible rfl)
  simp only [Act.put, List.setIfInBounds_toArray, List.set_cons_zero, List.set_cons_succ]
  refine wpN_pure (i := 5) (v := ?_) rfl (by kernel_rfl) (by kernel_rfl) (by kernel_rfl) (by kernel_rfl) (fun _ _ _ h => h) (Or.inl ⟨by rfl, ?_⟩) (fun _ => hS) ?_
  rotate_left
  · ((intro w' hw'; (try dsimp only at hw'); go_simp) <;> with_reducible rfl)
  simp only [Act.put, List.setIfInBounds_toArray, List.set_cons_zero, List.set_cons_succ]
  refine wpN_read (i := 6) (v := ?_) rfl (by kernel_rfl) (by kernel_rfl) (by kernel_rfl) (by kernel_rfl) (by kernel_rfl) (fun _ _ _ h => h) (Or.inl ⟨by rfl, ?_⟩) hS ?_
  rotate_left
  · ((intro w' hw'; (try dsimp only at hw'); go_simp) <;> with_reducible rfl)
  simp only [Act.put, List.setIfInBounds_toArray, List.set_cons_zero, List.set_cons_succ]
  refine wpN_one (i := 7) rfl rfl (by kernel_rfl) (by kernel_rfl) (fun K hK => ?_)
  go_simp
  refine (C.out _ (TP.out.below (B1.out.trans (below_drewN (Below.refl _ _) 1 |>.mono hs1)))).mono ?_
  rintro e w2 ⟨rfl, hb⟩
  refine hK.out _ _ ?_
  clear hK K hS
  have B2 := Lib.hid ((B1.out.trans (below_drewN (Below.refl _ _) 1 |>.mono hs1)).trans (hb.mono hs1))
  clear hb
  refine wpN_pure (i := 8) (v := ?_) rfl (by kernel_rfl) (by kernel_rfl) (by kernel_rfl) (by kernel_rfl) (fun _ _ _ h => h) (Or.inl ⟨by rfl, ?_⟩) (fun h => Bool.noConfusion (h.symm.trans (show _ = false by kernel_rfl))) ?_
  rotate_left
  · ((intro w' hw'; (try dsimp only at hw'); go_simp) <;> with_reducible rfl)
  simp only [Act.put, List.setIfInBounds_toArray, List.set_cons_zero, List.set_cons_succ]
  refine wpN_done (by kernel_rfl) ?_
  go_wp2
  go_ret
  exact ⟨rfl, B2.out⟩
set_option maxRecDepth 100000 in
theorem do_sub_len (ws : List ByteArray) (ns : List Nat) (hn : NumsW ws ns) (hne : ns.length ≠ 2) (hl : ws.length ≤ 1000000) (v : Value) (w : World) (h : Rs w v ws) (hT : Tp w) :
    Calls Tryz.prog 16 #[.string ⟨#[115, 117, 98]⟩, v] w (RetV w (.string (erB 3))) := by
  have D := Lib.hid (fun w hT => failed_is 3 (by omega) (by omega) w hT)
  generalize erB 3 = r at *
  have g1 : ((ns.length : Int) == 2) = false := by rw [beq_eq_false_iff_ne]; omega
  have g2 : (ns.length == 2) = false := by rw [beq_eq_false_iff_ne]; exact hne
  have TP := Lib.hid hT
  have RR := Lib.hid h
  have HN := Lib.hid hn
  clear h hT hn
  go_enter Tryz.func16, Tryz.ntmps16
  go_wp2_with fail
  refine (dnums_ok ws ns HN.out _ _ RR.out hl).mono ?_
  rintro e w1 ⟨v1, rfl, hr, hb⟩
  have B1 := Lib.hid hb
  have hs1 := hb.size
  have R1 := Lib.hid hr
  clear hb hr
  obtain ⟨a1, c1, rfl, hc1, hm1⟩ := R1.out.shape
  rw [nz_len] at *
  go_wp2_with fail
  refine (D.out _ (TP.out.below B1.out)).mono ?_
  rintro e w2 ⟨rfl, hb⟩
  have B2 := Lib.hid (B1.out.trans (hb.mono hs1))
  clear hb
  go_wp2
  go_ret
  exact ⟨rfl, B2.out⟩
set_option maxHeartbeats 2000000 in
set_option maxRecDepth 100000 in
theorem do_sub (r : ByteArray) (ws : List ByteArray) (x y : Nat) (hn : NumsW ws [x, y]) (hl : ws.length ≤ 1000000) (v : Value) (w : World) (h : Rs w v ws) (hT : Tp w)
    (hc : ∀ w', Tp w' → Calls Tryz.prog 32 #[.string ⟨#[115, 117, 98]⟩, .int .u64 (x : Int), .int .u64 (y : Int)] w' (RetV w' (.string r))) :
    Calls Tryz.prog 16 #[.string ⟨#[115, 117, 98]⟩, v] w (RetV w (.string r)) := by
  have C := Lib.hid hc
  clear hc
  obtain ⟨ns, hns⟩ : ∃ ns, ns = [x, y] := ⟨_, rfl⟩
  rw [← hns] at hn
  have TP := Lib.hid hT
  have RR := Lib.hid h
  have HN := Lib.hid hn
  clear h hT hn
  go_enter Tryz.func16, Tryz.ntmps16
  go_wp2_with fail
  refine (dnums_ok ws ns HN.out _ _ RR.out hl).mono ?_
  rintro e w1 ⟨v1, rfl, hr, hb⟩
  have B1 := Lib.hid hb
  have hs1 := hb.size
  have R1 := Lib.hid hr
  clear hb hr
  subst hns
  obtain ⟨cap, b, off, rfl, hcap, hm, hx⟩ := R1.out.cells (by simp)
  have c0 : w1.cell? ⟨b, off, none⟩ = some (.int .u64 (x : Int)) := hx 0 (by simp)
  have c1 : w1.cell? ⟨b, off + 1, none⟩ = some (.int .u64 (y : Int)) := hx 1 (by simp)
  clear hx R1
  go_wp2_with fail
  refine wp_region_N [3, 6] [7] (fun w' => w'.cell? ⟨b, off, none⟩ = some (.int .u64 (x : Int)) ∧ w'.cell? ⟨b, off + 1, none⟩ = some (.int .u64 (y : Int))) (by kernel_rfl) ?_
  have hS : w1.drew.cell? ⟨b, off, none⟩ = some (.int .u64 (x : Int)) ∧ w1.drew.cell? ⟨b, off + 1, none⟩ = some (.int .u64 (y : Int)) := ⟨c0, c1⟩
  refine wpN_pure (i := 0) (v := ?_) rfl (by kernel_rfl) (by kernel_rfl) (by kernel_rfl) (by kernel_rfl) (fun _ _ _ h => h) (Or.inl ⟨by rfl, ?_⟩) (fun _ => hS) ?_
  rotate_left
  · ((intro w' hw'; (try dsimp only at hw'); go_simp) <;> with_reducible rfl)
  simp only [Act.put, List.setIfInBounds_toArray, List.set_cons_zero, List.set_cons_succ]
  refine wpN_pure (i := 1) (v := ?_) rfl (by kernel_rfl) (by kernel_rfl) (by kernel_rfl) (by kernel_rfl) (fun _ _ _ h => h) (Or.inl ⟨by rfl, ?_⟩) (fun _ => hS) ?_
  rotate_left
  · ((intro w' hw'; (try dsimp only at hw'); go_simp) <;> with_reducible rfl)
  simp only [Act.put, List.setIfInBounds_toArray, List.set_cons_zero, List.set_cons_succ]
  refine wpN_pure (i := 2) (v := ?_) rfl (by kernel_rfl) (by kernel_rfl) (by kernel_rfl) (by kernel_rfl) (fun _ _ _ h => h) (Or.inl ⟨by rfl, ?_⟩) (fun _ => hS) ?_
  rotate_left
  · ((intro w' hw'; (try dsimp only at hw'); go_simp) <;> with_reducible rfl)
  simp only [Act.put, List.setIfInBounds_toArray, List.set_cons_zero, List.set_cons_succ]
  refine wpN_read (i := 3) (v := ?_) rfl (by kernel_rfl) (by kernel_rfl) (by kernel_rfl) (by kernel_rfl) (by kernel_rfl) (fun _ _ _ h => h) (Or.inl ⟨by rfl, ?_⟩) hS ?_
  rotate_left
  · ((intro w' hw'; (try dsimp only at hw'); go_simp) <;> with_reducible rfl)
  simp only [Act.put, List.setIfInBounds_toArray, List.set_cons_zero, List.set_cons_succ]
  refine wpN_pure (i := 4) (v := ?_) rfl (by kernel_rfl) (by kernel_rfl) (by kernel_rfl) (by kernel_rfl) (fun _ _ _ h => h) (Or.inl ⟨by rfl, ?_⟩) (fun _ => hS) ?_
  rotate_left
  · ((intro w' hw'; (try dsimp only at hw'); go_simp) <;> with_reducible rfl)
  simp only [Act.put, List.setIfInBounds_toArray, List.set_cons_zero, List.set_cons_succ]
  refine wpN_pure (i := 5) (v := ?_) rfl (by kernel_rfl) (by kernel_rfl) (by kernel_rfl) (by kernel_rfl) (fun _ _ _ h => h) (Or.inl ⟨by rfl, ?_⟩) (fun _ => hS) ?_
  rotate_left
  · ((intro w' hw'; (try dsimp only at hw'); go_simp) <;> with_reducible rfl)
  simp only [Act.put, List.setIfInBounds_toArray, List.set_cons_zero, List.set_cons_succ]
  refine wpN_read (i := 6) (v := ?_) rfl (by kernel_rfl) (by kernel_rfl) (by kernel_rfl) (by kernel_rfl) (by kernel_rfl) (fun _ _ _ h => h) (Or.inl ⟨by rfl, ?_⟩) hS ?_
  rotate_left
  · ((intro w' hw'; (try dsimp only at hw'); go_simp) <;> with_reducible rfl)
  simp only [Act.put, List.setIfInBounds_toArray, List.set_cons_zero, List.set_cons_succ]
  refine wpN_one (i := 7) rfl rfl (by kernel_rfl) (by kernel_rfl) (fun K hK => ?_)
  go_simp
  refine (C.out _ (TP.out.below (B1.out.trans (below_drewN (Below.refl _ _) 1 |>.mono hs1)))).mono ?_
  rintro e w2 ⟨rfl, hb⟩
  refine hK.out _ _ ?_
  clear hK K hS
  have B2 := Lib.hid ((B1.out.trans (below_drewN (Below.refl _ _) 1 |>.mono hs1)).trans (hb.mono hs1))
  clear hb
  refine wpN_pure (i := 8) (v := ?_) rfl (by kernel_rfl) (by kernel_rfl) (by kernel_rfl) (by kernel_rfl) (fun _ _ _ h => h) (Or.inl ⟨by rfl, ?_⟩) (fun h => Bool.noConfusion (h.symm.trans (show _ = false by kernel_rfl))) ?_
  rotate_left
  · ((intro w' hw'; (try dsimp only at hw'); go_simp) <;> with_reducible rfl)
  simp only [Act.put, List.setIfInBounds_toArray, List.set_cons_zero, List.set_cons_succ]
  refine wpN_done (by kernel_rfl) ?_
  go_wp2
  go_ret
  exact ⟨rfl, B2.out⟩
set_option maxRecDepth 100000 in
theorem do_mul_len (ws : List ByteArray) (ns : List Nat) (hn : NumsW ws ns) (hne : ns.length ≠ 2) (hl : ws.length ≤ 1000000) (v : Value) (w : World) (h : Rs w v ws) (hT : Tp w) :
    Calls Tryz.prog 16 #[.string ⟨#[109, 117, 108]⟩, v] w (RetV w (.string (erB 3))) := by
  have D := Lib.hid (fun w hT => failed_is 3 (by omega) (by omega) w hT)
  generalize erB 3 = r at *
  have g1 : ((ns.length : Int) == 2) = false := by rw [beq_eq_false_iff_ne]; omega
  have g2 : (ns.length == 2) = false := by rw [beq_eq_false_iff_ne]; exact hne
  have TP := Lib.hid hT
  have RR := Lib.hid h
  have HN := Lib.hid hn
  clear h hT hn
  go_enter Tryz.func16, Tryz.ntmps16
  go_wp2_with fail
  refine (dnums_ok ws ns HN.out _ _ RR.out hl).mono ?_
  rintro e w1 ⟨v1, rfl, hr, hb⟩
  have B1 := Lib.hid hb
  have hs1 := hb.size
  have R1 := Lib.hid hr
  clear hb hr
  obtain ⟨a1, c1, rfl, hc1, hm1⟩ := R1.out.shape
  rw [nz_len] at *
  go_wp2_with fail
  refine (D.out _ (TP.out.below B1.out)).mono ?_
  rintro e w2 ⟨rfl, hb⟩
  have B2 := Lib.hid (B1.out.trans (hb.mono hs1))
  clear hb
  go_wp2
  go_ret
  exact ⟨rfl, B2.out⟩
set_option maxHeartbeats 2000000 in
set_option maxRecDepth 100000 in
theorem do_mul (r : ByteArray) (ws : List ByteArray) (x y : Nat) (hn : NumsW ws [x, y]) (hl : ws.length ≤ 1000000) (v : Value) (w : World) (h : Rs w v ws) (hT : Tp w)
    (hc : ∀ w', Tp w' → Calls Tryz.prog 32 #[.string ⟨#[109, 117, 108]⟩, .int .u64 (x : Int), .int .u64 (y : Int)] w' (RetV w' (.string r))) :
    Calls Tryz.prog 16 #[.string ⟨#[109, 117, 108]⟩, v] w (RetV w (.string r)) := by
  have C := Lib.hid hc
  clear hc
  obtain ⟨ns, hns⟩ : ∃ ns, ns = [x, y] := ⟨_, rfl⟩
  rw [← hns] at hn
  have TP := Lib.hid hT
  have RR := Lib.hid h
  have HN := Lib.hid hn
  clear h hT hn
  go_enter Tryz.func16, Tryz.ntmps16
  go_wp2_with fail
  refine (dnums_ok ws ns HN.out _ _ RR.out hl).mono ?_
  rintro e w1 ⟨v1, rfl, hr, hb⟩
  have B1 := Lib.hid hb
  have hs1 := hb.size
  have R1 := Lib.hid hr
  clear hb hr
  subst hns
  obtain ⟨cap, b, off, rfl, hcap, hm, hx⟩ := R1.out.cells (by simp)
  have c0 : w1.cell? ⟨b, off, none⟩ = some (.int .u64 (x : Int)) := hx 0 (by simp)
  have c1 : w1.cell? ⟨b, off + 1, none⟩ = some (.int .u64 (y : Int)) := hx 1 (by simp)
  clear hx R1
  go_wp2_with fail
  refine wp_region_N [3, 6] [7] (fun w' => w'.cell? ⟨b, off, none⟩ = some (.int .u64 (x : Int)) ∧ w'.cell? ⟨b, off + 1, none⟩ = some (.int .u64 (y : Int))) (by kernel_rfl) ?_
  have hS : w1.drew.cell? ⟨b, off, none⟩ = some (.int .u64 (x : Int)) ∧ w1.drew.cell? ⟨b, off + 1, none⟩ = some (.int .u64 (y : Int)) := ⟨c0, c1⟩
  refine wpN_pure (i := 0) (v := ?_) rfl (by kernel_rfl) (by kernel_rfl) (by kernel_rfl) (by kernel_rfl) (fun _ _ _ h => h) (Or.inl ⟨by rfl, ?_⟩) (fun _ => hS) ?_
  rotate_left
  · ((intro w' hw'; (try dsimp only at hw'); go_simp) <;> with_reducible rfl)
  simp only [Act.put, List.setIfInBounds_toArray, List.set_cons_zero, List.set_cons_succ]
  refine wpN_pure (i := 1) (v := ?_) rfl (by kernel_rfl) (by kernel_rfl) (by kernel_rfl) (by kernel_rfl) (fun _ _ _ h => h) (Or.inl ⟨by rfl, ?_⟩) (fun _ => hS) ?_
  rotate_left
  · ((intro w' hw'; (try dsimp only at hw'); go_simp) <;> with_reducible rfl)
  simp only [Act.put, List.setIfInBounds_toArray, List.set_cons_zero, List.set_cons_succ]
  refine wpN_pure (i := 2) (v := ?_) rfl (by kernel_rfl) (by kernel_rfl) (by kernel_rfl) (by kernel_rfl) (fun _ _ _ h => h) (Or.inl ⟨by rfl, ?_⟩) (fun _ => hS) ?_
  rotate_left
  · ((intro w' hw'; (try dsimp only at hw'); go_simp) <;> with_reducible rfl)
  simp only [Act.put, List.setIfInBounds_toArray, List.set_cons_zero, List.set_cons_succ]
  refine wpN_read (i := 3) (v := ?_) rfl (by kernel_rfl) (by kernel_rfl) (by kernel_rfl) (by kernel_rfl) (by kernel_rfl) (fun _ _ _ h => h) (Or.inl ⟨by rfl, ?_⟩) hS ?_
  rotate_left
  · ((intro w' hw'; (try dsimp only at hw'); go_simp) <;> with_reducible rfl)
  simp only [Act.put, List.setIfInBounds_toArray, List.set_cons_zero, List.set_cons_succ]
  refine wpN_pure (i := 4) (v := ?_) rfl (by kernel_rfl) (by kernel_rfl) (by kernel_rfl) (by kernel_rfl) (fun _ _ _ h => h) (Or.inl ⟨by rfl, ?_⟩) (fun _ => hS) ?_
  rotate_left
  · ((intro w' hw'; (try dsimp only at hw'); go_simp) <;> with_reducible rfl)
  simp only [Act.put, List.setIfInBounds_toArray, List.set_cons_zero, List.set_cons_succ]
  refine wpN_pure (i := 5) (v := ?_) rfl (by kernel_rfl) (by kernel_rfl) (by kernel_rfl) (by kernel_rfl) (fun _ _ _ h => h) (Or.inl ⟨by rfl, ?_⟩) (fun _ => hS) ?_
  rotate_left
  · ((intro w' hw'; (try dsimp only at hw'); go_simp) <;> with_reducible rfl)
  simp only [Act.put, List.setIfInBounds_toArray, List.set_cons_zero, List.set_cons_succ]
  refine wpN_read (i := 6) (v := ?_) rfl (by kernel_rfl) (by kernel_rfl) (by kernel_rfl) (by kernel_rfl) (by kernel_rfl) (fun _ _ _ h => h) (Or.inl ⟨by rfl, ?_⟩) hS ?_
  rotate_left
  · ((intro w' hw'; (try dsimp only at hw'); go_simp) <;> with_reducible rfl)
  simp only [Act.put, List.setIfInBounds_toArray, List.set_cons_zero, List.set_cons_succ]
  refine wpN_one (i := 7) rfl rfl (by kernel_rfl) (by kernel_rfl) (fun K hK => ?_)
  go_simp
  refine (C.out _ (TP.out.below (B1.out.trans (below_drewN (Below.refl _ _) 1 |>.mono hs1)))).mono ?_
  rintro e w2 ⟨rfl, hb⟩
  refine hK.out _ _ ?_
  clear hK K hS
  have B2 := Lib.hid ((B1.out.trans (below_drewN (Below.refl _ _) 1 |>.mono hs1)).trans (hb.mono hs1))
  clear hb
  refine wpN_pure (i := 8) (v := ?_) rfl (by kernel_rfl) (by kernel_rfl) (by kernel_rfl) (by kernel_rfl) (fun _ _ _ h => h) (Or.inl ⟨by rfl, ?_⟩) (fun h => Bool.noConfusion (h.symm.trans (show _ = false by kernel_rfl))) ?_
  rotate_left
  · ((intro w' hw'; (try dsimp only at hw'); go_simp) <;> with_reducible rfl)
  simp only [Act.put, List.setIfInBounds_toArray, List.set_cons_zero, List.set_cons_succ]
  refine wpN_done (by kernel_rfl) ?_
  go_wp2
  go_ret
  exact ⟨rfl, B2.out⟩
set_option maxRecDepth 100000 in
theorem do_pow_len (ws : List ByteArray) (ns : List Nat) (hn : NumsW ws ns) (hne : ns.length ≠ 2) (hl : ws.length ≤ 1000000) (v : Value) (w : World) (h : Rs w v ws) (hT : Tp w) :
    Calls Tryz.prog 16 #[.string ⟨#[112, 111, 119]⟩, v] w (RetV w (.string (erB 3))) := by
  have D := Lib.hid (fun w hT => failed_is 3 (by omega) (by omega) w hT)
  generalize erB 3 = r at *
  have g1 : ((ns.length : Int) == 2) = false := by rw [beq_eq_false_iff_ne]; omega
  have g2 : (ns.length == 2) = false := by rw [beq_eq_false_iff_ne]; exact hne
  have TP := Lib.hid hT
  have RR := Lib.hid h
  have HN := Lib.hid hn
  clear h hT hn
  go_enter Tryz.func16, Tryz.ntmps16
  go_wp2_with fail
  refine (dnums_ok ws ns HN.out _ _ RR.out hl).mono ?_
  rintro e w1 ⟨v1, rfl, hr, hb⟩
  have B1 := Lib.hid hb
  have hs1 := hb.size
  have R1 := Lib.hid hr
  clear hb hr
  obtain ⟨a1, c1, rfl, hc1, hm1⟩ := R1.out.shape
  rw [nz_len] at *
  go_wp2_with fail
  refine (D.out _ (TP.out.below B1.out)).mono ?_
  rintro e w2 ⟨rfl, hb⟩
  have B2 := Lib.hid (B1.out.trans (hb.mono hs1))
  clear hb
  go_wp2
  go_ret
  exact ⟨rfl, B2.out⟩
set_option maxHeartbeats 2000000 in
set_option maxRecDepth 100000 in
theorem do_pow (r : ByteArray) (ws : List ByteArray) (x y : Nat) (hn : NumsW ws [x, y]) (hl : ws.length ≤ 1000000) (v : Value) (w : World) (h : Rs w v ws) (hT : Tp w)
    (hc : ∀ w', Tp w' → Calls Tryz.prog 32 #[.string ⟨#[112, 111, 119]⟩, .int .u64 (x : Int), .int .u64 (y : Int)] w' (RetV w' (.string r))) :
    Calls Tryz.prog 16 #[.string ⟨#[112, 111, 119]⟩, v] w (RetV w (.string r)) := by
  have C := Lib.hid hc
  clear hc
  obtain ⟨ns, hns⟩ : ∃ ns, ns = [x, y] := ⟨_, rfl⟩
  rw [← hns] at hn
  have TP := Lib.hid hT
  have RR := Lib.hid h
  have HN := Lib.hid hn
  clear h hT hn
  go_enter Tryz.func16, Tryz.ntmps16
  go_wp2_with fail
  refine (dnums_ok ws ns HN.out _ _ RR.out hl).mono ?_
  rintro e w1 ⟨v1, rfl, hr, hb⟩
  have B1 := Lib.hid hb
  have hs1 := hb.size
  have R1 := Lib.hid hr
  clear hb hr
  subst hns
  obtain ⟨cap, b, off, rfl, hcap, hm, hx⟩ := R1.out.cells (by simp)
  have c0 : w1.cell? ⟨b, off, none⟩ = some (.int .u64 (x : Int)) := hx 0 (by simp)
  have c1 : w1.cell? ⟨b, off + 1, none⟩ = some (.int .u64 (y : Int)) := hx 1 (by simp)
  clear hx R1
  go_wp2_with fail
  refine wp_region_N [3, 6] [7] (fun w' => w'.cell? ⟨b, off, none⟩ = some (.int .u64 (x : Int)) ∧ w'.cell? ⟨b, off + 1, none⟩ = some (.int .u64 (y : Int))) (by kernel_rfl) ?_
  have hS : w1.drew.cell? ⟨b, off, none⟩ = some (.int .u64 (x : Int)) ∧ w1.drew.cell? ⟨b, off + 1, none⟩ = some (.int .u64 (y : Int)) := ⟨c0, c1⟩
  refine wpN_pure (i := 0) (v := ?_) rfl (by kernel_rfl) (by kernel_rfl) (by kernel_rfl) (by kernel_rfl) (fun _ _ _ h => h) (Or.inl ⟨by rfl, ?_⟩) (fun _ => hS) ?_
  rotate_left
  · ((intro w' hw'; (try dsimp only at hw'); go_simp) <;> with_reducible rfl)
  simp only [Act.put, List.setIfInBounds_toArray, List.set_cons_zero, List.set_cons_succ]
  refine wpN_pure (i := 1) (v := ?_) rfl (by kernel_rfl) (by kernel_rfl) (by kernel_rfl) (by kernel_rfl) (fun _ _ _ h => h) (Or.inl ⟨by rfl, ?_⟩) (fun _ => hS) ?_
  rotate_left
  · ((intro w' hw'; (try dsimp only at hw'); go_simp) <;> with_reducible rfl)
  simp only [Act.put, List.setIfInBounds_toArray, List.set_cons_zero, List.set_cons_succ]
  refine wpN_pure (i := 2) (v := ?_) rfl (by kernel_rfl) (by kernel_rfl) (by kernel_rfl) (by kernel_rfl) (fun _ _ _ h => h) (Or.inl ⟨by rfl, ?_⟩) (fun _ => hS) ?_
  rotate_left
  · ((intro w' hw'; (try dsimp only at hw'); go_simp) <;> with_reducible rfl)
  simp only [Act.put, List.setIfInBounds_toArray, List.set_cons_zero, List.set_cons_succ]
  refine wpN_read (i := 3) (v := ?_) rfl (by kernel_rfl) (by kernel_rfl) (by kernel_rfl) (by kernel_rfl) (by kernel_rfl) (fun _ _ _ h => h) (Or.inl ⟨by rfl, ?_⟩) hS ?_
  rotate_left
  · ((intro w' hw'; (try dsimp only at hw'); go_simp) <;> with_reducible rfl)
  simp only [Act.put, List.setIfInBounds_toArray, List.set_cons_zero, List.set_cons_succ]
  refine wpN_pure (i := 4) (v := ?_) rfl (by kernel_rfl) (by kernel_rfl) (by kernel_rfl) (by kernel_rfl) (fun _ _ _ h => h) (Or.inl ⟨by rfl, ?_⟩) (fun _ => hS) ?_
  rotate_left
  · ((intro w' hw'; (try dsimp only at hw'); go_simp) <;> with_reducible rfl)
  simp only [Act.put, List.setIfInBounds_toArray, List.set_cons_zero, List.set_cons_succ]
  refine wpN_pure (i := 5) (v := ?_) rfl (by kernel_rfl) (by kernel_rfl) (by kernel_rfl) (by kernel_rfl) (fun _ _ _ h => h) (Or.inl ⟨by rfl, ?_⟩) (fun _ => hS) ?_
  rotate_left
  · ((intro w' hw'; (try dsimp only at hw'); go_simp) <;> with_reducible rfl)
  simp only [Act.put, List.setIfInBounds_toArray, List.set_cons_zero, List.set_cons_succ]
  refine wpN_read (i := 6) (v := ?_) rfl (by kernel_rfl) (by kernel_rfl) (by kernel_rfl) (by kernel_rfl) (by kernel_rfl) (fun _ _ _ h => h) (Or.inl ⟨by rfl, ?_⟩) hS ?_
  rotate_left
  · ((intro w' hw'; (try dsimp only at hw'); go_simp) <;> with_reducible rfl)
  simp only [Act.put, List.setIfInBounds_toArray, List.set_cons_zero, List.set_cons_succ]
  refine wpN_one (i := 7) rfl rfl (by kernel_rfl) (by kernel_rfl) (fun K hK => ?_)
  go_simp
  refine (C.out _ (TP.out.below (B1.out.trans (below_drewN (Below.refl _ _) 1 |>.mono hs1)))).mono ?_
  rintro e w2 ⟨rfl, hb⟩
  refine hK.out _ _ ?_
  clear hK K hS
  have B2 := Lib.hid ((B1.out.trans (below_drewN (Below.refl _ _) 1 |>.mono hs1)).trans (hb.mono hs1))
  clear hb
  refine wpN_pure (i := 8) (v := ?_) rfl (by kernel_rfl) (by kernel_rfl) (by kernel_rfl) (by kernel_rfl) (fun _ _ _ h => h) (Or.inl ⟨by rfl, ?_⟩) (fun h => Bool.noConfusion (h.symm.trans (show _ = false by kernel_rfl))) ?_
  rotate_left
  · ((intro w' hw'; (try dsimp only at hw'); go_simp) <;> with_reducible rfl)
  simp only [Act.put, List.setIfInBounds_toArray, List.set_cons_zero, List.set_cons_succ]
  refine wpN_done (by kernel_rfl) ?_
  go_wp2
  go_ret
  exact ⟨rfl, B2.out⟩
set_option maxRecDepth 100000 in
theorem do_inv_len (ws : List ByteArray) (ns : List Nat) (hn : NumsW ws ns) (hne : ns.length ≠ 1) (hl : ws.length ≤ 1000000) (v : Value) (w : World) (h : Rs w v ws) (hT : Tp w) :
    Calls Tryz.prog 16 #[.string ⟨#[105, 110, 118]⟩, v] w (RetV w (.string (erB 3))) := by
  have D := Lib.hid (fun w hT => failed_is 3 (by omega) (by omega) w hT)
  generalize erB 3 = r at *
  have g1 : ((ns.length : Int) == 1) = false := by rw [beq_eq_false_iff_ne]; omega
  have g2 : (ns.length == 1) = false := by rw [beq_eq_false_iff_ne]; exact hne
  have TP := Lib.hid hT
  have RR := Lib.hid h
  have HN := Lib.hid hn
  clear h hT hn
  go_enter Tryz.func16, Tryz.ntmps16
  go_wp2_with fail
  refine (dnums_ok ws ns HN.out _ _ RR.out hl).mono ?_
  rintro e w1 ⟨v1, rfl, hr, hb⟩
  have B1 := Lib.hid hb
  have hs1 := hb.size
  have R1 := Lib.hid hr
  clear hb hr
  obtain ⟨a1, c1, rfl, hc1, hm1⟩ := R1.out.shape
  rw [nz_len] at *
  go_wp2_with fail
  refine (D.out _ (TP.out.below B1.out)).mono ?_
  rintro e w2 ⟨rfl, hb⟩
  have B2 := Lib.hid (B1.out.trans (hb.mono hs1))
  clear hb
  go_wp2
  go_ret
  exact ⟨rfl, B2.out⟩
set_option maxHeartbeats 2000000 in
set_option maxRecDepth 100000 in
theorem do_inv (r : ByteArray) (z n : Int) (ws : List ByteArray) (x : Nat) (hn : NumsW ws [x]) (hl : ws.length ≤ 1000000) (v : Value) (w : World) (h : Rs w v ws) (hT : Tp w)
    (hf : ∀ w', Calls Tryz.prog 34 #[.int .u64 (x : Int)] w' fun e w2 => e = .returned (.tuple #[.int .u64 z, .int .i64 n]) ∧ w' = w2) (ho : ∀ w', Tp w' → Calls Tryz.prog 33 #[.int .u64 z, .int .i64 n] w' (RetV w' (.string r))) :
    Calls Tryz.prog 16 #[.string ⟨#[105, 110, 118]⟩, v] w (RetV w (.string r)) := by
  have C := Lib.hid hf
  have D := Lib.hid ho
  have SM := Lib.hid (fun w => small_any x w)
  clear hf ho
  obtain ⟨ns, hns⟩ : ∃ ns, ns = [x] := ⟨_, rfl⟩
  rw [← hns] at hn
  have TP := Lib.hid hT
  have RR := Lib.hid h
  have HN := Lib.hid hn
  clear h hT hn
  go_enter Tryz.func16, Tryz.ntmps16
  go_wp2_with fail
  refine (dnums_ok ws ns HN.out _ _ RR.out hl).mono ?_
  rintro e w1 ⟨v1, rfl, hr, hb⟩
  have B1 := Lib.hid hb
  have hs1 := hb.size
  have R1 := Lib.hid hr
  clear hb hr
  subst hns
  obtain ⟨cap, b, off, rfl, hcap, hm, hx⟩ := R1.out.cells (by simp)
  have c0 : w1.cell? ⟨b, off, none⟩ = some (.int .u64 (x : Int)) := hx 0 (by simp)
  clear hx R1
  go_wp2_with fail
  refine (C.out _).mono ?_
  rintro e w' ⟨rfl, rfl⟩
  go_wp2_with fail
  refine (D.out _ (TP.out.below B1.out)).mono ?_
  rintro e w2 ⟨rfl, hb⟩
  have B2 := Lib.hid (B1.out.trans (hb.mono hs1))
  clear hb
  go_wp2
  go_ret
  exact ⟨rfl, B2.out⟩
set_option maxRecDepth 100000 in
theorem do_root_len (ws : List ByteArray) (ns : List Nat) (hn : NumsW ws ns) (hne : ns.length ≠ 1) (hl : ws.length ≤ 1000000) (v : Value) (w : World) (h : Rs w v ws) (hT : Tp w) :
    Calls Tryz.prog 16 #[.string ⟨#[114, 111, 111, 116]⟩, v] w (RetV w (.string (erB 3))) := by
  have D := Lib.hid (fun w hT => failed_is 3 (by omega) (by omega) w hT)
  generalize erB 3 = r at *
  have g1 : ((ns.length : Int) == 1) = false := by rw [beq_eq_false_iff_ne]; omega
  have g2 : (ns.length == 1) = false := by rw [beq_eq_false_iff_ne]; exact hne
  have TP := Lib.hid hT
  have RR := Lib.hid h
  have HN := Lib.hid hn
  clear h hT hn
  go_enter Tryz.func16, Tryz.ntmps16
  go_wp2_with fail
  refine (dnums_ok ws ns HN.out _ _ RR.out hl).mono ?_
  rintro e w1 ⟨v1, rfl, hr, hb⟩
  have B1 := Lib.hid hb
  have hs1 := hb.size
  have R1 := Lib.hid hr
  clear hb hr
  obtain ⟨a1, c1, rfl, hc1, hm1⟩ := R1.out.shape
  rw [nz_len] at *
  go_wp2_with fail
  refine (D.out _ (TP.out.below B1.out)).mono ?_
  rintro e w2 ⟨rfl, hb⟩
  have B2 := Lib.hid (B1.out.trans (hb.mono hs1))
  clear hb
  go_wp2
  go_ret
  exact ⟨rfl, B2.out⟩
set_option maxHeartbeats 2000000 in
set_option maxRecDepth 100000 in
theorem do_root (r : ByteArray) (z n : Int) (ws : List ByteArray) (x : Nat) (hn : NumsW ws [x]) (hl : ws.length ≤ 1000000) (v : Value) (w : World) (h : Rs w v ws) (hT : Tp w)
    (hf : ∀ w', Calls Tryz.prog 35 #[.int .i64 (sml x : Int)] w' fun e w2 => e = .returned (.tuple #[.int .u64 z, .int .i64 n]) ∧ w' = w2) (ho : ∀ w', Tp w' → Calls Tryz.prog 33 #[.int .u64 z, .int .i64 n] w' (RetV w' (.string r))) :
    Calls Tryz.prog 16 #[.string ⟨#[114, 111, 111, 116]⟩, v] w (RetV w (.string r)) := by
  have C := Lib.hid hf
  have D := Lib.hid ho
  have SM := Lib.hid (fun w => small_any x w)
  clear hf ho
  obtain ⟨ns, hns⟩ : ∃ ns, ns = [x] := ⟨_, rfl⟩
  rw [← hns] at hn
  have TP := Lib.hid hT
  have RR := Lib.hid h
  have HN := Lib.hid hn
  clear h hT hn
  go_enter Tryz.func16, Tryz.ntmps16
  go_wp2_with fail
  refine (dnums_ok ws ns HN.out _ _ RR.out hl).mono ?_
  rintro e w1 ⟨v1, rfl, hr, hb⟩
  have B1 := Lib.hid hb
  have hs1 := hb.size
  have R1 := Lib.hid hr
  clear hb hr
  subst hns
  obtain ⟨cap, b, off, rfl, hcap, hm, hx⟩ := R1.out.cells (by simp)
  have c0 : w1.cell? ⟨b, off, none⟩ = some (.int .u64 (x : Int)) := hx 0 (by simp)
  clear hx R1
  go_wp2_with fail
  refine (SM.out _).mono ?_
  rintro e w' ⟨rfl, rfl⟩
  go_wp2_with fail
  refine (C.out _).mono ?_
  rintro e w' ⟨rfl, rfl⟩
  go_wp2_with fail
  refine (D.out _ (TP.out.below B1.out)).mono ?_
  rintro e w2 ⟨rfl, hb⟩
  have B2 := Lib.hid (B1.out.trans (hb.mono hs1))
  clear hb
  go_wp2
  go_ret
  exact ⟨rfl, B2.out⟩
set_option maxHeartbeats 2000000 in
set_option maxRecDepth 100000 in
theorem do_else (vb : ByteArray) (h0 : vb ≠ ⟨#[99, 121, 99, 108, 105, 99]⟩) (h1 : vb ≠ ⟨#[108, 105, 110, 101, 97, 114]⟩) (h2 : vb ≠ ⟨#[115, 117, 109]⟩) (h3 : vb ≠ ⟨#[116, 105, 109, 101, 115]⟩) (h4 : vb ≠ ⟨#[110, 116, 116]⟩) (h5 : vb ≠ ⟨#[98, 97, 99, 107]⟩) (h6 : vb ≠ ⟨#[112, 108, 97, 110]⟩) (h7 : vb ≠ ⟨#[115, 104, 97, 114, 101]⟩) (h8 : vb ≠ ⟨#[97, 100, 100]⟩) (h9 : vb ≠ ⟨#[115, 117, 98]⟩) (h10 : vb ≠ ⟨#[109, 117, 108]⟩) (h11 : vb ≠ ⟨#[112, 111, 119]⟩) (h12 : vb ≠ ⟨#[105, 110, 118]⟩) (h13 : vb ≠ ⟨#[114, 111, 111, 116]⟩) (ws : List ByteArray) (ns : List Nat) (hn : NumsW ws ns) (hl : ws.length ≤ 1000000) (v : Value) (w : World) (h : Rs w v ws) (hT : Tp w) :
    Calls Tryz.prog 16 #[.string vb, v] w (RetV w (.string (erB 3))) := by
  have D := Lib.hid (fun w hT => failed_is 3 (by omega) (by omega) w hT)
  generalize erB 3 = r at *
  have g0 : (vb.toList == [99, 121, 99, 108, 105, 99]) = false := lit_ne h0
  have g1 : (vb.toList == [108, 105, 110, 101, 97, 114]) = false := lit_ne h1
  have g2 : (vb.toList == [115, 117, 109]) = false := lit_ne h2
  have g3 : (vb.toList == [116, 105, 109, 101, 115]) = false := lit_ne h3
  have g4 : (vb.toList == [110, 116, 116]) = false := lit_ne h4
  have g5 : (vb.toList == [98, 97, 99, 107]) = false := lit_ne h5
  have g6 : (vb.toList == [112, 108, 97, 110]) = false := lit_ne h6
  have g7 : (vb.toList == [115, 104, 97, 114, 101]) = false := lit_ne h7
  have g8 : (vb.toList == [97, 100, 100]) = false := lit_ne h8
  have g9 : (vb.toList == [115, 117, 98]) = false := lit_ne h9
  have g10 : (vb.toList == [109, 117, 108]) = false := lit_ne h10
  have g11 : (vb.toList == [112, 111, 119]) = false := lit_ne h11
  have g12 : (vb.toList == [105, 110, 118]) = false := lit_ne h12
  have g13 : (vb.toList == [114, 111, 111, 116]) = false := lit_ne h13
  clear h0 h1 h2 h3 h4 h5 h6 h7 h8 h9 h10 h11 h12 h13
  have TP := Lib.hid hT
  have RR := Lib.hid h
  have HN := Lib.hid hn
  clear h hT hn
  go_enter Tryz.func16, Tryz.ntmps16
  go_wp2_with fail
  refine (dnums_ok ws ns HN.out _ _ RR.out hl).mono ?_
  rintro e w1 ⟨v1, rfl, hr, hb⟩
  have B1 := Lib.hid hb
  have hs1 := hb.size
  have R1 := Lib.hid hr
  clear hb hr
  go_wp2_with fail
  refine (D.out _ (TP.out.below B1.out)).mono ?_
  rintro e w2 ⟨rfl, hb⟩
  have B2 := Lib.hid (B1.out.trans (hb.mono hs1))
  clear hb
  go_wp2
  go_ret
  exact ⟨rfl, B2.out⟩
end Go.Proofs.YtdhmmllpldjkbaaGreatDoor.Gm
