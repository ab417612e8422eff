/- Laid together by wip/merge.py: Dkg Dkh1 Dkh2 Dkh3 Dkh4. -/
import Derived.Test.YtdhmmllpldjkbaaGreatDoorDkf
/- (Dkg) -/
namespace Go.Proofs.YtdhmmllpldjkbaaGreatDoor.Gm
open Go.RowKit
set_option linter.unusedVariables false
theorem Rd.shapeN {w : World} {v : Value} {ns : List Nat} (h : Rd .u64 w v (nz ns)) : ∃ a cap, v = .slice a ns.length cap ∧ ns.length ≤ cap ∧ cap ≤ 9223372036854775807 := by
  have h1 := h.shape
  rwa [nz_len] at h1
theorem kind_plan (w : World) : Calls Tryz.prog 47 #[.string ⟨#[112, 108, 97, 110]⟩] w fun e w' => e = .returned (.string ⟨#[112, 108, 97, 110, 32, 115, 104, 97, 114, 101]⟩) ∧ w = w' := by
  go_enter Tryz.func47, Tryz.ntmps47
  go_wp2
  go_ret
  exact ⟨rfl, rfl⟩
theorem kind_share (w : World) : Calls Tryz.prog 47 #[.string ⟨#[115, 104, 97, 114, 101]⟩] w fun e w' => e = .returned (.string ⟨#[112, 108, 97, 110, 32, 115, 104, 97, 114, 101]⟩) ∧ w = w' := by
  go_enter Tryz.func47, Tryz.ntmps47
  go_wp2
  go_ret
  exact ⟨rfl, rfl⟩
theorem kind_inv (w : World) : Calls Tryz.prog 47 #[.string ⟨#[105, 110, 118]⟩] w fun e w' => e = .returned (.string ⟨#[105, 110, 118, 32, 114, 111, 111, 116]⟩) ∧ w = w' := by
  go_enter Tryz.func47, Tryz.ntmps47
  go_wp2
  go_ret
  exact ⟨rfl, rfl⟩
theorem kind_root (w : World) : Calls Tryz.prog 47 #[.string ⟨#[114, 111, 111, 116]⟩] w fun e w' => e = .returned (.string ⟨#[105, 110, 118, 32, 114, 111, 111, 116]⟩) ∧ w = w' := by
  go_enter Tryz.func47, Tryz.ntmps47
  go_wp2
  go_ret
  exact ⟨rfl, rfl⟩
theorem kind_add (w : World) : Calls Tryz.prog 47 #[.string ⟨#[97, 100, 100]⟩] w fun e w' => e = .returned (.string ⟨#[97, 100, 100, 32, 115, 117, 98, 32, 109, 117, 108, 32, 112, 111, 119]⟩) ∧ w = w' := by
  go_enter Tryz.func47, Tryz.ntmps47
  go_wp2
  go_ret
  exact ⟨rfl, rfl⟩
theorem kind_sub (w : World) : Calls Tryz.prog 47 #[.string ⟨#[115, 117, 98]⟩] w fun e w' => e = .returned (.string ⟨#[97, 100, 100, 32, 115, 117, 98, 32, 109, 117, 108, 32, 112, 111, 119]⟩) ∧ w = w' := by
  go_enter Tryz.func47, Tryz.ntmps47
  go_wp2
  go_ret
  exact ⟨rfl, rfl⟩
theorem kind_mul (w : World) : Calls Tryz.prog 47 #[.string ⟨#[109, 117, 108]⟩] w fun e w' => e = .returned (.string ⟨#[97, 100, 100, 32, 115, 117, 98, 32, 109, 117, 108, 32, 112, 111, 119]⟩) ∧ w = w' := by
  go_enter Tryz.func47, Tryz.ntmps47
  go_wp2
  go_ret
  exact ⟨rfl, rfl⟩
theorem kind_pow (w : World) : Calls Tryz.prog 47 #[.string ⟨#[112, 111, 119]⟩] w fun e w' => e = .returned (.string ⟨#[97, 100, 100, 32, 115, 117, 98, 32, 109, 117, 108, 32, 112, 111, 119]⟩) ∧ w = w' := by
  go_enter Tryz.func47, Tryz.ntmps47
  go_wp2
  go_ret
  exact ⟨rfl, rfl⟩
theorem kind_ntt (w : World) : Calls Tryz.prog 47 #[.string ⟨#[110, 116, 116]⟩] w fun e w' => e = .returned (.string ⟨#[110, 116, 116]⟩) ∧ w = w' := by
  go_enter Tryz.func47, Tryz.ntmps47
  go_wp2
  go_ret
  exact ⟨rfl, rfl⟩
theorem kind_back (w : World) : Calls Tryz.prog 47 #[.string ⟨#[98, 97, 99, 107]⟩] w fun e w' => e = .returned (.string ⟨#[98, 97, 99, 107]⟩) ∧ w = w' := by
  go_enter Tryz.func47, Tryz.ntmps47
  go_wp2
  go_ret
  exact ⟨rfl, rfl⟩
theorem kind_else (vb : ByteArray) (h0 : vb ≠ ⟨#[112, 108, 97, 110]⟩) (h1 : vb ≠ ⟨#[115, 104, 97, 114, 101]⟩) (h2 : vb ≠ ⟨#[105, 110, 118]⟩) (h3 : vb ≠ ⟨#[114, 111, 111, 116]⟩) (h4 : vb ≠ ⟨#[97, 100, 100]⟩) (h5 : vb ≠ ⟨#[115, 117, 98]⟩) (h6 : vb ≠ ⟨#[109, 117, 108]⟩) (h7 : vb ≠ ⟨#[112, 111, 119]⟩) (w : World) : Calls Tryz.prog 47 #[.string vb] w fun e w' => e = .returned (.string vb) ∧ w = w' := by
  have g0 : (vb.toList == [112, 108, 97, 110]) = false := lit_ne h0
  have g1 : (vb.toList == [115, 104, 97, 114, 101]) = false := lit_ne h1
  have g2 : (vb.toList == [105, 110, 118]) = false := lit_ne h2
  have g3 : (vb.toList == [114, 111, 111, 116]) = false := lit_ne h3
  have g4 : (vb.toList == [97, 100, 100]) = false := lit_ne h4
  have g5 : (vb.toList == [115, 117, 98]) = false := lit_ne h5
  have g6 : (vb.toList == [109, 117, 108]) = false := lit_ne h6
  have g7 : (vb.toList == [112, 111, 119]) = false := lit_ne h7
  clear h0 h1 h2 h3 h4 h5 h6 h7
  go_enter Tryz.func47, Tryz.ntmps47
  go_wp2
  go_ret
  exact ⟨rfl, rfl⟩
set_option maxHeartbeats 2000000 in
set_option maxRecDepth 100000 in
theorem an_add (x y : Nat) (z : Int) (h0 : 0 ≤ z) (h1 : z < 18446744073709551616) (v : Value) (w : World) (h : Rd .u64 w v (nz [x, y])) (hT : Tp w)
    (hc : ∀ w, Calls Tryz.prog 71 #[.int .u64 (x : Int), .int .u64 (y : Int)] w fun e w' => e = .returned (.int .u64 z) ∧ w = w') :
    Calls Tryz.prog 48 #[.string ⟨#[97, 100, 100]⟩, v] w (RetV w (.string (o1B z))) := by
  obtain ⟨cap, b, off, rfl, hcap, hm, hx⟩ := h.cells (by simp)
  have c0 : w.cell? ⟨b, off, none⟩ = some (.int .u64 (x : Int)) := hx 0 (by simp)
  have c1 : w.cell? ⟨b, off + 1, none⟩ = some (.int .u64 (y : Int)) := hx 1 (by simp)
  have C := Lib.hid hc
  have D := Lib.hid (said_1 z h0 h1 w.drew (hT.below (below_drewN (Below.refl w.heap.size w) 1)))
  generalize o1B z = r at *
  clear h hc hx hT
  go_enter Tryz.func48, Tryz.ntmps48
  go_wp2_with fail
  refine wp_region_N [2, 5] [6, 7, 8] (fun w' => w'.cell? ⟨b, off, none⟩ = some (.int .u64 (x : Int)) ∧ w'.cell? ⟨b, off + 1, none⟩ = some (.int .u64 (y : Int))) (by kernel_rfl) ?_
  have hS : w.drew.cell? ⟨b, off, none⟩ = some (.int .u64 (x : Int)) ∧ w.drew.cell? ⟨b, off + 1, none⟩ = some (.int .u64 (y : Int)) := ⟨c0, c1⟩
  refine wpN_pure (i := 0) (v := ?_) rfl (by kernel_rfl) (by kernel_rfl) (by kernel_rfl) (by kernel_rfl) (fun _ _ _ h => h) (Or.inl ⟨by rfl, ?_⟩) (fun _ => hS) ?_
  rotate_left
  · ((intro w' hw'; (try dsimp only at hw'); go_simp) <;> with_reducible rfl)
  simp only [Act.put, List.setIfInBounds_toArray, List.set_cons_zero, List.set_cons_succ]
  refine wpN_pure (i := 1) (v := ?_) rfl (by kernel_rfl) (by kernel_rfl) (by kernel_rfl) (by kernel_rfl) (fun _ _ _ h => h) (Or.inl ⟨by rfl, ?_⟩) (fun _ => hS) ?_
  rotate_left
  · ((intro w' hw'; (try dsimp only at hw'); go_simp) <;> with_reducible rfl)
  simp only [Act.put, List.setIfInBounds_toArray, List.set_cons_zero, List.set_cons_succ]
  refine wpN_read (i := 2) (v := ?_) rfl (by kernel_rfl) (by kernel_rfl) (by kernel_rfl) (by kernel_rfl) (by kernel_rfl) (fun _ _ _ h => h) (Or.inl ⟨by rfl, ?_⟩) hS ?_
  rotate_left
  · ((intro w' hw'; (try dsimp only at hw'); go_simp) <;> with_reducible rfl)
  simp only [Act.put, List.setIfInBounds_toArray, List.set_cons_zero, List.set_cons_succ]
  refine wpN_pure (i := 3) (v := ?_) rfl (by kernel_rfl) (by kernel_rfl) (by kernel_rfl) (by kernel_rfl) (fun _ _ _ h => h) (Or.inl ⟨by rfl, ?_⟩) (fun _ => hS) ?_
  rotate_left
  · ((intro w' hw'; (try dsimp only at hw'); go_simp) <;> with_reducible rfl)
  simp only [Act.put, List.setIfInBounds_toArray, List.set_cons_zero, List.set_cons_succ]
  refine wpN_pure (i := 4) (v := ?_) rfl (by kernel_rfl) (by kernel_rfl) (by kernel_rfl) (by kernel_rfl) (fun _ _ _ h => h) (Or.inl ⟨by rfl, ?_⟩) (fun _ => hS) ?_
  rotate_left
  · ((intro w' hw'; (try dsimp only at hw'); go_simp) <;> with_reducible rfl)
  simp only [Act.put, List.setIfInBounds_toArray, List.set_cons_zero, List.set_cons_succ]
  refine wpN_read (i := 5) (v := ?_) rfl (by kernel_rfl) (by kernel_rfl) (by kernel_rfl) (by kernel_rfl) (by kernel_rfl) (fun _ _ _ h => h) (Or.inl ⟨by rfl, ?_⟩) hS ?_
  rotate_left
  · ((intro w' hw'; (try dsimp only at hw'); go_simp) <;> with_reducible rfl)
  simp only [Act.put, List.setIfInBounds_toArray, List.set_cons_zero, List.set_cons_succ]
  refine wpN_oneS (i := 6) rfl rfl (by kernel_rfl) (fun K hK => ?_)
  go_simp
  refine (C.out _).mono ?_
  rintro e w' ⟨rfl, rfl⟩
  refine ⟨hS, hK.out _ _ hS ?_⟩
  clear hK K
  refine wpN_one (i := 7) rfl rfl (by kernel_rfl) (by kernel_rfl) (fun K hK => ?_)
  go_simp
  refine hK.out _ _ ?_
  clear hK K hS
  refine wpN_one (i := 8) rfl rfl (by kernel_rfl) (by kernel_rfl) (fun K hK => ?_)
  go_simp
  refine D.out.mono ?_
  rintro e w2 ⟨rfl, hb⟩
  refine hK.out _ _ ?_
  clear hK K
  have B2 := Lib.hid ((below_drewN (Below.refl w.heap.size w) 1).trans hb)
  clear hb
  refine wpN_pure (i := 9) (v := ?_) rfl (by kernel_rfl) (by kernel_rfl) (by kernel_rfl) (by kernel_rfl) (fun _ _ _ h => h) (Or.inl ⟨by rfl, ?_⟩) (fun h => Bool.noConfusion (h.symm.trans (show _ = false by kernel_rfl))) ?_
  rotate_left
  · ((intro w' hw'; (try dsimp only at hw'); go_simp) <;> with_reducible rfl)
  simp only [Act.put, List.setIfInBounds_toArray, List.set_cons_zero, List.set_cons_succ]
  refine wpN_done (by kernel_rfl) ?_
  go_wp2
  go_ret
  exact ⟨rfl, B2.out⟩
set_option maxHeartbeats 2000000 in
set_option maxRecDepth 100000 in
theorem an_sub (x y : Nat) (z : Int) (h0 : 0 ≤ z) (h1 : z < 18446744073709551616) (v : Value) (w : World) (h : Rd .u64 w v (nz [x, y])) (hT : Tp w)
    (hc : ∀ w, Calls Tryz.prog 74 #[.int .u64 (x : Int), .int .u64 (y : Int)] w fun e w' => e = .returned (.int .u64 z) ∧ w = w') :
    Calls Tryz.prog 48 #[.string ⟨#[115, 117, 98]⟩, v] w (RetV w (.string (o1B z))) := by
  obtain ⟨cap, b, off, rfl, hcap, hm, hx⟩ := h.cells (by simp)
  have c0 : w.cell? ⟨b, off, none⟩ = some (.int .u64 (x : Int)) := hx 0 (by simp)
  have c1 : w.cell? ⟨b, off + 1, none⟩ = some (.int .u64 (y : Int)) := hx 1 (by simp)
  have C := Lib.hid hc
  have D := Lib.hid (said_1 z h0 h1 w.drew (hT.below (below_drewN (Below.refl w.heap.size w) 1)))
  generalize o1B z = r at *
  clear h hc hx hT
  go_enter Tryz.func48, Tryz.ntmps48
  go_wp2_with fail
  refine wp_region_N [2, 5] [6, 7, 8] (fun w' => w'.cell? ⟨b, off, none⟩ = some (.int .u64 (x : Int)) ∧ w'.cell? ⟨b, off + 1, none⟩ = some (.int .u64 (y : Int))) (by kernel_rfl) ?_
  have hS : w.drew.cell? ⟨b, off, none⟩ = some (.int .u64 (x : Int)) ∧ w.drew.cell? ⟨b, off + 1, none⟩ = some (.int .u64 (y : Int)) := ⟨c0, c1⟩
  refine wpN_pure (i := 0) (v := ?_) rfl (by kernel_rfl) (by kernel_rfl) (by kernel_rfl) (by kernel_rfl) (fun _ _ _ h => h) (Or.inl ⟨by rfl, ?_⟩) (fun _ => hS) ?_
  rotate_left
  · ((intro w' hw'; (try dsimp only at hw'); go_simp) <;> with_reducible rfl)
  simp only [Act.put, List.setIfInBounds_toArray, List.set_cons_zero, List.set_cons_succ]
  refine wpN_pure (i := 1) (v := ?_) rfl (by kernel_rfl) (by kernel_rfl) (by kernel_rfl) (by kernel_rfl) (fun _ _ _ h => h) (Or.inl ⟨by rfl, ?_⟩) (fun _ => hS) ?_
  rotate_left
  · ((intro w' hw'; (try dsimp only at hw'); go_simp) <;> with_reducible rfl)
  simp only [Act.put, List.setIfInBounds_toArray, List.set_cons_zero, List.set_cons_succ]
  refine wpN_read (i := 2) (v := ?_) rfl (by kernel_rfl) (by kernel_rfl) (by kernel_rfl) (by kernel_rfl) (by kernel_rfl) (fun _ _ _ h => h) (Or.inl ⟨by rfl, ?_⟩) hS ?_
  rotate_left
  · ((intro w' hw'; (try dsimp only at hw'); go_simp) <;> with_reducible rfl)
  simp only [Act.put, List.setIfInBounds_toArray, List.set_cons_zero, List.set_cons_succ]
  refine wpN_pure (i := 3) (v := ?_) rfl (by kernel_rfl) (by kernel_rfl) (by kernel_rfl) (by kernel_rfl) (fun _ _ _ h => h) (Or.inl ⟨by rfl, ?_⟩) (fun _ => hS) ?_
  rotate_left
  · ((intro w' hw'; (try dsimp only at hw'); go_simp) <;> with_reducible rfl)
  simp only [Act.put, List.setIfInBounds_toArray, List.set_cons_zero, List.set_cons_succ]
  refine wpN_pure (i := 4) (v := ?_) rfl (by kernel_rfl) (by kernel_rfl) (by kernel_rfl) (by kernel_rfl) (fun _ _ _ h => h) (Or.inl ⟨by rfl, ?_⟩) (fun _ => hS) ?_
  rotate_left
  · ((intro w' hw'; (try dsimp only at hw'); go_simp) <;> with_reducible rfl)
  simp only [Act.put, List.setIfInBounds_toArray, List.set_cons_zero, List.set_cons_succ]
  refine wpN_read (i := 5) (v := ?_) rfl (by kernel_rfl) (by kernel_rfl) (by kernel_rfl) (by kernel_rfl) (by kernel_rfl) (fun _ _ _ h => h) (Or.inl ⟨by rfl, ?_⟩) hS ?_
  rotate_left
  · ((intro w' hw'; (try dsimp only at hw'); go_simp) <;> with_reducible rfl)
  simp only [Act.put, List.setIfInBounds_toArray, List.set_cons_zero, List.set_cons_succ]
  refine wpN_oneS (i := 6) rfl rfl (by kernel_rfl) (fun K hK => ?_)
  go_simp
  refine (C.out _).mono ?_
  rintro e w' ⟨rfl, rfl⟩
  refine ⟨hS, hK.out _ _ hS ?_⟩
  clear hK K
  refine wpN_one (i := 7) rfl rfl (by kernel_rfl) (by kernel_rfl) (fun K hK => ?_)
  go_simp
  refine hK.out _ _ ?_
  clear hK K hS
  refine wpN_one (i := 8) rfl rfl (by kernel_rfl) (by kernel_rfl) (fun K hK => ?_)
  go_simp
  refine D.out.mono ?_
  rintro e w2 ⟨rfl, hb⟩
  refine hK.out _ _ ?_
  clear hK K
  have B2 := Lib.hid ((below_drewN (Below.refl w.heap.size w) 1).trans hb)
  clear hb
  refine wpN_pure (i := 9) (v := ?_) rfl (by kernel_rfl) (by kernel_rfl) (by kernel_rfl) (by kernel_rfl) (fun _ _ _ h => h) (Or.inl ⟨by rfl, ?_⟩) (fun h => Bool.noConfusion (h.symm.trans (show _ = false by kernel_rfl))) ?_
  rotate_left
  · ((intro w' hw'; (try dsimp only at hw'); go_simp) <;> with_reducible rfl)
  simp only [Act.put, List.setIfInBounds_toArray, List.set_cons_zero, List.set_cons_succ]
  refine wpN_done (by kernel_rfl) ?_
  go_wp2
  go_ret
  exact ⟨rfl, B2.out⟩
set_option maxHeartbeats 2000000 in
set_option maxRecDepth 100000 in
theorem an_mul (x y : Nat) (z : Int) (h0 : 0 ≤ z) (h1 : z < 18446744073709551616) (v : Value) (w : World) (h : Rd .u64 w v (nz [x, y])) (hT : Tp w)
    (hc : ∀ w, Calls Tryz.prog 72 #[.int .u64 (x : Int), .int .u64 (y : Int)] w fun e w' => e = .returned (.int .u64 z) ∧ w = w') :
    Calls Tryz.prog 48 #[.string ⟨#[109, 117, 108]⟩, v] w (RetV w (.string (o1B z))) := by
  obtain ⟨cap, b, off, rfl, hcap, hm, hx⟩ := h.cells (by simp)
  have c0 : w.cell? ⟨b, off, none⟩ = some (.int .u64 (x : Int)) := hx 0 (by simp)
  have c1 : w.cell? ⟨b, off + 1, none⟩ = some (.int .u64 (y : Int)) := hx 1 (by simp)
  have C := Lib.hid hc
  have D := Lib.hid (said_1 z h0 h1 w.drew (hT.below (below_drewN (Below.refl w.heap.size w) 1)))
  generalize o1B z = r at *
  clear h hc hx hT
  go_enter Tryz.func48, Tryz.ntmps48
  go_wp2_with fail
  refine wp_region_N [2, 5] [6, 7, 8] (fun w' => w'.cell? ⟨b, off, none⟩ = some (.int .u64 (x : Int)) ∧ w'.cell? ⟨b, off + 1, none⟩ = some (.int .u64 (y : Int))) (by kernel_rfl) ?_
  have hS : w.drew.cell? ⟨b, off, none⟩ = some (.int .u64 (x : Int)) ∧ w.drew.cell? ⟨b, off + 1, none⟩ = some (.int .u64 (y : Int)) := ⟨c0, c1⟩
  refine wpN_pure (i := 0) (v := ?_) rfl (by kernel_rfl) (by kernel_rfl) (by kernel_rfl) (by kernel_rfl) (fun _ _ _ h => h) (Or.inl ⟨by rfl, ?_⟩) (fun _ => hS) ?_
  rotate_left
  · ((intro w' hw'; (try dsimp only at hw'); go_simp) <;> with_reducible rfl)
  simp only [Act.put, List.setIfInBounds_toArray, List.set_cons_zero, List.set_cons_succ]
  refine wpN_pure (i := 1) (v := ?_) rfl (by kernel_rfl) (by kernel_rfl) (by kernel_rfl) (by kernel_rfl) (fun _ _ _ h => h) (Or.inl ⟨by rfl, ?_⟩) (fun _ => hS) ?_
  rotate_left
  · ((intro w' hw'; (try dsimp only at hw'); go_simp) <;> with_reducible rfl)
  simp only [Act.put, List.setIfInBounds_toArray, List.set_cons_zero, List.set_cons_succ]
  refine wpN_read (i := 2) (v := ?_) rfl (by kernel_rfl) (by kernel_rfl) (by kernel_rfl) (by kernel_rfl) (by kernel_rfl) (fun _ _ _ h => h) (Or.inl ⟨by rfl, ?_⟩) hS ?_
  rotate_left
  · ((intro w' hw'; (try dsimp only at hw'); go_simp) <;> with_reducible rfl)
  simp only [Act.put, List.setIfInBounds_toArray, List.set_cons_zero, List.set_cons_succ]
  refine wpN_pure (i := 3) (v := ?_) rfl (by kernel_rfl) (by kernel_rfl) (by kernel_rfl) (by kernel_rfl) (fun _ _ _ h => h) (Or.inl ⟨by rfl, ?_⟩) (fun _ => hS) ?_
  rotate_left
  · ((intro w' hw'; (try dsimp only at hw'); go_simp) <;> with_reducible rfl)
  simp only [Act.put, List.setIfInBounds_toArray, List.set_cons_zero, List.set_cons_succ]
  refine wpN_pure (i := 4) (v := ?_) rfl (by kernel_rfl) (by kernel_rfl) (by kernel_rfl) (by kernel_rfl) (fun _ _ _ h => h) (Or.inl ⟨by rfl, ?_⟩) (fun _ => hS) ?_
  rotate_left
  · ((intro w' hw'; (try dsimp only at hw'); go_simp) <;> with_reducible rfl)
  simp only [Act.put, List.setIfInBounds_toArray, List.set_cons_zero, List.set_cons_succ]
  refine wpN_read (i := 5) (v := ?_) rfl (by kernel_rfl) (by kernel_rfl) (by kernel_rfl) (by kernel_rfl) (by kernel_rfl) (fun _ _ _ h => h) (Or.inl ⟨by rfl, ?_⟩) hS ?_
  rotate_left
  · ((intro w' hw'; (try dsimp only at hw'); go_simp) <;> with_reducible rfl)
  simp only [Act.put, List.setIfInBounds_toArray, List.set_cons_zero, List.set_cons_succ]
  refine wpN_oneS (i := 6) rfl rfl (by kernel_rfl) (fun K hK => ?_)
  go_simp
  refine (C.out _).mono ?_
  rintro e w' ⟨rfl, rfl⟩
  refine ⟨hS, hK.out _ _ hS ?_⟩
  clear hK K
  refine wpN_one (i := 7) rfl rfl (by kernel_rfl) (by kernel_rfl) (fun K hK => ?_)
  go_simp
  refine hK.out _ _ ?_
  clear hK K hS
  refine wpN_one (i := 8) rfl rfl (by kernel_rfl) (by kernel_rfl) (fun K hK => ?_)
  go_simp
  refine D.out.mono ?_
  rintro e w2 ⟨rfl, hb⟩
  refine hK.out _ _ ?_
  clear hK K
  have B2 := Lib.hid ((below_drewN (Below.refl w.heap.size w) 1).trans hb)
  clear hb
  refine wpN_pure (i := 9) (v := ?_) rfl (by kernel_rfl) (by kernel_rfl) (by kernel_rfl) (by kernel_rfl) (fun _ _ _ h => h) (Or.inl ⟨by rfl, ?_⟩) (fun h => Bool.noConfusion (h.symm.trans (show _ = false by kernel_rfl))) ?_
  rotate_left
  · ((intro w' hw'; (try dsimp only at hw'); go_simp) <;> with_reducible rfl)
  simp only [Act.put, List.setIfInBounds_toArray, List.set_cons_zero, List.set_cons_succ]
  refine wpN_done (by kernel_rfl) ?_
  go_wp2
  go_ret
  exact ⟨rfl, B2.out⟩
set_option maxHeartbeats 2000000 in
set_option maxRecDepth 100000 in
theorem an_pow (x y : Nat) (z : Int) (h0 : 0 ≤ z) (h1 : z < 18446744073709551616) (v : Value) (w : World) (h : Rd .u64 w v (nz [x, y])) (hT : Tp w)
    (hc : ∀ w, Calls Tryz.prog 75 #[.int .u64 (x : Int), .int .u64 (y : Int)] w fun e w' => e = .returned (.int .u64 z) ∧ w = w') :
    Calls Tryz.prog 48 #[.string ⟨#[112, 111, 119]⟩, v] w (RetV w (.string (o1B z))) := by
  obtain ⟨cap, b, off, rfl, hcap, hm, hx⟩ := h.cells (by simp)
  have c0 : w.cell? ⟨b, off, none⟩ = some (.int .u64 (x : Int)) := hx 0 (by simp)
  have c1 : w.cell? ⟨b, off + 1, none⟩ = some (.int .u64 (y : Int)) := hx 1 (by simp)
  have C := Lib.hid hc
  have D := Lib.hid (said_1 z h0 h1 w.drew (hT.below (below_drewN (Below.refl w.heap.size w) 1)))
  generalize o1B z = r at *
  clear h hc hx hT
  go_enter Tryz.func48, Tryz.ntmps48
  go_wp2_with fail
  refine wp_region_N [2, 5] [6, 7, 8] (fun w' => w'.cell? ⟨b, off, none⟩ = some (.int .u64 (x : Int)) ∧ w'.cell? ⟨b, off + 1, none⟩ = some (.int .u64 (y : Int))) (by kernel_rfl) ?_
  have hS : w.drew.cell? ⟨b, off, none⟩ = some (.int .u64 (x : Int)) ∧ w.drew.cell? ⟨b, off + 1, none⟩ = some (.int .u64 (y : Int)) := ⟨c0, c1⟩
  refine wpN_pure (i := 0) (v := ?_) rfl (by kernel_rfl) (by kernel_rfl) (by kernel_rfl) (by kernel_rfl) (fun _ _ _ h => h) (Or.inl ⟨by rfl, ?_⟩) (fun _ => hS) ?_
  rotate_left
  · ((intro w' hw'; (try dsimp only at hw'); go_simp) <;> with_reducible rfl)
  simp only [Act.put, List.setIfInBounds_toArray, List.set_cons_zero, List.set_cons_succ]
  refine wpN_pure (i := 1) (v := ?_) rfl (by kernel_rfl) (by kernel_rfl) (by kernel_rfl) (by kernel_rfl) (fun _ _ _ h => h) (Or.inl ⟨by rfl, ?_⟩) (fun _ => hS) ?_
  rotate_left
  · ((intro w' hw'; (try dsimp only at hw'); go_simp) <;> with_reducible rfl)
  simp only [Act.put, List.setIfInBounds_toArray, List.set_cons_zero, List.set_cons_succ]
  refine wpN_read (i := 2) (v := ?_) rfl (by kernel_rfl) (by kernel_rfl) (by kernel_rfl) (by kernel_rfl) (by kernel_rfl) (fun _ _ _ h => h) (Or.inl ⟨by rfl, ?_⟩) hS ?_
  rotate_left
  · ((intro w' hw'; (try dsimp only at hw'); go_simp) <;> with_reducible rfl)
  simp only [Act.put, List.setIfInBounds_toArray, List.set_cons_zero, List.set_cons_succ]
  refine wpN_pure (i := 3) (v := ?_) rfl (by kernel_rfl) (by kernel_rfl) (by kernel_rfl) (by kernel_rfl) (fun _ _ _ h => h) (Or.inl ⟨by rfl, ?_⟩) (fun _ => hS) ?_
  rotate_left
  · ((intro w' hw'; (try dsimp only at hw'); go_simp) <;> with_reducible rfl)
  simp only [Act.put, List.setIfInBounds_toArray, List.set_cons_zero, List.set_cons_succ]
  refine wpN_pure (i := 4) (v := ?_) rfl (by kernel_rfl) (by kernel_rfl) (by kernel_rfl) (by kernel_rfl) (fun _ _ _ h => h) (Or.inl ⟨by rfl, ?_⟩) (fun _ => hS) ?_
  rotate_left
  · ((intro w' hw'; (try dsimp only at hw'); go_simp) <;> with_reducible rfl)
  simp only [Act.put, List.setIfInBounds_toArray, List.set_cons_zero, List.set_cons_succ]
  refine wpN_read (i := 5) (v := ?_) rfl (by kernel_rfl) (by kernel_rfl) (by kernel_rfl) (by kernel_rfl) (by kernel_rfl) (fun _ _ _ h => h) (Or.inl ⟨by rfl, ?_⟩) hS ?_
  rotate_left
  · ((intro w' hw'; (try dsimp only at hw'); go_simp) <;> with_reducible rfl)
  simp only [Act.put, List.setIfInBounds_toArray, List.set_cons_zero, List.set_cons_succ]
  refine wpN_oneS (i := 6) rfl rfl (by kernel_rfl) (fun K hK => ?_)
  go_simp
  refine (C.out _).mono ?_
  rintro e w' ⟨rfl, rfl⟩
  refine ⟨hS, hK.out _ _ hS ?_⟩
  clear hK K
  refine wpN_one (i := 7) rfl rfl (by kernel_rfl) (by kernel_rfl) (fun K hK => ?_)
  go_simp
  refine hK.out _ _ ?_
  clear hK K hS
  refine wpN_one (i := 8) rfl rfl (by kernel_rfl) (by kernel_rfl) (fun K hK => ?_)
  go_simp
  refine D.out.mono ?_
  rintro e w2 ⟨rfl, hb⟩
  refine hK.out _ _ ?_
  clear hK K
  have B2 := Lib.hid ((below_drewN (Below.refl w.heap.size w) 1).trans hb)
  clear hb
  refine wpN_pure (i := 9) (v := ?_) rfl (by kernel_rfl) (by kernel_rfl) (by kernel_rfl) (by kernel_rfl) (fun _ _ _ h => h) (Or.inl ⟨by rfl, ?_⟩) (fun h => Bool.noConfusion (h.symm.trans (show _ = false by kernel_rfl))) ?_
  rotate_left
  · ((intro w' hw'; (try dsimp only at hw'); go_simp) <;> with_reducible rfl)
  simp only [Act.put, List.setIfInBounds_toArray, List.set_cons_zero, List.set_cons_succ]
  refine wpN_done (by kernel_rfl) ?_
  go_wp2
  go_ret
  exact ⟨rfl, B2.out⟩
set_option maxHeartbeats 2000000 in
set_option maxRecDepth 100000 in
theorem an_inv0 (x : Nat) (hx64 : x < 18446744073709551616) (hz : toF (x : Int) = 0) (v : Value) (w : World) (h : Rd .u64 w v (nz [x])) (hT : Tp w) :
    Calls Tryz.prog 48 #[.string ⟨#[105, 110, 118]⟩, v] w (RetV w (.string (erB 4))) := by
  obtain ⟨cap, b, off, rfl, hcap, hm, hx⟩ := h.cells (by simp)
  have c0 : w.cell? ⟨b, off, none⟩ = some (.int .u64 (x : Int)) := hx 0 (by simp)
  clear h hx
  have C := Lib.hid (rnorm_any (x : Int) w (by omega) (by omega))
  rw [hz, vl_zero] at C
  have D := Lib.hid (wrong_is 4 (by omega) (by omega) w hT)
  generalize erB 4 = r at *
  clear hz hT
  go_enter Tryz.func48, Tryz.ntmps48
  go_wp2_with fail
  refine C.out.mono ?_
  rintro e w' ⟨rfl, rfl⟩
  go_wp2_with fail
  refine D.out.mono ?_
  rintro e w2 ⟨rfl, hb⟩
  have B2 := Lib.hid hb
  clear hb
  go_wp2
  go_ret
  exact ⟨rfl, B2.out⟩
set_option maxHeartbeats 2000000 in
set_option maxRecDepth 100000 in
theorem an_inv (x : Nat) (hx64 : x < 18446744073709551616) (hz : toF (x : Int) ≠ 0) (v : Value) (w : World) (h : Rd .u64 w v (nz [x])) (hT : Tp w) :
    Calls Tryz.prog 48 #[.string ⟨#[105, 110, 118]⟩, v] w (RetV w (.string (o1B (vl (inv (toF (x : Int))))))) := by
  obtain ⟨cap, b, off, rfl, hcap, hm, hx⟩ := h.cells (by simp)
  have c0 : w.cell? ⟨b, off, none⟩ = some (.int .u64 (x : Int)) := hx 0 (by simp)
  clear h hx
  have C := Lib.hid (rnorm_any (x : Int) w (by omega) (by omega))
  have E := Lib.hid (rinv_any (x : Int) w (by omega) (by omega) hz)
  have g1 : (vl (toF (x : Int)) == 0) = false := by
    rw [beq_eq_false_iff_ne]
    intro e
    exact hz (vl_inj (by rw [e, vl_zero]))
  have D := Lib.hid (said_1 (vl (inv (toF (x : Int)))) (vl_lo _) (vl_64 _) w hT)
  generalize o1B (vl (inv (toF (x : Int)))) = r at *
  generalize vl (inv (toF (x : Int))) = z at *
  generalize vl (toF (x : Int)) = y at *
  clear hz hT
  go_enter Tryz.func48, Tryz.ntmps48
  go_wp2_with fail
  refine C.out.mono ?_
  rintro e w' ⟨rfl, rfl⟩
  go_wp2_with fail
  refine E.out.mono ?_
  rintro e w' ⟨rfl, rfl⟩
  go_wp2_with fail
  refine D.out.mono ?_
  rintro e w2 ⟨rfl, hb⟩
  have B2 := Lib.hid hb
  clear hb
  go_wp2
  go_ret
  exact ⟨rfl, B2.out⟩
set_option maxHeartbeats 2000000 in
set_option maxRecDepth 100000 in
theorem an_root_bad (x : Nat) (hx : 32 < x) (v : Value) (w : World) (h : Rd .u64 w v (nz [x])) (hT : Tp w) :
    Calls Tryz.prog 48 #[.string ⟨#[114, 111, 111, 116]⟩, v] w (RetV w (.string (erB 1))) := by
  have HX := Lib.hid hx
  clear hx
  obtain ⟨cap, b, off, rfl, hcap, hm, hx⟩ := h.cells (by simp)
  have c0 : w.cell? ⟨b, off, none⟩ = some (.int .u64 (x : Int)) := hx 0 (by simp)
  clear h hx
  have g1 : decide ((32 : Int) < (x : Int)) = true := decide_eq_true (by have := HX.out; omega)
  have g2 : decide (32 < x) = true := decide_eq_true HX.out
  have D := Lib.hid (wrong_is 1 (by omega) (by omega) w hT)
  generalize erB 1 = r at *
  clear hT
  go_enter Tryz.func48, Tryz.ntmps48
  go_wp2_with fail
  refine D.out.mono ?_
  rintro e w2 ⟨rfl, hb⟩
  have B2 := Lib.hid hb
  clear hb
  go_wp2
  go_ret
  exact ⟨rfl, B2.out⟩
set_option maxHeartbeats 2000000 in
set_option maxRecDepth 100000 in
theorem an_root (x : Nat) (hx : x ≤ 32) (v : Value) (w : World) (h : Rd .u64 w v (nz [x])) (hT : Tp w) :
    Calls Tryz.prog 48 #[.string ⟨#[114, 111, 111, 116]⟩, v] w (RetV w (.string (o1B (vl (root x))))) := by
  have HX := Lib.hid hx
  clear hx
  obtain ⟨cap, b, off, rfl, hcap, hm, hx⟩ := h.cells (by simp)
  have c0 : w.cell? ⟨b, off, none⟩ = some (.int .u64 (x : Int)) := hx 0 (by simp)
  clear h hx
  have g1 : decide ((32 : Int) < (x : Int)) = false := decide_eq_false (by have := HX.out; omega)
  have g2 : decide (32 < x) = false := decide_eq_false (by have := HX.out; omega)
  have e1 : IntKind.i64.wrap (x : Int) = (x : Int) := IntWalk.i64_in _ (by have := HX.out; omega)
  have C := Lib.hid (rroot_any x w HX.out)
  have D := Lib.hid (said_1 (vl (root x)) (vl_lo _) (vl_64 _) w hT)
  generalize o1B (vl (root x)) = r at *
  generalize vl (root x) = z at *
  clear hT
  go_enter Tryz.func48, Tryz.ntmps48
  go_wp2_with fail
  refine C.out.mono ?_
  rintro e w' ⟨rfl, rfl⟩
  go_wp2_with fail
  refine D.out.mono ?_
  rintro e w2 ⟨rfl, hb⟩
  have B2 := Lib.hid hb
  clear hb
  go_wp2
  go_ret
  exact ⟨rfl, B2.out⟩
theorem rlog_no (n : Int) (w : World) (h0 : 0 ≤ n) (h1 : n ≤ 9223372036854775807) (hn : ∀ k : Nat, k ≤ 10 → n ≠ ((2 ^ k : Nat) : Int)) :
    Calls Tryz.prog 42 #[.int .i64 n] w fun e w' => e = .returned (.int .i64 (-1)) ∧ w = w' := by
  refine (rlog_any n w (by omega) h1).mono ?_
  rintro e w' ⟨⟨k, hk, h2, _⟩ | ⟨_, rfl⟩, rfl⟩
  · exact absurd h2 (hn k hk)
  · exact ⟨rfl, rfl⟩
set_option maxHeartbeats 2000000 in
set_option maxRecDepth 100000 in
theorem an_ntt_bad (ns : List Nat) (hn : ∀ k : Nat, k ≤ 10 → ns.length ≠ 2 ^ k) (v : Value) (w : World) (h : Rd .u64 w v (nz ns)) (hT : Tp w) :
    Calls Tryz.prog 48 #[.string ⟨#[110, 116, 116]⟩, v] w (RetV w (.string (erB 5))) := by
  obtain ⟨a, cap, rfl, hcap, hm⟩ := h.shape
  rw [nz_len] at *
  have C := Lib.hid (rlog_no (ns.length : Int) w (by omega) (by omega) (fun k hk e => hn k hk (by exact_mod_cast e)))
  have D := Lib.hid (wrong_is 5 (by omega) (by omega) w hT)
  generalize erB 5 = r at *
  clear h hn hT
  go_enter Tryz.func48, Tryz.ntmps48
  go_wp2_with fail
  refine C.out.mono ?_
  rintro e w' ⟨rfl, rfl⟩
  go_wp2_with fail
  refine D.out.mono ?_
  rintro e w2 ⟨rfl, hb⟩
  have B2 := Lib.hid hb
  clear hb
  go_wp2
  go_ret
  exact ⟨rfl, B2.out⟩
set_option maxHeartbeats 2000000 in
set_option maxRecDepth 100000 in
theorem an_ntt (ns : List Nat) (k : Nat) (hk : k ≤ 10) (hl : ns.length = 2 ^ k) (L : List Nat) (hL : OkN L) (v : Value) (w : World) (h : Rd .u64 w v (nz ns)) (hT : Tp w)
    (hc : Calls Tryz.prog 80 #[v] w (RetN w L)) :
    Calls Tryz.prog 48 #[.string ⟨#[110, 116, 116]⟩, v] w (RetV w (.string (tdB L))) := by
  have CC := Lib.hid hc
  clear hc
  obtain ⟨a, cap, rfl, hcap, hm⟩ := h.shape
  rw [nz_len] at *
  have C := Lib.hid (rlog_pow k (ns.length : Int) w hk (by rw [hl]))
  have g1 : decide ((k : Int) < 0) = false := decide_eq_false (by omega)
  have HL := Lib.hid hL
  have TP := Lib.hid hT
  clear h hl hT hL
  go_enter Tryz.func48, Tryz.ntmps48
  go_wp2_with fail
  refine C.out.mono ?_
  rintro e w' ⟨rfl, rfl⟩
  go_wp2_with fail
  refine CC.out.mono ?_
  rintro e w1 ⟨v1, rfl, hr, hb⟩
  have R1 := Lib.hid hr
  have B1 := Lib.hid hb
  have hs1 := hb.size
  clear hr hb
  go_wp2_with fail
  refine (said_is L HL.out.1 HL.out.2 _ _ R1.out (TP.out.below B1.out)).mono ?_
  rintro e w2 ⟨rfl, hb⟩
  have B2 := Lib.hid (B1.out.trans (hb.mono hs1))
  clear hb
  go_wp2
  go_ret
  exact ⟨rfl, B2.out⟩
set_option maxHeartbeats 2000000 in
set_option maxRecDepth 100000 in
theorem an_back_bad (ns : List Nat) (hn : ∀ k : Nat, k ≤ 10 → ns.length ≠ 2 ^ k) (v : Value) (w : World) (h : Rd .u64 w v (nz ns)) (hT : Tp w) :
    Calls Tryz.prog 48 #[.string ⟨#[98, 97, 99, 107]⟩, v] w (RetV w (.string (erB 5))) := by
  obtain ⟨a, cap, rfl, hcap, hm⟩ := h.shape
  rw [nz_len] at *
  have C := Lib.hid (rlog_no (ns.length : Int) w (by omega) (by omega) (fun k hk e => hn k hk (by exact_mod_cast e)))
  have D := Lib.hid (wrong_is 5 (by omega) (by omega) w hT)
  generalize erB 5 = r at *
  clear h hn hT
  go_enter Tryz.func48, Tryz.ntmps48
  go_wp2_with fail
  refine C.out.mono ?_
  rintro e w' ⟨rfl, rfl⟩
  go_wp2_with fail
  refine D.out.mono ?_
  rintro e w2 ⟨rfl, hb⟩
  have B2 := Lib.hid hb
  clear hb
  go_wp2
  go_ret
  exact ⟨rfl, B2.out⟩
set_option maxHeartbeats 2000000 in
set_option maxRecDepth 100000 in
theorem an_back (ns : List Nat) (k : Nat) (hk : k ≤ 10) (hl : ns.length = 2 ^ k) (L : List Nat) (hL : OkN L) (v : Value) (w : World) (h : Rd .u64 w v (nz ns)) (hT : Tp w)
    (hc : Calls Tryz.prog 79 #[v] w (RetN w L)) :
    Calls Tryz.prog 48 #[.string ⟨#[98, 97, 99, 107]⟩, v] w (RetV w (.string (tdB L))) := by
  have CC := Lib.hid hc
  clear hc
  obtain ⟨a, cap, rfl, hcap, hm⟩ := h.shape
  rw [nz_len] at *
  have C := Lib.hid (rlog_pow k (ns.length : Int) w hk (by rw [hl]))
  have g1 : decide ((k : Int) < 0) = false := decide_eq_false (by omega)
  have HL := Lib.hid hL
  have TP := Lib.hid hT
  clear h hl hT hL
  go_enter Tryz.func48, Tryz.ntmps48
  go_wp2_with fail
  refine C.out.mono ?_
  rintro e w' ⟨rfl, rfl⟩
  go_wp2_with fail
  refine CC.out.mono ?_
  rintro e w1 ⟨v1, rfl, hr, hb⟩
  have R1 := Lib.hid hr
  have B1 := Lib.hid hb
  have hs1 := hb.size
  clear hr hb
  go_wp2_with fail
  refine (said_is L HL.out.1 HL.out.2 _ _ R1.out (TP.out.below B1.out)).mono ?_
  rintro e w2 ⟨rfl, hb⟩
  have B2 := Lib.hid (B1.out.trans (hb.mono hs1))
  clear hb
  go_wp2
  go_ret
  exact ⟨rfl, B2.out⟩
def AnR (ms : List Nat) (n : Nat) (w : World) (v5 vi : Value) (wr : World) : Prop :=
  ∃ i : Nat, i ≤ n ∧ vi = .int .i64 ((i + 1 : Nat) : Int) ∧ Oz .i64 3 w.heap.size wr v5 (nz (ms.take i)) ∧ Below w.heap.size w wr
set_option maxHeartbeats 4000000 in
set_option maxRecDepth 100000 in
theorem an_plan (ns : List Nat) (L : List (List T3)) (n : Int) (v : Value) (w : World) (h : Rd .u64 w v (nz ns)) (h0 : 0 < ns.length) (hl : ns.length ≤ 1000000) (hn0 : 0 ≤ n) (hn1 : n < 10)
    (hmk : ∀ v' w', Rd .i64 w' v' (nz (smls ns)) → Calls Tryz.prog 82 #[v', .int .i64 (sml (at0 ns 0) : Int)] w' (RetPE w' L n))
    (hpr : n = 0 → ∀ v' w', RPs w' v' L → Tp w' → Calls Tryz.prog 83 #[v'] w' fun e w2 => e = .returned (.string (pI L L.length)) ∧ Below w'.heap.size w' w2)
    (hsz : (pI L L.length).size ≤ 1000000000000) (hT : Tp w) :
    Calls Tryz.prog 48 #[.string ⟨#[112, 108, 97, 110]⟩, v] w (RetV w (.string (plB L n))) := by
  obtain ⟨cap, b, off, rfl, hcap, hm, hx⟩ := h.cells h0
  have MK := Lib.hid hmk
  have PR := Lib.hid hpr
  have TP := Lib.hid hT
  have SM := Lib.hid (fun x w => rsmall_any x w)
  have SS := Lib.hid (fun i h => smls_succ ns (i := i) h)
  have SL := Lib.hid (smls_len ns)
  have HC := Lib.hid hx
  have K0 := Lib.hid (hx 0 h0)
  obtain ⟨m, hmm⟩ : ∃ m, ns.length = m + 1 := ⟨ns.length - 1, by omega⟩
  have HM := Lib.hid hmm
  rw [hmm] at hcap HC SL SS ⊢
  rw [hmm] at hl
  rw [Nat.add_sub_cancel] at SL
  rw [Nat.add_zero] at K0
  clear h hx hT hmk hpr hmm h0
  generalize hx0 : at0 ns 0 = x0 at *
  clear hx0
  go_enter Tryz.func48, Tryz.ntmps48
  go_wp2
  go_loopw [5, 6] (fun v5 vi wr => AnR (smls ns) m w v5 vi wr) (fun _ i _ => m + 1 - (intOf i).toNat)
  case atStart => exact ⟨0, by omega, rfl, by rw [List.take_zero]; exact Oz.nil _ _ _ _, Below.refl _ _⟩
  case round =>
    obtain ⟨i, hi, rfl, ho, hb⟩ := hrel
    have O1 := Lib.hid ho
    have B1 := Lib.hid hb
    have hs1 := hb.size
    clear ho hb
    by_cases hil : i < m
    · have g1 : decide (((i + 1 : Nat) : Int) < ((m + 1 : Nat) : Int)) = true := decide_eq_true (by omega)
      have g2 : decide (i + 1 < m + 1) = true := decide_eq_true (by omega)
      have g3 : decide ((i : Int) + 1 < (m : Int) + 1) = true := decide_eq_true (by omega)
      have ci := HC.out (i + 1) (by omega)
      have ci := (B1.out.cell (p := ⟨b, off + (i + 1), none⟩) (World.block_lt_of_cell? w _ ci)).trans ci
      have SSi := Lib.hid (SS.out i (by omega))
      have hll : (nz ((smls ns).take i)).length ≤ 1000000 := by rw [nz_len, List.length_take]; omega
      generalize at0 ns (i + 1) = u at *
      go_wp2_with fail
      refine (SM.out _ _).mono ?_
      rintro e w2 ⟨rfl, rfl⟩
      go_wp2_with (at_builtin; refine wl_app_int _ rfl (.tmp 107) (.tmp 113) rfl w.heap.size _ (nz ((smls ns).take i)) (sml u : Int) w rfl rfl O1.out B1.out hs1 hll ?_)
      intro v3 w3 h1 h2
      rw [← SSi.out] at h1
      have O3 := Lib.hid h1
      have B3 := Lib.hid h2
      clear h1 h2 O1 B1 ci SSi
      go_wp2
      go_roundw
      case rel => exact ⟨i + 1, by omega, by go_num, O3.out, B3.out⟩
      case measure => simp [intOf] <;> omega
    · obtain rfl : m = i := by omega
      have g3 : decide (((m + 1 : Nat) : Int) < ((m + 1 : Nat) : Int)) = false := decide_eq_false (by omega)
      have g4 : decide ((m : Int) + 1 < (m : Int) + 1) = false := decide_eq_false (by omega)
      have hrz := O1.out.rd
      rw [List.take_of_length_le (by rw [SL.out]; exact Nat.le_refl _)] at hrz
      have RZ := Lib.hid hrz
      clear hrz
      have c0 := K0.out
      have c0 := (B1.out.cell (p := ⟨b, off, none⟩) (World.block_lt_of_cell? w _ c0)).trans c0
      clear O1
      go_wp2_with fail
      refine (SM.out _ _).mono ?_
      rintro e w2 ⟨rfl, rfl⟩
      go_wp2_with fail
      refine (MK.out _ _ RZ.out).mono ?_
      rintro e w2 ⟨v2, rfl, hop, hb⟩
      have B2 := Lib.hid (B1.out.trans (hb.mono hs1))
      have hs2 := B2.out.size
      have R2 := Lib.hid hop.rps
      clear hop hb B1 RZ c0 K0
      by_cases e0 : n = 0
      · have E := Lib.hid (show plB L n = pI L L.length ++ ⟨#[111, 107]⟩ from by rw [e0]; exact plB_ok L)
        have PN := Lib.hid (PR.out e0)
        have hov : ¬ 9223372036854775807 < (pI L L.length).size + 2 := by omega
        clear PR
        generalize pI L L.length = y at *
        subst e0
        go_wp2_with fail
        refine (PN.out _ _ R2.out (TP.out.below B2.out)).mono ?_
        rintro e w3 ⟨rfl, hb⟩
        have B3 := Lib.hid (B2.out.trans (hb.mono hs2))
        clear hb
        go_wp2
        go_ret
        exact ⟨by rw [E.out]; rfl, B3.out⟩
      · have E := Lib.hid (plB_err L e0)
        have g4 : (n == 0) = false := by rw [beq_eq_false_iff_ne]; exact e0
        have FL := Lib.hid (wrong_is n hn0 hn1 w2 (TP.out.below B2.out))
        clear PR
        generalize erB n = y at *
        go_wp2_with fail
        refine FL.out.mono ?_
        rintro e w3 ⟨rfl, hb⟩
        have B3 := Lib.hid (B2.out.trans (hb.mono hs2))
        clear hb
        go_wp2
        go_ret
        exact ⟨by rw [E.out]; rfl, B3.out⟩
set_option maxHeartbeats 2000000 in
set_option maxRecDepth 100000 in
theorem an_share_len (ns : List Nat) (h0 : 0 < ns.length) (hl : ns.length < 2) (v : Value) (w : World) (h : Rd .u64 w v (nz ns)) (hT : Tp w) :
    Calls Tryz.prog 48 #[.string ⟨#[115, 104, 97, 114, 101]⟩, v] w (RetV w (.string (erB 1))) := by
  obtain ⟨cap, b, off, rfl, hcap, hm, hx⟩ := h.cells h0
  have K0 := Lib.hid (hx 0 h0)
  rw [Nat.add_zero] at K0
  have c0 := K0.out
  have SM := Lib.hid (rsmall_any (at0 ns 0) w)
  have g1 : decide ((ns.length : Int) < 2) = true := decide_eq_true (by omega)
  have g2 : decide (ns.length < 2) = true := decide_eq_true hl
  have D := Lib.hid (wrong_is 1 (by omega) (by omega) w hT)
  generalize erB 1 = r at *
  clear h hx hT
  generalize sml (at0 ns 0) = s at *
  generalize at0 ns 0 = x at *
  go_enter Tryz.func48, Tryz.ntmps48
  go_wp2_with fail
  refine SM.out.mono ?_
  rintro e w' ⟨rfl, rfl⟩
  go_wp2_with fail
  refine D.out.mono ?_
  rintro e w2 ⟨rfl, hb⟩
  have B2 := Lib.hid hb
  clear hb
  go_wp2
  go_ret
  exact ⟨rfl, B2.out⟩
set_option maxHeartbeats 2000000 in
set_option maxRecDepth 100000 in
theorem an_share_in (ns : List Nat) (h0 : 0 < ns.length) (hl : 2 ≤ ns.length) (hs : sml (at0 ns 0) < 1 ∨ 64 < sml (at0 ns 0)) (v : Value) (w : World) (h : Rd .u64 w v (nz ns)) (hT : Tp w) :
    Calls Tryz.prog 48 #[.string ⟨#[115, 104, 97, 114, 101]⟩, v] w (RetV w (.string (erB 1))) := by
  obtain ⟨cap, b, off, rfl, hcap, hm, hx⟩ := h.cells h0
  have K0 := Lib.hid (hx 0 h0)
  rw [Nat.add_zero] at K0
  have c0 := K0.out
  have SM := Lib.hid (rsmall_any (at0 ns 0) w)
  have g1 : decide ((ns.length : Int) < 2) = false := decide_eq_false (by omega)
  have g2 : decide (ns.length < 2) = false := decide_eq_false (by omega)
  have I := Lib.hid (in_no (sml (at0 ns 0) : Int) 1 64 w (by omega))
  have D := Lib.hid (wrong_is 1 (by omega) (by omega) w hT)
  generalize erB 1 = r at *
  clear h hx hT
  generalize sml (at0 ns 0) = s at *
  generalize at0 ns 0 = x at *
  go_enter Tryz.func48, Tryz.ntmps48
  go_wp2_with fail
  refine SM.out.mono ?_
  rintro e w' ⟨rfl, rfl⟩
  go_wp2_with fail
  refine I.out.mono ?_
  rintro e w' ⟨rfl, rfl⟩
  go_wp2_with fail
  refine D.out.mono ?_
  rintro e w2 ⟨rfl, hb⟩
  have B2 := Lib.hid hb
  clear hb
  go_wp2
  go_ret
  exact ⟨rfl, B2.out⟩
set_option maxHeartbeats 2000000 in
set_option maxRecDepth 100000 in
theorem an_share_many (ns : List Nat) (h0 : 0 < ns.length) (hl : 2 ≤ ns.length) (hs : 1 ≤ sml (at0 ns 0) ∧ sml (at0 ns 0) ≤ 64) (hd : sml (at0 ns 0) < ns.length - 1) (v : Value) (w : World) (h : Rd .u64 w v (nz ns)) (hT : Tp w) :
    Calls Tryz.prog 48 #[.string ⟨#[115, 104, 97, 114, 101]⟩, v] w (RetV w (.string (erB 1))) := by
  obtain ⟨cap, b, off, rfl, hcap, hm, hx⟩ := h.cells h0
  have K0 := Lib.hid (hx 0 h0)
  rw [Nat.add_zero] at K0
  have c0 := K0.out
  have SM := Lib.hid (rsmall_any (at0 ns 0) w)
  have g1 : decide ((ns.length : Int) < 2) = false := decide_eq_false (by omega)
  have g2 : decide (ns.length < 2) = false := decide_eq_false (by omega)
  have g3 : decide ((sml (at0 ns 0) : Int) < (ns.length : Int) - 1) = true := decide_eq_true (by omega)
  have e1 : IntKind.i64.wrap ((ns.length : Int) - 1) = (ns.length : Int) - 1 := IntWalk.i64_in _ (by omega)
  have I := Lib.hid (in_yes (sml (at0 ns 0) : Int) 1 64 w (by omega) (by omega))
  have D := Lib.hid (wrong_is 1 (by omega) (by omega) w hT)
  generalize erB 1 = r at *
  clear h hx hT
  generalize sml (at0 ns 0) = s at *
  generalize at0 ns 0 = x at *
  go_enter Tryz.func48, Tryz.ntmps48
  go_wp2_with fail
  refine SM.out.mono ?_
  rintro e w' ⟨rfl, rfl⟩
  go_wp2_with fail
  refine I.out.mono ?_
  rintro e w' ⟨rfl, rfl⟩
  go_wp2_with fail
  refine D.out.mono ?_
  rintro e w2 ⟨rfl, hb⟩
  have B2 := Lib.hid hb
  clear hb
  go_wp2
  go_ret
  exact ⟨rfl, B2.out⟩
set_option maxHeartbeats 2000000 in
set_option maxRecDepth 100000 in
theorem an_share (ns : List Nat) (h0 : 0 < ns.length) (hl : 2 ≤ ns.length) (hs : 1 ≤ sml (at0 ns 0) ∧ sml (at0 ns 0) ≤ 64) (hd : ns.length - 1 ≤ sml (at0 ns 0)) (L : List Nat) (hL : OkN L) (v : Value) (w : World) (h : Rd .u64 w v (nz ns)) (hT : Tp w)
    (hc : ∀ v' w', Rd .u64 w' v' ((nz ns).drop 1) → Calls Tryz.prog 85 #[v', .int .i64 (at0 ns 0 : Int)] w' (RetN w' L)) :
    Calls Tryz.prog 48 #[.string ⟨#[115, 104, 97, 114, 101]⟩, v] w (RetV w (.string (tdB L))) := by
  obtain ⟨v2, hsl, h2⟩ := h.from 1 (by rw [nz_len]; exact h0)
  rw [show ((1 : Nat) : Int) = 1 from rfl] at hsl
  obtain ⟨cap, b, off, rfl, hcap, hm, hx⟩ := h.cells h0
  have K0 := Lib.hid (hx 0 h0)
  rw [Nat.add_zero] at K0
  have c0 := K0.out
  have SM := Lib.hid (rsmall_any (at0 ns 0) w)
  have g1 : decide ((ns.length : Int) < 2) = false := decide_eq_false (by omega)
  have g2 : decide (ns.length < 2) = false := decide_eq_false (by omega)
  have g3 : decide ((sml (at0 ns 0) : Int) < (ns.length : Int) - 1) = false := decide_eq_false (by omega)
  have e1 : IntKind.i64.wrap ((ns.length : Int) - 1) = (ns.length : Int) - 1 := IntWalk.i64_in _ (by omega)
  have hx64 : at0 ns 0 ≤ 64 := by
    by_cases hq : at0 ns 0 < 1000000000
    · have := sml_lt hq; omega
    · have := sml_ge hq; omega
  have e2 : IntKind.i64.wrap (at0 ns 0 : Int) = (at0 ns 0 : Int) := IntWalk.i64_in _ (by omega)
  have I := Lib.hid (in_yes (sml (at0 ns 0) : Int) 1 64 w (by omega) (by omega))
  have C := Lib.hid hc
  have R2 := Lib.hid h2
  have TP := Lib.hid hT
  have HL := Lib.hid hL
  clear h hx hT h2 hc hL hx64 K0
  generalize sml (at0 ns 0) = s at *
  generalize at0 ns 0 = x at *
  go_enter Tryz.func48, Tryz.ntmps48
  go_wp2_with fail
  refine SM.out.mono ?_
  rintro e w' ⟨rfl, rfl⟩
  go_wp2_with fail
  refine I.out.mono ?_
  rintro e w' ⟨rfl, rfl⟩
  go_wp2_with fail
  refine wp_region_N [4] [6, 7] (fun w' => w'.cell? ⟨b, off, none⟩ = some (.int .u64 (x : Int))) (by kernel_rfl) ?_
  have hS : w.drew.cell? ⟨b, off, none⟩ = some (.int .u64 (x : Int)) := c0
  refine wpN_pure (i := 0) (v := ?_) rfl (by kernel_rfl) (by kernel_rfl) (by kernel_rfl) (by kernel_rfl) (fun _ _ _ h => h) (Or.inl ⟨by rfl, ?_⟩) (fun _ => hS) ?_
  rotate_left
  · ((intro w' hw'; (try dsimp only at hw'); go_simp) <;> with_reducible rfl)
  simp only [Act.put, List.setIfInBounds_toArray, List.set_cons_zero, List.set_cons_succ]
  refine wpN_pure (i := 1) (v := ?_) rfl (by kernel_rfl) (by kernel_rfl) (by kernel_rfl) (by kernel_rfl) (fun _ _ _ h => h) (Or.inl ⟨by rfl, ?_⟩) (fun _ => hS) ?_
  rotate_left
  · ((intro w' hw'; (try dsimp only at hw'); go_simp) <;> with_reducible rfl)
  simp only [Act.put, List.setIfInBounds_toArray, List.set_cons_zero, List.set_cons_succ]
  refine wpN_pure (i := 2) (v := ?_) rfl (by kernel_rfl) (by kernel_rfl) (by kernel_rfl) (by kernel_rfl) (fun _ _ _ h => h) (Or.inl ⟨by rfl, ?_⟩) (fun _ => hS) ?_
  rotate_left
  · ((intro w' hw'; (try dsimp only at hw'); go_simp) <;> with_reducible rfl)
  simp only [Act.put, List.setIfInBounds_toArray, List.set_cons_zero, List.set_cons_succ]
  refine wpN_pure (i := 3) (v := ?_) rfl (by kernel_rfl) (by kernel_rfl) (by kernel_rfl) (by kernel_rfl) (fun _ _ _ h => h) (Or.inl ⟨by rfl, ?_⟩) (fun _ => hS) ?_
  rotate_left
  · ((intro w' hw'; (try dsimp only at hw'); go_simp) <;> with_reducible rfl)
  simp only [Act.put, List.setIfInBounds_toArray, List.set_cons_zero, List.set_cons_succ]
  refine wpN_read (i := 4) (v := ?_) rfl (by kernel_rfl) (by kernel_rfl) (by kernel_rfl) (by kernel_rfl) (by kernel_rfl) (fun _ _ _ h => h) (Or.inl ⟨by rfl, ?_⟩) hS ?_
  rotate_left
  · ((intro w' hw'; (try dsimp only at hw'); go_simp) <;> with_reducible rfl)
  simp only [Act.put, List.setIfInBounds_toArray, List.set_cons_zero, List.set_cons_succ]
  refine wpN_pure (i := 5) (v := ?_) rfl (by kernel_rfl) (by kernel_rfl) (by kernel_rfl) (by kernel_rfl) (fun _ _ _ h => h) (Or.inl ⟨by rfl, ?_⟩) (fun _ => hS) ?_
  rotate_left
  · ((intro w' hw'; (try dsimp only at hw'); go_simp) <;> with_reducible rfl)
  simp only [Act.put, List.setIfInBounds_toArray, List.set_cons_zero, List.set_cons_succ]
  refine wpN_one (i := 6) rfl rfl (by kernel_rfl) (by kernel_rfl) (fun K hK => ?_)
  go_simp
  refine (C.out _ _ (R2.out.below (below_drewN (Below.refl _ _) 1))).mono ?_
  rintro e w1 ⟨v1, rfl, h1, hb⟩
  refine hK.out _ _ ?_
  clear hK K hS
  have R1 := Lib.hid h1
  have B1 := Lib.hid ((below_drewN (Below.refl w.heap.size w) 1).trans hb)
  have hs1 := B1.out.size
  clear h1 hb
  refine wpN_one (i := 7) rfl rfl (by kernel_rfl) (by kernel_rfl) (fun K hK => ?_)
  go_simp
  refine (said_is L HL.out.1 HL.out.2 _ _ R1.out (TP.out.below B1.out)).mono ?_
  rintro e w2 ⟨rfl, hb⟩
  refine hK.out _ _ ?_
  have B2 := Lib.hid (B1.out.trans (hb.mono hs1))
  clear hb hK K
  refine wpN_pure (i := 8) (v := ?_) rfl (by kernel_rfl) (by kernel_rfl) (by kernel_rfl) (by kernel_rfl) (fun _ _ _ h => h) (Or.inl ⟨by rfl, ?_⟩) (fun h => Bool.noConfusion (h.symm.trans (show _ = false by kernel_rfl))) ?_
  rotate_left
  · ((intro w' hw'; (try dsimp only at hw'); go_simp) <;> with_reducible rfl)
  simp only [Act.put, List.setIfInBounds_toArray, List.set_cons_zero, List.set_cons_succ]
  refine wpN_done (by kernel_rfl) ?_
  go_wp2
  go_ret
  exact ⟨rfl, B2.out⟩
set_option maxHeartbeats 2000000 in
set_option maxRecDepth 100000 in
theorem an_else (vb : ByteArray) (h0 : vb ≠ ⟨#[97, 100, 100]⟩) (h1 : vb ≠ ⟨#[115, 117, 98]⟩) (h2 : vb ≠ ⟨#[109, 117, 108]⟩) (h3 : vb ≠ ⟨#[112, 111, 119]⟩) (h4 : vb ≠ ⟨#[105, 110, 118]⟩) (h5 : vb ≠ ⟨#[114, 111, 111, 116]⟩) (h6 : vb ≠ ⟨#[110, 116, 116]⟩) (h7 : vb ≠ ⟨#[98, 97, 99, 107]⟩) (h8 : vb ≠ ⟨#[112, 108, 97, 110]⟩) (h9 : vb ≠ ⟨#[115, 104, 97, 114, 101]⟩) (v : Value) (w : World) (hT : Tp w) :
    Calls Tryz.prog 48 #[.string vb, v] w (RetV w (.string (erB 3))) := by
  have g0 : (vb.toList == [97, 100, 100]) = false := lit_ne h0
  have g1 : (vb.toList == [115, 117, 98]) = false := lit_ne h1
  have g2 : (vb.toList == [109, 117, 108]) = false := lit_ne h2
  have g3 : (vb.toList == [112, 111, 119]) = false := lit_ne h3
  have g4 : (vb.toList == [105, 110, 118]) = false := lit_ne h4
  have g5 : (vb.toList == [114, 111, 111, 116]) = false := lit_ne h5
  have g6 : (vb.toList == [110, 116, 116]) = false := lit_ne h6
  have g7 : (vb.toList == [98, 97, 99, 107]) = false := lit_ne h7
  have g8 : (vb.toList == [112, 108, 97, 110]) = false := lit_ne h8
  have g9 : (vb.toList == [115, 104, 97, 114, 101]) = false := lit_ne h9
  clear h0 h1 h2 h3 h4 h5 h6 h7 h8 h9
  have D := Lib.hid (wrong_is 3 (by omega) (by omega) w hT)
  generalize erB 3 = r at *
  go_enter Tryz.func48, Tryz.ntmps48
  go_wp2_with fail
  refine D.out.mono ?_
  rintro e w2 ⟨rfl, hb⟩
  have B2 := Lib.hid hb
  clear hb
  go_wp2
  go_ret
  exact ⟨rfl, B2.out⟩
end Go.Proofs.YtdhmmllpldjkbaaGreatDoor.Gm
/- (Dkh1) -/
namespace Go.Proofs.YtdhmmllpldjkbaaGreatDoor.Gm
open Go.RowKit
set_option linter.unusedVariables false
set_option maxHeartbeats 4000000 in
set_option maxRecDepth 100000 in
theorem ll_cyclic_none (ws : List ByteArray) (hi : IxS ws ⟨#[47]⟩ (-1)) (hl : ws.length ≤ 1000000) (v : Value) (w : World) (h : Rs w v ws) (hT : Tp w) :
    Calls Tryz.prog 18 #[.string ⟨#[99, 121, 99, 108, 105, 99]⟩, v] w (RetV w (.string (erB 3))) := by
  have C := Lib.hid (sidx_any ws ⟨#[47]⟩ (-1) hi v w h (by omega))
  have D := Lib.hid (wrong_is 3 (by omega) (by omega) w hT)
  generalize erB 3 = r at *
  clear h hT hi
  go_enter Tryz.func18, Tryz.ntmps18
  go_wp2_with fail
  refine C.out.mono ?_
  rintro e w' ⟨rfl, rfl⟩
  go_wp2_with fail
  refine D.out.mono ?_
  rintro e w2 ⟨rfl, hb⟩
  have B2 := Lib.hid hb
  clear hb
  go_wp2
  go_ret
  exact ⟨rfl, B2.out⟩
set_option maxHeartbeats 4000000 in
set_option maxRecDepth 100000 in
theorem ll_linear_none (ws : List ByteArray) (hi : IxS ws ⟨#[47]⟩ (-1)) (hl : ws.length ≤ 1000000) (v : Value) (w : World) (h : Rs w v ws) (hT : Tp w) :
    Calls Tryz.prog 18 #[.string ⟨#[108, 105, 110, 101, 97, 114]⟩, v] w (RetV w (.string (erB 3))) := by
  have C := Lib.hid (sidx_any ws ⟨#[47]⟩ (-1) hi v w h (by omega))
  have D := Lib.hid (wrong_is 3 (by omega) (by omega) w hT)
  generalize erB 3 = r at *
  clear h hT hi
  go_enter Tryz.func18, Tryz.ntmps18
  go_wp2_with fail
  refine C.out.mono ?_
  rintro e w' ⟨rfl, rfl⟩
  go_wp2_with fail
  refine D.out.mono ?_
  rintro e w2 ⟨rfl, hb⟩
  have B2 := Lib.hid hb
  clear hb
  go_wp2
  go_ret
  exact ⟨rfl, B2.out⟩
set_option maxHeartbeats 4000000 in
set_option maxRecDepth 100000 in
theorem ll_cyclic_bb (ws : List ByteArray) (k : Nat) (hi : IxS ws ⟨#[47]⟩ (k : Int)) (hl : ws.length ≤ 1000000) (hz : ∀ x ∈ ws, x.size ≤ 10000000) (ha : ∀ ns, ¬ NumsW (ws.take k) ns) (hc : ∀ ns, ¬ NumsW (ws.drop (k + 1)) ns) (v : Value) (w : World) (h : Rs w v ws) (hT : Tp w) :
    Calls Tryz.prog 18 #[.string ⟨#[99, 121, 99, 108, 105, 99]⟩, v] w (RetV w (.string (erB 3))) := by
  have hkl : k < ws.length := by
    rcases hi with ⟨m, e, h1, _⟩ | ⟨e, _⟩
    · have := (List.getElem?_eq_some_iff.1 h1).1
      omega
    · omega
  have C := Lib.hid (sidx_any ws ⟨#[47]⟩ (k : Int) hi v w h (by omega))
  obtain ⟨va, hsa, hra⟩ := h.to k (by omega)
  obtain ⟨vc, hsc, hrc⟩ := h.from (k + 1) (by omega)
  rw [show ((k + 1 : Nat) : Int) = (k : Int) + 1 by omega] at hsc
  have ek : IntKind.i64.wrap ((k : Int) + 1) = (k : Int) + 1 := IntWalk.i64_in _ (by omega)
  have gk : decide ((k : Int) < 0) = false := decide_eq_false (by omega)
  have RA := Lib.hid hra
  have RC := Lib.hid hrc
  have la : (ws.take k).length ≤ 1000000 := by rw [List.length_take]; omega
  have lc : (ws.drop (k + 1)).length ≤ 1000000 := by rw [List.length_drop]; omega
  have za := Lib.hid (show ∀ x ∈ ws.take k, x.size ≤ 10000000 from fun x hx => hz x (List.mem_of_mem_take hx))
  have zc := Lib.hid (show ∀ x ∈ ws.drop (k + 1), x.size ≤ 10000000 from fun x hx => hz x (List.mem_of_mem_drop hx))
  have TP := Lib.hid hT
  clear h hT hi hra hrc hz
  have Ha := Lib.hid ha
  have Hc := Lib.hid hc
  have D := Lib.hid (fun w hT => wrong_is 3 (by omega) (by omega) w hT)
  clear ha hc
  generalize erB 3 = r at *
  go_enter Tryz.func18, Tryz.ntmps18
  go_wp2_with fail
  refine C.out.mono ?_
  rintro e w' ⟨rfl, rfl⟩
  go_wp2_with fail
  refine (rnums_bad (ws.take k) Ha.out _ _ RA.out la za.out TP.out).mono ?_
  rintro e w1 ⟨rfl, hb⟩
  have B1 := Lib.hid hb
  have hs1 := hb.size
  clear hb
  go_wp2_with fail
  refine (rnums_bad (ws.drop (k + 1)) Hc.out _ _ (RC.out.below B1.out) lc zc.out (TP.out.below B1.out)).mono ?_
  rintro e w2 ⟨rfl, hb⟩
  have B2 := Lib.hid (B1.out.trans (hb.mono hs1))
  have hs2 := B2.out.size
  clear hb
  go_wp2_with fail
  refine (D.out _ (TP.out.below B2.out)).mono ?_
  rintro e w3 ⟨rfl, hb⟩
  have B3 := Lib.hid (B2.out.trans (hb.mono hs2))
  clear hb
  go_wp2
  go_ret
  exact ⟨rfl, B3.out⟩
set_option maxHeartbeats 4000000 in
set_option maxRecDepth 100000 in
theorem ll_cyclic_bo (ws : List ByteArray) (k : Nat) (hi : IxS ws ⟨#[47]⟩ (k : Int)) (hl : ws.length ≤ 1000000) (hz : ∀ x ∈ ws, x.size ≤ 10000000) (ha : ∀ ns, ¬ NumsW (ws.take k) ns) (ms : List Nat) (hc : NumsW (ws.drop (k + 1)) ms) (v : Value) (w : World) (h : Rs w v ws) (hT : Tp w) :
    Calls Tryz.prog 18 #[.string ⟨#[99, 121, 99, 108, 105, 99]⟩, v] w (RetV w (.string (erB 3))) := by
  have hkl : k < ws.length := by
    rcases hi with ⟨m, e, h1, _⟩ | ⟨e, _⟩
    · have := (List.getElem?_eq_some_iff.1 h1).1
      omega
    · omega
  have C := Lib.hid (sidx_any ws ⟨#[47]⟩ (k : Int) hi v w h (by omega))
  obtain ⟨va, hsa, hra⟩ := h.to k (by omega)
  obtain ⟨vc, hsc, hrc⟩ := h.from (k + 1) (by omega)
  rw [show ((k + 1 : Nat) : Int) = (k : Int) + 1 by omega] at hsc
  have ek : IntKind.i64.wrap ((k : Int) + 1) = (k : Int) + 1 := IntWalk.i64_in _ (by omega)
  have gk : decide ((k : Int) < 0) = false := decide_eq_false (by omega)
  have RA := Lib.hid hra
  have RC := Lib.hid hrc
  have la : (ws.take k).length ≤ 1000000 := by rw [List.length_take]; omega
  have lc : (ws.drop (k + 1)).length ≤ 1000000 := by rw [List.length_drop]; omega
  have za := Lib.hid (show ∀ x ∈ ws.take k, x.size ≤ 10000000 from fun x hx => hz x (List.mem_of_mem_take hx))
  have zc := Lib.hid (show ∀ x ∈ ws.drop (k + 1), x.size ≤ 10000000 from fun x hx => hz x (List.mem_of_mem_drop hx))
  have TP := Lib.hid hT
  clear h hT hi hra hrc hz
  have Ha := Lib.hid ha
  have Hc := Lib.hid hc
  have D := Lib.hid (fun w hT => wrong_is 3 (by omega) (by omega) w hT)
  clear ha hc
  generalize erB 3 = r at *
  go_enter Tryz.func18, Tryz.ntmps18
  go_wp2_with fail
  refine C.out.mono ?_
  rintro e w' ⟨rfl, rfl⟩
  go_wp2_with fail
  refine (rnums_bad (ws.take k) Ha.out _ _ RA.out la za.out TP.out).mono ?_
  rintro e w1 ⟨rfl, hb⟩
  have B1 := Lib.hid hb
  have hs1 := hb.size
  clear hb
  go_wp2_with fail
  refine (rnums_ok (ws.drop (k + 1)) ms Hc.out _ _ (RC.out.below B1.out) lc zc.out (TP.out.below B1.out)).mono ?_
  rintro e w2 ⟨vc1, rfl, hr, hb⟩
  have B2 := Lib.hid (B1.out.trans (hb.mono hs1))
  have hs2 := B2.out.size
  have Xc := Lib.hid hr
  clear hr
  clear hb
  go_wp2_with fail
  refine (D.out _ (TP.out.below B2.out)).mono ?_
  rintro e w3 ⟨rfl, hb⟩
  have B3 := Lib.hid (B2.out.trans (hb.mono hs2))
  clear hb
  go_wp2
  go_ret
  exact ⟨rfl, B3.out⟩
set_option maxHeartbeats 4000000 in
set_option maxRecDepth 100000 in
theorem ll_cyclic_ob (ws : List ByteArray) (k : Nat) (hi : IxS ws ⟨#[47]⟩ (k : Int)) (hl : ws.length ≤ 1000000) (hz : ∀ x ∈ ws, x.size ≤ 10000000) (ns : List Nat) (ha : NumsW (ws.take k) ns) (hc : ∀ ns, ¬ NumsW (ws.drop (k + 1)) ns) (v : Value) (w : World) (h : Rs w v ws) (hT : Tp w) :
    Calls Tryz.prog 18 #[.string ⟨#[99, 121, 99, 108, 105, 99]⟩, v] w (RetV w (.string (erB 3))) := by
  have hkl : k < ws.length := by
    rcases hi with ⟨m, e, h1, _⟩ | ⟨e, _⟩
    · have := (List.getElem?_eq_some_iff.1 h1).1
      omega
    · omega
  have C := Lib.hid (sidx_any ws ⟨#[47]⟩ (k : Int) hi v w h (by omega))
  obtain ⟨va, hsa, hra⟩ := h.to k (by omega)
  obtain ⟨vc, hsc, hrc⟩ := h.from (k + 1) (by omega)
  rw [show ((k + 1 : Nat) : Int) = (k : Int) + 1 by omega] at hsc
  have ek : IntKind.i64.wrap ((k : Int) + 1) = (k : Int) + 1 := IntWalk.i64_in _ (by omega)
  have gk : decide ((k : Int) < 0) = false := decide_eq_false (by omega)
  have RA := Lib.hid hra
  have RC := Lib.hid hrc
  have la : (ws.take k).length ≤ 1000000 := by rw [List.length_take]; omega
  have lc : (ws.drop (k + 1)).length ≤ 1000000 := by rw [List.length_drop]; omega
  have za := Lib.hid (show ∀ x ∈ ws.take k, x.size ≤ 10000000 from fun x hx => hz x (List.mem_of_mem_take hx))
  have zc := Lib.hid (show ∀ x ∈ ws.drop (k + 1), x.size ≤ 10000000 from fun x hx => hz x (List.mem_of_mem_drop hx))
  have TP := Lib.hid hT
  clear h hT hi hra hrc hz
  have Ha := Lib.hid ha
  have Hc := Lib.hid hc
  have D := Lib.hid (fun w hT => wrong_is 3 (by omega) (by omega) w hT)
  clear ha hc
  generalize erB 3 = r at *
  go_enter Tryz.func18, Tryz.ntmps18
  go_wp2_with fail
  refine C.out.mono ?_
  rintro e w' ⟨rfl, rfl⟩
  go_wp2_with fail
  refine (rnums_ok (ws.take k) ns Ha.out _ _ RA.out la za.out TP.out).mono ?_
  rintro e w1 ⟨va1, rfl, hr, hb⟩
  have B1 := Lib.hid hb
  have hs1 := hb.size
  have Xa := Lib.hid hr
  clear hr
  clear hb
  go_wp2_with fail
  refine (rnums_bad (ws.drop (k + 1)) Hc.out _ _ (RC.out.below B1.out) lc zc.out (TP.out.below B1.out)).mono ?_
  rintro e w2 ⟨rfl, hb⟩
  have B2 := Lib.hid (B1.out.trans (hb.mono hs1))
  have hs2 := B2.out.size
  clear hb
  go_wp2_with fail
  refine (D.out _ (TP.out.below B2.out)).mono ?_
  rintro e w3 ⟨rfl, hb⟩
  have B3 := Lib.hid (B2.out.trans (hb.mono hs2))
  clear hb
  go_wp2
  go_ret
  exact ⟨rfl, B3.out⟩
set_option maxHeartbeats 4000000 in
set_option maxRecDepth 100000 in
theorem ll_linear_bb (ws : List ByteArray) (k : Nat) (hi : IxS ws ⟨#[47]⟩ (k : Int)) (hl : ws.length ≤ 1000000) (hz : ∀ x ∈ ws, x.size ≤ 10000000) (ha : ∀ ns, ¬ NumsW (ws.take k) ns) (hc : ∀ ns, ¬ NumsW (ws.drop (k + 1)) ns) (v : Value) (w : World) (h : Rs w v ws) (hT : Tp w) :
    Calls Tryz.prog 18 #[.string ⟨#[108, 105, 110, 101, 97, 114]⟩, v] w (RetV w (.string (erB 3))) := by
  have hkl : k < ws.length := by
    rcases hi with ⟨m, e, h1, _⟩ | ⟨e, _⟩
    · have := (List.getElem?_eq_some_iff.1 h1).1
      omega
    · omega
  have C := Lib.hid (sidx_any ws ⟨#[47]⟩ (k : Int) hi v w h (by omega))
  obtain ⟨va, hsa, hra⟩ := h.to k (by omega)
  obtain ⟨vc, hsc, hrc⟩ := h.from (k + 1) (by omega)
  rw [show ((k + 1 : Nat) : Int) = (k : Int) + 1 by omega] at hsc
  have ek : IntKind.i64.wrap ((k : Int) + 1) = (k : Int) + 1 := IntWalk.i64_in _ (by omega)
  have gk : decide ((k : Int) < 0) = false := decide_eq_false (by omega)
  have RA := Lib.hid hra
  have RC := Lib.hid hrc
  have la : (ws.take k).length ≤ 1000000 := by rw [List.length_take]; omega
  have lc : (ws.drop (k + 1)).length ≤ 1000000 := by rw [List.length_drop]; omega
  have za := Lib.hid (show ∀ x ∈ ws.take k, x.size ≤ 10000000 from fun x hx => hz x (List.mem_of_mem_take hx))
  have zc := Lib.hid (show ∀ x ∈ ws.drop (k + 1), x.size ≤ 10000000 from fun x hx => hz x (List.mem_of_mem_drop hx))
  have TP := Lib.hid hT
  clear h hT hi hra hrc hz
  have Ha := Lib.hid ha
  have Hc := Lib.hid hc
  have D := Lib.hid (fun w hT => wrong_is 3 (by omega) (by omega) w hT)
  clear ha hc
  generalize erB 3 = r at *
  go_enter Tryz.func18, Tryz.ntmps18
  go_wp2_with fail
  refine C.out.mono ?_
  rintro e w' ⟨rfl, rfl⟩
  go_wp2_with fail
  refine (rnums_bad (ws.take k) Ha.out _ _ RA.out la za.out TP.out).mono ?_
  rintro e w1 ⟨rfl, hb⟩
  have B1 := Lib.hid hb
  have hs1 := hb.size
  clear hb
  go_wp2_with fail
  refine (rnums_bad (ws.drop (k + 1)) Hc.out _ _ (RC.out.below B1.out) lc zc.out (TP.out.below B1.out)).mono ?_
  rintro e w2 ⟨rfl, hb⟩
  have B2 := Lib.hid (B1.out.trans (hb.mono hs1))
  have hs2 := B2.out.size
  clear hb
  go_wp2_with fail
  refine (D.out _ (TP.out.below B2.out)).mono ?_
  rintro e w3 ⟨rfl, hb⟩
  have B3 := Lib.hid (B2.out.trans (hb.mono hs2))
  clear hb
  go_wp2
  go_ret
  exact ⟨rfl, B3.out⟩
set_option maxHeartbeats 4000000 in
set_option maxRecDepth 100000 in
theorem ll_linear_bo (ws : List ByteArray) (k : Nat) (hi : IxS ws ⟨#[47]⟩ (k : Int)) (hl : ws.length ≤ 1000000) (hz : ∀ x ∈ ws, x.size ≤ 10000000) (ha : ∀ ns, ¬ NumsW (ws.take k) ns) (ms : List Nat) (hc : NumsW (ws.drop (k + 1)) ms) (v : Value) (w : World) (h : Rs w v ws) (hT : Tp w) :
    Calls Tryz.prog 18 #[.string ⟨#[108, 105, 110, 101, 97, 114]⟩, v] w (RetV w (.string (erB 3))) := by
  have hkl : k < ws.length := by
    rcases hi with ⟨m, e, h1, _⟩ | ⟨e, _⟩
    · have := (List.getElem?_eq_some_iff.1 h1).1
      omega
    · omega
  have C := Lib.hid (sidx_any ws ⟨#[47]⟩ (k : Int) hi v w h (by omega))
  obtain ⟨va, hsa, hra⟩ := h.to k (by omega)
  obtain ⟨vc, hsc, hrc⟩ := h.from (k + 1) (by omega)
  rw [show ((k + 1 : Nat) : Int) = (k : Int) + 1 by omega] at hsc
  have ek : IntKind.i64.wrap ((k : Int) + 1) = (k : Int) + 1 := IntWalk.i64_in _ (by omega)
  have gk : decide ((k : Int) < 0) = false := decide_eq_false (by omega)
  have RA := Lib.hid hra
  have RC := Lib.hid hrc
  have la : (ws.take k).length ≤ 1000000 := by rw [List.length_take]; omega
  have lc : (ws.drop (k + 1)).length ≤ 1000000 := by rw [List.length_drop]; omega
  have za := Lib.hid (show ∀ x ∈ ws.take k, x.size ≤ 10000000 from fun x hx => hz x (List.mem_of_mem_take hx))
  have zc := Lib.hid (show ∀ x ∈ ws.drop (k + 1), x.size ≤ 10000000 from fun x hx => hz x (List.mem_of_mem_drop hx))
  have TP := Lib.hid hT
  clear h hT hi hra hrc hz
  have Ha := Lib.hid ha
  have Hc := Lib.hid hc
  have D := Lib.hid (fun w hT => wrong_is 3 (by omega) (by omega) w hT)
  clear ha hc
  generalize erB 3 = r at *
  go_enter Tryz.func18, Tryz.ntmps18
  go_wp2_with fail
  refine C.out.mono ?_
  rintro e w' ⟨rfl, rfl⟩
  go_wp2_with fail
  refine (rnums_bad (ws.take k) Ha.out _ _ RA.out la za.out TP.out).mono ?_
  rintro e w1 ⟨rfl, hb⟩
  have B1 := Lib.hid hb
  have hs1 := hb.size
  clear hb
  go_wp2_with fail
  refine (rnums_ok (ws.drop (k + 1)) ms Hc.out _ _ (RC.out.below B1.out) lc zc.out (TP.out.below B1.out)).mono ?_
  rintro e w2 ⟨vc1, rfl, hr, hb⟩
  have B2 := Lib.hid (B1.out.trans (hb.mono hs1))
  have hs2 := B2.out.size
  have Xc := Lib.hid hr
  clear hr
  clear hb
  go_wp2_with fail
  refine (D.out _ (TP.out.below B2.out)).mono ?_
  rintro e w3 ⟨rfl, hb⟩
  have B3 := Lib.hid (B2.out.trans (hb.mono hs2))
  clear hb
  go_wp2
  go_ret
  exact ⟨rfl, B3.out⟩
set_option maxHeartbeats 4000000 in
set_option maxRecDepth 100000 in
theorem ll_linear_ob (ws : List ByteArray) (k : Nat) (hi : IxS ws ⟨#[47]⟩ (k : Int)) (hl : ws.length ≤ 1000000) (hz : ∀ x ∈ ws, x.size ≤ 10000000) (ns : List Nat) (ha : NumsW (ws.take k) ns) (hc : ∀ ns, ¬ NumsW (ws.drop (k + 1)) ns) (v : Value) (w : World) (h : Rs w v ws) (hT : Tp w) :
    Calls Tryz.prog 18 #[.string ⟨#[108, 105, 110, 101, 97, 114]⟩, v] w (RetV w (.string (erB 3))) := by
  have hkl : k < ws.length := by
    rcases hi with ⟨m, e, h1, _⟩ | ⟨e, _⟩
    · have := (List.getElem?_eq_some_iff.1 h1).1
      omega
    · omega
  have C := Lib.hid (sidx_any ws ⟨#[47]⟩ (k : Int) hi v w h (by omega))
  obtain ⟨va, hsa, hra⟩ := h.to k (by omega)
  obtain ⟨vc, hsc, hrc⟩ := h.from (k + 1) (by omega)
  rw [show ((k + 1 : Nat) : Int) = (k : Int) + 1 by omega] at hsc
  have ek : IntKind.i64.wrap ((k : Int) + 1) = (k : Int) + 1 := IntWalk.i64_in _ (by omega)
  have gk : decide ((k : Int) < 0) = false := decide_eq_false (by omega)
  have RA := Lib.hid hra
  have RC := Lib.hid hrc
  have la : (ws.take k).length ≤ 1000000 := by rw [List.length_take]; omega
  have lc : (ws.drop (k + 1)).length ≤ 1000000 := by rw [List.length_drop]; omega
  have za := Lib.hid (show ∀ x ∈ ws.take k, x.size ≤ 10000000 from fun x hx => hz x (List.mem_of_mem_take hx))
  have zc := Lib.hid (show ∀ x ∈ ws.drop (k + 1), x.size ≤ 10000000 from fun x hx => hz x (List.mem_of_mem_drop hx))
  have TP := Lib.hid hT
  clear h hT hi hra hrc hz
  have Ha := Lib.hid ha
  have Hc := Lib.hid hc
  have D := Lib.hid (fun w hT => wrong_is 3 (by omega) (by omega) w hT)
  clear ha hc
  generalize erB 3 = r at *
  go_enter Tryz.func18, Tryz.ntmps18
  go_wp2_with fail
  refine C.out.mono ?_
  rintro e w' ⟨rfl, rfl⟩
  go_wp2_with fail
  refine (rnums_ok (ws.take k) ns Ha.out _ _ RA.out la za.out TP.out).mono ?_
  rintro e w1 ⟨va1, rfl, hr, hb⟩
  have B1 := Lib.hid hb
  have hs1 := hb.size
  have Xa := Lib.hid hr
  clear hr
  clear hb
  go_wp2_with fail
  refine (rnums_bad (ws.drop (k + 1)) Hc.out _ _ (RC.out.below B1.out) lc zc.out (TP.out.below B1.out)).mono ?_
  rintro e w2 ⟨rfl, hb⟩
  have B2 := Lib.hid (B1.out.trans (hb.mono hs1))
  have hs2 := B2.out.size
  clear hb
  go_wp2_with fail
  refine (D.out _ (TP.out.below B2.out)).mono ?_
  rintro e w3 ⟨rfl, hb⟩
  have B3 := Lib.hid (B2.out.trans (hb.mono hs2))
  clear hb
  go_wp2
  go_ret
  exact ⟨rfl, B3.out⟩
end Go.Proofs.YtdhmmllpldjkbaaGreatDoor.Gm
/- (Dkh2) -/
namespace Go.Proofs.YtdhmmllpldjkbaaGreatDoor.Gm
open Go.RowKit
set_option linter.unusedVariables false
set_option maxHeartbeats 4000000 in
set_option maxRecDepth 100000 in
theorem ll_lin_b1 (ws : List ByteArray) (k : Nat) (hi : IxS ws ⟨#[47]⟩ (k : Int)) (hl : ws.length ≤ 1000000) (hz : ∀ x ∈ ws, x.size ≤ 10000000) (ns ms : List Nat) (ha : NumsW (ws.take k) ns) (hc : NumsW (ws.drop (k + 1)) ms) (hb : 1024 < ns.length) (v : Value) (w : World) (h : Rs w v ws) (hT : Tp w) :
    Calls Tryz.prog 18 #[.string ⟨#[108, 105, 110, 101, 97, 114]⟩, v] w (RetV w (.string (erB 2))) := by
  have hkl : k < ws.length := by
    rcases hi with ⟨m, e, h1, _⟩ | ⟨e, _⟩
    · have := (List.getElem?_eq_some_iff.1 h1).1
      omega
    · omega
  have C := Lib.hid (sidx_any ws ⟨#[47]⟩ (k : Int) hi v w h (by omega))
  obtain ⟨va, hsa, hra⟩ := h.to k (by omega)
  obtain ⟨vc, hsc, hrc⟩ := h.from (k + 1) (by omega)
  rw [show ((k + 1 : Nat) : Int) = (k : Int) + 1 by omega] at hsc
  have ek : IntKind.i64.wrap ((k : Int) + 1) = (k : Int) + 1 := IntWalk.i64_in _ (by omega)
  have gk : decide ((k : Int) < 0) = false := decide_eq_false (by omega)
  have RA := Lib.hid hra
  have RC := Lib.hid hrc
  have la : (ws.take k).length ≤ 1000000 := by rw [List.length_take]; omega
  have lc : (ws.drop (k + 1)).length ≤ 1000000 := by rw [List.length_drop]; omega
  have za := Lib.hid (show ∀ x ∈ ws.take k, x.size ≤ 10000000 from fun x hx => hz x (List.mem_of_mem_take hx))
  have zc := Lib.hid (show ∀ x ∈ ws.drop (k + 1), x.size ≤ 10000000 from fun x hx => hz x (List.mem_of_mem_drop hx))
  have TP := Lib.hid hT
  clear h hT hi hra hrc hz
  have lna : ns.length ≤ 1000000 := by have := ha.1; rw [List.length_take] at this; omega
  have lnb : ms.length ≤ 1000000 := by have := hc.1; rw [List.length_drop] at this; omega
  have Ha := Lib.hid ha
  have Hc := Lib.hid hc
  clear ha hc
  have D := Lib.hid (fun w hT => wrong_is 2 (by omega) (by omega) w hT)
  generalize erB 2 = r at *
  have g1 : decide ((1024 : Int) < (ns.length : Int)) = true := decide_eq_true (by omega)
  have g1n : decide (1024 < ns.length) = true := decide_eq_true (by omega)
  clear hb
  go_enter Tryz.func18, Tryz.ntmps18
  go_wp2_with fail
  refine C.out.mono ?_
  rintro e w' ⟨rfl, rfl⟩
  go_wp2_with fail
  refine (rnums_ok (ws.take k) ns Ha.out _ _ RA.out la za.out TP.out).mono ?_
  rintro e w1 ⟨va1, rfl, hr, hb⟩
  have B1 := Lib.hid hb
  have hs1 := hb.size
  have Xa := Lib.hid hr
  clear hr
  clear hb
  go_wp2_with fail
  refine (rnums_ok (ws.drop (k + 1)) ms Hc.out _ _ (RC.out.below B1.out) lc zc.out (TP.out.below B1.out)).mono ?_
  rintro e w2 ⟨vc1, rfl, hr, hb⟩
  have B2 := Lib.hid (B1.out.trans (hb.mono hs1))
  have hs2 := B2.out.size
  have Xc := Lib.hid hr
  have XA2 := Lib.hid (Xa.out.below hb)
  clear hr
  clear hb
  obtain ⟨aa, capa, rfl, hca, hma⟩ := XA2.out.shapeN
  obtain ⟨ab, capb, rfl, hcb, hmb⟩ := Xc.out.shapeN
  go_wp2_with fail
  refine (D.out _ (TP.out.below B2.out)).mono ?_
  rintro e w3 ⟨rfl, hb⟩
  have B3 := Lib.hid (B2.out.trans (hb.mono hs2))
  clear hb
  go_wp2
  go_ret
  exact ⟨rfl, B3.out⟩
set_option maxHeartbeats 4000000 in
set_option maxRecDepth 100000 in
theorem ll_lin_b2 (ws : List ByteArray) (k : Nat) (hi : IxS ws ⟨#[47]⟩ (k : Int)) (hl : ws.length ≤ 1000000) (hz : ∀ x ∈ ws, x.size ≤ 10000000) (ns ms : List Nat) (ha : NumsW (ws.take k) ns) (hc : NumsW (ws.drop (k + 1)) ms) (hb1 : ns.length ≤ 1024) (hb2 : 1024 < ms.length) (v : Value) (w : World) (h : Rs w v ws) (hT : Tp w) :
    Calls Tryz.prog 18 #[.string ⟨#[108, 105, 110, 101, 97, 114]⟩, v] w (RetV w (.string (erB 2))) := by
  have hkl : k < ws.length := by
    rcases hi with ⟨m, e, h1, _⟩ | ⟨e, _⟩
    · have := (List.getElem?_eq_some_iff.1 h1).1
      omega
    · omega
  have C := Lib.hid (sidx_any ws ⟨#[47]⟩ (k : Int) hi v w h (by omega))
  obtain ⟨va, hsa, hra⟩ := h.to k (by omega)
  obtain ⟨vc, hsc, hrc⟩ := h.from (k + 1) (by omega)
  rw [show ((k + 1 : Nat) : Int) = (k : Int) + 1 by omega] at hsc
  have ek : IntKind.i64.wrap ((k : Int) + 1) = (k : Int) + 1 := IntWalk.i64_in _ (by omega)
  have gk : decide ((k : Int) < 0) = false := decide_eq_false (by omega)
  have RA := Lib.hid hra
  have RC := Lib.hid hrc
  have la : (ws.take k).length ≤ 1000000 := by rw [List.length_take]; omega
  have lc : (ws.drop (k + 1)).length ≤ 1000000 := by rw [List.length_drop]; omega
  have za := Lib.hid (show ∀ x ∈ ws.take k, x.size ≤ 10000000 from fun x hx => hz x (List.mem_of_mem_take hx))
  have zc := Lib.hid (show ∀ x ∈ ws.drop (k + 1), x.size ≤ 10000000 from fun x hx => hz x (List.mem_of_mem_drop hx))
  have TP := Lib.hid hT
  clear h hT hi hra hrc hz
  have lna : ns.length ≤ 1000000 := by have := ha.1; rw [List.length_take] at this; omega
  have lnb : ms.length ≤ 1000000 := by have := hc.1; rw [List.length_drop] at this; omega
  have Ha := Lib.hid ha
  have Hc := Lib.hid hc
  clear ha hc
  have D := Lib.hid (fun w hT => wrong_is 2 (by omega) (by omega) w hT)
  generalize erB 2 = r at *
  have g1 : decide ((1024 : Int) < (ns.length : Int)) = false := decide_eq_false (by omega)
  have g1n : decide (1024 < ns.length) = false := decide_eq_false (by omega)
  have g2 : decide ((1024 : Int) < (ms.length : Int)) = true := decide_eq_true (by omega)
  have g2n : decide (1024 < ms.length) = true := decide_eq_true (by omega)
  clear hb1 hb2
  go_enter Tryz.func18, Tryz.ntmps18
  go_wp2_with fail
  refine C.out.mono ?_
  rintro e w' ⟨rfl, rfl⟩
  go_wp2_with fail
  refine (rnums_ok (ws.take k) ns Ha.out _ _ RA.out la za.out TP.out).mono ?_
  rintro e w1 ⟨va1, rfl, hr, hb⟩
  have B1 := Lib.hid hb
  have hs1 := hb.size
  have Xa := Lib.hid hr
  clear hr
  clear hb
  go_wp2_with fail
  refine (rnums_ok (ws.drop (k + 1)) ms Hc.out _ _ (RC.out.below B1.out) lc zc.out (TP.out.below B1.out)).mono ?_
  rintro e w2 ⟨vc1, rfl, hr, hb⟩
  have B2 := Lib.hid (B1.out.trans (hb.mono hs1))
  have hs2 := B2.out.size
  have Xc := Lib.hid hr
  have XA2 := Lib.hid (Xa.out.below hb)
  clear hr
  clear hb
  obtain ⟨aa, capa, rfl, hca, hma⟩ := XA2.out.shapeN
  obtain ⟨ab, capb, rfl, hcb, hmb⟩ := Xc.out.shapeN
  go_wp2_with fail
  refine (D.out _ (TP.out.below B2.out)).mono ?_
  rintro e w3 ⟨rfl, hb⟩
  have B3 := Lib.hid (B2.out.trans (hb.mono hs2))
  clear hb
  go_wp2
  go_ret
  exact ⟨rfl, B3.out⟩
set_option maxHeartbeats 4000000 in
set_option maxRecDepth 100000 in
theorem ll_lin_b3 (ws : List ByteArray) (k : Nat) (hi : IxS ws ⟨#[47]⟩ (k : Int)) (hl : ws.length ≤ 1000000) (hz : ∀ x ∈ ws, x.size ≤ 10000000) (ns ms : List Nat) (ha : NumsW (ws.take k) ns) (hc : NumsW (ws.drop (k + 1)) ms) (hb1 : ns.length ≤ 1024) (hb2 : ms.length ≤ 1024) (hb3 : 0 < ns.length) (hb4 : 0 < ms.length) (hb5 : 1025 < ns.length + ms.length) (v : Value) (w : World) (h : Rs w v ws) (hT : Tp w) :
    Calls Tryz.prog 18 #[.string ⟨#[108, 105, 110, 101, 97, 114]⟩, v] w (RetV w (.string (erB 2))) := by
  have hkl : k < ws.length := by
    rcases hi with ⟨m, e, h1, _⟩ | ⟨e, _⟩
    · have := (List.getElem?_eq_some_iff.1 h1).1
      omega
    · omega
  have C := Lib.hid (sidx_any ws ⟨#[47]⟩ (k : Int) hi v w h (by omega))
  obtain ⟨va, hsa, hra⟩ := h.to k (by omega)
  obtain ⟨vc, hsc, hrc⟩ := h.from (k + 1) (by omega)
  rw [show ((k + 1 : Nat) : Int) = (k : Int) + 1 by omega] at hsc
  have ek : IntKind.i64.wrap ((k : Int) + 1) = (k : Int) + 1 := IntWalk.i64_in _ (by omega)
  have gk : decide ((k : Int) < 0) = false := decide_eq_false (by omega)
  have RA := Lib.hid hra
  have RC := Lib.hid hrc
  have la : (ws.take k).length ≤ 1000000 := by rw [List.length_take]; omega
  have lc : (ws.drop (k + 1)).length ≤ 1000000 := by rw [List.length_drop]; omega
  have za := Lib.hid (show ∀ x ∈ ws.take k, x.size ≤ 10000000 from fun x hx => hz x (List.mem_of_mem_take hx))
  have zc := Lib.hid (show ∀ x ∈ ws.drop (k + 1), x.size ≤ 10000000 from fun x hx => hz x (List.mem_of_mem_drop hx))
  have TP := Lib.hid hT
  clear h hT hi hra hrc hz
  have lna : ns.length ≤ 1000000 := by have := ha.1; rw [List.length_take] at this; omega
  have lnb : ms.length ≤ 1000000 := by have := hc.1; rw [List.length_drop] at this; omega
  have Ha := Lib.hid ha
  have Hc := Lib.hid hc
  clear ha hc
  have D := Lib.hid (fun w hT => wrong_is 2 (by omega) (by omega) w hT)
  generalize erB 2 = r at *
  have g1 : decide ((1024 : Int) < (ns.length : Int)) = false := decide_eq_false (by omega)
  have g1n : decide (1024 < ns.length) = false := decide_eq_false (by omega)
  have g2 : decide ((1024 : Int) < (ms.length : Int)) = false := decide_eq_false (by omega)
  have g2n : decide (1024 < ms.length) = false := decide_eq_false (by omega)
  have g3 : decide ((0 : Int) < (ns.length : Int)) = true := decide_eq_true (by omega)
  have g3n : decide (0 < ns.length) = true := decide_eq_true (by omega)
  have g4 : decide ((0 : Int) < (ms.length : Int)) = true := decide_eq_true (by omega)
  have g4n : decide (0 < ms.length) = true := decide_eq_true (by omega)
  have es : IntKind.i64.wrap ((ns.length : Int) + (ms.length : Int)) = (ns.length : Int) + (ms.length : Int) := IntWalk.i64_in _ (by omega)
  have esn : IntKind.i64.wrap ((ns.length + ms.length : Nat) : Int) = ((ns.length + ms.length : Nat) : Int) := IntWalk.i64_in _ (by omega)
  have gs : decide ((1025 : Int) < (ns.length : Int) + (ms.length : Int)) = true := decide_eq_true (by omega)
  have gsn : decide (1025 < ns.length + ms.length) = true := decide_eq_true (by omega)
  clear hb1 hb2 hb3 hb4 hb5
  go_enter Tryz.func18, Tryz.ntmps18
  go_wp2_with fail
  refine C.out.mono ?_
  rintro e w' ⟨rfl, rfl⟩
  go_wp2_with fail
  refine (rnums_ok (ws.take k) ns Ha.out _ _ RA.out la za.out TP.out).mono ?_
  rintro e w1 ⟨va1, rfl, hr, hb⟩
  have B1 := Lib.hid hb
  have hs1 := hb.size
  have Xa := Lib.hid hr
  clear hr
  clear hb
  go_wp2_with fail
  refine (rnums_ok (ws.drop (k + 1)) ms Hc.out _ _ (RC.out.below B1.out) lc zc.out (TP.out.below B1.out)).mono ?_
  rintro e w2 ⟨vc1, rfl, hr, hb⟩
  have B2 := Lib.hid (B1.out.trans (hb.mono hs1))
  have hs2 := B2.out.size
  have Xc := Lib.hid hr
  have XA2 := Lib.hid (Xa.out.below hb)
  clear hr
  clear hb
  obtain ⟨aa, capa, rfl, hca, hma⟩ := XA2.out.shapeN
  obtain ⟨ab, capb, rfl, hcb, hmb⟩ := Xc.out.shapeN
  go_wp2_with fail
  refine (D.out _ (TP.out.below B2.out)).mono ?_
  rintro e w3 ⟨rfl, hb⟩
  have B3 := Lib.hid (B2.out.trans (hb.mono hs2))
  clear hb
  go_wp2
  go_ret
  exact ⟨rfl, B3.out⟩
set_option maxHeartbeats 4000000 in
set_option maxRecDepth 100000 in
theorem ll_lin_n1 (ws : List ByteArray) (k : Nat) (hi : IxS ws ⟨#[47]⟩ (k : Int)) (hl : ws.length ≤ 1000000) (hz : ∀ x ∈ ws, x.size ≤ 10000000) (ns ms : List Nat) (ha : NumsW (ws.take k) ns) (hc : NumsW (ws.drop (k + 1)) ms) (hb1 : ns.length = 0) (hb2 : ms.length ≤ 1024) (L : List Nat) (hL : OkN L) (hp : ∀ v1 v2 w', Rd .u64 w' v1 (nz ns) → Rd .u64 w' v2 (nz ms) → Calls Tryz.prog 41 #[v1, v2] w' (RetN w' L)) (v : Value) (w : World) (h : Rs w v ws) (hT : Tp w) :
    Calls Tryz.prog 18 #[.string ⟨#[108, 105, 110, 101, 97, 114]⟩, v] w (RetV w (.string (tdB L))) := by
  have hkl : k < ws.length := by
    rcases hi with ⟨m, e, h1, _⟩ | ⟨e, _⟩
    · have := (List.getElem?_eq_some_iff.1 h1).1
      omega
    · omega
  have C := Lib.hid (sidx_any ws ⟨#[47]⟩ (k : Int) hi v w h (by omega))
  obtain ⟨va, hsa, hra⟩ := h.to k (by omega)
  obtain ⟨vc, hsc, hrc⟩ := h.from (k + 1) (by omega)
  rw [show ((k + 1 : Nat) : Int) = (k : Int) + 1 by omega] at hsc
  have ek : IntKind.i64.wrap ((k : Int) + 1) = (k : Int) + 1 := IntWalk.i64_in _ (by omega)
  have gk : decide ((k : Int) < 0) = false := decide_eq_false (by omega)
  have RA := Lib.hid hra
  have RC := Lib.hid hrc
  have la : (ws.take k).length ≤ 1000000 := by rw [List.length_take]; omega
  have lc : (ws.drop (k + 1)).length ≤ 1000000 := by rw [List.length_drop]; omega
  have za := Lib.hid (show ∀ x ∈ ws.take k, x.size ≤ 10000000 from fun x hx => hz x (List.mem_of_mem_take hx))
  have zc := Lib.hid (show ∀ x ∈ ws.drop (k + 1), x.size ≤ 10000000 from fun x hx => hz x (List.mem_of_mem_drop hx))
  have TP := Lib.hid hT
  clear h hT hi hra hrc hz
  have lna : ns.length ≤ 1000000 := by have := ha.1; rw [List.length_take] at this; omega
  have lnb : ms.length ≤ 1000000 := by have := hc.1; rw [List.length_drop] at this; omega
  have Ha := Lib.hid ha
  have Hc := Lib.hid hc
  clear ha hc
  have PP := Lib.hid hp
  have HL := Lib.hid hL
  clear hp hL
  have g1 : decide ((1024 : Int) < (ns.length : Int)) = false := decide_eq_false (by omega)
  have g1n : decide (1024 < ns.length) = false := decide_eq_false (by omega)
  have g2 : decide ((1024 : Int) < (ms.length : Int)) = false := decide_eq_false (by omega)
  have g2n : decide (1024 < ms.length) = false := decide_eq_false (by omega)
  have g3 : decide ((0 : Int) < (ns.length : Int)) = false := decide_eq_false (by omega)
  have g3n : decide (0 < ns.length) = false := decide_eq_false (by omega)
  clear hb1 hb2
  go_enter Tryz.func18, Tryz.ntmps18
  go_wp2_with fail
  refine C.out.mono ?_
  rintro e w' ⟨rfl, rfl⟩
  go_wp2_with fail
  refine (rnums_ok (ws.take k) ns Ha.out _ _ RA.out la za.out TP.out).mono ?_
  rintro e w1 ⟨va1, rfl, hr, hb⟩
  have B1 := Lib.hid hb
  have hs1 := hb.size
  have Xa := Lib.hid hr
  clear hr
  clear hb
  go_wp2_with fail
  refine (rnums_ok (ws.drop (k + 1)) ms Hc.out _ _ (RC.out.below B1.out) lc zc.out (TP.out.below B1.out)).mono ?_
  rintro e w2 ⟨vc1, rfl, hr, hb⟩
  have B2 := Lib.hid (B1.out.trans (hb.mono hs1))
  have hs2 := B2.out.size
  have Xc := Lib.hid hr
  have XA2 := Lib.hid (Xa.out.below hb)
  clear hr
  clear hb
  obtain ⟨aa, capa, rfl, hca, hma⟩ := XA2.out.shapeN
  obtain ⟨ab, capb, rfl, hcb, hmb⟩ := Xc.out.shapeN
  go_wp2_with fail
  refine (PP.out _ _ _ XA2.out Xc.out).mono ?_
  rintro e w3 ⟨v3, rfl, hr, hb⟩
  have R3 := Lib.hid hr
  have B3 := Lib.hid (B2.out.trans (hb.mono hs2))
  have hs3 := B3.out.size
  clear hb hr
  go_wp2_with fail
  refine (said_is L HL.out.1 HL.out.2 _ _ R3.out (TP.out.below B3.out)).mono ?_
  rintro e w4 ⟨rfl, hb⟩
  have B4 := Lib.hid (B3.out.trans (hb.mono hs3))
  clear hb
  go_wp2
  go_ret
  exact ⟨rfl, B4.out⟩
set_option maxHeartbeats 4000000 in
set_option maxRecDepth 100000 in
theorem ll_lin_n2 (ws : List ByteArray) (k : Nat) (hi : IxS ws ⟨#[47]⟩ (k : Int)) (hl : ws.length ≤ 1000000) (hz : ∀ x ∈ ws, x.size ≤ 10000000) (ns ms : List Nat) (ha : NumsW (ws.take k) ns) (hc : NumsW (ws.drop (k + 1)) ms) (hb1 : ns.length ≤ 1024) (hb0 : 0 < ns.length) (hb2 : ms.length = 0) (L : List Nat) (hL : OkN L) (hp : ∀ v1 v2 w', Rd .u64 w' v1 (nz ns) → Rd .u64 w' v2 (nz ms) → Calls Tryz.prog 41 #[v1, v2] w' (RetN w' L)) (v : Value) (w : World) (h : Rs w v ws) (hT : Tp w) :
    Calls Tryz.prog 18 #[.string ⟨#[108, 105, 110, 101, 97, 114]⟩, v] w (RetV w (.string (tdB L))) := by
  have hkl : k < ws.length := by
    rcases hi with ⟨m, e, h1, _⟩ | ⟨e, _⟩
    · have := (List.getElem?_eq_some_iff.1 h1).1
      omega
    · omega
  have C := Lib.hid (sidx_any ws ⟨#[47]⟩ (k : Int) hi v w h (by omega))
  obtain ⟨va, hsa, hra⟩ := h.to k (by omega)
  obtain ⟨vc, hsc, hrc⟩ := h.from (k + 1) (by omega)
  rw [show ((k + 1 : Nat) : Int) = (k : Int) + 1 by omega] at hsc
  have ek : IntKind.i64.wrap ((k : Int) + 1) = (k : Int) + 1 := IntWalk.i64_in _ (by omega)
  have gk : decide ((k : Int) < 0) = false := decide_eq_false (by omega)
  have RA := Lib.hid hra
  have RC := Lib.hid hrc
  have la : (ws.take k).length ≤ 1000000 := by rw [List.length_take]; omega
  have lc : (ws.drop (k + 1)).length ≤ 1000000 := by rw [List.length_drop]; omega
  have za := Lib.hid (show ∀ x ∈ ws.take k, x.size ≤ 10000000 from fun x hx => hz x (List.mem_of_mem_take hx))
  have zc := Lib.hid (show ∀ x ∈ ws.drop (k + 1), x.size ≤ 10000000 from fun x hx => hz x (List.mem_of_mem_drop hx))
  have TP := Lib.hid hT
  clear h hT hi hra hrc hz
  have lna : ns.length ≤ 1000000 := by have := ha.1; rw [List.length_take] at this; omega
  have lnb : ms.length ≤ 1000000 := by have := hc.1; rw [List.length_drop] at this; omega
  have Ha := Lib.hid ha
  have Hc := Lib.hid hc
  clear ha hc
  have PP := Lib.hid hp
  have HL := Lib.hid hL
  clear hp hL
  have g1 : decide ((1024 : Int) < (ns.length : Int)) = false := decide_eq_false (by omega)
  have g1n : decide (1024 < ns.length) = false := decide_eq_false (by omega)
  have g2 : decide ((1024 : Int) < (ms.length : Int)) = false := decide_eq_false (by omega)
  have g2n : decide (1024 < ms.length) = false := decide_eq_false (by omega)
  have g3 : decide ((0 : Int) < (ns.length : Int)) = true := decide_eq_true (by omega)
  have g3n : decide (0 < ns.length) = true := decide_eq_true (by omega)
  have g4 : decide ((0 : Int) < (ms.length : Int)) = false := decide_eq_false (by omega)
  have g4n : decide (0 < ms.length) = false := decide_eq_false (by omega)
  clear hb1 hb2 hb0
  go_enter Tryz.func18, Tryz.ntmps18
  go_wp2_with fail
  refine C.out.mono ?_
  rintro e w' ⟨rfl, rfl⟩
  go_wp2_with fail
  refine (rnums_ok (ws.take k) ns Ha.out _ _ RA.out la za.out TP.out).mono ?_
  rintro e w1 ⟨va1, rfl, hr, hb⟩
  have B1 := Lib.hid hb
  have hs1 := hb.size
  have Xa := Lib.hid hr
  clear hr
  clear hb
  go_wp2_with fail
  refine (rnums_ok (ws.drop (k + 1)) ms Hc.out _ _ (RC.out.below B1.out) lc zc.out (TP.out.below B1.out)).mono ?_
  rintro e w2 ⟨vc1, rfl, hr, hb⟩
  have B2 := Lib.hid (B1.out.trans (hb.mono hs1))
  have hs2 := B2.out.size
  have Xc := Lib.hid hr
  have XA2 := Lib.hid (Xa.out.below hb)
  clear hr
  clear hb
  obtain ⟨aa, capa, rfl, hca, hma⟩ := XA2.out.shapeN
  obtain ⟨ab, capb, rfl, hcb, hmb⟩ := Xc.out.shapeN
  go_wp2_with fail
  refine (PP.out _ _ _ XA2.out Xc.out).mono ?_
  rintro e w3 ⟨v3, rfl, hr, hb⟩
  have R3 := Lib.hid hr
  have B3 := Lib.hid (B2.out.trans (hb.mono hs2))
  have hs3 := B3.out.size
  clear hb hr
  go_wp2_with fail
  refine (said_is L HL.out.1 HL.out.2 _ _ R3.out (TP.out.below B3.out)).mono ?_
  rintro e w4 ⟨rfl, hb⟩
  have B4 := Lib.hid (B3.out.trans (hb.mono hs3))
  clear hb
  go_wp2
  go_ret
  exact ⟨rfl, B4.out⟩
set_option maxHeartbeats 4000000 in
set_option maxRecDepth 100000 in
theorem ll_lin_ok (ws : List ByteArray) (k : Nat) (hi : IxS ws ⟨#[47]⟩ (k : Int)) (hl : ws.length ≤ 1000000) (hz : ∀ x ∈ ws, x.size ≤ 10000000) (ns ms : List Nat) (ha : NumsW (ws.take k) ns) (hc : NumsW (ws.drop (k + 1)) ms) (hb1 : ns.length ≤ 1024) (hb0 : 0 < ns.length) (hb2 : ms.length ≤ 1024) (hb3 : 0 < ms.length) (hb4 : ns.length + ms.length ≤ 1025) (L : List Nat) (hL : OkN L) (hp : ∀ v1 v2 w', Rd .u64 w' v1 (nz ns) → Rd .u64 w' v2 (nz ms) → Calls Tryz.prog 41 #[v1, v2] w' (RetN w' L)) (v : Value) (w : World) (h : Rs w v ws) (hT : Tp w) :
    Calls Tryz.prog 18 #[.string ⟨#[108, 105, 110, 101, 97, 114]⟩, v] w (RetV w (.string (tdB L))) := by
  have hkl : k < ws.length := by
    rcases hi with ⟨m, e, h1, _⟩ | ⟨e, _⟩
    · have := (List.getElem?_eq_some_iff.1 h1).1
      omega
    · omega
  have C := Lib.hid (sidx_any ws ⟨#[47]⟩ (k : Int) hi v w h (by omega))
  obtain ⟨va, hsa, hra⟩ := h.to k (by omega)
  obtain ⟨vc, hsc, hrc⟩ := h.from (k + 1) (by omega)
  rw [show ((k + 1 : Nat) : Int) = (k : Int) + 1 by omega] at hsc
  have ek : IntKind.i64.wrap ((k : Int) + 1) = (k : Int) + 1 := IntWalk.i64_in _ (by omega)
  have gk : decide ((k : Int) < 0) = false := decide_eq_false (by omega)
  have RA := Lib.hid hra
  have RC := Lib.hid hrc
  have la : (ws.take k).length ≤ 1000000 := by rw [List.length_take]; omega
  have lc : (ws.drop (k + 1)).length ≤ 1000000 := by rw [List.length_drop]; omega
  have za := Lib.hid (show ∀ x ∈ ws.take k, x.size ≤ 10000000 from fun x hx => hz x (List.mem_of_mem_take hx))
  have zc := Lib.hid (show ∀ x ∈ ws.drop (k + 1), x.size ≤ 10000000 from fun x hx => hz x (List.mem_of_mem_drop hx))
  have TP := Lib.hid hT
  clear h hT hi hra hrc hz
  have lna : ns.length ≤ 1000000 := by have := ha.1; rw [List.length_take] at this; omega
  have lnb : ms.length ≤ 1000000 := by have := hc.1; rw [List.length_drop] at this; omega
  have Ha := Lib.hid ha
  have Hc := Lib.hid hc
  clear ha hc
  have PP := Lib.hid hp
  have HL := Lib.hid hL
  clear hp hL
  have g1 : decide ((1024 : Int) < (ns.length : Int)) = false := decide_eq_false (by omega)
  have g1n : decide (1024 < ns.length) = false := decide_eq_false (by omega)
  have g2 : decide ((1024 : Int) < (ms.length : Int)) = false := decide_eq_false (by omega)
  have g2n : decide (1024 < ms.length) = false := decide_eq_false (by omega)
  have g3 : decide ((0 : Int) < (ns.length : Int)) = true := decide_eq_true (by omega)
  have g3n : decide (0 < ns.length) = true := decide_eq_true (by omega)
  have g4 : decide ((0 : Int) < (ms.length : Int)) = true := decide_eq_true (by omega)
  have g4n : decide (0 < ms.length) = true := decide_eq_true (by omega)
  have es : IntKind.i64.wrap ((ns.length : Int) + (ms.length : Int)) = (ns.length : Int) + (ms.length : Int) := IntWalk.i64_in _ (by omega)
  have esn : IntKind.i64.wrap ((ns.length + ms.length : Nat) : Int) = ((ns.length + ms.length : Nat) : Int) := IntWalk.i64_in _ (by omega)
  have gs : decide ((1025 : Int) < (ns.length : Int) + (ms.length : Int)) = false := decide_eq_false (by omega)
  have gsn : decide (1025 < ns.length + ms.length) = false := decide_eq_false (by omega)
  clear hb1 hb2 hb0 hb3 hb4
  go_enter Tryz.func18, Tryz.ntmps18
  go_wp2_with fail
  refine C.out.mono ?_
  rintro e w' ⟨rfl, rfl⟩
  go_wp2_with fail
  refine (rnums_ok (ws.take k) ns Ha.out _ _ RA.out la za.out TP.out).mono ?_
  rintro e w1 ⟨va1, rfl, hr, hb⟩
  have B1 := Lib.hid hb
  have hs1 := hb.size
  have Xa := Lib.hid hr
  clear hr
  clear hb
  go_wp2_with fail
  refine (rnums_ok (ws.drop (k + 1)) ms Hc.out _ _ (RC.out.below B1.out) lc zc.out (TP.out.below B1.out)).mono ?_
  rintro e w2 ⟨vc1, rfl, hr, hb⟩
  have B2 := Lib.hid (B1.out.trans (hb.mono hs1))
  have hs2 := B2.out.size
  have Xc := Lib.hid hr
  have XA2 := Lib.hid (Xa.out.below hb)
  clear hr
  clear hb
  obtain ⟨aa, capa, rfl, hca, hma⟩ := XA2.out.shapeN
  obtain ⟨ab, capb, rfl, hcb, hmb⟩ := Xc.out.shapeN
  go_wp2_with fail
  refine (PP.out _ _ _ XA2.out Xc.out).mono ?_
  rintro e w3 ⟨v3, rfl, hr, hb⟩
  have R3 := Lib.hid hr
  have B3 := Lib.hid (B2.out.trans (hb.mono hs2))
  have hs3 := B3.out.size
  clear hb hr
  go_wp2_with fail
  refine (said_is L HL.out.1 HL.out.2 _ _ R3.out (TP.out.below B3.out)).mono ?_
  rintro e w4 ⟨rfl, hb⟩
  have B4 := Lib.hid (B3.out.trans (hb.mono hs3))
  clear hb
  go_wp2
  go_ret
  exact ⟨rfl, B4.out⟩
set_option maxHeartbeats 4000000 in
set_option maxRecDepth 100000 in
theorem ll_cyc_ne (ws : List ByteArray) (k : Nat) (hi : IxS ws ⟨#[47]⟩ (k : Int)) (hl : ws.length ≤ 1000000) (hz : ∀ x ∈ ws, x.size ≤ 10000000) (ns ms : List Nat) (ha : NumsW (ws.take k) ns) (hc : NumsW (ws.drop (k + 1)) ms) (hb : ns.length ≠ ms.length) (v : Value) (w : World) (h : Rs w v ws) (hT : Tp w) :
    Calls Tryz.prog 18 #[.string ⟨#[99, 121, 99, 108, 105, 99]⟩, v] w (RetV w (.string (erB 5))) := by
  have hkl : k < ws.length := by
    rcases hi with ⟨m, e, h1, _⟩ | ⟨e, _⟩
    · have := (List.getElem?_eq_some_iff.1 h1).1
      omega
    · omega
  have C := Lib.hid (sidx_any ws ⟨#[47]⟩ (k : Int) hi v w h (by omega))
  obtain ⟨va, hsa, hra⟩ := h.to k (by omega)
  obtain ⟨vc, hsc, hrc⟩ := h.from (k + 1) (by omega)
  rw [show ((k + 1 : Nat) : Int) = (k : Int) + 1 by omega] at hsc
  have ek : IntKind.i64.wrap ((k : Int) + 1) = (k : Int) + 1 := IntWalk.i64_in _ (by omega)
  have gk : decide ((k : Int) < 0) = false := decide_eq_false (by omega)
  have RA := Lib.hid hra
  have RC := Lib.hid hrc
  have la : (ws.take k).length ≤ 1000000 := by rw [List.length_take]; omega
  have lc : (ws.drop (k + 1)).length ≤ 1000000 := by rw [List.length_drop]; omega
  have za := Lib.hid (show ∀ x ∈ ws.take k, x.size ≤ 10000000 from fun x hx => hz x (List.mem_of_mem_take hx))
  have zc := Lib.hid (show ∀ x ∈ ws.drop (k + 1), x.size ≤ 10000000 from fun x hx => hz x (List.mem_of_mem_drop hx))
  have TP := Lib.hid hT
  clear h hT hi hra hrc hz
  have lna : ns.length ≤ 1000000 := by have := ha.1; rw [List.length_take] at this; omega
  have lnb : ms.length ≤ 1000000 := by have := hc.1; rw [List.length_drop] at this; omega
  have Ha := Lib.hid ha
  have Hc := Lib.hid hc
  clear ha hc
  have D := Lib.hid (fun w hT => wrong_is 5 (by omega) (by omega) w hT)
  generalize erB 5 = r at *
  have g1 : ((ns.length : Int) != (ms.length : Int)) = true := by rw [bne_iff_ne]; omega
  have g1n : (ns.length != ms.length) = true := by rw [bne_iff_ne]; omega
  clear hb
  go_enter Tryz.func18, Tryz.ntmps18
  go_wp2_with fail
  refine C.out.mono ?_
  rintro e w' ⟨rfl, rfl⟩
  go_wp2_with fail
  refine (rnums_ok (ws.take k) ns Ha.out _ _ RA.out la za.out TP.out).mono ?_
  rintro e w1 ⟨va1, rfl, hr, hb⟩
  have B1 := Lib.hid hb
  have hs1 := hb.size
  have Xa := Lib.hid hr
  clear hr
  clear hb
  go_wp2_with fail
  refine (rnums_ok (ws.drop (k + 1)) ms Hc.out _ _ (RC.out.below B1.out) lc zc.out (TP.out.below B1.out)).mono ?_
  rintro e w2 ⟨vc1, rfl, hr, hb⟩
  have B2 := Lib.hid (B1.out.trans (hb.mono hs1))
  have hs2 := B2.out.size
  have Xc := Lib.hid hr
  have XA2 := Lib.hid (Xa.out.below hb)
  clear hr
  clear hb
  obtain ⟨aa, capa, rfl, hca, hma⟩ := XA2.out.shapeN
  obtain ⟨ab, capb, rfl, hcb, hmb⟩ := Xc.out.shapeN
  go_wp2_with fail
  refine (D.out _ (TP.out.below B2.out)).mono ?_
  rintro e w3 ⟨rfl, hb⟩
  have B3 := Lib.hid (B2.out.trans (hb.mono hs2))
  clear hb
  go_wp2
  go_ret
  exact ⟨rfl, B3.out⟩
set_option maxHeartbeats 4000000 in
set_option maxRecDepth 100000 in
theorem ll_cyc_no (ws : List ByteArray) (k : Nat) (hi : IxS ws ⟨#[47]⟩ (k : Int)) (hl : ws.length ≤ 1000000) (hz : ∀ x ∈ ws, x.size ≤ 10000000) (ns ms : List Nat) (ha : NumsW (ws.take k) ns) (hc : NumsW (ws.drop (k + 1)) ms) (hb : ns.length = ms.length) (hk : ∀ k : Nat, k ≤ 10 → ns.length ≠ 2 ^ k) (v : Value) (w : World) (h : Rs w v ws) (hT : Tp w) :
    Calls Tryz.prog 18 #[.string ⟨#[99, 121, 99, 108, 105, 99]⟩, v] w (RetV w (.string (erB 5))) := by
  have hkl : k < ws.length := by
    rcases hi with ⟨m, e, h1, _⟩ | ⟨e, _⟩
    · have := (List.getElem?_eq_some_iff.1 h1).1
      omega
    · omega
  have C := Lib.hid (sidx_any ws ⟨#[47]⟩ (k : Int) hi v w h (by omega))
  obtain ⟨va, hsa, hra⟩ := h.to k (by omega)
  obtain ⟨vc, hsc, hrc⟩ := h.from (k + 1) (by omega)
  rw [show ((k + 1 : Nat) : Int) = (k : Int) + 1 by omega] at hsc
  have ek : IntKind.i64.wrap ((k : Int) + 1) = (k : Int) + 1 := IntWalk.i64_in _ (by omega)
  have gk : decide ((k : Int) < 0) = false := decide_eq_false (by omega)
  have RA := Lib.hid hra
  have RC := Lib.hid hrc
  have la : (ws.take k).length ≤ 1000000 := by rw [List.length_take]; omega
  have lc : (ws.drop (k + 1)).length ≤ 1000000 := by rw [List.length_drop]; omega
  have za := Lib.hid (show ∀ x ∈ ws.take k, x.size ≤ 10000000 from fun x hx => hz x (List.mem_of_mem_take hx))
  have zc := Lib.hid (show ∀ x ∈ ws.drop (k + 1), x.size ≤ 10000000 from fun x hx => hz x (List.mem_of_mem_drop hx))
  have TP := Lib.hid hT
  clear h hT hi hra hrc hz
  have lna : ns.length ≤ 1000000 := by have := ha.1; rw [List.length_take] at this; omega
  have lnb : ms.length ≤ 1000000 := by have := hc.1; rw [List.length_drop] at this; omega
  have Ha := Lib.hid ha
  have Hc := Lib.hid hc
  clear ha hc
  have D := Lib.hid (fun w hT => wrong_is 5 (by omega) (by omega) w hT)
  generalize erB 5 = r at *
  have g1 : ((ns.length : Int) != (ms.length : Int)) = false := by rw [bne_eq_false_iff_eq]; omega
  have g1n : (ns.length != ms.length) = false := by rw [bne_eq_false_iff_eq]; omega
  have LG := Lib.hid (fun w => rlog_no (ns.length : Int) w (by omega) (by omega) (fun k h e => hk k h (by exact_mod_cast e)))
  clear hb hk
  go_enter Tryz.func18, Tryz.ntmps18
  go_wp2_with fail
  refine C.out.mono ?_
  rintro e w' ⟨rfl, rfl⟩
  go_wp2_with fail
  refine (rnums_ok (ws.take k) ns Ha.out _ _ RA.out la za.out TP.out).mono ?_
  rintro e w1 ⟨va1, rfl, hr, hb⟩
  have B1 := Lib.hid hb
  have hs1 := hb.size
  have Xa := Lib.hid hr
  clear hr
  clear hb
  go_wp2_with fail
  refine (rnums_ok (ws.drop (k + 1)) ms Hc.out _ _ (RC.out.below B1.out) lc zc.out (TP.out.below B1.out)).mono ?_
  rintro e w2 ⟨vc1, rfl, hr, hb⟩
  have B2 := Lib.hid (B1.out.trans (hb.mono hs1))
  have hs2 := B2.out.size
  have Xc := Lib.hid hr
  have XA2 := Lib.hid (Xa.out.below hb)
  clear hr
  clear hb
  obtain ⟨aa, capa, rfl, hca, hma⟩ := XA2.out.shapeN
  obtain ⟨ab, capb, rfl, hcb, hmb⟩ := Xc.out.shapeN
  go_wp2_with fail
  refine (LG.out _).mono ?_
  rintro e w' ⟨rfl, rfl⟩
  go_wp2_with fail
  refine (D.out _ (TP.out.below B2.out)).mono ?_
  rintro e w3 ⟨rfl, hb⟩
  have B3 := Lib.hid (B2.out.trans (hb.mono hs2))
  clear hb
  go_wp2
  go_ret
  exact ⟨rfl, B3.out⟩
set_option maxHeartbeats 4000000 in
set_option maxRecDepth 100000 in
theorem ll_cyc_ok (ws : List ByteArray) (k : Nat) (hi : IxS ws ⟨#[47]⟩ (k : Int)) (hl : ws.length ≤ 1000000) (hz : ∀ x ∈ ws, x.size ≤ 10000000) (ns ms : List Nat) (ha : NumsW (ws.take k) ns) (hc : NumsW (ws.drop (k + 1)) ms) (hb : ns.length = ms.length) (j : Nat) (hj : j ≤ 10) (hk : ns.length = 2 ^ j) (L : List Nat) (hL : OkN L) (hp : ∀ v1 v2 w', Rd .u64 w' v1 (nz ns) → Rd .u64 w' v2 (nz ms) → Calls Tryz.prog 43 #[v1, v2, .bool false] w' (RetN w' L)) (v : Value) (w : World) (h : Rs w v ws) (hT : Tp w) :
    Calls Tryz.prog 18 #[.string ⟨#[99, 121, 99, 108, 105, 99]⟩, v] w (RetV w (.string (tdB L))) := by
  have hkl : k < ws.length := by
    rcases hi with ⟨m, e, h1, _⟩ | ⟨e, _⟩
    · have := (List.getElem?_eq_some_iff.1 h1).1
      omega
    · omega
  have C := Lib.hid (sidx_any ws ⟨#[47]⟩ (k : Int) hi v w h (by omega))
  obtain ⟨va, hsa, hra⟩ := h.to k (by omega)
  obtain ⟨vc, hsc, hrc⟩ := h.from (k + 1) (by omega)
  rw [show ((k + 1 : Nat) : Int) = (k : Int) + 1 by omega] at hsc
  have ek : IntKind.i64.wrap ((k : Int) + 1) = (k : Int) + 1 := IntWalk.i64_in _ (by omega)
  have gk : decide ((k : Int) < 0) = false := decide_eq_false (by omega)
  have RA := Lib.hid hra
  have RC := Lib.hid hrc
  have la : (ws.take k).length ≤ 1000000 := by rw [List.length_take]; omega
  have lc : (ws.drop (k + 1)).length ≤ 1000000 := by rw [List.length_drop]; omega
  have za := Lib.hid (show ∀ x ∈ ws.take k, x.size ≤ 10000000 from fun x hx => hz x (List.mem_of_mem_take hx))
  have zc := Lib.hid (show ∀ x ∈ ws.drop (k + 1), x.size ≤ 10000000 from fun x hx => hz x (List.mem_of_mem_drop hx))
  have TP := Lib.hid hT
  clear h hT hi hra hrc hz
  have lna : ns.length ≤ 1000000 := by have := ha.1; rw [List.length_take] at this; omega
  have lnb : ms.length ≤ 1000000 := by have := hc.1; rw [List.length_drop] at this; omega
  have Ha := Lib.hid ha
  have Hc := Lib.hid hc
  clear ha hc
  have PP := Lib.hid hp
  have HL := Lib.hid hL
  clear hp hL
  have g1 : ((ns.length : Int) != (ms.length : Int)) = false := by rw [bne_eq_false_iff_eq]; omega
  have g1n : (ns.length != ms.length) = false := by rw [bne_eq_false_iff_eq]; omega
  have LG := Lib.hid (fun w => rlog_pow j (ns.length : Int) w hj (by rw [hk]))
  have gj : decide ((j : Int) < 0) = false := decide_eq_false (by omega)
  clear hb hk
  go_enter Tryz.func18, Tryz.ntmps18
  go_wp2_with fail
  refine C.out.mono ?_
  rintro e w' ⟨rfl, rfl⟩
  go_wp2_with fail
  refine (rnums_ok (ws.take k) ns Ha.out _ _ RA.out la za.out TP.out).mono ?_
  rintro e w1 ⟨va1, rfl, hr, hb⟩
  have B1 := Lib.hid hb
  have hs1 := hb.size
  have Xa := Lib.hid hr
  clear hr
  clear hb
  go_wp2_with fail
  refine (rnums_ok (ws.drop (k + 1)) ms Hc.out _ _ (RC.out.below B1.out) lc zc.out (TP.out.below B1.out)).mono ?_
  rintro e w2 ⟨vc1, rfl, hr, hb⟩
  have B2 := Lib.hid (B1.out.trans (hb.mono hs1))
  have hs2 := B2.out.size
  have Xc := Lib.hid hr
  have XA2 := Lib.hid (Xa.out.below hb)
  clear hr
  clear hb
  obtain ⟨aa, capa, rfl, hca, hma⟩ := XA2.out.shapeN
  obtain ⟨ab, capb, rfl, hcb, hmb⟩ := Xc.out.shapeN
  go_wp2_with fail
  refine (LG.out _).mono ?_
  rintro e w' ⟨rfl, rfl⟩
  go_wp2_with fail
  refine (PP.out _ _ _ XA2.out Xc.out).mono ?_
  rintro e w3 ⟨v3, rfl, hr, hb⟩
  have R3 := Lib.hid hr
  have B3 := Lib.hid (B2.out.trans (hb.mono hs2))
  have hs3 := B3.out.size
  clear hb hr
  go_wp2_with fail
  refine (said_is L HL.out.1 HL.out.2 _ _ R3.out (TP.out.below B3.out)).mono ?_
  rintro e w4 ⟨rfl, hb⟩
  have B4 := Lib.hid (B3.out.trans (hb.mono hs3))
  clear hb
  go_wp2
  go_ret
  exact ⟨rfl, B4.out⟩
end Go.Proofs.YtdhmmllpldjkbaaGreatDoor.Gm
/- (Dkh3) -/
namespace Go.Proofs.YtdhmmllpldjkbaaGreatDoor.Gm
open Go.RowKit
set_option linter.unusedVariables false
set_option maxHeartbeats 4000000 in
set_option maxRecDepth 100000 in
theorem ll_sum_len (ws : List ByteArray) (hl : ws.length ≠ 2) (v : Value) (w : World) (h : Rs w v ws) (hT : Tp w) :
    Calls Tryz.prog 18 #[.string ⟨#[115, 117, 109]⟩, v] w (RetV w (.string (erB 3))) := by
  obtain ⟨a, cap, rfl, hcap, hm⟩ := h.shape
  have D := Lib.hid (wrong_is 3 (by omega) (by omega) w hT)
  have g1 : ((ws.length : Int) == 2) = false := by rw [beq_eq_false_iff_ne]; omega
  have g2 : (ws.length == 2) = false := by rw [beq_eq_false_iff_ne]; exact hl
  generalize erB 3 = r at *
  clear h hT hl
  go_enter Tryz.func18, Tryz.ntmps18
  go_wp2_with fail
  refine D.out.mono ?_
  rintro e w2 ⟨rfl, hb⟩
  have B2 := Lib.hid hb
  clear hb
  go_wp2
  go_ret
  exact ⟨rfl, B2.out⟩
set_option maxHeartbeats 4000000 in
set_option maxRecDepth 100000 in
theorem ll_times_len (ws : List ByteArray) (hl : ws.length ≠ 2) (v : Value) (w : World) (h : Rs w v ws) (hT : Tp w) :
    Calls Tryz.prog 18 #[.string ⟨#[116, 105, 109, 101, 115]⟩, v] w (RetV w (.string (erB 3))) := by
  obtain ⟨a, cap, rfl, hcap, hm⟩ := h.shape
  have D := Lib.hid (wrong_is 3 (by omega) (by omega) w hT)
  have g1 : ((ws.length : Int) == 2) = false := by rw [beq_eq_false_iff_ne]; omega
  have g2 : (ws.length == 2) = false := by rw [beq_eq_false_iff_ne]; exact hl
  generalize erB 3 = r at *
  clear h hT hl
  go_enter Tryz.func18, Tryz.ntmps18
  go_wp2_with fail
  refine D.out.mono ?_
  rintro e w2 ⟨rfl, hb⟩
  have B2 := Lib.hid hb
  clear hb
  go_wp2
  go_ret
  exact ⟨rfl, B2.out⟩
def GrL (x y : ByteArray) (w : World) (vi : Value) (wr : World) : Prop :=
  w = wr ∧ (vi = .int .i64 0 ∨ (vi = .int .i64 1 ∧ GE (bl x) 0) ∨ (vi = .int .i64 2 ∧ GE (bl x) 0 ∧ GE (bl y) 0))
set_option maxHeartbeats 4000000 in
set_option maxRecDepth 100000 in
theorem ll_sum (x y r : ByteArray) (n : Int) (hg : GB (bl x) (bl y) n) (v : Value) (w : World) (h : Rs w v [x, y]) (hT : Tp w)
    (hc : n = 0 → Calls Tryz.prog 45 #[.string x, .string y] w.drew fun e w' => e = .returned (.string r) ∧ Below w.drew.heap.size w.drew w') :
    Calls Tryz.prog 18 #[.string ⟨#[115, 117, 109]⟩, v] w (RetV w (.string (if n = 0 then r else erB n))) := by
  obtain ⟨cap, b, off, rfl, hcap, hm, hx⟩ := h.cells (by simp)
  rw [show ([x, y] : List ByteArray).length = 2 from rfl] at hcap h ⊢
  have c0 := hx 0 x rfl
  have c1 := hx 1 y rfl
  rw [Nat.add_zero] at c0
  have G := Lib.hid hg
  have CC := Lib.hid hc
  have TP := Lib.hid hT
  have GI := Lib.hid (fun s n h w => great_is s n h w)
  obtain ⟨q, hq⟩ : ∃ q, q = (if n = 0 then r else erB n) := ⟨_, rfl⟩
  rw [← hq]
  have HQ := Lib.hid hq
  clear h hx hc hT hg hq
  go_enter Tryz.func18, Tryz.ntmps18
  go_wp2
  go_loopw [10] (fun vi wr => GrL x y w vi wr) (fun i _ => 2 - (intOf i).toNat)
  case atStart => exact ⟨rfl, .inl rfl⟩
  case round =>
    obtain ⟨rfl, rfl | ⟨rfl, gx⟩ | ⟨rfl, gx, gy⟩⟩ := hrel
    · obtain ⟨m, hm0⟩ := ge_ex (bl x)
      have GM := Lib.hid hm0
      clear hm0
      by_cases e0 : m = 0
      · subst e0
        go_wp2_with fail
        refine (GI.out _ _ GM.out _).mono ?_
        rintro e w' ⟨rfl, rfl⟩
        go_wp2
        go_roundw
        case rel => exact ⟨rfl, .inr (.inl ⟨by go_num, GM.out⟩)⟩
        case measure => simp [intOf] <;> omega
      · have hn : n = m := by
          rcases G.out with ⟨h1, h2⟩ | ⟨h1, h2⟩
          · exact ge_uniq h2 GM.out
          · exact absurd (ge_uniq h1 GM.out).symm e0
        subst hn
        have hlo := GM.out.lo
        have g4 : (n == 0) = false := by rw [beq_eq_false_iff_ne]; exact e0
        have E := Lib.hid (show q = erB n from by rw [HQ.out, if_neg e0])
        clear HQ
        have FL := Lib.hid (wrong_is n (by omega) (by omega) w TP.out)
        generalize erB n = y2 at *
        go_wp2_with fail
        refine (GI.out _ _ GM.out _).mono ?_
        rintro e w' ⟨rfl, rfl⟩
        go_wp2_with fail
        refine FL.out.mono ?_
        rintro e w3 ⟨rfl, hb⟩
        have B3 := Lib.hid hb
        clear hb
        go_wp2
        go_ret
        exact ⟨by rw [E.out]; first | done | rfl, B3.out⟩
    · obtain ⟨m, hm0⟩ := ge_ex (bl y)
      have GM := Lib.hid hm0
      have GX := Lib.hid gx
      clear hm0 gx
      by_cases e0 : m = 0
      · subst e0
        go_wp2_with fail
        refine (GI.out _ _ GM.out _).mono ?_
        rintro e w' ⟨rfl, rfl⟩
        go_wp2
        go_roundw
        case rel => exact ⟨rfl, .inr (.inr ⟨by go_num, GX.out, GM.out⟩)⟩
        case measure => simp [intOf] <;> omega
      · have hn : n = m := by
          rcases G.out with ⟨h1, h2⟩ | ⟨h1, h2⟩
          · exact absurd (ge_uniq h2 GX.out) h1
          · exact ge_uniq h2 GM.out
        subst hn
        have hlo := GM.out.lo
        have g4 : (n == 0) = false := by rw [beq_eq_false_iff_ne]; exact e0
        have E := Lib.hid (show q = erB n from by rw [HQ.out, if_neg e0])
        clear HQ
        have FL := Lib.hid (wrong_is n (by omega) (by omega) w TP.out)
        generalize erB n = y2 at *
        go_wp2_with fail
        refine (GI.out _ _ GM.out _).mono ?_
        rintro e w' ⟨rfl, rfl⟩
        go_wp2_with fail
        refine FL.out.mono ?_
        rintro e w3 ⟨rfl, hb⟩
        have B3 := Lib.hid hb
        clear hb
        go_wp2
        go_ret
        exact ⟨by rw [E.out]; first | done | rfl, B3.out⟩
    · have hn : n = 0 := by
        rcases G.out with ⟨h1, h2⟩ | ⟨h1, h2⟩
        · exact ge_uniq h2 gx
        · exact ge_uniq h2 gy
      have C := Lib.hid (CC.out hn)
      have E := Lib.hid (show q = r from by rw [HQ.out, if_pos hn])
      clear HQ
      clear gx gy hn CC GI G
      go_wp2_with fail
      refine wp_region_N [2, 5] [6] (fun w' => w'.cell? ⟨b, off, none⟩ = some (.string x) ∧ w'.cell? ⟨b, off + 1, none⟩ = some (.string y)) (by kernel_rfl) ?_
      have hS : w.drew.cell? ⟨b, off, none⟩ = some (.string x) ∧ w.drew.cell? ⟨b, off + 1, none⟩ = some (.string y) := ⟨c0, c1⟩
      refine wpN_pure (i := 0) (v := ?_) rfl (by kernel_rfl) (by kernel_rfl) (by kernel_rfl) (by kernel_rfl) (fun _ _ _ h => h) (Or.inl ⟨by rfl, ?_⟩) (fun _ => hS) ?_
      rotate_left
      · ((intro w' hw'; (try dsimp only at hw'); go_simp) <;> with_reducible rfl)
      simp only [Act.put, List.setIfInBounds_toArray, List.set_cons_zero, List.set_cons_succ]
      refine wpN_pure (i := 1) (v := ?_) rfl (by kernel_rfl) (by kernel_rfl) (by kernel_rfl) (by kernel_rfl) (fun _ _ _ h => h) (Or.inl ⟨by rfl, ?_⟩) (fun _ => hS) ?_
      rotate_left
      · ((intro w' hw'; (try dsimp only at hw'); go_simp) <;> with_reducible rfl)
      simp only [Act.put, List.setIfInBounds_toArray, List.set_cons_zero, List.set_cons_succ]
      refine wpN_read (i := 2) (v := ?_) rfl (by kernel_rfl) (by kernel_rfl) (by kernel_rfl) (by kernel_rfl) (by kernel_rfl) (fun _ _ _ h => h) (Or.inl ⟨by rfl, ?_⟩) hS ?_
      rotate_left
      · ((intro w' hw'; (try dsimp only at hw'); go_simp) <;> with_reducible rfl)
      simp only [Act.put, List.setIfInBounds_toArray, List.set_cons_zero, List.set_cons_succ]
      refine wpN_pure (i := 3) (v := ?_) rfl (by kernel_rfl) (by kernel_rfl) (by kernel_rfl) (by kernel_rfl) (fun _ _ _ h => h) (Or.inl ⟨by rfl, ?_⟩) (fun _ => hS) ?_
      rotate_left
      · ((intro w' hw'; (try dsimp only at hw'); go_simp) <;> with_reducible rfl)
      simp only [Act.put, List.setIfInBounds_toArray, List.set_cons_zero, List.set_cons_succ]
      refine wpN_pure (i := 4) (v := ?_) rfl (by kernel_rfl) (by kernel_rfl) (by kernel_rfl) (by kernel_rfl) (fun _ _ _ h => h) (Or.inl ⟨by rfl, ?_⟩) (fun _ => hS) ?_
      rotate_left
      · ((intro w' hw'; (try dsimp only at hw'); go_simp) <;> with_reducible rfl)
      simp only [Act.put, List.setIfInBounds_toArray, List.set_cons_zero, List.set_cons_succ]
      refine wpN_read (i := 5) (v := ?_) rfl (by kernel_rfl) (by kernel_rfl) (by kernel_rfl) (by kernel_rfl) (by kernel_rfl) (fun _ _ _ h => h) (Or.inl ⟨by rfl, ?_⟩) hS ?_
      rotate_left
      · ((intro w' hw'; (try dsimp only at hw'); go_simp) <;> with_reducible rfl)
      simp only [Act.put, List.setIfInBounds_toArray, List.set_cons_zero, List.set_cons_succ]
      refine wpN_one (i := 6) rfl rfl (by kernel_rfl) (by kernel_rfl) (fun K hK => ?_)
      go_simp
      refine C.out.mono ?_
      rintro e w1 ⟨rfl, hb⟩
      refine hK.out _ _ ?_
      clear hK K hS
      have B1 := Lib.hid ((below_drewN (Below.refl w.heap.size w) 1).trans hb)
      clear hb
      refine wpN_pure (i := 7) (v := ?_) rfl (by kernel_rfl) (by kernel_rfl) (by kernel_rfl) (by kernel_rfl) (fun _ _ _ h => h) (Or.inl ⟨by rfl, ?_⟩) (fun h => Bool.noConfusion (h.symm.trans (show _ = false by kernel_rfl))) ?_
      rotate_left
      · ((intro w' hw'; (try dsimp only at hw'); go_simp) <;> with_reducible rfl)
      simp only [Act.put, List.setIfInBounds_toArray, List.set_cons_zero, List.set_cons_succ]
      refine wpN_done (by kernel_rfl) ?_
      go_wp2
      go_ret
      exact ⟨by rw [E.out]; first | done | rfl, B1.out⟩
set_option maxHeartbeats 4000000 in
set_option maxRecDepth 100000 in
theorem ll_times (x y r : ByteArray) (n : Int) (hg : GB (bl x) (bl y) n) (v : Value) (w : World) (h : Rs w v [x, y]) (hT : Tp w)
    (hc : n = 0 → Calls Tryz.prog 46 #[.string x, .string y] w.drew fun e w' => e = .returned (.string r) ∧ Below w.drew.heap.size w.drew w') :
    Calls Tryz.prog 18 #[.string ⟨#[116, 105, 109, 101, 115]⟩, v] w (RetV w (.string (if n = 0 then r else erB n))) := by
  obtain ⟨cap, b, off, rfl, hcap, hm, hx⟩ := h.cells (by simp)
  rw [show ([x, y] : List ByteArray).length = 2 from rfl] at hcap h ⊢
  have c0 := hx 0 x rfl
  have c1 := hx 1 y rfl
  rw [Nat.add_zero] at c0
  have G := Lib.hid hg
  have CC := Lib.hid hc
  have TP := Lib.hid hT
  have GI := Lib.hid (fun s n h w => great_is s n h w)
  obtain ⟨q, hq⟩ : ∃ q, q = (if n = 0 then r else erB n) := ⟨_, rfl⟩
  rw [← hq]
  have HQ := Lib.hid hq
  clear h hx hc hT hg hq
  go_enter Tryz.func18, Tryz.ntmps18
  go_wp2
  go_loopw [10] (fun vi wr => GrL x y w vi wr) (fun i _ => 2 - (intOf i).toNat)
  case atStart => exact ⟨rfl, .inl rfl⟩
  case round =>
    obtain ⟨rfl, rfl | ⟨rfl, gx⟩ | ⟨rfl, gx, gy⟩⟩ := hrel
    · obtain ⟨m, hm0⟩ := ge_ex (bl x)
      have GM := Lib.hid hm0
      clear hm0
      by_cases e0 : m = 0
      · subst e0
        go_wp2_with fail
        refine (GI.out _ _ GM.out _).mono ?_
        rintro e w' ⟨rfl, rfl⟩
        go_wp2
        go_roundw
        case rel => exact ⟨rfl, .inr (.inl ⟨by go_num, GM.out⟩)⟩
        case measure => simp [intOf] <;> omega
      · have hn : n = m := by
          rcases G.out with ⟨h1, h2⟩ | ⟨h1, h2⟩
          · exact ge_uniq h2 GM.out
          · exact absurd (ge_uniq h1 GM.out).symm e0
        subst hn
        have hlo := GM.out.lo
        have g4 : (n == 0) = false := by rw [beq_eq_false_iff_ne]; exact e0
        have E := Lib.hid (show q = erB n from by rw [HQ.out, if_neg e0])
        clear HQ
        have FL := Lib.hid (wrong_is n (by omega) (by omega) w TP.out)
        generalize erB n = y2 at *
        go_wp2_with fail
        refine (GI.out _ _ GM.out _).mono ?_
        rintro e w' ⟨rfl, rfl⟩
        go_wp2_with fail
        refine FL.out.mono ?_
        rintro e w3 ⟨rfl, hb⟩
        have B3 := Lib.hid hb
        clear hb
        go_wp2
        go_ret
        exact ⟨by rw [E.out]; first | done | rfl, B3.out⟩
    · obtain ⟨m, hm0⟩ := ge_ex (bl y)
      have GM := Lib.hid hm0
      have GX := Lib.hid gx
      clear hm0 gx
      by_cases e0 : m = 0
      · subst e0
        go_wp2_with fail
        refine (GI.out _ _ GM.out _).mono ?_
        rintro e w' ⟨rfl, rfl⟩
        go_wp2
        go_roundw
        case rel => exact ⟨rfl, .inr (.inr ⟨by go_num, GX.out, GM.out⟩)⟩
        case measure => simp [intOf] <;> omega
      · have hn : n = m := by
          rcases G.out with ⟨h1, h2⟩ | ⟨h1, h2⟩
          · exact absurd (ge_uniq h2 GX.out) h1
          · exact ge_uniq h2 GM.out
        subst hn
        have hlo := GM.out.lo
        have g4 : (n == 0) = false := by rw [beq_eq_false_iff_ne]; exact e0
        have E := Lib.hid (show q = erB n from by rw [HQ.out, if_neg e0])
        clear HQ
        have FL := Lib.hid (wrong_is n (by omega) (by omega) w TP.out)
        generalize erB n = y2 at *
        go_wp2_with fail
        refine (GI.out _ _ GM.out _).mono ?_
        rintro e w' ⟨rfl, rfl⟩
        go_wp2_with fail
        refine FL.out.mono ?_
        rintro e w3 ⟨rfl, hb⟩
        have B3 := Lib.hid hb
        clear hb
        go_wp2
        go_ret
        exact ⟨by rw [E.out]; first | done | rfl, B3.out⟩
    · have hn : n = 0 := by
        rcases G.out with ⟨h1, h2⟩ | ⟨h1, h2⟩
        · exact ge_uniq h2 gx
        · exact ge_uniq h2 gy
      have C := Lib.hid (CC.out hn)
      have E := Lib.hid (show q = r from by rw [HQ.out, if_pos hn])
      clear HQ
      clear gx gy hn CC GI G
      go_wp2_with fail
      refine wp_region_N [2, 5] [6] (fun w' => w'.cell? ⟨b, off, none⟩ = some (.string x) ∧ w'.cell? ⟨b, off + 1, none⟩ = some (.string y)) (by kernel_rfl) ?_
      have hS : w.drew.cell? ⟨b, off, none⟩ = some (.string x) ∧ w.drew.cell? ⟨b, off + 1, none⟩ = some (.string y) := ⟨c0, c1⟩
      refine wpN_pure (i := 0) (v := ?_) rfl (by kernel_rfl) (by kernel_rfl) (by kernel_rfl) (by kernel_rfl) (fun _ _ _ h => h) (Or.inl ⟨by rfl, ?_⟩) (fun _ => hS) ?_
      rotate_left
      · ((intro w' hw'; (try dsimp only at hw'); go_simp) <;> with_reducible rfl)
      simp only [Act.put, List.setIfInBounds_toArray, List.set_cons_zero, List.set_cons_succ]
      refine wpN_pure (i := 1) (v := ?_) rfl (by kernel_rfl) (by kernel_rfl) (by kernel_rfl) (by kernel_rfl) (fun _ _ _ h => h) (Or.inl ⟨by rfl, ?_⟩) (fun _ => hS) ?_
      rotate_left
      · ((intro w' hw'; (try dsimp only at hw'); go_simp) <;> with_reducible rfl)
      simp only [Act.put, List.setIfInBounds_toArray, List.set_cons_zero, List.set_cons_succ]
      refine wpN_read (i := 2) (v := ?_) rfl (by kernel_rfl) (by kernel_rfl) (by kernel_rfl) (by kernel_rfl) (by kernel_rfl) (fun _ _ _ h => h) (Or.inl ⟨by rfl, ?_⟩) hS ?_
      rotate_left
      · ((intro w' hw'; (try dsimp only at hw'); go_simp) <;> with_reducible rfl)
      simp only [Act.put, List.setIfInBounds_toArray, List.set_cons_zero, List.set_cons_succ]
      refine wpN_pure (i := 3) (v := ?_) rfl (by kernel_rfl) (by kernel_rfl) (by kernel_rfl) (by kernel_rfl) (fun _ _ _ h => h) (Or.inl ⟨by rfl, ?_⟩) (fun _ => hS) ?_
      rotate_left
      · ((intro w' hw'; (try dsimp only at hw'); go_simp) <;> with_reducible rfl)
      simp only [Act.put, List.setIfInBounds_toArray, List.set_cons_zero, List.set_cons_succ]
      refine wpN_pure (i := 4) (v := ?_) rfl (by kernel_rfl) (by kernel_rfl) (by kernel_rfl) (by kernel_rfl) (fun _ _ _ h => h) (Or.inl ⟨by rfl, ?_⟩) (fun _ => hS) ?_
      rotate_left
      · ((intro w' hw'; (try dsimp only at hw'); go_simp) <;> with_reducible rfl)
      simp only [Act.put, List.setIfInBounds_toArray, List.set_cons_zero, List.set_cons_succ]
      refine wpN_read (i := 5) (v := ?_) rfl (by kernel_rfl) (by kernel_rfl) (by kernel_rfl) (by kernel_rfl) (by kernel_rfl) (fun _ _ _ h => h) (Or.inl ⟨by rfl, ?_⟩) hS ?_
      rotate_left
      · ((intro w' hw'; (try dsimp only at hw'); go_simp) <;> with_reducible rfl)
      simp only [Act.put, List.setIfInBounds_toArray, List.set_cons_zero, List.set_cons_succ]
      refine wpN_one (i := 6) rfl rfl (by kernel_rfl) (by kernel_rfl) (fun K hK => ?_)
      go_simp
      refine C.out.mono ?_
      rintro e w1 ⟨rfl, hb⟩
      refine hK.out _ _ ?_
      clear hK K hS
      have B1 := Lib.hid ((below_drewN (Below.refl w.heap.size w) 1).trans hb)
      clear hb
      refine wpN_pure (i := 7) (v := ?_) rfl (by kernel_rfl) (by kernel_rfl) (by kernel_rfl) (by kernel_rfl) (fun _ _ _ h => h) (Or.inl ⟨by rfl, ?_⟩) (fun h => Bool.noConfusion (h.symm.trans (show _ = false by kernel_rfl))) ?_
      rotate_left
      · ((intro w' hw'; (try dsimp only at hw'); go_simp) <;> with_reducible rfl)
      simp only [Act.put, List.setIfInBounds_toArray, List.set_cons_zero, List.set_cons_succ]
      refine wpN_done (by kernel_rfl) ?_
      go_wp2
      go_ret
      exact ⟨by rw [E.out]; first | done | rfl, B1.out⟩
end Go.Proofs.YtdhmmllpldjkbaaGreatDoor.Gm
/- (Dkh4) -/
namespace Go.Proofs.YtdhmmllpldjkbaaGreatDoor.Gm
open Go.RowKit
set_option linter.unusedVariables false
/-- the kinds that ask for so many numbers -/
def L3 : List ByteArray := [⟨#[112, 108, 97, 110, 32, 115, 104, 97, 114, 101]⟩, ⟨#[105, 110, 118, 32, 114, 111, 111, 116]⟩, ⟨#[97, 100, 100, 32, 115, 117, 98, 32, 109, 117, 108, 32, 112, 111, 119]⟩]
theorem Rs.litB (w : World) (l : List ByteArray) (t : TypeId) (n : Nat) (hn : l.length = n) (hl : n ≤ 1000 := by decide) :
    Rs (w.alloc (.cells (l.map Value.string).toArray t)) (.slice (some ⟨w.heap.size, 0, none⟩) n n) l := by
  subst hn
  refine ⟨_, _, w.heap.size, 0, rfl, Nat.le_refl _, by omega, .inr rfl, fun i x hi => ?_⟩
  rw [World.cell?_alloc_at _ _ _ _ rfl, Nat.zero_add, List.getElem?_toArray, List.getElem?_map, hi]
  rfl
set_option maxHeartbeats 4000000 in
set_option maxRecDepth 100000 in
theorem ll_nan (i : Int) (vb kb : ByteArray) (h0 : vb ≠ ⟨#[99, 121, 99, 108, 105, 99]⟩) (h1 : vb ≠ ⟨#[108, 105, 110, 101, 97, 114]⟩) (h2 : vb ≠ ⟨#[115, 117, 109]⟩) (h3 : vb ≠ ⟨#[116, 105, 109, 101, 115]⟩) (hk : ∀ w, Calls Tryz.prog 47 #[.string vb] w fun e w' => e = .returned (.string kb) ∧ w = w') (ws : List ByteArray) (hl : ws.length ≤ 1000000) (hz : ∀ x ∈ ws, x.size ≤ 10000000) (hi : IxS L3 kb i) (hn : ∀ ns, ¬ NumsW ws ns) (v : Value) (w : World) (h : Rs w v ws) (hT : Tp w) :
    Calls Tryz.prog 18 #[.string vb, v] w (RetV w (.string (erB 3))) := by
  have D := Lib.hid (fun w hT => wrong_is 3 (by omega) (by omega) w hT)
  generalize erB 3 = r at *
  have KI := Lib.hid hk
  have IX := Lib.hid hi
  have RR := Lib.hid h
  have HN := Lib.hid hn
  have HZ := Lib.hid hz
  have TP := Lib.hid hT
  have g0 : (vb.toList == [99, 121, 99, 108, 105, 99]) = false := lit_ne h0
  have g1 : (vb.toList == [108, 105, 110, 101, 97, 114]) = false := lit_ne h1
  have g2 : (vb.toList == [115, 117, 109]) = false := lit_ne h2
  have g3 : (vb.toList == [116, 105, 109, 101, 115]) = false := lit_ne h3
  clear h0 h1 h2 h3
  clear hk hi h hn hz hT
  go_enter Tryz.func18, Tryz.ntmps18
  go_wp2_with fail
  refine (rnums_bad ws HN.out _ _ RR.out hl HZ.out TP.out).mono ?_
  rintro e w1 ⟨rfl, hb⟩
  have B1 := Lib.hid hb
  have hs1 := hb.size
  clear hb
  have B2 := Lib.hid (B1.out.alloc hs1 (.cells #[.string ⟨#[112, 108, 97, 110, 32, 115, 104, 97, 114, 101]⟩, .string ⟨#[105, 110, 118, 32, 114, 111, 111, 116]⟩, .string ⟨#[97, 100, 100, 32, 115, 117, 98, 32, 109, 117, 108, 32, 112, 111, 119]⟩] 9))
  have hs2 := B2.out.size
  have R3 := Lib.hid (show Rs (w1.alloc (.cells #[.string ⟨#[112, 108, 97, 110, 32, 115, 104, 97, 114, 101]⟩, .string ⟨#[105, 110, 118, 32, 114, 111, 111, 116]⟩, .string ⟨#[97, 100, 100, 32, 115, 117, 98, 32, 109, 117, 108, 32, 112, 111, 119]⟩] 9)) (.slice (some ⟨w1.heap.size, 0, none⟩) 3 3) L3 from Rs.litB w1 L3 9 3 rfl)
  go_wp2_with fail
  refine (KI.out _).mono ?_
  rintro e w' ⟨rfl, rfl⟩
  go_wp2_with fail
  refine (sidx_any L3 kb _ IX.out _ _ R3.out (by decide)).mono ?_
  rintro e w' ⟨rfl, rfl⟩
  go_wp2_with fail
  refine (D.out _ (TP.out.below B2.out)).mono ?_
  rintro e w3 ⟨rfl, hb⟩
  have B3 := Lib.hid (B2.out.trans (hb.mono hs2))
  clear hb
  go_wp2
  go_ret
  exact ⟨rfl, B3.out⟩
set_option maxHeartbeats 4000000 in
set_option maxRecDepth 100000 in
theorem ll_m1 (vb kb : ByteArray) (h0 : vb ≠ ⟨#[99, 121, 99, 108, 105, 99]⟩) (h1 : vb ≠ ⟨#[108, 105, 110, 101, 97, 114]⟩) (h2 : vb ≠ ⟨#[115, 117, 109]⟩) (h3 : vb ≠ ⟨#[116, 105, 109, 101, 115]⟩) (hk : ∀ w, Calls Tryz.prog 47 #[.string vb] w fun e w' => e = .returned (.string kb) ∧ w = w') (ws : List ByteArray) (hl : ws.length ≤ 1000000) (hz : ∀ x ∈ ws, x.size ≤ 10000000) (hi : IxS L3 kb (-1)) (ns : List Nat) (hn : NumsW ws ns) (r : ByteArray) (hc : ∀ v' w', Rd .u64 w' v' (nz ns) → Tp w' → Tb w' → Calls Tryz.prog 48 #[.string vb, v'] w' (RetV w' (.string r))) (v : Value) (w : World) (h : Rs w v ws) (hT : Tp w) (hTb : Tb w) :
    Calls Tryz.prog 18 #[.string vb, v] w (RetV w (.string (r))) := by
  have D := Lib.hid hc
  have TB := Lib.hid hTb
  clear hc hTb
  have KI := Lib.hid hk
  have IX := Lib.hid hi
  have RR := Lib.hid h
  have HN := Lib.hid hn
  have HZ := Lib.hid hz
  have TP := Lib.hid hT
  have g0 : (vb.toList == [99, 121, 99, 108, 105, 99]) = false := lit_ne h0
  have g1 : (vb.toList == [108, 105, 110, 101, 97, 114]) = false := lit_ne h1
  have g2 : (vb.toList == [115, 117, 109]) = false := lit_ne h2
  have g3 : (vb.toList == [116, 105, 109, 101, 115]) = false := lit_ne h3
  clear h0 h1 h2 h3
  clear hk hi h hn hz hT
  go_enter Tryz.func18, Tryz.ntmps18
  go_wp2_with fail
  refine (rnums_ok ws ns HN.out _ _ RR.out hl HZ.out TP.out).mono ?_
  rintro e w1 ⟨v1, rfl, hr, hb⟩
  have B1 := Lib.hid hb
  have hs1 := hb.size
  have X1 := Lib.hid (hr.below ((Below.refl w1.heap.size w1).alloc (Nat.le_refl _) (.cells #[.string ⟨#[112, 108, 97, 110, 32, 115, 104, 97, 114, 101]⟩, .string ⟨#[105, 110, 118, 32, 114, 111, 111, 116]⟩, .string ⟨#[97, 100, 100, 32, 115, 117, 98, 32, 109, 117, 108, 32, 112, 111, 119]⟩] 9)))
  clear hr hb
  have B2 := Lib.hid (B1.out.alloc hs1 (.cells #[.string ⟨#[112, 108, 97, 110, 32, 115, 104, 97, 114, 101]⟩, .string ⟨#[105, 110, 118, 32, 114, 111, 111, 116]⟩, .string ⟨#[97, 100, 100, 32, 115, 117, 98, 32, 109, 117, 108, 32, 112, 111, 119]⟩] 9))
  have hs2 := B2.out.size
  have R3 := Lib.hid (show Rs (w1.alloc (.cells #[.string ⟨#[112, 108, 97, 110, 32, 115, 104, 97, 114, 101]⟩, .string ⟨#[105, 110, 118, 32, 114, 111, 111, 116]⟩, .string ⟨#[97, 100, 100, 32, 115, 117, 98, 32, 109, 117, 108, 32, 112, 111, 119]⟩] 9)) (.slice (some ⟨w1.heap.size, 0, none⟩) 3 3) L3 from Rs.litB w1 L3 9 3 rfl)
  obtain ⟨a1, c1, rfl, hc1, hm1⟩ := X1.out.shape
  rw [nz_len] at *
  go_wp2_with fail
  refine (KI.out _).mono ?_
  rintro e w' ⟨rfl, rfl⟩
  go_wp2_with fail
  refine (sidx_any L3 kb _ IX.out _ _ R3.out (by decide)).mono ?_
  rintro e w' ⟨rfl, rfl⟩
  go_wp2_with fail
  refine (D.out _ _ X1.out (TP.out.below B2.out) (TB.out.below B2.out)).mono ?_
  rintro e w3 ⟨rfl, hb⟩
  have B3 := Lib.hid (B2.out.trans (hb.mono hs2))
  clear hb
  go_wp2
  go_ret
  exact ⟨rfl, B3.out⟩
set_option maxHeartbeats 4000000 in
set_option maxRecDepth 100000 in
theorem ll_z_bad (vb kb : ByteArray) (h0 : vb ≠ ⟨#[99, 121, 99, 108, 105, 99]⟩) (h1 : vb ≠ ⟨#[108, 105, 110, 101, 97, 114]⟩) (h2 : vb ≠ ⟨#[115, 117, 109]⟩) (h3 : vb ≠ ⟨#[116, 105, 109, 101, 115]⟩) (hk : ∀ w, Calls Tryz.prog 47 #[.string vb] w fun e w' => e = .returned (.string kb) ∧ w = w') (ws : List ByteArray) (hl : ws.length ≤ 1000000) (hz : ∀ x ∈ ws, x.size ≤ 10000000) (hi : IxS L3 kb (0)) (ns : List Nat) (hn : NumsW ws ns) (hh : ns.length = 0) (v : Value) (w : World) (h : Rs w v ws) (hT : Tp w) :
    Calls Tryz.prog 18 #[.string vb, v] w (RetV w (.string (erB 3))) := by
  have D := Lib.hid (fun w hT => wrong_is 3 (by omega) (by omega) w hT)
  generalize erB 3 = r at *
  have q1 : ((ns.length : Int) == 0) = true := by rw [beq_iff_eq]; omega
  have q2 : (ns.length == 0) = true := by rw [beq_iff_eq]; omega
  clear hh
  have KI := Lib.hid hk
  have IX := Lib.hid hi
  have RR := Lib.hid h
  have HN := Lib.hid hn
  have HZ := Lib.hid hz
  have TP := Lib.hid hT
  have g0 : (vb.toList == [99, 121, 99, 108, 105, 99]) = false := lit_ne h0
  have g1 : (vb.toList == [108, 105, 110, 101, 97, 114]) = false := lit_ne h1
  have g2 : (vb.toList == [115, 117, 109]) = false := lit_ne h2
  have g3 : (vb.toList == [116, 105, 109, 101, 115]) = false := lit_ne h3
  clear h0 h1 h2 h3
  clear hk hi h hn hz hT
  go_enter Tryz.func18, Tryz.ntmps18
  go_wp2_with fail
  refine (rnums_ok ws ns HN.out _ _ RR.out hl HZ.out TP.out).mono ?_
  rintro e w1 ⟨v1, rfl, hr, hb⟩
  have B1 := Lib.hid hb
  have hs1 := hb.size
  have X1 := Lib.hid (hr.below ((Below.refl w1.heap.size w1).alloc (Nat.le_refl _) (.cells #[.string ⟨#[112, 108, 97, 110, 32, 115, 104, 97, 114, 101]⟩, .string ⟨#[105, 110, 118, 32, 114, 111, 111, 116]⟩, .string ⟨#[97, 100, 100, 32, 115, 117, 98, 32, 109, 117, 108, 32, 112, 111, 119]⟩] 9)))
  clear hr hb
  have B2 := Lib.hid (B1.out.alloc hs1 (.cells #[.string ⟨#[112, 108, 97, 110, 32, 115, 104, 97, 114, 101]⟩, .string ⟨#[105, 110, 118, 32, 114, 111, 111, 116]⟩, .string ⟨#[97, 100, 100, 32, 115, 117, 98, 32, 109, 117, 108, 32, 112, 111, 119]⟩] 9))
  have hs2 := B2.out.size
  have R3 := Lib.hid (show Rs (w1.alloc (.cells #[.string ⟨#[112, 108, 97, 110, 32, 115, 104, 97, 114, 101]⟩, .string ⟨#[105, 110, 118, 32, 114, 111, 111, 116]⟩, .string ⟨#[97, 100, 100, 32, 115, 117, 98, 32, 109, 117, 108, 32, 112, 111, 119]⟩] 9)) (.slice (some ⟨w1.heap.size, 0, none⟩) 3 3) L3 from Rs.litB w1 L3 9 3 rfl)
  obtain ⟨a1, c1, rfl, hc1, hm1⟩ := X1.out.shape
  rw [nz_len] at *
  go_wp2_with fail
  refine (KI.out _).mono ?_
  rintro e w' ⟨rfl, rfl⟩
  go_wp2_with fail
  refine (sidx_any L3 kb _ IX.out _ _ R3.out (by decide)).mono ?_
  rintro e w' ⟨rfl, rfl⟩
  go_wp2_with fail
  refine (D.out _ (TP.out.below B2.out)).mono ?_
  rintro e w3 ⟨rfl, hb⟩
  have B3 := Lib.hid (B2.out.trans (hb.mono hs2))
  clear hb
  go_wp2
  go_ret
  exact ⟨rfl, B3.out⟩
set_option maxHeartbeats 4000000 in
set_option maxRecDepth 100000 in
theorem ll_z (vb kb : ByteArray) (h0 : vb ≠ ⟨#[99, 121, 99, 108, 105, 99]⟩) (h1 : vb ≠ ⟨#[108, 105, 110, 101, 97, 114]⟩) (h2 : vb ≠ ⟨#[115, 117, 109]⟩) (h3 : vb ≠ ⟨#[116, 105, 109, 101, 115]⟩) (hk : ∀ w, Calls Tryz.prog 47 #[.string vb] w fun e w' => e = .returned (.string kb) ∧ w = w') (ws : List ByteArray) (hl : ws.length ≤ 1000000) (hz : ∀ x ∈ ws, x.size ≤ 10000000) (hi : IxS L3 kb (0)) (ns : List Nat) (hn : NumsW ws ns) (hh : 0 < ns.length) (r : ByteArray) (hc : ∀ v' w', Rd .u64 w' v' (nz ns) → Tp w' → Tb w' → Calls Tryz.prog 48 #[.string vb, v'] w' (RetV w' (.string r))) (v : Value) (w : World) (h : Rs w v ws) (hT : Tp w) (hTb : Tb w) :
    Calls Tryz.prog 18 #[.string vb, v] w (RetV w (.string (r))) := by
  have D := Lib.hid hc
  have TB := Lib.hid hTb
  clear hc hTb
  have q1 : ((ns.length : Int) == 0) = false := by rw [beq_eq_false_iff_ne]; omega
  have q2 : (ns.length == 0) = false := by rw [beq_eq_false_iff_ne]; omega
  clear hh
  have KI := Lib.hid hk
  have IX := Lib.hid hi
  have RR := Lib.hid h
  have HN := Lib.hid hn
  have HZ := Lib.hid hz
  have TP := Lib.hid hT
  have g0 : (vb.toList == [99, 121, 99, 108, 105, 99]) = false := lit_ne h0
  have g1 : (vb.toList == [108, 105, 110, 101, 97, 114]) = false := lit_ne h1
  have g2 : (vb.toList == [115, 117, 109]) = false := lit_ne h2
  have g3 : (vb.toList == [116, 105, 109, 101, 115]) = false := lit_ne h3
  clear h0 h1 h2 h3
  clear hk hi h hn hz hT
  go_enter Tryz.func18, Tryz.ntmps18
  go_wp2_with fail
  refine (rnums_ok ws ns HN.out _ _ RR.out hl HZ.out TP.out).mono ?_
  rintro e w1 ⟨v1, rfl, hr, hb⟩
  have B1 := Lib.hid hb
  have hs1 := hb.size
  have X1 := Lib.hid (hr.below ((Below.refl w1.heap.size w1).alloc (Nat.le_refl _) (.cells #[.string ⟨#[112, 108, 97, 110, 32, 115, 104, 97, 114, 101]⟩, .string ⟨#[105, 110, 118, 32, 114, 111, 111, 116]⟩, .string ⟨#[97, 100, 100, 32, 115, 117, 98, 32, 109, 117, 108, 32, 112, 111, 119]⟩] 9)))
  clear hr hb
  have B2 := Lib.hid (B1.out.alloc hs1 (.cells #[.string ⟨#[112, 108, 97, 110, 32, 115, 104, 97, 114, 101]⟩, .string ⟨#[105, 110, 118, 32, 114, 111, 111, 116]⟩, .string ⟨#[97, 100, 100, 32, 115, 117, 98, 32, 109, 117, 108, 32, 112, 111, 119]⟩] 9))
  have hs2 := B2.out.size
  have R3 := Lib.hid (show Rs (w1.alloc (.cells #[.string ⟨#[112, 108, 97, 110, 32, 115, 104, 97, 114, 101]⟩, .string ⟨#[105, 110, 118, 32, 114, 111, 111, 116]⟩, .string ⟨#[97, 100, 100, 32, 115, 117, 98, 32, 109, 117, 108, 32, 112, 111, 119]⟩] 9)) (.slice (some ⟨w1.heap.size, 0, none⟩) 3 3) L3 from Rs.litB w1 L3 9 3 rfl)
  obtain ⟨a1, c1, rfl, hc1, hm1⟩ := X1.out.shape
  rw [nz_len] at *
  go_wp2_with fail
  refine (KI.out _).mono ?_
  rintro e w' ⟨rfl, rfl⟩
  go_wp2_with fail
  refine (sidx_any L3 kb _ IX.out _ _ R3.out (by decide)).mono ?_
  rintro e w' ⟨rfl, rfl⟩
  go_wp2_with fail
  refine (D.out _ _ X1.out (TP.out.below B2.out) (TB.out.below B2.out)).mono ?_
  rintro e w3 ⟨rfl, hb⟩
  have B3 := Lib.hid (B2.out.trans (hb.mono hs2))
  clear hb
  go_wp2
  go_ret
  exact ⟨rfl, B3.out⟩
set_option maxHeartbeats 4000000 in
set_option maxRecDepth 100000 in
theorem ll_n1_bad (vb kb : ByteArray) (h0 : vb ≠ ⟨#[99, 121, 99, 108, 105, 99]⟩) (h1 : vb ≠ ⟨#[108, 105, 110, 101, 97, 114]⟩) (h2 : vb ≠ ⟨#[115, 117, 109]⟩) (h3 : vb ≠ ⟨#[116, 105, 109, 101, 115]⟩) (hk : ∀ w, Calls Tryz.prog 47 #[.string vb] w fun e w' => e = .returned (.string kb) ∧ w = w') (ws : List ByteArray) (hl : ws.length ≤ 1000000) (hz : ∀ x ∈ ws, x.size ≤ 10000000) (hi : IxS L3 kb (1)) (ns : List Nat) (hn : NumsW ws ns) (hh : ns.length ≠ 1) (v : Value) (w : World) (h : Rs w v ws) (hT : Tp w) :
    Calls Tryz.prog 18 #[.string vb, v] w (RetV w (.string (erB 3))) := by
  have D := Lib.hid (fun w hT => wrong_is 3 (by omega) (by omega) w hT)
  generalize erB 3 = r at *
  have q1 : ((ns.length : Int) == 1) = false := by rw [beq_eq_false_iff_ne]; omega
  have q2 : (ns.length == 1) = false := by rw [beq_eq_false_iff_ne]; omega
  clear hh
  have KI := Lib.hid hk
  have IX := Lib.hid hi
  have RR := Lib.hid h
  have HN := Lib.hid hn
  have HZ := Lib.hid hz
  have TP := Lib.hid hT
  have g0 : (vb.toList == [99, 121, 99, 108, 105, 99]) = false := lit_ne h0
  have g1 : (vb.toList == [108, 105, 110, 101, 97, 114]) = false := lit_ne h1
  have g2 : (vb.toList == [115, 117, 109]) = false := lit_ne h2
  have g3 : (vb.toList == [116, 105, 109, 101, 115]) = false := lit_ne h3
  clear h0 h1 h2 h3
  clear hk hi h hn hz hT
  go_enter Tryz.func18, Tryz.ntmps18
  go_wp2_with fail
  refine (rnums_ok ws ns HN.out _ _ RR.out hl HZ.out TP.out).mono ?_
  rintro e w1 ⟨v1, rfl, hr, hb⟩
  have B1 := Lib.hid hb
  have hs1 := hb.size
  have X1 := Lib.hid (hr.below ((Below.refl w1.heap.size w1).alloc (Nat.le_refl _) (.cells #[.string ⟨#[112, 108, 97, 110, 32, 115, 104, 97, 114, 101]⟩, .string ⟨#[105, 110, 118, 32, 114, 111, 111, 116]⟩, .string ⟨#[97, 100, 100, 32, 115, 117, 98, 32, 109, 117, 108, 32, 112, 111, 119]⟩] 9)))
  clear hr hb
  have B2 := Lib.hid (B1.out.alloc hs1 (.cells #[.string ⟨#[112, 108, 97, 110, 32, 115, 104, 97, 114, 101]⟩, .string ⟨#[105, 110, 118, 32, 114, 111, 111, 116]⟩, .string ⟨#[97, 100, 100, 32, 115, 117, 98, 32, 109, 117, 108, 32, 112, 111, 119]⟩] 9))
  have hs2 := B2.out.size
  have R3 := Lib.hid (show Rs (w1.alloc (.cells #[.string ⟨#[112, 108, 97, 110, 32, 115, 104, 97, 114, 101]⟩, .string ⟨#[105, 110, 118, 32, 114, 111, 111, 116]⟩, .string ⟨#[97, 100, 100, 32, 115, 117, 98, 32, 109, 117, 108, 32, 112, 111, 119]⟩] 9)) (.slice (some ⟨w1.heap.size, 0, none⟩) 3 3) L3 from Rs.litB w1 L3 9 3 rfl)
  obtain ⟨a1, c1, rfl, hc1, hm1⟩ := X1.out.shape
  rw [nz_len] at *
  go_wp2_with fail
  refine (KI.out _).mono ?_
  rintro e w' ⟨rfl, rfl⟩
  go_wp2_with fail
  refine (sidx_any L3 kb _ IX.out _ _ R3.out (by decide)).mono ?_
  rintro e w' ⟨rfl, rfl⟩
  go_wp2_with fail
  refine (D.out _ (TP.out.below B2.out)).mono ?_
  rintro e w3 ⟨rfl, hb⟩
  have B3 := Lib.hid (B2.out.trans (hb.mono hs2))
  clear hb
  go_wp2
  go_ret
  exact ⟨rfl, B3.out⟩
set_option maxHeartbeats 4000000 in
set_option maxRecDepth 100000 in
theorem ll_n1 (vb kb : ByteArray) (h0 : vb ≠ ⟨#[99, 121, 99, 108, 105, 99]⟩) (h1 : vb ≠ ⟨#[108, 105, 110, 101, 97, 114]⟩) (h2 : vb ≠ ⟨#[115, 117, 109]⟩) (h3 : vb ≠ ⟨#[116, 105, 109, 101, 115]⟩) (hk : ∀ w, Calls Tryz.prog 47 #[.string vb] w fun e w' => e = .returned (.string kb) ∧ w = w') (ws : List ByteArray) (hl : ws.length ≤ 1000000) (hz : ∀ x ∈ ws, x.size ≤ 10000000) (hi : IxS L3 kb (1)) (ns : List Nat) (hn : NumsW ws ns) (hh : ns.length = 1) (r : ByteArray) (hc : ∀ v' w', Rd .u64 w' v' (nz ns) → Tp w' → Tb w' → Calls Tryz.prog 48 #[.string vb, v'] w' (RetV w' (.string r))) (v : Value) (w : World) (h : Rs w v ws) (hT : Tp w) (hTb : Tb w) :
    Calls Tryz.prog 18 #[.string vb, v] w (RetV w (.string (r))) := by
  have D := Lib.hid hc
  have TB := Lib.hid hTb
  clear hc hTb
  have q1 : ((ns.length : Int) == 1) = true := by rw [beq_iff_eq]; omega
  have q2 : (ns.length == 1) = true := by rw [beq_iff_eq]; omega
  clear hh
  have KI := Lib.hid hk
  have IX := Lib.hid hi
  have RR := Lib.hid h
  have HN := Lib.hid hn
  have HZ := Lib.hid hz
  have TP := Lib.hid hT
  have g0 : (vb.toList == [99, 121, 99, 108, 105, 99]) = false := lit_ne h0
  have g1 : (vb.toList == [108, 105, 110, 101, 97, 114]) = false := lit_ne h1
  have g2 : (vb.toList == [115, 117, 109]) = false := lit_ne h2
  have g3 : (vb.toList == [116, 105, 109, 101, 115]) = false := lit_ne h3
  clear h0 h1 h2 h3
  clear hk hi h hn hz hT
  go_enter Tryz.func18, Tryz.ntmps18
  go_wp2_with fail
  refine (rnums_ok ws ns HN.out _ _ RR.out hl HZ.out TP.out).mono ?_
  rintro e w1 ⟨v1, rfl, hr, hb⟩
  have B1 := Lib.hid hb
  have hs1 := hb.size
  have X1 := Lib.hid (hr.below ((Below.refl w1.heap.size w1).alloc (Nat.le_refl _) (.cells #[.string ⟨#[112, 108, 97, 110, 32, 115, 104, 97, 114, 101]⟩, .string ⟨#[105, 110, 118, 32, 114, 111, 111, 116]⟩, .string ⟨#[97, 100, 100, 32, 115, 117, 98, 32, 109, 117, 108, 32, 112, 111, 119]⟩] 9)))
  clear hr hb
  have B2 := Lib.hid (B1.out.alloc hs1 (.cells #[.string ⟨#[112, 108, 97, 110, 32, 115, 104, 97, 114, 101]⟩, .string ⟨#[105, 110, 118, 32, 114, 111, 111, 116]⟩, .string ⟨#[97, 100, 100, 32, 115, 117, 98, 32, 109, 117, 108, 32, 112, 111, 119]⟩] 9))
  have hs2 := B2.out.size
  have R3 := Lib.hid (show Rs (w1.alloc (.cells #[.string ⟨#[112, 108, 97, 110, 32, 115, 104, 97, 114, 101]⟩, .string ⟨#[105, 110, 118, 32, 114, 111, 111, 116]⟩, .string ⟨#[97, 100, 100, 32, 115, 117, 98, 32, 109, 117, 108, 32, 112, 111, 119]⟩] 9)) (.slice (some ⟨w1.heap.size, 0, none⟩) 3 3) L3 from Rs.litB w1 L3 9 3 rfl)
  obtain ⟨a1, c1, rfl, hc1, hm1⟩ := X1.out.shape
  rw [nz_len] at *
  go_wp2_with fail
  refine (KI.out _).mono ?_
  rintro e w' ⟨rfl, rfl⟩
  go_wp2_with fail
  refine (sidx_any L3 kb _ IX.out _ _ R3.out (by decide)).mono ?_
  rintro e w' ⟨rfl, rfl⟩
  go_wp2_with fail
  refine (D.out _ _ X1.out (TP.out.below B2.out) (TB.out.below B2.out)).mono ?_
  rintro e w3 ⟨rfl, hb⟩
  have B3 := Lib.hid (B2.out.trans (hb.mono hs2))
  clear hb
  go_wp2
  go_ret
  exact ⟨rfl, B3.out⟩
set_option maxHeartbeats 4000000 in
set_option maxRecDepth 100000 in
theorem ll_n2_bad (vb kb : ByteArray) (h0 : vb ≠ ⟨#[99, 121, 99, 108, 105, 99]⟩) (h1 : vb ≠ ⟨#[108, 105, 110, 101, 97, 114]⟩) (h2 : vb ≠ ⟨#[115, 117, 109]⟩) (h3 : vb ≠ ⟨#[116, 105, 109, 101, 115]⟩) (hk : ∀ w, Calls Tryz.prog 47 #[.string vb] w fun e w' => e = .returned (.string kb) ∧ w = w') (ws : List ByteArray) (hl : ws.length ≤ 1000000) (hz : ∀ x ∈ ws, x.size ≤ 10000000) (hi : IxS L3 kb (2)) (ns : List Nat) (hn : NumsW ws ns) (hh : ns.length ≠ 2) (v : Value) (w : World) (h : Rs w v ws) (hT : Tp w) :
    Calls Tryz.prog 18 #[.string vb, v] w (RetV w (.string (erB 3))) := by
  have D := Lib.hid (fun w hT => wrong_is 3 (by omega) (by omega) w hT)
  generalize erB 3 = r at *
  have q1 : ((ns.length : Int) == 2) = false := by rw [beq_eq_false_iff_ne]; omega
  have q2 : (ns.length == 2) = false := by rw [beq_eq_false_iff_ne]; omega
  clear hh
  have KI := Lib.hid hk
  have IX := Lib.hid hi
  have RR := Lib.hid h
  have HN := Lib.hid hn
  have HZ := Lib.hid hz
  have TP := Lib.hid hT
  have g0 : (vb.toList == [99, 121, 99, 108, 105, 99]) = false := lit_ne h0
  have g1 : (vb.toList == [108, 105, 110, 101, 97, 114]) = false := lit_ne h1
  have g2 : (vb.toList == [115, 117, 109]) = false := lit_ne h2
  have g3 : (vb.toList == [116, 105, 109, 101, 115]) = false := lit_ne h3
  clear h0 h1 h2 h3
  clear hk hi h hn hz hT
  go_enter Tryz.func18, Tryz.ntmps18
  go_wp2_with fail
  refine (rnums_ok ws ns HN.out _ _ RR.out hl HZ.out TP.out).mono ?_
  rintro e w1 ⟨v1, rfl, hr, hb⟩
  have B1 := Lib.hid hb
  have hs1 := hb.size
  have X1 := Lib.hid (hr.below ((Below.refl w1.heap.size w1).alloc (Nat.le_refl _) (.cells #[.string ⟨#[112, 108, 97, 110, 32, 115, 104, 97, 114, 101]⟩, .string ⟨#[105, 110, 118, 32, 114, 111, 111, 116]⟩, .string ⟨#[97, 100, 100, 32, 115, 117, 98, 32, 109, 117, 108, 32, 112, 111, 119]⟩] 9)))
  clear hr hb
  have B2 := Lib.hid (B1.out.alloc hs1 (.cells #[.string ⟨#[112, 108, 97, 110, 32, 115, 104, 97, 114, 101]⟩, .string ⟨#[105, 110, 118, 32, 114, 111, 111, 116]⟩, .string ⟨#[97, 100, 100, 32, 115, 117, 98, 32, 109, 117, 108, 32, 112, 111, 119]⟩] 9))
  have hs2 := B2.out.size
  have R3 := Lib.hid (show Rs (w1.alloc (.cells #[.string ⟨#[112, 108, 97, 110, 32, 115, 104, 97, 114, 101]⟩, .string ⟨#[105, 110, 118, 32, 114, 111, 111, 116]⟩, .string ⟨#[97, 100, 100, 32, 115, 117, 98, 32, 109, 117, 108, 32, 112, 111, 119]⟩] 9)) (.slice (some ⟨w1.heap.size, 0, none⟩) 3 3) L3 from Rs.litB w1 L3 9 3 rfl)
  obtain ⟨a1, c1, rfl, hc1, hm1⟩ := X1.out.shape
  rw [nz_len] at *
  go_wp2_with fail
  refine (KI.out _).mono ?_
  rintro e w' ⟨rfl, rfl⟩
  go_wp2_with fail
  refine (sidx_any L3 kb _ IX.out _ _ R3.out (by decide)).mono ?_
  rintro e w' ⟨rfl, rfl⟩
  go_wp2_with fail
  refine (D.out _ (TP.out.below B2.out)).mono ?_
  rintro e w3 ⟨rfl, hb⟩
  have B3 := Lib.hid (B2.out.trans (hb.mono hs2))
  clear hb
  go_wp2
  go_ret
  exact ⟨rfl, B3.out⟩
set_option maxHeartbeats 4000000 in
set_option maxRecDepth 100000 in
theorem ll_n2 (vb kb : ByteArray) (h0 : vb ≠ ⟨#[99, 121, 99, 108, 105, 99]⟩) (h1 : vb ≠ ⟨#[108, 105, 110, 101, 97, 114]⟩) (h2 : vb ≠ ⟨#[115, 117, 109]⟩) (h3 : vb ≠ ⟨#[116, 105, 109, 101, 115]⟩) (hk : ∀ w, Calls Tryz.prog 47 #[.string vb] w fun e w' => e = .returned (.string kb) ∧ w = w') (ws : List ByteArray) (hl : ws.length ≤ 1000000) (hz : ∀ x ∈ ws, x.size ≤ 10000000) (hi : IxS L3 kb (2)) (ns : List Nat) (hn : NumsW ws ns) (hh : ns.length = 2) (r : ByteArray) (hc : ∀ v' w', Rd .u64 w' v' (nz ns) → Tp w' → Tb w' → Calls Tryz.prog 48 #[.string vb, v'] w' (RetV w' (.string r))) (v : Value) (w : World) (h : Rs w v ws) (hT : Tp w) (hTb : Tb w) :
    Calls Tryz.prog 18 #[.string vb, v] w (RetV w (.string (r))) := by
  have D := Lib.hid hc
  have TB := Lib.hid hTb
  clear hc hTb
  have q1 : ((ns.length : Int) == 2) = true := by rw [beq_iff_eq]; omega
  have q2 : (ns.length == 2) = true := by rw [beq_iff_eq]; omega
  clear hh
  have KI := Lib.hid hk
  have IX := Lib.hid hi
  have RR := Lib.hid h
  have HN := Lib.hid hn
  have HZ := Lib.hid hz
  have TP := Lib.hid hT
  have g0 : (vb.toList == [99, 121, 99, 108, 105, 99]) = false := lit_ne h0
  have g1 : (vb.toList == [108, 105, 110, 101, 97, 114]) = false := lit_ne h1
  have g2 : (vb.toList == [115, 117, 109]) = false := lit_ne h2
  have g3 : (vb.toList == [116, 105, 109, 101, 115]) = false := lit_ne h3
  clear h0 h1 h2 h3
  clear hk hi h hn hz hT
  go_enter Tryz.func18, Tryz.ntmps18
  go_wp2_with fail
  refine (rnums_ok ws ns HN.out _ _ RR.out hl HZ.out TP.out).mono ?_
  rintro e w1 ⟨v1, rfl, hr, hb⟩
  have B1 := Lib.hid hb
  have hs1 := hb.size
  have X1 := Lib.hid (hr.below ((Below.refl w1.heap.size w1).alloc (Nat.le_refl _) (.cells #[.string ⟨#[112, 108, 97, 110, 32, 115, 104, 97, 114, 101]⟩, .string ⟨#[105, 110, 118, 32, 114, 111, 111, 116]⟩, .string ⟨#[97, 100, 100, 32, 115, 117, 98, 32, 109, 117, 108, 32, 112, 111, 119]⟩] 9)))
  clear hr hb
  have B2 := Lib.hid (B1.out.alloc hs1 (.cells #[.string ⟨#[112, 108, 97, 110, 32, 115, 104, 97, 114, 101]⟩, .string ⟨#[105, 110, 118, 32, 114, 111, 111, 116]⟩, .string ⟨#[97, 100, 100, 32, 115, 117, 98, 32, 109, 117, 108, 32, 112, 111, 119]⟩] 9))
  have hs2 := B2.out.size
  have R3 := Lib.hid (show Rs (w1.alloc (.cells #[.string ⟨#[112, 108, 97, 110, 32, 115, 104, 97, 114, 101]⟩, .string ⟨#[105, 110, 118, 32, 114, 111, 111, 116]⟩, .string ⟨#[97, 100, 100, 32, 115, 117, 98, 32, 109, 117, 108, 32, 112, 111, 119]⟩] 9)) (.slice (some ⟨w1.heap.size, 0, none⟩) 3 3) L3 from Rs.litB w1 L3 9 3 rfl)
  obtain ⟨a1, c1, rfl, hc1, hm1⟩ := X1.out.shape
  rw [nz_len] at *
  go_wp2_with fail
  refine (KI.out _).mono ?_
  rintro e w' ⟨rfl, rfl⟩
  go_wp2_with fail
  refine (sidx_any L3 kb _ IX.out _ _ R3.out (by decide)).mono ?_
  rintro e w' ⟨rfl, rfl⟩
  go_wp2_with fail
  refine (D.out _ _ X1.out (TP.out.below B2.out) (TB.out.below B2.out)).mono ?_
  rintro e w3 ⟨rfl, hb⟩
  have B3 := Lib.hid (B2.out.trans (hb.mono hs2))
  clear hb
  go_wp2
  go_ret
  exact ⟨rfl, B3.out⟩
end Go.Proofs.YtdhmmllpldjkbaaGreatDoor.Gm
