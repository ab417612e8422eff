/- ref Crew.Step: nothing is to be had; any step. (Printed by wip/mk_XCs.py.) -/
import Derived.Test.YtcakeenfkdhedaaDoorCsc
import Derived.Test.YtcakeenfkdhedaaDoorEw
namespace Go.Proofs.YtcakeenfkdhedaaDoor.Gm
open Go.RowKit
set_option linter.unusedVariables false
set_option maxHeartbeats 4000000 in
set_option maxRecDepth 100000 in
theorem cstep_none (c : Cw) (s : RS) (zs : List Int) (M : Nat → Prop) (w0 w : World) (a v : Nat) (h : CrAt w0 w M c false s) (hI : RI c.back c.ks zs c.W c.ll s) (hg : GL c.ks c.ll) (hzl : zs.length = pk c.ks) (hzb : B64 zs) (hw : W64 (zi (szs c.ks))) (X0 : RPs w0 c.vll c.ll) (XS : Rd .i64 w0 c.vsh (zi (szs c.ks))) (hW1 : 1 ≤ c.W) (hW8 : c.W ≤ 8) (hx : s.ph < c.ll.length) (ha : a < c.W) (hv : v < c.W) (hq : pg s.qs a = []) (hqv : pg s.qs v = []) :
    Calls Tryd.prog 21 #[.pointer (some ⟨c.R, 0, none⟩), pkv a v] w fun e w' => e = .returned (.int .i64 0) ∧ CrTo w0 M c (decide ((stX c.back c.ks c.W c.ll s a v).ph = c.ll.length)) (stX c.back c.ks c.W c.ll s a v) w w' := by
  have hal := (Below.refl w.heap.size w).alloc (Nat.le_refl _) (.cells #[.int .i64 a, .int .i64 v] 43)
  have HAL := Lib.hid hal
  have KB := Blk.new w 43 #[.int .i64 a, .int .i64 v]
  have TLW := Lib.hid (fun k hk => (h.elim fun _ h => h.elim fun _ h => h.elim fun _ h => (h.lo k hk).2 : k < w.heap.size))
  obtain ⟨va, vd, u, h⟩ := h
  obtain ⟨hha, hqc, hve, _, _, hqg⟩ := own_shape h.row
  obtain ⟨gq, rfl⟩ := hqg (by omega)
  have V0 := Lib.hid (h.bel' hal)
  have HI := Lib.hid hI
  have HG := Lib.hid hg
  have HX := Lib.hid hx
  have HA := Lib.hid ha
  have HV := Lib.hid hv
  have HVE := Lib.hid hve
  have X0 := Lib.hid X0
  have XS := Lib.hid XS
  have LLN := Lib.hid (RI.log_le hI hg)
  have hph3 : s.ph < 3 := by have := hg.shp.len3; rw [szs_len, ← hg.len] at this; omega
  obtain ⟨L, hL⟩ : ∃ L, s.left = L + 1 := ⟨s.left - 1, by have := (hI.pos hx).1; omega⟩
  have hL64 : L ≤ 63 := by have := (hI.pos hx).2; omega
  have HLF := Lib.hid hL
  have hst : stX c.back c.ks c.W c.ll s a v = s := by
    unfold stX; rw [if_neg (by rw [hq]; simp), if_neg (by rw [hqv]; simp)]
  rw [hst]
  have HQ := Lib.hid hq
  have HQV := Lib.hid hqv
  clear hst hzl hzb hw
  have c8 : (w.alloc (.cells #[.int .i64 a, .int .i64 v] 43)).cell? ⟨c.R, 8, none⟩ = some (.bool false) := (h.blk.alloc _).cell 8
  have c4 : (w.alloc (.cells #[.int .i64 a, .int .i64 v] 43)).cell? ⟨c.R, 4, none⟩ = some (.slice (some ⟨gq, 0, none⟩) c.W hqc) := by rw [← hve]; exact (h.blk.alloc _).cell 4
  have b0 : (w.alloc (.cells #[.int .i64 a, .int .i64 v] 43)).cell? ⟨w.heap.size, 0, none⟩ = some (.int .i64 a) := KB.cell 0
  have b1 : (w.alloc (.cells #[.int .i64 a, .int .i64 v] 43)).cell? ⟨w.heap.size, 1, none⟩ = some (.int .i64 v) := KB.cell 1
  have KB := Lib.hid KB
  have HSW := Lib.hid h.bel.size
  obtain ⟨R, hR⟩ : ∃ R, R = c.R := ⟨_, rfl⟩
  have HR := Lib.hid hR
  obtain ⟨W, hWe⟩ : ∃ W, W = c.W := ⟨_, rfl⟩
  have HWE := Lib.hid hWe
  obtain ⟨back, hbk⟩ : ∃ b, b = c.back := ⟨_, rfl⟩
  have HBK := Lib.hid hbk
  rw [← hR] at c8 c4 ⊢
  rw [← hWe] at c4 ha hv hW1 hW8
  clear h hal hve hL hR hWe hbk hI hg hx hq hqv
  have e1 : IntKind.i64.wrap ((W : Int) - 1) = (W : Int) - 1 := IntWalk.i64_in _ (by omega)
  unfold pkv
  go_enter Tryd.func21, Tryd.ntmps21
  go_wp2_with fail
  refine wp_region_N [1, 5, 12, 16] [8, 19] (fun w' => w'.cell? ⟨R, 4, none⟩ = some (.slice (some ⟨gq, 0, none⟩) W hqc) ∧ w'.cell? ⟨w.heap.size, 0, none⟩ = some (.int .i64 a) ∧ w'.cell? ⟨w.heap.size, 1, none⟩ = some (.int .i64 v)) (by kernel_rfl) ?_
  have hS : (w.alloc (.cells #[.int .i64 a, .int .i64 v] 43)).drew.cell? ⟨R, 4, none⟩ = some (.slice (some ⟨gq, 0, none⟩) W hqc) ∧ (w.alloc (.cells #[.int .i64 a, .int .i64 v] 43)).drew.cell? ⟨w.heap.size, 0, none⟩ = some (.int .i64 a) ∧ (w.alloc (.cells #[.int .i64 a, .int .i64 v] 43)).drew.cell? ⟨w.heap.size, 1, none⟩ = some (.int .i64 v) := ⟨c4, b0, b1⟩
  have VD := Lib.hid (V0.out.bel' (show Below (w.alloc (.cells #[.int .i64 a, .int .i64 v] 43)).heap.size (w.alloc (.cells #[.int .i64 a, .int .i64 v] 43)) (w.alloc (.cells #[.int .i64 a, .int .i64 v] 43)).drew from below_drewN (Below.refl _ _) 1))
  have KD := Lib.hid (KB.out.drew)
  have O1 := Lib.hid (show Only M w (w.alloc (.cells #[.int .i64 a, .int .i64 v] 43)).drew from ((Only.refl M w).alloc _).drew)
  clear c4 b0 b1 c8 V0 KB
  generalize (w.alloc (.cells #[.int .i64 a, .int .i64 v] 43)).drew = wd at *
  refine wpN_pure (i := 0) (v := ?_) rfl (by kernel_rfl) (by kernel_rfl) (by kernel_rfl) (by kernel_rfl) (fun _ _ _ h => h) (Or.inl ⟨by rfl, ?_⟩) (fun _ => hS) ?_
  rotate_left
  · ((intro w' hw'; (try dsimp only at hw'); go_simp) <;> with_reducible rfl)
  simp only [Act.put, List.setIfInBounds_toArray, List.set_cons_zero, List.set_cons_succ]
  refine wpN_read (i := 1) (v := ?_) rfl (by kernel_rfl) (by kernel_rfl) (by kernel_rfl) (by kernel_rfl) (by kernel_rfl) (fun _ _ _ h => h) (Or.inl ⟨by rfl, ?_⟩) hS ?_
  rotate_left
  · ((intro w' hw'; (try dsimp only at hw'); go_simp) <;> with_reducible rfl)
  simp only [Act.put, List.setIfInBounds_toArray, List.set_cons_zero, List.set_cons_succ]
  refine wpN_pure (i := 2) (v := ?_) rfl (by kernel_rfl) (by kernel_rfl) (by kernel_rfl) (by kernel_rfl) (fun _ _ _ h => h) (Or.inl ⟨by rfl, ?_⟩) (fun _ => hS) ?_
  rotate_left
  · ((intro w' hw'; (try dsimp only at hw'); go_simp) <;> with_reducible rfl)
  simp only [Act.put, List.setIfInBounds_toArray, List.set_cons_zero, List.set_cons_succ]
  refine wpN_pure (i := 3) (v := ?_) rfl (by kernel_rfl) (by kernel_rfl) (by kernel_rfl) (by kernel_rfl) (fun _ _ _ h => h) (Or.inl ⟨by rfl, ?_⟩) (fun _ => hS) ?_
  rotate_left
  · ((intro w' hw'; (try dsimp only at hw'); go_simp) <;> with_reducible rfl)
  simp only [Act.put, List.setIfInBounds_toArray, List.set_cons_zero, List.set_cons_succ]
  refine wpN_pure (i := 4) (v := ?_) rfl (by kernel_rfl) (by kernel_rfl) (by kernel_rfl) (by kernel_rfl) (fun _ _ _ h => h) (Or.inl ⟨by rfl, ?_⟩) (fun _ => hS) ?_
  rotate_left
  · ((intro w' hw'; (try dsimp only at hw'); go_simp) <;> with_reducible rfl)
  simp only [Act.put, List.setIfInBounds_toArray, List.set_cons_zero, List.set_cons_succ]
  refine wpN_read (i := 5) (v := ?_) rfl (by kernel_rfl) (by kernel_rfl) (by kernel_rfl) (by kernel_rfl) (by kernel_rfl) (fun _ _ _ h => h) (Or.inl ⟨by rfl, ?_⟩) hS ?_
  rotate_left
  · ((intro w' hw'; (try dsimp only at hw'); go_simp) <;> with_reducible rfl)
  simp only [Act.put, List.setIfInBounds_toArray, List.set_cons_zero, List.set_cons_succ]
  refine wpN_pure (i := 6) (v := ?_) rfl (by kernel_rfl) (by kernel_rfl) (by kernel_rfl) (by kernel_rfl) (fun _ _ _ h => h) (Or.inl ⟨by rfl, ?_⟩) (fun _ => hS) ?_
  rotate_left
  · ((intro w' hw'; (try dsimp only at hw'); go_simp) <;> with_reducible rfl)
  simp only [Act.put, List.setIfInBounds_toArray, List.set_cons_zero, List.set_cons_succ]
  refine wpN_pure (i := 7) (v := ?_) rfl (by kernel_rfl) (by kernel_rfl) (by kernel_rfl) (by kernel_rfl) (fun _ _ _ h => h) (Or.inl ⟨by rfl, ?_⟩) (fun _ => hS) ?_
  rotate_left
  · ((intro w' hw'; (try dsimp only at hw'); go_simp) <;> with_reducible rfl)
  simp only [Act.put, List.setIfInBounds_toArray, List.set_cons_zero, List.set_cons_succ]
  refine wpN_oneS (i := 8) rfl rfl (by kernel_rfl) (fun K hK => ?_)
  go_simp
  refine (in_yes a 0 _ _ (by omega) (by omega)).mono ?_
  rintro e w' ⟨rfl, rfl⟩
  refine ⟨hS, hK.out _ _ hS ?_⟩
  clear hK K
  refine wpN_pure (i := 9) (v := ?_) rfl (by kernel_rfl) (by kernel_rfl) (by kernel_rfl) (by kernel_rfl) (fun _ _ _ h => h) (Or.inl ⟨by rfl, ?_⟩) (fun _ => hS) ?_
  rotate_left
  · ((intro w' hw'; (try dsimp only at hw'); go_simp) <;> with_reducible rfl)
  simp only [Act.put, List.setIfInBounds_toArray, List.set_cons_zero, List.set_cons_succ]
  refine wpN_pure (i := 10) (v := ?_) rfl (by kernel_rfl) (by kernel_rfl) (by kernel_rfl) (by kernel_rfl) (fun _ _ _ h => h) (Or.inl ⟨by rfl, ?_⟩) (fun _ => hS) ?_
  rotate_left
  · ((intro w' hw'; (try dsimp only at hw'); go_simp) <;> with_reducible rfl)
  simp only [Act.put, List.setIfInBounds_toArray, List.set_cons_zero, List.set_cons_succ]
  refine wpN_pure (i := 11) (v := ?_) rfl (by kernel_rfl) (by kernel_rfl) (by kernel_rfl) (by kernel_rfl) (fun _ _ _ h => h) (Or.inl ⟨by rfl, ?_⟩) (fun _ => hS) ?_
  rotate_left
  · ((intro w' hw'; (try dsimp only at hw'); go_simp) <;> with_reducible rfl)
  simp only [Act.put, List.setIfInBounds_toArray, List.set_cons_zero, List.set_cons_succ]
  refine wpN_read (i := 12) (v := ?_) rfl (by kernel_rfl) (by kernel_rfl) (by kernel_rfl) (by kernel_rfl) (by kernel_rfl) (fun _ _ _ h => h) (Or.inl ⟨by rfl, ?_⟩) hS ?_
  rotate_left
  · ((intro w' hw'; (try dsimp only at hw'); go_simp) <;> with_reducible rfl)
  simp only [Act.put, List.setIfInBounds_toArray, List.set_cons_zero, List.set_cons_succ]
  refine wpN_pure (i := 13) (v := ?_) rfl (by kernel_rfl) (by kernel_rfl) (by kernel_rfl) (by kernel_rfl) (fun _ _ _ h => h) (Or.inl ⟨by rfl, ?_⟩) (fun _ => hS) ?_
  rotate_left
  · ((intro w' hw'; (try dsimp only at hw'); go_simp) <;> with_reducible rfl)
  simp only [Act.put, List.setIfInBounds_toArray, List.set_cons_zero, List.set_cons_succ]
  refine wpN_pure (i := 14) (v := ?_) rfl (by kernel_rfl) (by kernel_rfl) (by kernel_rfl) (by kernel_rfl) (fun _ _ _ h => h) (Or.inl ⟨by rfl, ?_⟩) (fun _ => hS) ?_
  rotate_left
  · ((intro w' hw'; (try dsimp only at hw'); go_simp) <;> with_reducible rfl)
  simp only [Act.put, List.setIfInBounds_toArray, List.set_cons_zero, List.set_cons_succ]
  refine wpN_pure (i := 15) (v := ?_) rfl (by kernel_rfl) (by kernel_rfl) (by kernel_rfl) (by kernel_rfl) (fun _ _ _ h => h) (Or.inl ⟨by rfl, ?_⟩) (fun _ => hS) ?_
  rotate_left
  · ((intro w' hw'; (try dsimp only at hw'); go_simp) <;> with_reducible rfl)
  simp only [Act.put, List.setIfInBounds_toArray, List.set_cons_zero, List.set_cons_succ]
  refine wpN_read (i := 16) (v := ?_) rfl (by kernel_rfl) (by kernel_rfl) (by kernel_rfl) (by kernel_rfl) (by kernel_rfl) (fun _ _ _ h => h) (Or.inl ⟨by rfl, ?_⟩) hS ?_
  rotate_left
  · ((intro w' hw'; (try dsimp only at hw'); go_simp) <;> with_reducible rfl)
  simp only [Act.put, List.setIfInBounds_toArray, List.set_cons_zero, List.set_cons_succ]
  refine wpN_pure (i := 17) (v := ?_) rfl (by kernel_rfl) (by kernel_rfl) (by kernel_rfl) (by kernel_rfl) (fun _ _ _ h => h) (Or.inl ⟨by rfl, ?_⟩) (fun _ => hS) ?_
  rotate_left
  · ((intro w' hw'; (try dsimp only at hw'); go_simp) <;> with_reducible rfl)
  simp only [Act.put, List.setIfInBounds_toArray, List.set_cons_zero, List.set_cons_succ]
  refine wpN_pure (i := 18) (v := ?_) rfl (by kernel_rfl) (by kernel_rfl) (by kernel_rfl) (by kernel_rfl) (fun _ _ _ h => h) (Or.inl ⟨by rfl, ?_⟩) (fun _ => hS) ?_
  rotate_left
  · ((intro w' hw'; (try dsimp only at hw'); go_simp) <;> with_reducible rfl)
  simp only [Act.put, List.setIfInBounds_toArray, List.set_cons_zero, List.set_cons_succ]
  refine wpN_oneG (i := 19) rfl (by rfl) (by kernel_rfl) (by kernel_rfl) (fun K hK => ?_)
  go_simp
  refine (in_yes v 0 _ _ (by omega) (by omega)).mono ?_
  rintro e w' ⟨rfl, rfl⟩
  refine hK.out _ _ ?_
  clear hK K
  refine wpN_pure (i := 20) (v := ?_) rfl (by kernel_rfl) (by kernel_rfl) (by kernel_rfl) (by kernel_rfl) (fun _ _ _ h => h) (Or.inl ⟨by rfl, ?_⟩) (fun h => Bool.noConfusion (h.symm.trans (show _ = false by kernel_rfl))) ?_
  rotate_left
  · ((intro w' hw'; (try dsimp only at hw'); go_simp) <;> with_reducible rfl)
  simp only [Act.put, List.setIfInBounds_toArray, List.set_cons_zero, List.set_cons_succ]
  refine wpN_pure (i := 21) (v := ?_) rfl (by kernel_rfl) (by kernel_rfl) (by kernel_rfl) (by kernel_rfl) (fun _ _ _ h => h) (Or.inl ⟨by rfl, ?_⟩) (fun h => Bool.noConfusion (h.symm.trans (show _ = false by kernel_rfl))) ?_
  rotate_left
  · ((intro w' hw'; (try dsimp only at hw'); go_simp) <;> with_reducible rfl)
  simp only [Act.put, List.setIfInBounds_toArray, List.set_cons_zero, List.set_cons_succ]
  refine wpN_done (by kernel_rfl) ?_
  have HS := Lib.hid hS
  clear hS
  go_wp2_with fail
  obtain ⟨bt, hbt⟩ : ∃ b, b = wd.heap.size := ⟨_, rfl⟩
  have KT := Lib.hid (show Blk (wd.alloc (.cells #[.int .i64 0, .int .i64 0, .int .i64 0] 56)).drew bt 56 #[.int .i64 0, .int .i64 0, .int .i64 0] from by rw [hbt]; exact (Blk.new wd 56 #[.int .i64 0, .int .i64 0, .int .i64 0]).drew)
  have HBT := Lib.hid hbt
  have hwd : w.heap.size ≤ wd.heap.size := O1.out.size
  have HWD := Lib.hid (show w.heap.size ≤ bt by omega)
  have hbl2 : Below wd.heap.size wd (wd.alloc (.cells #[.int .i64 0, .int .i64 0, .int .i64 0] 56)).drew := below_drewN ((Below.refl wd.heap.size wd).alloc (Nat.le_refl _) (.cells #[.int .i64 0, .int .i64 0, .int .i64 0] 56)) 1
  have V2 := Lib.hid (VD.out.bel' hbl2)
  have O2 := Lib.hid (show Only M w (wd.alloc (.cells #[.int .i64 0, .int .i64 0, .int .i64 0] 56)).drew from (O1.out.alloc _).drew)
  have KP2 := Lib.hid (KD.out.below hbl2 KD.out.lt)
  clear VD O1 KD hbl2 hbt hwd HS
  obtain ⟨hau, hau2⟩ := V2.out.hand a HA.out
  obtain ⟨ua, uc, hue, huc, hum, hug⟩ := own_shape hau
  obtain ⟨hav, hav2⟩ := V2.out.hand v HV.out
  obtain ⟨va', vc, hve2, hvc, hvm, hvg⟩ := own_shape hav
  obtain ⟨un, hun⟩ : ∃ n, n = (pg s.qs a).length := ⟨_, rfl⟩
  obtain ⟨vn, hvn⟩ : ∃ n, n = (pg s.qs v).length := ⟨_, rfl⟩
  rw [← hun] at hue huc hug
  rw [← hvn] at hve2 hvc hvg
  have HUN := Lib.hid hun
  have HVN := Lib.hid hvn
  have HUE := Lib.hid hue
  have HUC := Lib.hid huc
  have HVC := Lib.hid hvc
  have HVE2 := Lib.hid hve2
  have hrow := V2.out.row
  rw [HVE.out] at hrow
  have ca := World.ownsRow.cellAt hrow a (by rw [Nat.mul_one]; exact HA.out)
  have cv := World.ownsRow.cellAt hrow v (by rw [Nat.mul_one]; exact HV.out)
  rw [get_u _ HA.out, hue] at ca
  rw [get_u _ HV.out, hve2] at cv
  have b0 := KP2.out.cell 0
  have b1 := KP2.out.cell 1
  have c4 : (wd.alloc (.cells #[.int .i64 0, .int .i64 0, .int .i64 0] 56)).drew.cell? ⟨R, 4, none⟩ = some (.slice (some ⟨gq, 0, none⟩) W hqc) := by rw [HR.out, HWE.out, ← HVE.out]; exact V2.out.blk.cell 4
  obtain rfl : un = 0 := by rw [HUN.out, HQ.out]; rfl
  obtain rfl : vn = 0 := by rw [HVN.out, HQV.out]; rfl
  clear hrow hau hav hue hve2 hun hvn hau2 hav2
  rw [← HBT.out]
  refine wp_region_N [3, 5, 7, 11, 13, 15] [] (fun w' => w'.cell? ⟨R, 4, none⟩ = some (.slice (some ⟨gq, 0, none⟩) W hqc) ∧ w'.cell? ⟨w.heap.size, 0, none⟩ = some (.int .i64 a) ∧ w'.cell? ⟨w.heap.size, 1, none⟩ = some (.int .i64 v) ∧ w'.cell? ⟨gq, a, none⟩ = some (.slice ua 0 uc) ∧ w'.cell? ⟨gq, v, none⟩ = some (.slice va' 0 vc)) (by kernel_rfl) ?_
  have hS : (wd.alloc (.cells #[.int .i64 0, .int .i64 0, .int .i64 0] 56)).drew.cell? ⟨R, 4, none⟩ = some (.slice (some ⟨gq, 0, none⟩) W hqc) ∧ (wd.alloc (.cells #[.int .i64 0, .int .i64 0, .int .i64 0] 56)).drew.cell? ⟨w.heap.size, 0, none⟩ = some (.int .i64 a) ∧ (wd.alloc (.cells #[.int .i64 0, .int .i64 0, .int .i64 0] 56)).drew.cell? ⟨w.heap.size, 1, none⟩ = some (.int .i64 v) ∧ (wd.alloc (.cells #[.int .i64 0, .int .i64 0, .int .i64 0] 56)).drew.cell? ⟨gq, a, none⟩ = some (.slice ua 0 uc) ∧ (wd.alloc (.cells #[.int .i64 0, .int .i64 0, .int .i64 0] 56)).drew.cell? ⟨gq, v, none⟩ = some (.slice va' 0 vc) := ⟨c4, b0, b1, ca, cv⟩
  clear c4 b0 b1 ca cv
  generalize (wd.alloc (.cells #[.int .i64 0, .int .i64 0, .int .i64 0] 56)).drew = w2 at *
  refine wpN_pure (i := 0) (v := ?_) rfl (by kernel_rfl) (by kernel_rfl) (by kernel_rfl) (by kernel_rfl) (fun _ _ _ h => h) (Or.inl ⟨by rfl, ?_⟩) (fun _ => hS) ?_
  rotate_left
  · ((intro w' hw'; (try dsimp only at hw'); go_simp) <;> with_reducible rfl)
  simp only [Act.put, List.setIfInBounds_toArray, List.set_cons_zero, List.set_cons_succ]
  refine wpN_pure (i := 1) (v := ?_) rfl (by kernel_rfl) (by kernel_rfl) (by kernel_rfl) (by kernel_rfl) (fun _ _ _ h => h) (Or.inl ⟨by rfl, ?_⟩) (fun _ => hS) ?_
  rotate_left
  · ((intro w' hw'; (try dsimp only at hw'); go_simp) <;> with_reducible rfl)
  simp only [Act.put, List.setIfInBounds_toArray, List.set_cons_zero, List.set_cons_succ]
  refine wpN_pure (i := 2) (v := ?_) rfl (by kernel_rfl) (by kernel_rfl) (by kernel_rfl) (by kernel_rfl) (fun _ _ _ h => h) (Or.inl ⟨by rfl, ?_⟩) (fun _ => hS) ?_
  rotate_left
  · ((intro w' hw'; (try dsimp only at hw'); go_simp) <;> with_reducible rfl)
  simp only [Act.put, List.setIfInBounds_toArray, List.set_cons_zero, List.set_cons_succ]
  refine wpN_read (i := 3) (v := ?_) rfl (by kernel_rfl) (by kernel_rfl) (by kernel_rfl) (by kernel_rfl) (by kernel_rfl) (fun _ _ _ h => h) (Or.inl ⟨by rfl, ?_⟩) hS ?_
  rotate_left
  · ((intro w' hw'; (try dsimp only at hw'); go_simp) <;> with_reducible rfl)
  simp only [Act.put, List.setIfInBounds_toArray, List.set_cons_zero, List.set_cons_succ]
  refine wpN_pure (i := 4) (v := ?_) rfl (by kernel_rfl) (by kernel_rfl) (by kernel_rfl) (by kernel_rfl) (fun _ _ _ h => h) (Or.inl ⟨by rfl, ?_⟩) (fun _ => hS) ?_
  rotate_left
  · ((intro w' hw'; (try dsimp only at hw'); go_simp) <;> with_reducible rfl)
  simp only [Act.put, List.setIfInBounds_toArray, List.set_cons_zero, List.set_cons_succ]
  refine wpN_read (i := 5) (v := ?_) rfl (by kernel_rfl) (by kernel_rfl) (by kernel_rfl) (by kernel_rfl) (by kernel_rfl) (fun _ _ _ h => h) (Or.inl ⟨by rfl, ?_⟩) hS ?_
  rotate_left
  · ((intro w' hw'; (try dsimp only at hw'); go_simp) <;> with_reducible rfl)
  simp only [Act.put, List.setIfInBounds_toArray, List.set_cons_zero, List.set_cons_succ]
  refine wpN_pure (i := 6) (v := ?_) rfl (by kernel_rfl) (by kernel_rfl) (by kernel_rfl) (by kernel_rfl) (fun _ _ _ h => h) (Or.inl ⟨by rfl, ?_⟩) (fun _ => hS) ?_
  rotate_left
  · ((intro w' hw'; (try dsimp only at hw'); go_simp) <;> with_reducible rfl)
  simp only [Act.put, List.setIfInBounds_toArray, List.set_cons_zero, List.set_cons_succ]
  refine wpN_read (i := 7) (v := ?_) rfl (by kernel_rfl) (by kernel_rfl) (by kernel_rfl) (by kernel_rfl) (by kernel_rfl) (fun _ _ _ h => h) (Or.inl ⟨by rfl, ?_⟩) hS ?_
  rotate_left
  · ((intro w' hw'; (try dsimp only at hw'); go_simp) <;> with_reducible rfl)
  simp only [Act.put, List.setIfInBounds_toArray, List.set_cons_zero, List.set_cons_succ]
  refine wpN_pure (i := 8) (v := ?_) rfl (by kernel_rfl) (by kernel_rfl) (by kernel_rfl) (by kernel_rfl) (fun _ _ _ h => h) (Or.inl ⟨by rfl, ?_⟩) (fun _ => hS) ?_
  rotate_left
  · ((intro w' hw'; (try dsimp only at hw'); go_simp) <;> with_reducible rfl)
  simp only [Act.put, List.setIfInBounds_toArray, List.set_cons_zero, List.set_cons_succ]
  refine wpN_pure (i := 9) (v := ?_) rfl (by kernel_rfl) (by kernel_rfl) (by kernel_rfl) (by kernel_rfl) (fun _ _ _ h => h) (Or.inl ⟨by rfl, ?_⟩) (fun _ => hS) ?_
  rotate_left
  · ((intro w' hw'; (try dsimp only at hw'); go_simp) <;> with_reducible rfl)
  simp only [Act.put, List.setIfInBounds_toArray, List.set_cons_zero, List.set_cons_succ]
  refine wpN_pure (i := 10) (v := ?_) rfl (by kernel_rfl) (by kernel_rfl) (by kernel_rfl) (by kernel_rfl) (fun _ _ _ h => h) (Or.inl ⟨by rfl, ?_⟩) (fun _ => hS) ?_
  rotate_left
  · ((intro w' hw'; (try dsimp only at hw'); go_simp) <;> with_reducible rfl)
  simp only [Act.put, List.setIfInBounds_toArray, List.set_cons_zero, List.set_cons_succ]
  refine wpN_read (i := 11) (v := ?_) rfl (by kernel_rfl) (by kernel_rfl) (by kernel_rfl) (by kernel_rfl) (by kernel_rfl) (fun _ _ _ h => h) (Or.inl ⟨by rfl, ?_⟩) hS ?_
  rotate_left
  · ((intro w' hw'; (try dsimp only at hw'); go_simp) <;> with_reducible rfl)
  simp only [Act.put, List.setIfInBounds_toArray, List.set_cons_zero, List.set_cons_succ]
  refine wpN_pure (i := 12) (v := ?_) rfl (by kernel_rfl) (by kernel_rfl) (by kernel_rfl) (by kernel_rfl) (fun _ _ _ h => h) (Or.inl ⟨by rfl, ?_⟩) (fun _ => hS) ?_
  rotate_left
  · ((intro w' hw'; (try dsimp only at hw'); go_simp) <;> with_reducible rfl)
  simp only [Act.put, List.setIfInBounds_toArray, List.set_cons_zero, List.set_cons_succ]
  refine wpN_read (i := 13) (v := ?_) rfl (by kernel_rfl) (by kernel_rfl) (by kernel_rfl) (by kernel_rfl) (by kernel_rfl) (fun _ _ _ h => h) (Or.inl ⟨by rfl, ?_⟩) hS ?_
  rotate_left
  · ((intro w' hw'; (try dsimp only at hw'); go_simp) <;> with_reducible rfl)
  simp only [Act.put, List.setIfInBounds_toArray, List.set_cons_zero, List.set_cons_succ]
  refine wpN_pure (i := 14) (v := ?_) rfl (by kernel_rfl) (by kernel_rfl) (by kernel_rfl) (by kernel_rfl) (fun _ _ _ h => h) (Or.inl ⟨by rfl, ?_⟩) (fun _ => hS) ?_
  rotate_left
  · ((intro w' hw'; (try dsimp only at hw'); go_simp) <;> with_reducible rfl)
  simp only [Act.put, List.setIfInBounds_toArray, List.set_cons_zero, List.set_cons_succ]
  refine wpN_read (i := 15) (v := ?_) rfl (by kernel_rfl) (by kernel_rfl) (by kernel_rfl) (by kernel_rfl) (by kernel_rfl) (fun _ _ _ h => h) (Or.inl ⟨by rfl, ?_⟩) hS ?_
  rotate_left
  · ((intro w' hw'; (try dsimp only at hw'); go_simp) <;> with_reducible rfl)
  simp only [Act.put, List.setIfInBounds_toArray, List.set_cons_zero, List.set_cons_succ]
  refine wpN_pure (i := 16) (v := ?_) rfl (by kernel_rfl) (by kernel_rfl) (by kernel_rfl) (by kernel_rfl) (fun _ _ _ h => h) (Or.inl ⟨by rfl, ?_⟩) (fun _ => hS) ?_
  rotate_left
  · ((intro w' hw'; (try dsimp only at hw'); go_simp) <;> with_reducible rfl)
  simp only [Act.put, List.setIfInBounds_toArray, List.set_cons_zero, List.set_cons_succ]
  refine wpN_pure (i := 17) (v := ?_) rfl (by kernel_rfl) (by kernel_rfl) (by kernel_rfl) (by kernel_rfl) (fun _ _ _ h => h) (Or.inl ⟨by rfl, ?_⟩) (fun _ => hS) ?_
  rotate_left
  · ((intro w' hw'; (try dsimp only at hw'); go_simp) <;> with_reducible rfl)
  simp only [Act.put, List.setIfInBounds_toArray, List.set_cons_zero, List.set_cons_succ]
  refine wpN_done (by kernel_rfl) ?_
  obtain ⟨c4, b0, b1, ca, cv⟩ := hS

  go_wp2
  go_ret
  refine ⟨rfl, M, ?_, O2.out, fun k h => .inl h⟩
  rw [show decide (s.ph = c.ll.length) = false from decide_eq_false (by have := HX.out; omega)]
  exact ⟨_, _, _, V2.out⟩
/-- any step of a crew -/
theorem cstep_any (c : Cw) (s : RS) (zs : List Int) (M : Nat → Prop) (w0 w : World) (p : Int × Int) (h : CrAt w0 w M c (decide (s.ph = c.ll.length)) s) (hI : RI c.back c.ks zs c.W c.ll s) (hg : GL c.ks c.ll) (hzl : zs.length = pk c.ks) (hzb : B64 zs) (hw : W64 (zi (szs c.ks))) (X0 : RPs w0 c.vll c.ll) (XS : Rd .i64 w0 c.vsh (zi (szs c.ks))) (hW1 : 1 ≤ c.W) (hW8 : c.W ≤ 8) :
    Calls Tryd.prog 21 #[.pointer (some ⟨c.R, 0, none⟩), pkv p.1 p.2] w fun e w' => e = .returned (.int .i64 (stXE c.W c.ll s p)) ∧ CrTo w0 M c (decide ((stXP c.back c.ks c.W c.ll s p).ph = c.ll.length)) (stXP c.back c.ks c.W c.ll s p) w w' := by
  have key : ∀ {fin : Bool} {w' : World}, CrAt w0 w M c fin s → Below w.heap.size w w' → CrTo w0 M c fin s w w' := by
    intro fin w' h hb
    obtain ⟨va, vd, u, h⟩ := h
    exact ⟨M, ⟨va, vd, u, h.bel' hb⟩, Only.of_below hb (fun k hk hk' => by omega), fun k hk => .inl hk⟩
  by_cases hx : s.ph = c.ll.length
  · have e1 : stXE c.W c.ll s p = 6 := by unfold stXE; rw [if_pos hx]
    have e2 : stXP c.back c.ks c.W c.ll s p = s := by unfold stXP; rw [if_neg (by rw [hx]; exact fun h => absurd h.1 (Nat.lt_irrefl _))]
    have h' := h
    rw [decide_eq_true hx] at h'
    rw [e1, e2]
    exact (cstep_fin c s M w0 w p.1 p.2 h').mono fun e w' q => ⟨q.1, key h q.2⟩
  · have hx2 : s.ph < c.ll.length := by have := hI.ph; omega
    have h' := h
    rw [decide_eq_false hx] at h'
    by_cases hb : 0 ≤ p.1 ∧ p.1 < (c.W : Int) ∧ 0 ≤ p.2 ∧ p.2 < (c.W : Int)
    · have e1 : stXE c.W c.ll s p = 0 := by unfold stXE; rw [if_neg hx, if_pos hb]
      have e2 : stXP c.back c.ks c.W c.ll s p = stX c.back c.ks c.W c.ll s p.1.toNat p.2.toNat := by unfold stXP; rw [if_pos ⟨hx2, hb⟩]
      rw [e1, e2]
      obtain ⟨p1, p2⟩ := p
      simp only at hb ⊢
      obtain ⟨a, rfl⟩ := Int.eq_ofNat_of_zero_le hb.1
      obtain ⟨v, rfl⟩ := Int.eq_ofNat_of_zero_le hb.2.2.1
      simp only [Int.toNat_natCast]
      have ha : a < c.W := by omega
      have hv : v < c.W := by omega
      by_cases hq : 0 < (pg s.qs a).length
      · exact cstep_pop c s zs M w0 w a v h' hI hg hzl hzb hw X0 XS hW1 hW8 hx2 ha hv hq
      · have hq : pg s.qs a = [] := List.length_eq_zero_iff.1 (by omega)
        by_cases hqv : 0 < (pg s.qs v).length
        · exact cstep_steal c s zs M w0 w a v h' hI hg hzl hzb hw X0 XS hW1 hW8 hx2 ha hv hq hqv
        · have hqv : pg s.qs v = [] := List.length_eq_zero_iff.1 (by omega)
          exact cstep_none c s zs M w0 w a v h' hI hg hzl hzb hw X0 XS hW1 hW8 hx2 ha hv hq hqv
    · have e1 : stXE c.W c.ll s p = 1 := by unfold stXE; rw [if_neg hx, if_neg hb]
      have e2 : stXP c.back c.ks c.W c.ll s p = s := by unfold stXP; rw [if_neg (fun h => hb h.2)]
      rw [e1, e2]
      exact (cstep_bad c s M w0 w p.1 p.2 h' hW8 hb).mono fun e w' q => ⟨q.1, key h q.2⟩
end Go.Proofs.YtcakeenfkdhedaaDoor.Gm
