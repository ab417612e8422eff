/- A run's step: a task is popped. (Printed by wip/mk_XEs.py.) -/
import Derived.Test.YtcakeenfkdhedaaDoorEt
import Derived.Test.YtcakeenfkdhedaaDoorRh
namespace Go.Proofs.YtcakeenfkdhedaaDoor.Gm
open Go.RowKit
set_option linter.unusedVariables false
def PopTo (D G : Nat) (x y z : Int) (q : List T3) (W : World) (e : Ending) (W' : World) : Prop := e = .returned (.tuple #[.agg #[.int .i64 x, .int .i64 y, .int .i64 z], .bool true]) ∧ DqAt W' D G 64 q ∧ Only (fun k => k = D ∨ k = G) W W'
set_option maxHeartbeats 4000000 in
set_option maxRecDepth 100000 in
theorem xstep_pop (r : Rn) (s : RS) (zs : List Int) (C M : Nat → Prop) (w : World) (a v : Nat) (h : RunAt w C M r s) (hI : RI r.back r.ks zs r.W r.ll s) (hg : GL r.ks r.ll) (hzl : zs.length = pk r.ks) (hzb : B64 zs) (hw : W64 (zi (szs r.ks))) (hT : Tb w) (hMT : ¬ M 3) (hW1 : 1 ≤ r.W) (hW8 : r.W ≤ 8) (hx : s.ph < r.ll.length) (ha : a < r.W) (hv : v < r.W) (hq : 0 < (pg s.qs a).length) :
    Calls Tryd.prog 20 #[.pointer (some ⟨r.R, 0, none⟩), pkv a v] w fun e w' => e = .returned (.int .i64 0) ∧ RunTo C M r (stX r.back r.ks r.W r.ll s a v) w w' := by
  have hal := (Below.refl w.heap.size w).alloc (Nat.le_refl _) (.cells #[.int .i64 a, .int .i64 v] 43)
  have CC := Lib.hid (xdone_any r s C M _ (h.bel hal))
  rw [decide_eq_false (by omega)] at CC
  have HAL := Lib.hid hal
  obtain ⟨var, vlog, h⟩ := h
  obtain ⟨qa, qc, qe, hqc, _, hqg⟩ := own_shape h.dq
  obtain ⟨gq, rfl⟩ := hqg (by omega)
  have c4 : (w.alloc (.cells #[.int .i64 a, .int .i64 v] 43)).cell? ⟨r.R, 4, none⟩ = some (.slice (some ⟨gq, 0, none⟩) r.W qc) := by rw [← qe]; exact (h.run.alloc _).cell 4
  have V0 := Lib.hid (h.bel hal)
  have T0 := Lib.hid (hT.below hal)
  have KB := Lib.hid (Blk.new w 43 #[.int .i64 a, .int .i64 v])
  have HI := Lib.hid hI
  have HG := Lib.hid hg
  have HX := Lib.hid hx
  have HA := Lib.hid ha
  have HV := Lib.hid hv
  have HQE := Lib.hid qe
  have HLT := Lib.hid h.lt
  have HMT := Lib.hid hMT
  have LLN := Lib.hid (RI.log_le hI hg)
  have hph3 : s.ph < 3 := by have := hg.shp.len3; rw [szs_len, ← hg.len] at this; omega
  obtain ⟨L, hL⟩ : ∃ L, s.left = L + 1 := ⟨s.left - 1, by have := (hI.pos hx).1; omega⟩
  have hL64 : L ≤ 63 := by have := (hI.pos hx).2; omega
  have HLF := Lib.hid hL
  have hq0 : 0 < (pg s.qs a).length := hq
  obtain ⟨x, y, z, ht⟩ : ∃ x y z, (x, y, z) = tg (pg s.qs a) ((pg s.qs a).length - 1) := ⟨_, _, _, rfl⟩
  obtain ⟨q, hqq⟩ : ∃ q, q = (pg s.qs a).take ((pg s.qs a).length - 1) := ⟨_, rfl⟩
  obtain ⟨qs', hqs⟩ : ∃ qs', qs' = s.qs.set a q := ⟨_, rfl⟩
  have hpm := pop_perm (qs := s.qs) (a := a) (by rw [hI.w]; exact ha) hq
  rw [← ht, ← hqq, ← hqs] at hpm
  have hst : stX r.back r.ks r.W r.ll s a v = fin1 r.W r.ll s (doT r.back r.ks s.ar (x, y, z)) (x, y, z) qs' := by
    unfold stX; rw [if_pos hq, ← ht, ← hqq, ← hqs]
  have HQS := Lib.hid hqs
  have HPM := Lib.hid hpm
  have HQL := Lib.hid (show qs'.length = r.W by rw [hqs, List.length_set]; exact hI.w)
  obtain ⟨A', hA⟩ : ∃ A', A' = doT r.back r.ks s.ar (x, y, z) := ⟨_, rfl⟩
  have CDO := Lib.hid (fun W' vv vv2 h1 h2 h3 => (show Calls Tryd.prog 43 #[vv, vv2, .agg #[.int .i64 x, .int .i64 y, .int .i64 z], .bool r.back] W' (RetZE W' A' 0) by
    have := xdo_any r.back r.ks zs s.ar r.ll.length s.ph s.qs.flatten qs'.flatten x y z hg.shp hzl hzb hw (by rw [← hg.len]; exact hx) hx hI.ar (hI.ok hx) hpm vv vv2 W' h1 h2 h3
    rw [← hA] at this
    exact this))
  rw [hst, ← hA]
  have HTT := Lib.hid ht
  have HQQ := Lib.hid hqq
  have HQ := Lib.hid hq
  clear hst hpm hqs hA ht hqq hq0 hzl hzb hw
  obtain ⟨R, hR⟩ : ∃ R, R = r.R := ⟨_, rfl⟩
  have HR := Lib.hid hR
  obtain ⟨W, hWe⟩ : ∃ W, W = r.W := ⟨_, rfl⟩
  have HWE := Lib.hid hWe
  obtain ⟨back, hbk⟩ : ∃ b, b = r.back := ⟨_, rfl⟩
  have HBK := Lib.hid hbk
  rw [← hR] at CC c4 ⊢
  rw [← hWe] at c4 ha hv hW1 hW8 hqc ⊢
  rw [← hbk] at CDO
  clear hL h hal qe hR hWe hbk hT hI hg hx hMT hq
  unfold pkv
  go_enter Tryd.func20, Tryd.ntmps20
  go_wp2_with fail
  refine CC.out.mono ?_
  rintro e w1 ⟨rfl, hb⟩
  obtain ⟨bp, hbp⟩ : ∃ b, b = w.heap.size := ⟨_, rfl⟩
  rw [← hbp] at KB ⊢
  have K1 := KB.out.below hb (by rw [hbp]; simp)
  have KP1 := Lib.hid K1
  have b0 : w1.cell? ⟨bp, 0, none⟩ = some (.int .i64 a) := K1.cell 0
  have b1 : w1.cell? ⟨bp, 1, none⟩ = some (.int .i64 v) := K1.cell 1
  have V1 := Lib.hid (V0.out.bel hb)
  have T1 := Lib.hid (T0.out.below hb)
  have HB := Lib.hid (show Only (fun _ => False) w w1 from Only.of_below (HAL.out.trans (hb.mono (by simp))) (fun k hk hk' => by omega))
  have HBP := Lib.hid hbp
  clear K1 hb c4 hbp KB V0 T0 CC HAL
  have c4 : w1.cell? ⟨R, 4, none⟩ = some (.slice (some ⟨gq, 0, none⟩) W qc) := by rw [HR.out, HWE.out, ← HQE.out]; exact V1.out.run.cell 4
  have hdq := V1.out.dq
  rw [HQE.out] at hdq
  have cp : w1.cell? ⟨gq, a, none⟩ = some (.pointer (some ⟨r.D a, 0, none⟩)) := by
    rw [World.ownsRow.cellAt hdq a (by rw [Nat.mul_one]; exact HA.out), get_ptrs r.D HA.out]
  clear hdq
  have g1 : decide ((a : Int) < 0) = false := decide_eq_false (by omega)
  have g2 : decide ((W : Int) ≤ (a : Int)) = false := decide_eq_false (by omega)
  have g2' : decide (W ≤ a) = false := decide_eq_false (by omega)
  have g3 : decide ((v : Int) < 0) = false := decide_eq_false (by omega)
  have g4 : decide ((W : Int) ≤ (v : Int)) = false := decide_eq_false (by omega)
  have g4' : decide (W ≤ v) = false := decide_eq_false (by omega)
  obtain ⟨D, hD⟩ : ∃ D, D = r.D a := ⟨_, rfl⟩
  obtain ⟨G, hG⟩ : ∃ G, G = r.G a := ⟨_, rfl⟩
  have DQ := V1.out.ds a HA.out
  rw [← hD, ← hG] at DQ
  rw [← hD] at cp
  have CPOP := Lib.hid (fun W' (ho : Only (fun _ => False) w1 W') => (show Calls Tryd.prog 58 #[.pointer (some ⟨D, 0, none⟩)] W' (PopTo D G x y z q W') by
    have := dpop_any D G 64 (pg s.qs a) W' (DQ.only ho id id) HQ.out
    rw [← HTT.out, ← HQQ.out] at this
    exact this))
  have hDl := DQ.lt
  obtain ⟨⟨dc1, db1⟩, ⟨dc2, db2⟩⟩ := DQ.blk
  have nR1 : R ≠ D := by rw [HR.out]; exact V1.out.run.ne_ db1 (by decide)
  have nR2 : R ≠ G := by rw [HR.out]; exact V1.out.run.ne_ db2 (by decide)
  have nQ1 : gq ≠ D := fun e => own_blk_ne V1.out.dq db1 (by decide) (by rw [HQE.out, ← e]; rfl)
  have nQ2 : gq ≠ G := fun e => own_blk_ne V1.out.dq db2 (by decide) (by rw [HQE.out, ← e]; rfl)
  have mD : M D ∧ M G := by rw [hD, hG]; exact V1.out.dsM a HA.out
  have nB1 : bp ≠ D := fun e => by have := HLT.out D (.inr mD.1); have := HBP.out; omega
  have nB2 : bp ≠ G := fun e => by have := HLT.out G (.inr mD.2); have := HBP.out; omega
  have KS := Lib.hid (fun (W' W'' : World) (ho : Only (fun k => k = D ∨ k = G) W' W'') (hs : W'.cell? ⟨R, 4, none⟩ = some (.slice (some ⟨gq, 0, none⟩) W qc) ∧ W'.cell? ⟨bp, 0, none⟩ = some (.int .i64 a) ∧ W'.cell? ⟨gq, a, none⟩ = some (.pointer (some ⟨D, 0, none⟩))) => (show W''.cell? ⟨R, 4, none⟩ = some (.slice (some ⟨gq, 0, none⟩) W qc) ∧ W''.cell? ⟨bp, 0, none⟩ = some (.int .i64 a) ∧ W''.cell? ⟨gq, a, none⟩ = some (.pointer (some ⟨D, 0, none⟩)) from
    ⟨ho.cell' hs.1 (by omega), ho.cell' hs.2.1 (by omega), ho.cell' hs.2.2 (by omega)⟩))
  have lB : bp < w1.heap.size := World.block_lt_of_cell? w1 ⟨bp, 0, none⟩ b0
  have lQ : gq < w1.heap.size := World.block_lt_of_cell? w1 ⟨gq, a, none⟩ cp
  have lR : R < w1.heap.size := World.block_lt_of_cell? w1 ⟨R, 4, none⟩ c4
  have KA := Lib.hid (fun (W' : World) (o o' : Obj) (b i : Nat) (u : Value) (hlt : b < w1.heap.size) (hz : w1.heap.size ≤ W'.heap.size) (hs : (W'.alloc o).cell? ⟨b, i, none⟩ = some u) => (show (W'.alloc o').cell? ⟨b, i, none⟩ = some u by
    rw [World.cell?_alloc_lt _ _ _ (by show b < W'.heap.size; omega)] at hs ⊢; exact hs))
  have KS2 := Lib.hid (fun (W' : World) (o o' : Obj) (hz : w1.heap.size ≤ W'.heap.size) (hs : (W'.alloc o).cell? ⟨R, 4, none⟩ = some (.slice (some ⟨gq, 0, none⟩) W qc) ∧ (W'.alloc o).cell? ⟨bp, 0, none⟩ = some (.int .i64 a) ∧ (W'.alloc o).cell? ⟨gq, a, none⟩ = some (.pointer (some ⟨D, 0, none⟩))) => (show (W'.alloc o').cell? ⟨R, 4, none⟩ = some (.slice (some ⟨gq, 0, none⟩) W qc) ∧ (W'.alloc o').cell? ⟨bp, 0, none⟩ = some (.int .i64 a) ∧ (W'.alloc o').cell? ⟨gq, a, none⟩ = some (.pointer (some ⟨D, 0, none⟩)) from
    ⟨KA.out W' o o' _ _ _ lR hz hs.1, KA.out W' o o' _ _ _ lB hz hs.2.1, KA.out W' o o' _ _ _ lQ hz hs.2.2⟩))
  have KF := Lib.hid (fun (W' : World) (x y z : Value) (b i : Nat) (u : Value) (hlt : b < w1.heap.size) (hs : W'.cell? ⟨b, i, none⟩ = some u) => (show (((W'.setCell ⟨w1.heap.size, 0, none⟩ x).setCell ⟨w1.heap.size, 1, none⟩ y).setCell ⟨w1.heap.size, 2, none⟩ z).cell? ⟨b, i, none⟩ = some u by
    rw [World.cell?_setCell_far _ _ _ _ (show w1.heap.size ≠ b by omega), World.cell?_setCell_far _ _ _ _ (show w1.heap.size ≠ b by omega), World.cell?_setCell_far _ _ _ _ (show w1.heap.size ≠ b by omega)]; exact hs))
  have KS3 := Lib.hid (fun (W' : World) (x y z : Value) (hs : W'.cell? ⟨R, 4, none⟩ = some (.slice (some ⟨gq, 0, none⟩) W qc) ∧ W'.cell? ⟨bp, 0, none⟩ = some (.int .i64 a) ∧ W'.cell? ⟨gq, a, none⟩ = some (.pointer (some ⟨D, 0, none⟩))) => (show (((W'.setCell ⟨w1.heap.size, 0, none⟩ x).setCell ⟨w1.heap.size, 1, none⟩ y).setCell ⟨w1.heap.size, 2, none⟩ z).cell? ⟨R, 4, none⟩ = some (.slice (some ⟨gq, 0, none⟩) W qc) ∧ (((W'.setCell ⟨w1.heap.size, 0, none⟩ x).setCell ⟨w1.heap.size, 1, none⟩ y).setCell ⟨w1.heap.size, 2, none⟩ z).cell? ⟨bp, 0, none⟩ = some (.int .i64 a) ∧ (((W'.setCell ⟨w1.heap.size, 0, none⟩ x).setCell ⟨w1.heap.size, 1, none⟩ y).setCell ⟨w1.heap.size, 2, none⟩ z).cell? ⟨gq, a, none⟩ = some (.pointer (some ⟨D, 0, none⟩)) from
    ⟨KF.out W' x y z _ _ _ lR hs.1, KF.out W' x y z _ _ _ lB hs.2.1, KF.out W' x y z _ _ _ lQ hs.2.2⟩))
  clear KA KF
  have HDQ := Lib.hid DQ
  have HD := Lib.hid hD
  have HGG := Lib.hid hG
  have HMD := Lib.hid mD
  clear db1 db2 DQ hD hG mD 
  go_wp2_with fail
  go_region_held3 (fun w' => w'.cell? ⟨R, 4, none⟩ = some (.slice (some ⟨gq, 0, none⟩) W qc) ∧ w'.cell? ⟨bp, 0, none⟩ = some (.int .i64 a) ∧ w'.cell? ⟨gq, a, none⟩ = some (.pointer (some ⟨D, 0, none⟩))) (first | with_reducible exact KS3.out _ _ _ _ (by assumption) | with_reducible exact KS2.out _ _ _ (by assumption) (by assumption) | exact KS.out _ _ ho2 (by assumption) | go_keep) ((go_at_call 58; first | (refine (CPOP.out _ (Only.refl (fun _ => False) w1).drew).mono ?_; rintro e w2 ⟨rfl, hd2, ho2⟩; have hz2 : w1.heap.size ≤ w2.heap.size := ho2.size) | (refine (CPOP.out _ ((Only.refl (fun _ => False) w1).drew.alloc _)).mono ?_; rintro e w2 ⟨rfl, hd2, ho2⟩; have kb := (Blk.new w1.drew 56 #[.int .i64 0, .int .i64 0, .int .i64 0]).only ho2 (show ¬ (w1.heap.size = D ∨ w1.heap.size = G) by omega); have k0 : w2.cell? ⟨w1.heap.size, 0, none⟩ = some (.int .i64 0) := kb.cell 0; have k1 : w2.cell? ⟨w1.heap.size, 1, none⟩ = some (.int .i64 0) := kb.cell 1; have k2 : w2.cell? ⟨w1.heap.size, 2, none⟩ = some (.int .i64 0) := kb.cell 2; have kf0 : w2.frozen? ⟨w1.heap.size, 0, none⟩ = false := kb.frozen 0; have kf1 : w2.frozen? ⟨w1.heap.size, 1, none⟩ = false := kb.frozen 1; have kf2 : w2.frozen? ⟨w1.heap.size, 2, none⟩ = false := kb.frozen 2)))
  · rw [HD.out, HGG.out] at hd2
    have ho3 : Only (fun k => k = r.D a ∨ k = r.G a) w1.drew w2 := by rw [← HD.out, ← HGG.out]; exact ho2
    have V2 := (V1.out.bel (w' := w1.drew) (below_drewN (Below.refl _ _) 1)).queue HA.out HI.out.w ho3 hd2
    rw [← HQS.out] at V2
    have hal := (Below.refl w2.heap.size w2).alloc (Nat.le_refl _) (.cells #[.int .i64 x, .int .i64 y, .int .i64 z] 56)
    have V3 := Lib.hid (V2.bel hal)
    have KT := Lib.hid (Blk.new w2 56 #[.int .i64 x, .int .i64 y, .int .i64 z])
    have HM2 := fun k (e : k = D ∨ k = G) => (show M k by rcases e with rfl | rfl; exact HMD.out.1; exact HMD.out.2)
    have O3 := Lib.hid ((((HB.out.mono (T := M) fun _ _ e => e.elim).drew).trans2 ho2 (fun k _ e => HM2 k e)).alloc (.cells #[.int .i64 x, .int .i64 y, .int .i64 z] 56))
    have T3 := Lib.hid ((Tb.only (w := w1.drew) T1.out ho2 (fun e => HMT.out (HM2 _ e))).below hal)
    have hbt : w.heap.size ≤ w2.heap.size := by have := HB.out.size; omega
    clear V2 hal hd2 ho2 ho3 HM2 hz2 V1 T1
    rename_i hheld
    clear hheld
    obtain ⟨bt, hbte⟩ : ∃ b, b = w2.heap.size := ⟨_, rfl⟩
    rw [← hbte] at KT hbt ⊢
    clear hbte
    generalize w2.alloc (.cells #[.int .i64 x, .int .i64 y, .int .i64 z] 56) = w3 at *
    have HMR := Lib.hid V3.out.mR
    -- the task is known: (x, y, z), its box bt; the world w3
    obtain ⟨sa, sc, hvsh, _⟩ := own_shape V3.out.sh
    obtain ⟨ua, uc, rfl, _⟩ := own_shape V3.out.ar
    obtain ⟨la, lc, rfl, _⟩ := own_shape V3.out.log
    obtain ⟨ls, hls⟩ : ∃ n, n = (zi (szs r.ks)).length := ⟨_, rfl⟩
    rw [← hls] at hvsh
    clear hls
    have c0 : w3.cell? ⟨R, 0, none⟩ = some (.slice sa ls sc) := by rw [HR.out, ← hvsh]; exact V3.out.run.cell 0
    have c1 : w3.cell? ⟨R, 1, none⟩ = some (.slice ua s.ar.length uc) := by rw [HR.out]; exact V3.out.run.cell 1
    have c3 : w3.cell? ⟨R, 3, none⟩ = some (.bool back) := by rw [HR.out, HBK.out]; exact V3.out.run.cell 3
    have k0 : w3.cell? ⟨bt, 0, none⟩ = some (.int .i64 x) := KT.out.cell 0
    have k1 : w3.cell? ⟨bt, 1, none⟩ = some (.int .i64 y) := KT.out.cell 1
    have k2 : w3.cell? ⟨bt, 2, none⟩ = some (.int .i64 z) := KT.out.cell 2
    have lR3 : R < w3.heap.size := by rw [HR.out]; exact V3.out.run.lt
    have lT3 : bt < w3.heap.size := KT.out.lt
    have CD := Lib.hid (CDO.out w3.drew (.slice sa ls sc) (.slice ua s.ar.length uc) (by rw [← hvsh]; exact V3.out.sh.rd.drew) V3.out.ar.rd.drew T3.out)
    go_wp2_with fail
    refine wp_region_N [4, 8, 9, 13] [14, 20] (fun w' => w'.cell? ⟨R, 0, none⟩ = some (.slice sa ls sc) ∧ w'.cell? ⟨R, 1, none⟩ = some (.slice ua s.ar.length uc) ∧ w'.cell? ⟨R, 3, none⟩ = some (.bool back) ∧ w'.cell? ⟨bt, 0, none⟩ = some (.int .i64 x) ∧ w'.cell? ⟨bt, 1, none⟩ = some (.int .i64 y) ∧ w'.cell? ⟨bt, 2, none⟩ = some (.int .i64 z)) (by kernel_rfl) ?_
    have hS : w3.drew.cell? ⟨R, 0, none⟩ = some (.slice sa ls sc) ∧ w3.drew.cell? ⟨R, 1, none⟩ = some (.slice ua s.ar.length uc) ∧ w3.drew.cell? ⟨R, 3, none⟩ = some (.bool back) ∧ w3.drew.cell? ⟨bt, 0, none⟩ = some (.int .i64 x) ∧ w3.drew.cell? ⟨bt, 1, none⟩ = some (.int .i64 y) ∧ w3.drew.cell? ⟨bt, 2, none⟩ = some (.int .i64 z) := ⟨c0, c1, c3, k0, k1, k2⟩
    refine wpN_pure (i := 0) (v := ?_) rfl (by kernel_rfl) (by kernel_rfl) (by kernel_rfl) (by kernel_rfl) (fun _ _ _ h => h) (Or.inl ⟨by rfl, ?_⟩) (fun _ => hS) ?_
    rotate_left
    · ((intro w' hw'; (try dsimp only at hw'); go_simp) <;> with_reducible rfl)
    simp only [Act.put, List.setIfInBounds_toArray, List.set_cons_zero, List.set_cons_succ]
    refine wpN_pure (i := 1) (v := ?_) rfl (by kernel_rfl) (by kernel_rfl) (by kernel_rfl) (by kernel_rfl) (fun _ _ _ h => h) (Or.inl ⟨by rfl, ?_⟩) (fun _ => hS) ?_
    rotate_left
    · ((intro w' hw'; (try dsimp only at hw'); go_simp) <;> with_reducible rfl)
    simp only [Act.put, List.setIfInBounds_toArray, List.set_cons_zero, List.set_cons_succ]
    refine wpN_pure (i := 2) (v := ?_) rfl (by kernel_rfl) (by kernel_rfl) (by kernel_rfl) (by kernel_rfl) (fun _ _ _ h => h) (Or.inl ⟨by rfl, ?_⟩) (fun _ => hS) ?_
    rotate_left
    · ((intro w' hw'; (try dsimp only at hw'); go_simp) <;> with_reducible rfl)
    simp only [Act.put, List.setIfInBounds_toArray, List.set_cons_zero, List.set_cons_succ]
    refine wpN_pure (i := 3) (v := ?_) rfl (by kernel_rfl) (by kernel_rfl) (by kernel_rfl) (by kernel_rfl) (fun _ _ _ h => h) (Or.inl ⟨by rfl, ?_⟩) (fun _ => hS) ?_
    rotate_left
    · ((intro w' hw'; (try dsimp only at hw'); go_simp) <;> with_reducible rfl)
    simp only [Act.put, List.setIfInBounds_toArray, List.set_cons_zero, List.set_cons_succ]
    refine wpN_read (i := 4) (v := ?_) rfl (by kernel_rfl) (by kernel_rfl) (by kernel_rfl) (by kernel_rfl) (by kernel_rfl) (fun _ _ _ h => h) (Or.inl ⟨by rfl, ?_⟩) hS ?_
    rotate_left
    · ((intro w' hw'; (try dsimp only at hw'); go_simp) <;> with_reducible rfl)
    simp only [Act.put, List.setIfInBounds_toArray, List.set_cons_zero, List.set_cons_succ]
    refine wpN_pure (i := 5) (v := ?_) rfl (by kernel_rfl) (by kernel_rfl) (by kernel_rfl) (by kernel_rfl) (fun _ _ _ h => h) (Or.inl ⟨by rfl, ?_⟩) (fun _ => hS) ?_
    rotate_left
    · ((intro w' hw'; (try dsimp only at hw'); go_simp) <;> with_reducible rfl)
    simp only [Act.put, List.setIfInBounds_toArray, List.set_cons_zero, List.set_cons_succ]
    refine wpN_pure (i := 6) (v := ?_) rfl (by kernel_rfl) (by kernel_rfl) (by kernel_rfl) (by kernel_rfl) (fun _ _ _ h => h) (Or.inl ⟨by rfl, ?_⟩) (fun _ => hS) ?_
    rotate_left
    · ((intro w' hw'; (try dsimp only at hw'); go_simp) <;> with_reducible rfl)
    simp only [Act.put, List.setIfInBounds_toArray, List.set_cons_zero, List.set_cons_succ]
    refine wpN_pure (i := 7) (v := ?_) rfl (by kernel_rfl) (by kernel_rfl) (by kernel_rfl) (by kernel_rfl) (fun _ _ _ h => h) (Or.inl ⟨by rfl, ?_⟩) (fun _ => hS) ?_
    rotate_left
    · ((intro w' hw'; (try dsimp only at hw'); go_simp) <;> with_reducible rfl)
    simp only [Act.put, List.setIfInBounds_toArray, List.set_cons_zero, List.set_cons_succ]
    refine wpN_read (i := 8) (v := ?_) rfl (by kernel_rfl) (by kernel_rfl) (by kernel_rfl) (by kernel_rfl) (by kernel_rfl) (fun _ _ _ h => h) (Or.inl ⟨by rfl, ?_⟩) hS ?_
    rotate_left
    · ((intro w' hw'; (try dsimp only at hw'); go_simp) <;> with_reducible rfl)
    simp only [Act.put, List.setIfInBounds_toArray, List.set_cons_zero, List.set_cons_succ]
    refine wpN_read (i := 9) (v := ?_) rfl (by kernel_rfl) (by kernel_rfl) (by kernel_rfl) (by kernel_rfl) (by kernel_rfl) (fun _ _ _ h => h) (Or.inl ⟨by rfl, ?_⟩) hS ?_
    rotate_left
    · ((intro w' hw'; (try dsimp only at hw'); go_simp) <;> with_reducible rfl)
    simp only [Act.put, List.setIfInBounds_toArray, List.set_cons_zero, List.set_cons_succ]
    refine wpN_pure (i := 10) (v := ?_) rfl (by kernel_rfl) (by kernel_rfl) (by kernel_rfl) (by kernel_rfl) (fun _ _ _ h => h) (Or.inl ⟨by rfl, ?_⟩) (fun _ => hS) ?_
    rotate_left
    · ((intro w' hw'; (try dsimp only at hw'); go_simp) <;> with_reducible rfl)
    simp only [Act.put, List.setIfInBounds_toArray, List.set_cons_zero, List.set_cons_succ]
    refine wpN_pure (i := 11) (v := ?_) rfl (by kernel_rfl) (by kernel_rfl) (by kernel_rfl) (by kernel_rfl) (fun _ _ _ h => h) (Or.inl ⟨by rfl, ?_⟩) (fun _ => hS) ?_
    rotate_left
    · ((intro w' hw'; (try dsimp only at hw'); go_simp) <;> with_reducible rfl)
    simp only [Act.put, List.setIfInBounds_toArray, List.set_cons_zero, List.set_cons_succ]
    refine wpN_pure (i := 12) (v := ?_) rfl (by kernel_rfl) (by kernel_rfl) (by kernel_rfl) (by kernel_rfl) (fun _ _ _ h => h) (Or.inl ⟨by rfl, ?_⟩) (fun _ => hS) ?_
    rotate_left
    · ((intro w' hw'; (try dsimp only at hw'); go_simp) <;> with_reducible rfl)
    simp only [Act.put, List.setIfInBounds_toArray, List.set_cons_zero, List.set_cons_succ]
    refine wpN_read (i := 13) (v := ?_) rfl (by kernel_rfl) (by kernel_rfl) (by kernel_rfl) (by kernel_rfl) (by kernel_rfl) (fun _ _ _ h => h) (Or.inl ⟨by rfl, ?_⟩) hS ?_
    rotate_left
    · ((intro w' hw'; (try dsimp only at hw'); go_simp) <;> with_reducible rfl)
    simp only [Act.put, List.setIfInBounds_toArray, List.set_cons_zero, List.set_cons_succ]
    refine wpN_one (i := 14) rfl rfl (by kernel_rfl) (by kernel_rfl) (fun K hK => ?_)
    go_simp
    refine CD.out.mono ?_
    rintro e w4 ⟨v4, rfl, ho4, hb4⟩
    obtain ⟨a4, q4, rfl, _⟩ := own_shape ho4
    refine hK.out _ _ ?_
    clear hK K
    have hb34 : Below w3.heap.size w3 w4 := (below_drewN (Below.refl w3.heap.size w3) 1).trans hb4
    have HB4 := Lib.hid hb34
    have HO4 := Lib.hid (show Oz .u64 52 w3.heap.size w4 (.slice a4 A'.length q4) A' from ho4)
    have KR4 := Lib.hid (Blk.below (by rw [HR.out]; exact V3.out.run) hb34 lR3 : Blk w4 R 92 (rcs r (.slice ua s.ar.length uc) s.ph s.left (.slice la s.log.length lc)))
    clear ho4 hb4 hb34 CD c0 c1 c3 k0 k1 k2 hS
    refine wpN_pure (i := 15) (v := ?_) rfl (by kernel_rfl) (by kernel_rfl) (by kernel_rfl) (by kernel_rfl) (fun _ _ _ h => h) (Or.inl ⟨by rfl, ?_⟩) (fun h => Bool.noConfusion (h.symm.trans (show _ = false by kernel_rfl))) ?_
    rotate_left
    · ((intro w' hw'; (try dsimp only at hw'); go_simp) <;> with_reducible rfl)
    simp only [Act.put, List.setIfInBounds_toArray, List.set_cons_zero, List.set_cons_succ]
    refine wpN_pure (i := 16) (v := ?_) rfl (by kernel_rfl) (by kernel_rfl) (by kernel_rfl) (by kernel_rfl) (fun _ _ _ h => h) (Or.inl ⟨by rfl, ?_⟩) (fun h => Bool.noConfusion (h.symm.trans (show _ = false by kernel_rfl))) ?_
    rotate_left
    · ((intro w' hw'; (try dsimp only at hw'); go_simp) <;> with_reducible rfl)
    simp only [Act.put, List.setIfInBounds_toArray, List.set_cons_zero, List.set_cons_succ]
    refine wpN_pure (i := 17) (v := ?_) rfl (by kernel_rfl) (by kernel_rfl) (by kernel_rfl) (by kernel_rfl) (fun _ _ _ h => h) (Or.inl ⟨by rfl, ?_⟩) (fun h => Bool.noConfusion (h.symm.trans (show _ = false by kernel_rfl))) ?_
    rotate_left
    · ((intro w' hw'; (try dsimp only at hw'); go_simp) <;> with_reducible rfl)
    simp only [Act.put, List.setIfInBounds_toArray, List.set_cons_zero, List.set_cons_succ]
    refine wpN_pure (i := 18) (v := ?_) rfl (by kernel_rfl) (by kernel_rfl) (by kernel_rfl) (by kernel_rfl) (fun _ _ _ h => h) (Or.inl ⟨by rfl, ?_⟩) (fun h => Bool.noConfusion (h.symm.trans (show _ = false by kernel_rfl))) ?_
    rotate_left
    · ((intro w' hw'; (try dsimp only at hw'); go_simp) <;> with_reducible rfl)
    simp only [Act.put, List.setIfInBounds_toArray, List.set_cons_zero, List.set_cons_succ]
    refine wpN_pure (i := 19) (v := ?_) rfl (by kernel_rfl) (by kernel_rfl) (by kernel_rfl) (by kernel_rfl) (fun _ _ _ h => h) (Or.inl ⟨by rfl, ?_⟩) (fun h => Bool.noConfusion (h.symm.trans (show _ = false by kernel_rfl))) ?_
    rotate_left
    · ((intro w' hw'; (try dsimp only at hw'); go_simp) <;> with_reducible rfl)
    simp only [Act.put, List.setIfInBounds_toArray, List.set_cons_zero, List.set_cons_succ]
    refine wpN_one (i := 20) rfl rfl (by kernel_rfl) (by kernel_rfl) (fun K hK => ?_)
    refine st_storeS 31 (fun _ => rfl) w4 (.tmp 91) (.tmp 88) rfl R 1 92 _ a4 A'.length q4 rfl rfl KR4.out (by show 1 < 8; decide) ?_
    intro w5 hb5 ho5 hs5
    refine hK.out _ _ (wpN_done (by kernel_rfl) ?_)
    clear hK K
    have O35 : Only (fun k => k = r.R) w3 w5 := (Only.of_below (S := fun k => k = r.R) HB4.out (fun k hk hk2 => by omega)).trans (ho5.mono fun k _ e => by rw [← HR.out]; exact e)
    have V5' := V3.out.put (var' := .slice a4 A'.length q4) (vlog' := .slice la s.log.length lc) (ar' := A') (ph' := s.ph) (left' := s.left) (log' := s.log) (O35.mono fun k _ e => .inl e) (by rw [← HR.out]; exact hb5) (own_only (own_mono (B' := 0) HO4.out (by omega)) ho5 (fun k hk e => by have h1 := World.ownsRow.lt HO4.out k hk; have e : k = R := e; omega)) (V3.out.log_put O35) (fun g hg => .inr (World.ownsRow.lt HO4.out g hg).1) (fun g hg => .inl hg)
    have nTR : bt ≠ R := by rw [HR.out]; exact KT.out.ne_ V3.out.run (by decide)
    have KT5 := Lib.hid (KT.out.only O35 (by rw [← HR.out]; exact nTR))
    have O5 := Lib.hid (O3.out.trans2 O35 (fun k _ e => by have e : k = r.R := e; rw [e]; exact V3.out.mR))
    have h35 := O35.size
    have h03 := O3.out.size
    have TL3 := Lib.hid T3.out
    obtain ⟨M5, hM5, V5''⟩ : ∃ M' : Nat → Prop, (∀ k, M' k → M k ∨ w.heap.size ≤ k) ∧ RunV w5 C M' r (.slice a4 A'.length q4) (.slice la s.log.length lc) ⟨A', qs', s.ph, s.left, s.log⟩ := ⟨_, fun k hk => by
      rcases hk with hk | hk
      · exact .inl hk
      · right; omega, V5'⟩
    have V5 := Lib.hid V5''
    have HM5 := Lib.hid hM5
    clear V5' V5'' hM5 O35 hb5 ho5 hs5 HB4 HO4 KR4 V3 KT O3 T3
    -- the log
    have c7 : w5.cell? ⟨R, 7, none⟩ = some (.slice la s.log.length lc) := by rw [HR.out]; exact V5.out.run.cell 7
    have k0 : w5.cell? ⟨bt, 0, none⟩ = some (.int .i64 x) := KT5.out.cell 0
    have k1 : w5.cell? ⟨bt, 1, none⟩ = some (.int .i64 y) := KT5.out.cell 1
    have k2 : w5.cell? ⟨bt, 2, none⟩ = some (.int .i64 z) := KT5.out.cell 2
    have lR5 : R < w5.heap.size := by rw [HR.out]; exact V5.out.run.lt
    have lT5 : bt < w5.heap.size := KT5.out.lt
    go_wp2_with fail
    refine wp_region_N [4, 5] [6, 7, 10] (fun w' => w'.cell? ⟨R, 7, none⟩ = some (.slice la s.log.length lc) ∧ w'.cell? ⟨bt, 0, none⟩ = some (.int .i64 x) ∧ w'.cell? ⟨bt, 1, none⟩ = some (.int .i64 y) ∧ w'.cell? ⟨bt, 2, none⟩ = some (.int .i64 z)) (by kernel_rfl) ?_
    have hS : w5.drew.cell? ⟨R, 7, none⟩ = some (.slice la s.log.length lc) ∧ w5.drew.cell? ⟨bt, 0, none⟩ = some (.int .i64 x) ∧ w5.drew.cell? ⟨bt, 1, none⟩ = some (.int .i64 y) ∧ w5.drew.cell? ⟨bt, 2, none⟩ = some (.int .i64 z) := ⟨c7, k0, k1, k2⟩
    refine wpN_pure (i := 0) (v := ?_) rfl (by kernel_rfl) (by kernel_rfl) (by kernel_rfl) (by kernel_rfl) (fun _ _ _ h => h) (Or.inl ⟨by rfl, ?_⟩) (fun _ => hS) ?_
    rotate_left
    · ((intro w' hw'; (try dsimp only at hw'); go_simp) <;> with_reducible rfl)
    simp only [Act.put, List.setIfInBounds_toArray, List.set_cons_zero, List.set_cons_succ]
    refine wpN_pure (i := 1) (v := ?_) rfl (by kernel_rfl) (by kernel_rfl) (by kernel_rfl) (by kernel_rfl) (fun _ _ _ h => h) (Or.inl ⟨by rfl, ?_⟩) (fun _ => hS) ?_
    rotate_left
    · ((intro w' hw'; (try dsimp only at hw'); go_simp) <;> with_reducible rfl)
    simp only [Act.put, List.setIfInBounds_toArray, List.set_cons_zero, List.set_cons_succ]
    refine wpN_pure (i := 2) (v := ?_) rfl (by kernel_rfl) (by kernel_rfl) (by kernel_rfl) (by kernel_rfl) (fun _ _ _ h => h) (Or.inl ⟨by rfl, ?_⟩) (fun _ => hS) ?_
    rotate_left
    · ((intro w' hw'; (try dsimp only at hw'); go_simp) <;> with_reducible rfl)
    simp only [Act.put, List.setIfInBounds_toArray, List.set_cons_zero, List.set_cons_succ]
    refine wpN_pure (i := 3) (v := ?_) rfl (by kernel_rfl) (by kernel_rfl) (by kernel_rfl) (by kernel_rfl) (fun _ _ _ h => h) (Or.inl ⟨by rfl, ?_⟩) (fun _ => hS) ?_
    rotate_left
    · ((intro w' hw'; (try dsimp only at hw'); go_simp) <;> with_reducible rfl)
    simp only [Act.put, List.setIfInBounds_toArray, List.set_cons_zero, List.set_cons_succ]
    refine wpN_read (i := 4) (v := ?_) rfl (by kernel_rfl) (by kernel_rfl) (by kernel_rfl) (by kernel_rfl) (by kernel_rfl) (fun _ _ _ h => h) (Or.inl ⟨by rfl, ?_⟩) hS ?_
    rotate_left
    · ((intro w' hw'; (try dsimp only at hw'); go_simp) <;> with_reducible rfl)
    simp only [Act.put, List.setIfInBounds_toArray, List.set_cons_zero, List.set_cons_succ]
    refine wpN_read (i := 5) (v := ?_) rfl (by kernel_rfl) (by kernel_rfl) (by kernel_rfl) (by kernel_rfl) (by kernel_rfl) (fun _ _ _ h => h) (Or.inl ⟨by rfl, ?_⟩) hS ?_
    rotate_left
    · ((intro w' hw'; (try dsimp only at hw'); go_simp) <;> with_reducible rfl)
    simp only [Act.put, List.setIfInBounds_toArray, List.set_cons_zero, List.set_cons_succ]
    refine wpN_oneS (i := 6) rfl rfl (by kernel_rfl) (fun K hK => ?_)
    go_simp
    have hal := (Below.refl w5.heap.size w5).alloc (Nat.le_refl _) (.cells #[.int .i64 x, .int .i64 y, .int .i64 z] 56)
    have q7 := (hal.cell (p := ⟨R, 7, none⟩) lR5).trans c7
    have q0 := (hal.cell (p := ⟨bt, 0, none⟩) lT5).trans k0
    have q1 := (hal.cell (p := ⟨bt, 1, none⟩) lT5).trans k1
    have q2 := (hal.cell (p := ⟨bt, 2, none⟩) lT5).trans k2
    refine hK.out _ _ ⟨q7, q0, q1, q2⟩ ?_
    clear hK K c7 k0 k1 k2 q7 q0 q1 q2 hS
    have LG6 := Lib.hid (V5.out.log.below hal)
    have NB6 := Lib.hid ((Blk.new w5 56 #[.int .i64 x, .int .i64 y, .int .i64 z]).drew)
    have KR6 := Lib.hid (show Blk (w5.alloc (.cells #[.int .i64 x, .int .i64 y, .int .i64 z] 56)).drew R 92 (rcs r (.slice a4 A'.length q4) s.ph s.left (.slice la s.log.length lc)) from by rw [HR.out]; exact (V5.out.run.alloc _).drew)
    have O56 := Lib.hid (show Only (fun _ => False) w5 (w5.alloc (.cells #[.int .i64 x, .int .i64 y, .int .i64 z] 56)).drew from ((Only.refl _ _).alloc _).drew)
    clear hal
    obtain ⟨g6, hg6⟩ : ∃ g, g = w5.heap.size := ⟨_, rfl⟩
    rw [← hg6] at NB6 ⊢
    have HG6 := Lib.hid hg6
    clear hg6
    have LG6 := Lib.hid (show Ot 0 (w5.alloc (.cells #[.int .i64 x, .int .i64 y, .int .i64 z] 56)).drew (.slice la s.log.length lc) s.log from LG6.out)
    generalize (w5.alloc (.cells #[.int .i64 x, .int .i64 y, .int .i64 z] 56)).drew = w6 at *
    refine wpN_one (i := 7) rfl rfl (by kernel_rfl) (by kernel_rfl) (fun K hK => ?_)
    refine st_appG 56 48 (.agg #[.int .i64 0, .int .i64 0, .int .i64 0]) 3 24 Tryd.underlying48 info_task rfl (by decide) (by decide) w6 (.tmp 96) (.tmp 98) rfl 0 g6 (.slice la s.log.length lc) s.log.length (tcs s.log) #[.int .i64 x, .int .i64 y, .int .i64 z] rfl (by intro u hu; simp at hu; rcases hu with rfl | rfl | rfl <;> rfl) rfl rfl LG6.out NB6.out (Nat.zero_le _) LLN.out ?_
    intro v7 w7 p7 hg7 hat7
    obtain ⟨a7, q7, rfl, _⟩ := own_shape p7
    refine hK.out _ _ ?_
    clear hK K
    simp only [Act.put, List.setIfInBounds_toArray, List.set_cons_zero, List.set_cons_succ]
    refine wpN_pure (i := 8) (v := ?_) rfl (by kernel_rfl) (by kernel_rfl) (by kernel_rfl) (by kernel_rfl) (fun _ _ _ h => h) (Or.inl ⟨by rfl, ?_⟩) (fun h => Bool.noConfusion (h.symm.trans (show _ = false by kernel_rfl))) ?_
    rotate_left
    · ((intro w' hw'; (try dsimp only at hw'); go_simp) <;> with_reducible rfl)
    simp only [Act.put, List.setIfInBounds_toArray, List.set_cons_zero, List.set_cons_succ]
    refine wpN_pure (i := 9) (v := ?_) rfl (by kernel_rfl) (by kernel_rfl) (by kernel_rfl) (by kernel_rfl) (fun _ _ _ h => h) (Or.inl ⟨by rfl, ?_⟩) (fun h => Bool.noConfusion (h.symm.trans (show _ = false by kernel_rfl))) ?_
    rotate_left
    · ((intro w' hw'; (try dsimp only at hw'); go_simp) <;> with_reducible rfl)
    simp only [Act.put, List.setIfInBounds_toArray, List.set_cons_zero, List.set_cons_succ]
    refine wpN_one (i := 10) rfl rfl (by kernel_rfl) (by kernel_rfl) (fun K hK => ?_)
    have hne : some R ≠ (Value.slice la s.log.length lc).ownBlock := fun e => own_blk_ne LG6.out KR6.out (by decide) e.symm
    have KR7 := Lib.hid (KR6.out.grown hg7 hne)
    refine st_storeS 48 (fun _ => rfl) w7 (.tmp 101) (.tmp 99) rfl R 7 92 _ a7 (s.log.length + 1) q7 rfl rfl KR7.out (by show 7 < 8; decide) ?_
    intro w8 hb8 ho8 hs8
    refine hK.out _ _ (wpN_done (by kernel_rfl) ?_)
    clear hK K
    have HSR : ∀ k, k = r.R ∨ (Value.slice la s.log.length lc).ownBlock = some k → M k ∨ w.heap.size ≤ k := fun k hk => by
      rcases hk with rfl | hk
      · exact .inl HMR.out
      · exact HM5.out k (V5.out.logM k hk).1
    have O58 : Only (fun k => k = r.R ∨ (Value.slice la s.log.length lc).ownBlock = some k) w5 w8 := ((O56.out.mono (T := fun k => k = r.R ∨ (Value.slice la s.log.length lc).ownBlock = some k) fun _ _ e => e.elim).trans (Only.of_grown hg7 (fun k hk => .inr hk))).trans (ho8.mono fun k _ e => .inl (by rw [← HR.out]; exact e))
    have P7 : Ot 0 w7 (.slice a7 (s.log.length + 1) q7) (s.log ++ [(x, y, z)]) := by
      unfold Ot
      rw [tcs_append, tcs_one, List.length_append, List.length_singleton]
      exact p7
    have V8' := V5.out.put (var' := .slice a4 A'.length q4) (vlog' := .slice a7 (s.log.length + 1) q7) (ar' := A') (ph' := s.ph) (left' := s.left) (log' := s.log ++ [(x, y, z)]) O58 (by rw [← HR.out]; exact hb8) (V5.out.ar_put O58) (P7.only ho8 (fun k hk e => own_blk_ne P7 KR7.out (by decide) (e ▸ hk))) (fun g hg => .inl (V5.out.arM g hg)) (fun g hg => by
      rcases hat7 g hg with h1 | h1
      · exact .inl h1
      · have := O56.out.size; right; omega)
    have O8 := Lib.hid (O5.out.trans2 O58 (fun k hk e => by
      rcases HSR k e with h1 | h1
      · exact h1
      · omega))
    have h05 := O5.out.size
    obtain ⟨M8, hM8, V8''⟩ : ∃ M' : Nat → Prop, (∀ k, M' k → M k ∨ w.heap.size ≤ k) ∧ RunV w8 C M' r (.slice a4 A'.length q4) (.slice a7 (s.log.length + 1) q7) ⟨A', qs', s.ph, s.left, s.log ++ [(x, y, z)]⟩ := ⟨_, fun k hk => by
      rcases hk with hk | hk
      · exact HM5.out k hk
      · right; omega, V8'⟩
    have V8 := Lib.hid V8''
    have HM8 := Lib.hid hM8
    clear V8' V8'' hM8 O58 P7 hb8 ho8 hs8 hat7 hg7 p7 HSR KR7 KR6 LG6 NB6 O56 HG6 V5 HM5 O5 hne KT5
    -- one task less
    have K8 := Lib.hid (show Blk w8 R 92 (rcs r (.slice a4 A'.length q4) s.ph ((L : Int) + 1) (.slice a7 (s.log.length + 1) q7)) from by
      have h1 := V8.out.run
      rw [← HR.out] at h1
      rw [show ((L : Int) + 1) = ((s.left : Nat) : Int) by rw [HLF.out]; rfl]
      exact h1)
    have c6 : w8.cell? ⟨R, 6, none⟩ = some (.int .i64 ((L : Int) + 1)) := K8.out.cell 6
    go_wp2_with (refine wl_storeBlk1 3 (fun _ => rfl) _ rfl (.tmp 108) (.tmp 106) rfl R 6 92 _ .i64 (L : Int) rfl rfl K8.out (by show 6 < 8; decide) ?_)
    intro w9 hb9 ho9 hs9
    have O89 : Only (fun k => k = r.R) w8 w9 := ho9.mono fun k _ e => by rw [← HR.out]; exact e
    have h08 := O8.out.size
    have V9' := V8.out.put (var' := .slice a4 A'.length q4) (vlog' := .slice a7 (s.log.length + 1) q7) (ar' := A') (ph' := s.ph) (left' := L) (log' := s.log ++ [(x, y, z)]) (O89.mono fun k _ e => .inl e) (by rw [← HR.out]; exact hb9) (V8.out.ar_put (O89.mono fun k _ e => .inl e)) (V8.out.log_put O89) (fun g hg => .inl (V8.out.arM g hg)) (fun g hg => .inl hg)
    have O9 := Lib.hid (O8.out.trans2 O89 (fun k _ e => by have e : k = r.R := e; rw [e]; exact HMR.out))
    obtain ⟨M9, hM9, V9''⟩ : ∃ M' : Nat → Prop, (∀ k, M' k → M k ∨ w.heap.size ≤ k) ∧ RunV w9 C M' r (.slice a4 A'.length q4) (.slice a7 (s.log.length + 1) q7) ⟨A', qs', s.ph, L, s.log ++ [(x, y, z)]⟩ := ⟨_, fun k hk => by
      rcases hk with hk | hk
      · exact HM8.out k hk
      · right; omega, V9'⟩
    have V9 := Lib.hid V9''
    have HM9 := Lib.hid hM9
    have K9 := Lib.hid (show Blk w9 R 92 (rcs r (.slice a4 A'.length q4) s.ph L (.slice a7 (s.log.length + 1) q7)) from by rw [HR.out]; exact V9.out.run)
    clear V9' V9'' hM9 O89 hb9 ho9 hs9 V8 HM8 O8 K8 c6
    have c6 : w9.cell? ⟨R, 6, none⟩ = some (.int .i64 (L : Int)) := K9.out.cell 6
    by_cases hL0 : L = 0
    · have HF := Lib.hid (show fin1 W r.ll s A' (x, y, z) qs' = ⟨A', dlp W r.ll (s.ph + 1), s.ph + 1, (pg r.ll (s.ph + 1)).length, s.log ++ [(x, y, z)]⟩ from by
        unfold fin1; rw [if_pos (by rw [HLF.out, hL0])])
      have HL0 := Lib.hid hL0
      subst hL0
      have c5 : w9.cell? ⟨R, 5, none⟩ = some (.int .i64 (s.ph : Int)) := K9.out.cell 5
      go_wp2_with (refine wl_storeBlk1 3 (fun _ => rfl) _ rfl (.tmp 120) (.tmp 118) rfl R 5 92 _ .i64 ((s.ph : Int) + 1) rfl rfl K9.out (by show 5 < 8; decide) ?_)
      intro w10 hb10 ho10 hs10
      have O90 : Only (fun k => k = r.R) w9 w10 := ho10.mono fun k _ e => by rw [← HR.out]; exact e
      have h09 := O9.out.size
      have V10 := V9.out.put (var' := .slice a4 A'.length q4) (vlog' := .slice a7 (s.log.length + 1) q7) (ar' := A') (ph' := s.ph + 1) (left' := 0) (log' := s.log ++ [(x, y, z)]) (O90.mono fun k _ e => .inl e) (by rw [← HR.out]; exact hb10) (V9.out.ar_put (O90.mono fun k _ e => .inl e)) (V9.out.log_put O90) (fun g hg => .inl (V9.out.arM g hg)) (fun g hg => .inl hg)
      have O10 := Lib.hid (O9.out.trans2 O90 (fun k _ e => by have e : k = r.R := e; rw [e]; exact HMR.out))
      have HS10 := Lib.hid (show w9.heap.size ≤ w10.heap.size from O90.size)
      have HQN := Lib.hid (show qs' = List.replicate r.W [] from by
        have h1 := HPM.out.length_eq
        rw [HI.out.lf, HLF.out, List.length_cons] at h1
        have h2 := flat_nil (qs := qs') (by omega)
        rw [HQL.out] at h2
        exact h2)
      have CDL := Lib.hid (xdeal_any r ⟨A', qs', s.ph + 1, 0, s.log ++ [(x, y, z)]⟩ C _ w10 ⟨_, _, V10⟩ HG.out HX.out HQN.out rfl (by rw [← HWE.out]; exact hW1) (by rw [← HWE.out]; exact hW8))
      clear V10 O90 hb10 ho10 hs10 c5 c6
      rw [← HR.out] at CDL
      go_wp2_with fail
      refine CDL.out.mono ?_
      rintro e w11 ⟨rfl, M11, hrun, hO, hM⟩
      have HRUN := Lib.hid hrun
      have HO11 := Lib.hid hO
      have HM11 := Lib.hid hM
      clear hrun hO hM CDL
      go_wp2
      go_ret
      refine ⟨rfl, M11, ?_, ?_, ?_⟩
      · rw [HF.out, HWE.out]; exact HRUN.out
      · exact O10.out.trans2 HO11.out (fun k hk e => by
          rcases e with e | e
          · rcases HM9.out k e with h1 | h1
            · exact h1
            · omega
          · omega)
      · intro k hk
        rcases HM11.out k hk with h1 | h1
        · rcases h1 with h1 | h1
          · exact HM9.out k h1
          · right; omega
        · have := O10.out.size; right; omega
    · have HF := Lib.hid (show fin1 W r.ll s A' (x, y, z) qs' = ⟨A', qs', s.ph, L, s.log ++ [(x, y, z)]⟩ from by
        unfold fin1; rw [if_neg (by rw [HLF.out]; omega), HLF.out]; rfl)
      go_wp2
      go_ret
      exact ⟨rfl, M9, by rw [HF.out]; exact ⟨_, _, V9.out⟩, O9.out, HM9.out⟩
  · rw [HD.out, HGG.out] at hd2
    have ho3 : Only (fun k => k = r.D a ∨ k = r.G a) (w1.drew.alloc (.cells #[.int .i64 0, .int .i64 0, .int .i64 0] 56)) w2 := by rw [← HD.out, ← HGG.out]; exact ho2
    have V2 := (V1.out.bel (w' := w1.drew.alloc (.cells #[.int .i64 0, .int .i64 0, .int .i64 0] 56)) ((below_drewN (Below.refl w1.heap.size w1) 1).alloc (Nat.le_refl _) _)).queue HA.out HI.out.w ho3 hd2
    rw [← HQS.out] at V2
    have HBT := Lib.hid (((kb.set_ 0 (.int .i64 x)).set_ 1 (.int .i64 y)).set_ 2 (.int .i64 z))
    have O23 := (((Only.refl (fun k => k = w1.heap.size) w2).setCell (p := ⟨w1.heap.size, 0, none⟩) (.inl rfl) (.int .i64 x)).setCell (p := ⟨w1.heap.size, 1, none⟩) (.inl rfl) (.int .i64 y)).setCell (p := ⟨w1.heap.size, 2, none⟩) (.inl rfl) (.int .i64 z)
    have V3 := Lib.hid (V2.only O23 (fun k e => by
      have h1 := fun hh => V1.out.lt k hh
      have e : k = w1.heap.size := e
      exact ⟨fun hc => by have := h1 (.inl hc); omega, fun hm => by have := h1 (.inr hm); omega⟩))
    have KT := Lib.hid (show Blk (((w2.setCell ⟨w1.heap.size, 0, none⟩ (.int .i64 x)).setCell ⟨w1.heap.size, 1, none⟩ (.int .i64 y)).setCell ⟨w1.heap.size, 2, none⟩ (.int .i64 z)) w1.heap.size 56 #[.int .i64 x, .int .i64 y, .int .i64 z] from HBT.out)
    have HM2 := fun k (e : k = D ∨ k = G) => (show M k by rcases e with rfl | rfl; exact HMD.out.1; exact HMD.out.2)
    have O3 := Lib.hid ((((HB.out.mono (T := M) fun _ _ e => e.elim).drew.alloc (.cells #[.int .i64 0, .int .i64 0, .int .i64 0] 56)).trans2 ho2 (fun k _ e => HM2 k e)).trans2 O23 (fun k hk e => by have := HB.out.size; have e : k = w1.heap.size := e; omega))
    have T3 := Lib.hid (Tb.only (Tb.only (w := w1.drew.alloc (.cells #[.int .i64 0, .int .i64 0, .int .i64 0] 56)) (T1.out.below ((below_drewN (Below.refl w1.heap.size w1) 1).alloc (Nat.le_refl _) _)) ho2 (fun e => HMT.out (HM2 _ e))) O23 (fun e => by
      have h1 : 3 < w1.heap.size := World.block_lt_of_cell? w1 ⟨3, 0, none⟩ (T1.out 0 (by omega))
      have e : 3 = w1.heap.size := e
      omega))
    have hbt : w.heap.size ≤ w1.heap.size := HB.out.size
    clear V2 hd2 ho2 ho3 HM2 V1 T1 kb k0 k1 k2 kf0 kf1 kf2 HBT O23
    rename_i hheld
    clear hheld
    generalize (((w2.setCell ⟨w1.heap.size, 0, none⟩ (Value.int .i64 x)).setCell ⟨w1.heap.size, 1, none⟩ (Value.int .i64 y)).setCell ⟨w1.heap.size, 2, none⟩ (Value.int .i64 z)) = w3 at *
    obtain ⟨bt, hbte⟩ : ∃ b, b = w1.heap.size := ⟨_, rfl⟩
    rw [← hbte] at KT hbt ⊢
    clear hbte
    have HMR := Lib.hid V3.out.mR
    -- the task is known: (x, y, z), its box bt; the world w3
    obtain ⟨sa, sc, hvsh, _⟩ := own_shape V3.out.sh
    obtain ⟨ua, uc, rfl, _⟩ := own_shape V3.out.ar
    obtain ⟨la, lc, rfl, _⟩ := own_shape V3.out.log
    obtain ⟨ls, hls⟩ : ∃ n, n = (zi (szs r.ks)).length := ⟨_, rfl⟩
    rw [← hls] at hvsh
    clear hls
    have c0 : w3.cell? ⟨R, 0, none⟩ = some (.slice sa ls sc) := by rw [HR.out, ← hvsh]; exact V3.out.run.cell 0
    have c1 : w3.cell? ⟨R, 1, none⟩ = some (.slice ua s.ar.length uc) := by rw [HR.out]; exact V3.out.run.cell 1
    have c3 : w3.cell? ⟨R, 3, none⟩ = some (.bool back) := by rw [HR.out, HBK.out]; exact V3.out.run.cell 3
    have k0 : w3.cell? ⟨bt, 0, none⟩ = some (.int .i64 x) := KT.out.cell 0
    have k1 : w3.cell? ⟨bt, 1, none⟩ = some (.int .i64 y) := KT.out.cell 1
    have k2 : w3.cell? ⟨bt, 2, none⟩ = some (.int .i64 z) := KT.out.cell 2
    have lR3 : R < w3.heap.size := by rw [HR.out]; exact V3.out.run.lt
    have lT3 : bt < w3.heap.size := KT.out.lt
    have CD := Lib.hid (CDO.out w3.drew (.slice sa ls sc) (.slice ua s.ar.length uc) (by rw [← hvsh]; exact V3.out.sh.rd.drew) V3.out.ar.rd.drew T3.out)
    go_wp2_with fail
    refine wp_region_N [4, 8, 9, 13] [14, 20] (fun w' => w'.cell? ⟨R, 0, none⟩ = some (.slice sa ls sc) ∧ w'.cell? ⟨R, 1, none⟩ = some (.slice ua s.ar.length uc) ∧ w'.cell? ⟨R, 3, none⟩ = some (.bool back) ∧ w'.cell? ⟨bt, 0, none⟩ = some (.int .i64 x) ∧ w'.cell? ⟨bt, 1, none⟩ = some (.int .i64 y) ∧ w'.cell? ⟨bt, 2, none⟩ = some (.int .i64 z)) (by kernel_rfl) ?_
    have hS : w3.drew.cell? ⟨R, 0, none⟩ = some (.slice sa ls sc) ∧ w3.drew.cell? ⟨R, 1, none⟩ = some (.slice ua s.ar.length uc) ∧ w3.drew.cell? ⟨R, 3, none⟩ = some (.bool back) ∧ w3.drew.cell? ⟨bt, 0, none⟩ = some (.int .i64 x) ∧ w3.drew.cell? ⟨bt, 1, none⟩ = some (.int .i64 y) ∧ w3.drew.cell? ⟨bt, 2, none⟩ = some (.int .i64 z) := ⟨c0, c1, c3, k0, k1, k2⟩
    refine wpN_pure (i := 0) (v := ?_) rfl (by kernel_rfl) (by kernel_rfl) (by kernel_rfl) (by kernel_rfl) (fun _ _ _ h => h) (Or.inl ⟨by rfl, ?_⟩) (fun _ => hS) ?_
    rotate_left
    · ((intro w' hw'; (try dsimp only at hw'); go_simp) <;> with_reducible rfl)
    simp only [Act.put, List.setIfInBounds_toArray, List.set_cons_zero, List.set_cons_succ]
    refine wpN_pure (i := 1) (v := ?_) rfl (by kernel_rfl) (by kernel_rfl) (by kernel_rfl) (by kernel_rfl) (fun _ _ _ h => h) (Or.inl ⟨by rfl, ?_⟩) (fun _ => hS) ?_
    rotate_left
    · ((intro w' hw'; (try dsimp only at hw'); go_simp) <;> with_reducible rfl)
    simp only [Act.put, List.setIfInBounds_toArray, List.set_cons_zero, List.set_cons_succ]
    refine wpN_pure (i := 2) (v := ?_) rfl (by kernel_rfl) (by kernel_rfl) (by kernel_rfl) (by kernel_rfl) (fun _ _ _ h => h) (Or.inl ⟨by rfl, ?_⟩) (fun _ => hS) ?_
    rotate_left
    · ((intro w' hw'; (try dsimp only at hw'); go_simp) <;> with_reducible rfl)
    simp only [Act.put, List.setIfInBounds_toArray, List.set_cons_zero, List.set_cons_succ]
    refine wpN_pure (i := 3) (v := ?_) rfl (by kernel_rfl) (by kernel_rfl) (by kernel_rfl) (by kernel_rfl) (fun _ _ _ h => h) (Or.inl ⟨by rfl, ?_⟩) (fun _ => hS) ?_
    rotate_left
    · ((intro w' hw'; (try dsimp only at hw'); go_simp) <;> with_reducible rfl)
    simp only [Act.put, List.setIfInBounds_toArray, List.set_cons_zero, List.set_cons_succ]
    refine wpN_read (i := 4) (v := ?_) rfl (by kernel_rfl) (by kernel_rfl) (by kernel_rfl) (by kernel_rfl) (by kernel_rfl) (fun _ _ _ h => h) (Or.inl ⟨by rfl, ?_⟩) hS ?_
    rotate_left
    · ((intro w' hw'; (try dsimp only at hw'); go_simp) <;> with_reducible rfl)
    simp only [Act.put, List.setIfInBounds_toArray, List.set_cons_zero, List.set_cons_succ]
    refine wpN_pure (i := 5) (v := ?_) rfl (by kernel_rfl) (by kernel_rfl) (by kernel_rfl) (by kernel_rfl) (fun _ _ _ h => h) (Or.inl ⟨by rfl, ?_⟩) (fun _ => hS) ?_
    rotate_left
    · ((intro w' hw'; (try dsimp only at hw'); go_simp) <;> with_reducible rfl)
    simp only [Act.put, List.setIfInBounds_toArray, List.set_cons_zero, List.set_cons_succ]
    refine wpN_pure (i := 6) (v := ?_) rfl (by kernel_rfl) (by kernel_rfl) (by kernel_rfl) (by kernel_rfl) (fun _ _ _ h => h) (Or.inl ⟨by rfl, ?_⟩) (fun _ => hS) ?_
    rotate_left
    · ((intro w' hw'; (try dsimp only at hw'); go_simp) <;> with_reducible rfl)
    simp only [Act.put, List.setIfInBounds_toArray, List.set_cons_zero, List.set_cons_succ]
    refine wpN_pure (i := 7) (v := ?_) rfl (by kernel_rfl) (by kernel_rfl) (by kernel_rfl) (by kernel_rfl) (fun _ _ _ h => h) (Or.inl ⟨by rfl, ?_⟩) (fun _ => hS) ?_
    rotate_left
    · ((intro w' hw'; (try dsimp only at hw'); go_simp) <;> with_reducible rfl)
    simp only [Act.put, List.setIfInBounds_toArray, List.set_cons_zero, List.set_cons_succ]
    refine wpN_read (i := 8) (v := ?_) rfl (by kernel_rfl) (by kernel_rfl) (by kernel_rfl) (by kernel_rfl) (by kernel_rfl) (fun _ _ _ h => h) (Or.inl ⟨by rfl, ?_⟩) hS ?_
    rotate_left
    · ((intro w' hw'; (try dsimp only at hw'); go_simp) <;> with_reducible rfl)
    simp only [Act.put, List.setIfInBounds_toArray, List.set_cons_zero, List.set_cons_succ]
    refine wpN_read (i := 9) (v := ?_) rfl (by kernel_rfl) (by kernel_rfl) (by kernel_rfl) (by kernel_rfl) (by kernel_rfl) (fun _ _ _ h => h) (Or.inl ⟨by rfl, ?_⟩) hS ?_
    rotate_left
    · ((intro w' hw'; (try dsimp only at hw'); go_simp) <;> with_reducible rfl)
    simp only [Act.put, List.setIfInBounds_toArray, List.set_cons_zero, List.set_cons_succ]
    refine wpN_pure (i := 10) (v := ?_) rfl (by kernel_rfl) (by kernel_rfl) (by kernel_rfl) (by kernel_rfl) (fun _ _ _ h => h) (Or.inl ⟨by rfl, ?_⟩) (fun _ => hS) ?_
    rotate_left
    · ((intro w' hw'; (try dsimp only at hw'); go_simp) <;> with_reducible rfl)
    simp only [Act.put, List.setIfInBounds_toArray, List.set_cons_zero, List.set_cons_succ]
    refine wpN_pure (i := 11) (v := ?_) rfl (by kernel_rfl) (by kernel_rfl) (by kernel_rfl) (by kernel_rfl) (fun _ _ _ h => h) (Or.inl ⟨by rfl, ?_⟩) (fun _ => hS) ?_
    rotate_left
    · ((intro w' hw'; (try dsimp only at hw'); go_simp) <;> with_reducible rfl)
    simp only [Act.put, List.setIfInBounds_toArray, List.set_cons_zero, List.set_cons_succ]
    refine wpN_pure (i := 12) (v := ?_) rfl (by kernel_rfl) (by kernel_rfl) (by kernel_rfl) (by kernel_rfl) (fun _ _ _ h => h) (Or.inl ⟨by rfl, ?_⟩) (fun _ => hS) ?_
    rotate_left
    · ((intro w' hw'; (try dsimp only at hw'); go_simp) <;> with_reducible rfl)
    simp only [Act.put, List.setIfInBounds_toArray, List.set_cons_zero, List.set_cons_succ]
    refine wpN_read (i := 13) (v := ?_) rfl (by kernel_rfl) (by kernel_rfl) (by kernel_rfl) (by kernel_rfl) (by kernel_rfl) (fun _ _ _ h => h) (Or.inl ⟨by rfl, ?_⟩) hS ?_
    rotate_left
    · ((intro w' hw'; (try dsimp only at hw'); go_simp) <;> with_reducible rfl)
    simp only [Act.put, List.setIfInBounds_toArray, List.set_cons_zero, List.set_cons_succ]
    refine wpN_one (i := 14) rfl rfl (by kernel_rfl) (by kernel_rfl) (fun K hK => ?_)
    go_simp
    refine CD.out.mono ?_
    rintro e w4 ⟨v4, rfl, ho4, hb4⟩
    obtain ⟨a4, q4, rfl, _⟩ := own_shape ho4
    refine hK.out _ _ ?_
    clear hK K
    have hb34 : Below w3.heap.size w3 w4 := (below_drewN (Below.refl w3.heap.size w3) 1).trans hb4
    have HB4 := Lib.hid hb34
    have HO4 := Lib.hid (show Oz .u64 52 w3.heap.size w4 (.slice a4 A'.length q4) A' from ho4)
    have KR4 := Lib.hid (Blk.below (by rw [HR.out]; exact V3.out.run) hb34 lR3 : Blk w4 R 92 (rcs r (.slice ua s.ar.length uc) s.ph s.left (.slice la s.log.length lc)))
    clear ho4 hb4 hb34 CD c0 c1 c3 k0 k1 k2 hS
    refine wpN_pure (i := 15) (v := ?_) rfl (by kernel_rfl) (by kernel_rfl) (by kernel_rfl) (by kernel_rfl) (fun _ _ _ h => h) (Or.inl ⟨by rfl, ?_⟩) (fun h => Bool.noConfusion (h.symm.trans (show _ = false by kernel_rfl))) ?_
    rotate_left
    · ((intro w' hw'; (try dsimp only at hw'); go_simp) <;> with_reducible rfl)
    simp only [Act.put, List.setIfInBounds_toArray, List.set_cons_zero, List.set_cons_succ]
    refine wpN_pure (i := 16) (v := ?_) rfl (by kernel_rfl) (by kernel_rfl) (by kernel_rfl) (by kernel_rfl) (fun _ _ _ h => h) (Or.inl ⟨by rfl, ?_⟩) (fun h => Bool.noConfusion (h.symm.trans (show _ = false by kernel_rfl))) ?_
    rotate_left
    · ((intro w' hw'; (try dsimp only at hw'); go_simp) <;> with_reducible rfl)
    simp only [Act.put, List.setIfInBounds_toArray, List.set_cons_zero, List.set_cons_succ]
    refine wpN_pure (i := 17) (v := ?_) rfl (by kernel_rfl) (by kernel_rfl) (by kernel_rfl) (by kernel_rfl) (fun _ _ _ h => h) (Or.inl ⟨by rfl, ?_⟩) (fun h => Bool.noConfusion (h.symm.trans (show _ = false by kernel_rfl))) ?_
    rotate_left
    · ((intro w' hw'; (try dsimp only at hw'); go_simp) <;> with_reducible rfl)
    simp only [Act.put, List.setIfInBounds_toArray, List.set_cons_zero, List.set_cons_succ]
    refine wpN_pure (i := 18) (v := ?_) rfl (by kernel_rfl) (by kernel_rfl) (by kernel_rfl) (by kernel_rfl) (fun _ _ _ h => h) (Or.inl ⟨by rfl, ?_⟩) (fun h => Bool.noConfusion (h.symm.trans (show _ = false by kernel_rfl))) ?_
    rotate_left
    · ((intro w' hw'; (try dsimp only at hw'); go_simp) <;> with_reducible rfl)
    simp only [Act.put, List.setIfInBounds_toArray, List.set_cons_zero, List.set_cons_succ]
    refine wpN_pure (i := 19) (v := ?_) rfl (by kernel_rfl) (by kernel_rfl) (by kernel_rfl) (by kernel_rfl) (fun _ _ _ h => h) (Or.inl ⟨by rfl, ?_⟩) (fun h => Bool.noConfusion (h.symm.trans (show _ = false by kernel_rfl))) ?_
    rotate_left
    · ((intro w' hw'; (try dsimp only at hw'); go_simp) <;> with_reducible rfl)
    simp only [Act.put, List.setIfInBounds_toArray, List.set_cons_zero, List.set_cons_succ]
    refine wpN_one (i := 20) rfl rfl (by kernel_rfl) (by kernel_rfl) (fun K hK => ?_)
    refine st_storeS 31 (fun _ => rfl) w4 (.tmp 91) (.tmp 88) rfl R 1 92 _ a4 A'.length q4 rfl rfl KR4.out (by show 1 < 8; decide) ?_
    intro w5 hb5 ho5 hs5
    refine hK.out _ _ (wpN_done (by kernel_rfl) ?_)
    clear hK K
    have O35 : Only (fun k => k = r.R) w3 w5 := (Only.of_below (S := fun k => k = r.R) HB4.out (fun k hk hk2 => by omega)).trans (ho5.mono fun k _ e => by rw [← HR.out]; exact e)
    have V5' := V3.out.put (var' := .slice a4 A'.length q4) (vlog' := .slice la s.log.length lc) (ar' := A') (ph' := s.ph) (left' := s.left) (log' := s.log) (O35.mono fun k _ e => .inl e) (by rw [← HR.out]; exact hb5) (own_only (own_mono (B' := 0) HO4.out (by omega)) ho5 (fun k hk e => by have h1 := World.ownsRow.lt HO4.out k hk; have e : k = R := e; omega)) (V3.out.log_put O35) (fun g hg => .inr (World.ownsRow.lt HO4.out g hg).1) (fun g hg => .inl hg)
    have nTR : bt ≠ R := by rw [HR.out]; exact KT.out.ne_ V3.out.run (by decide)
    have KT5 := Lib.hid (KT.out.only O35 (by rw [← HR.out]; exact nTR))
    have O5 := Lib.hid (O3.out.trans2 O35 (fun k _ e => by have e : k = r.R := e; rw [e]; exact V3.out.mR))
    have h35 := O35.size
    have h03 := O3.out.size
    have TL3 := Lib.hid T3.out
    obtain ⟨M5, hM5, V5''⟩ : ∃ M' : Nat → Prop, (∀ k, M' k → M k ∨ w.heap.size ≤ k) ∧ RunV w5 C M' r (.slice a4 A'.length q4) (.slice la s.log.length lc) ⟨A', qs', s.ph, s.left, s.log⟩ := ⟨_, fun k hk => by
      rcases hk with hk | hk
      · exact .inl hk
      · right; omega, V5'⟩
    have V5 := Lib.hid V5''
    have HM5 := Lib.hid hM5
    clear V5' V5'' hM5 O35 hb5 ho5 hs5 HB4 HO4 KR4 V3 KT O3 T3
    -- the log
    have c7 : w5.cell? ⟨R, 7, none⟩ = some (.slice la s.log.length lc) := by rw [HR.out]; exact V5.out.run.cell 7
    have k0 : w5.cell? ⟨bt, 0, none⟩ = some (.int .i64 x) := KT5.out.cell 0
    have k1 : w5.cell? ⟨bt, 1, none⟩ = some (.int .i64 y) := KT5.out.cell 1
    have k2 : w5.cell? ⟨bt, 2, none⟩ = some (.int .i64 z) := KT5.out.cell 2
    have lR5 : R < w5.heap.size := by rw [HR.out]; exact V5.out.run.lt
    have lT5 : bt < w5.heap.size := KT5.out.lt
    go_wp2_with fail
    refine wp_region_N [4, 5] [6, 7, 10] (fun w' => w'.cell? ⟨R, 7, none⟩ = some (.slice la s.log.length lc) ∧ w'.cell? ⟨bt, 0, none⟩ = some (.int .i64 x) ∧ w'.cell? ⟨bt, 1, none⟩ = some (.int .i64 y) ∧ w'.cell? ⟨bt, 2, none⟩ = some (.int .i64 z)) (by kernel_rfl) ?_
    have hS : w5.drew.cell? ⟨R, 7, none⟩ = some (.slice la s.log.length lc) ∧ w5.drew.cell? ⟨bt, 0, none⟩ = some (.int .i64 x) ∧ w5.drew.cell? ⟨bt, 1, none⟩ = some (.int .i64 y) ∧ w5.drew.cell? ⟨bt, 2, none⟩ = some (.int .i64 z) := ⟨c7, k0, k1, k2⟩
    refine wpN_pure (i := 0) (v := ?_) rfl (by kernel_rfl) (by kernel_rfl) (by kernel_rfl) (by kernel_rfl) (fun _ _ _ h => h) (Or.inl ⟨by rfl, ?_⟩) (fun _ => hS) ?_
    rotate_left
    · ((intro w' hw'; (try dsimp only at hw'); go_simp) <;> with_reducible rfl)
    simp only [Act.put, List.setIfInBounds_toArray, List.set_cons_zero, List.set_cons_succ]
    refine wpN_pure (i := 1) (v := ?_) rfl (by kernel_rfl) (by kernel_rfl) (by kernel_rfl) (by kernel_rfl) (fun _ _ _ h => h) (Or.inl ⟨by rfl, ?_⟩) (fun _ => hS) ?_
    rotate_left
    · ((intro w' hw'; (try dsimp only at hw'); go_simp) <;> with_reducible rfl)
    simp only [Act.put, List.setIfInBounds_toArray, List.set_cons_zero, List.set_cons_succ]
    refine wpN_pure (i := 2) (v := ?_) rfl (by kernel_rfl) (by kernel_rfl) (by kernel_rfl) (by kernel_rfl) (fun _ _ _ h => h) (Or.inl ⟨by rfl, ?_⟩) (fun _ => hS) ?_
    rotate_left
    · ((intro w' hw'; (try dsimp only at hw'); go_simp) <;> with_reducible rfl)
    simp only [Act.put, List.setIfInBounds_toArray, List.set_cons_zero, List.set_cons_succ]
    refine wpN_pure (i := 3) (v := ?_) rfl (by kernel_rfl) (by kernel_rfl) (by kernel_rfl) (by kernel_rfl) (fun _ _ _ h => h) (Or.inl ⟨by rfl, ?_⟩) (fun _ => hS) ?_
    rotate_left
    · ((intro w' hw'; (try dsimp only at hw'); go_simp) <;> with_reducible rfl)
    simp only [Act.put, List.setIfInBounds_toArray, List.set_cons_zero, List.set_cons_succ]
    refine wpN_read (i := 4) (v := ?_) rfl (by kernel_rfl) (by kernel_rfl) (by kernel_rfl) (by kernel_rfl) (by kernel_rfl) (fun _ _ _ h => h) (Or.inl ⟨by rfl, ?_⟩) hS ?_
    rotate_left
    · ((intro w' hw'; (try dsimp only at hw'); go_simp) <;> with_reducible rfl)
    simp only [Act.put, List.setIfInBounds_toArray, List.set_cons_zero, List.set_cons_succ]
    refine wpN_read (i := 5) (v := ?_) rfl (by kernel_rfl) (by kernel_rfl) (by kernel_rfl) (by kernel_rfl) (by kernel_rfl) (fun _ _ _ h => h) (Or.inl ⟨by rfl, ?_⟩) hS ?_
    rotate_left
    · ((intro w' hw'; (try dsimp only at hw'); go_simp) <;> with_reducible rfl)
    simp only [Act.put, List.setIfInBounds_toArray, List.set_cons_zero, List.set_cons_succ]
    refine wpN_oneS (i := 6) rfl rfl (by kernel_rfl) (fun K hK => ?_)
    go_simp
    have hal := (Below.refl w5.heap.size w5).alloc (Nat.le_refl _) (.cells #[.int .i64 x, .int .i64 y, .int .i64 z] 56)
    have q7 := (hal.cell (p := ⟨R, 7, none⟩) lR5).trans c7
    have q0 := (hal.cell (p := ⟨bt, 0, none⟩) lT5).trans k0
    have q1 := (hal.cell (p := ⟨bt, 1, none⟩) lT5).trans k1
    have q2 := (hal.cell (p := ⟨bt, 2, none⟩) lT5).trans k2
    refine hK.out _ _ ⟨q7, q0, q1, q2⟩ ?_
    clear hK K c7 k0 k1 k2 q7 q0 q1 q2 hS
    have LG6 := Lib.hid (V5.out.log.below hal)
    have NB6 := Lib.hid ((Blk.new w5 56 #[.int .i64 x, .int .i64 y, .int .i64 z]).drew)
    have KR6 := Lib.hid (show Blk (w5.alloc (.cells #[.int .i64 x, .int .i64 y, .int .i64 z] 56)).drew R 92 (rcs r (.slice a4 A'.length q4) s.ph s.left (.slice la s.log.length lc)) from by rw [HR.out]; exact (V5.out.run.alloc _).drew)
    have O56 := Lib.hid (show Only (fun _ => False) w5 (w5.alloc (.cells #[.int .i64 x, .int .i64 y, .int .i64 z] 56)).drew from ((Only.refl _ _).alloc _).drew)
    clear hal
    obtain ⟨g6, hg6⟩ : ∃ g, g = w5.heap.size := ⟨_, rfl⟩
    rw [← hg6] at NB6 ⊢
    have HG6 := Lib.hid hg6
    clear hg6
    have LG6 := Lib.hid (show Ot 0 (w5.alloc (.cells #[.int .i64 x, .int .i64 y, .int .i64 z] 56)).drew (.slice la s.log.length lc) s.log from LG6.out)
    generalize (w5.alloc (.cells #[.int .i64 x, .int .i64 y, .int .i64 z] 56)).drew = w6 at *
    refine wpN_one (i := 7) rfl rfl (by kernel_rfl) (by kernel_rfl) (fun K hK => ?_)
    refine st_appG 56 48 (.agg #[.int .i64 0, .int .i64 0, .int .i64 0]) 3 24 Tryd.underlying48 info_task rfl (by decide) (by decide) w6 (.tmp 96) (.tmp 98) rfl 0 g6 (.slice la s.log.length lc) s.log.length (tcs s.log) #[.int .i64 x, .int .i64 y, .int .i64 z] rfl (by intro u hu; simp at hu; rcases hu with rfl | rfl | rfl <;> rfl) rfl rfl LG6.out NB6.out (Nat.zero_le _) LLN.out ?_
    intro v7 w7 p7 hg7 hat7
    obtain ⟨a7, q7, rfl, _⟩ := own_shape p7
    refine hK.out _ _ ?_
    clear hK K
    simp only [Act.put, List.setIfInBounds_toArray, List.set_cons_zero, List.set_cons_succ]
    refine wpN_pure (i := 8) (v := ?_) rfl (by kernel_rfl) (by kernel_rfl) (by kernel_rfl) (by kernel_rfl) (fun _ _ _ h => h) (Or.inl ⟨by rfl, ?_⟩) (fun h => Bool.noConfusion (h.symm.trans (show _ = false by kernel_rfl))) ?_
    rotate_left
    · ((intro w' hw'; (try dsimp only at hw'); go_simp) <;> with_reducible rfl)
    simp only [Act.put, List.setIfInBounds_toArray, List.set_cons_zero, List.set_cons_succ]
    refine wpN_pure (i := 9) (v := ?_) rfl (by kernel_rfl) (by kernel_rfl) (by kernel_rfl) (by kernel_rfl) (fun _ _ _ h => h) (Or.inl ⟨by rfl, ?_⟩) (fun h => Bool.noConfusion (h.symm.trans (show _ = false by kernel_rfl))) ?_
    rotate_left
    · ((intro w' hw'; (try dsimp only at hw'); go_simp) <;> with_reducible rfl)
    simp only [Act.put, List.setIfInBounds_toArray, List.set_cons_zero, List.set_cons_succ]
    refine wpN_one (i := 10) rfl rfl (by kernel_rfl) (by kernel_rfl) (fun K hK => ?_)
    have hne : some R ≠ (Value.slice la s.log.length lc).ownBlock := fun e => own_blk_ne LG6.out KR6.out (by decide) e.symm
    have KR7 := Lib.hid (KR6.out.grown hg7 hne)
    refine st_storeS 48 (fun _ => rfl) w7 (.tmp 101) (.tmp 99) rfl R 7 92 _ a7 (s.log.length + 1) q7 rfl rfl KR7.out (by show 7 < 8; decide) ?_
    intro w8 hb8 ho8 hs8
    refine hK.out _ _ (wpN_done (by kernel_rfl) ?_)
    clear hK K
    have HSR : ∀ k, k = r.R ∨ (Value.slice la s.log.length lc).ownBlock = some k → M k ∨ w.heap.size ≤ k := fun k hk => by
      rcases hk with rfl | hk
      · exact .inl HMR.out
      · exact HM5.out k (V5.out.logM k hk).1
    have O58 : Only (fun k => k = r.R ∨ (Value.slice la s.log.length lc).ownBlock = some k) w5 w8 := ((O56.out.mono (T := fun k => k = r.R ∨ (Value.slice la s.log.length lc).ownBlock = some k) fun _ _ e => e.elim).trans (Only.of_grown hg7 (fun k hk => .inr hk))).trans (ho8.mono fun k _ e => .inl (by rw [← HR.out]; exact e))
    have P7 : Ot 0 w7 (.slice a7 (s.log.length + 1) q7) (s.log ++ [(x, y, z)]) := by
      unfold Ot
      rw [tcs_append, tcs_one, List.length_append, List.length_singleton]
      exact p7
    have V8' := V5.out.put (var' := .slice a4 A'.length q4) (vlog' := .slice a7 (s.log.length + 1) q7) (ar' := A') (ph' := s.ph) (left' := s.left) (log' := s.log ++ [(x, y, z)]) O58 (by rw [← HR.out]; exact hb8) (V5.out.ar_put O58) (P7.only ho8 (fun k hk e => own_blk_ne P7 KR7.out (by decide) (e ▸ hk))) (fun g hg => .inl (V5.out.arM g hg)) (fun g hg => by
      rcases hat7 g hg with h1 | h1
      · exact .inl h1
      · have := O56.out.size; right; omega)
    have O8 := Lib.hid (O5.out.trans2 O58 (fun k hk e => by
      rcases HSR k e with h1 | h1
      · exact h1
      · omega))
    have h05 := O5.out.size
    obtain ⟨M8, hM8, V8''⟩ : ∃ M' : Nat → Prop, (∀ k, M' k → M k ∨ w.heap.size ≤ k) ∧ RunV w8 C M' r (.slice a4 A'.length q4) (.slice a7 (s.log.length + 1) q7) ⟨A', qs', s.ph, s.left, s.log ++ [(x, y, z)]⟩ := ⟨_, fun k hk => by
      rcases hk with hk | hk
      · exact HM5.out k hk
      · right; omega, V8'⟩
    have V8 := Lib.hid V8''
    have HM8 := Lib.hid hM8
    clear V8' V8'' hM8 O58 P7 hb8 ho8 hs8 hat7 hg7 p7 HSR KR7 KR6 LG6 NB6 O56 HG6 V5 HM5 O5 hne KT5
    -- one task less
    have K8 := Lib.hid (show Blk w8 R 92 (rcs r (.slice a4 A'.length q4) s.ph ((L : Int) + 1) (.slice a7 (s.log.length + 1) q7)) from by
      have h1 := V8.out.run
      rw [← HR.out] at h1
      rw [show ((L : Int) + 1) = ((s.left : Nat) : Int) by rw [HLF.out]; rfl]
      exact h1)
    have c6 : w8.cell? ⟨R, 6, none⟩ = some (.int .i64 ((L : Int) + 1)) := K8.out.cell 6
    go_wp2_with (refine wl_storeBlk1 3 (fun _ => rfl) _ rfl (.tmp 108) (.tmp 106) rfl R 6 92 _ .i64 (L : Int) rfl rfl K8.out (by show 6 < 8; decide) ?_)
    intro w9 hb9 ho9 hs9
    have O89 : Only (fun k => k = r.R) w8 w9 := ho9.mono fun k _ e => by rw [← HR.out]; exact e
    have h08 := O8.out.size
    have V9' := V8.out.put (var' := .slice a4 A'.length q4) (vlog' := .slice a7 (s.log.length + 1) q7) (ar' := A') (ph' := s.ph) (left' := L) (log' := s.log ++ [(x, y, z)]) (O89.mono fun k _ e => .inl e) (by rw [← HR.out]; exact hb9) (V8.out.ar_put (O89.mono fun k _ e => .inl e)) (V8.out.log_put O89) (fun g hg => .inl (V8.out.arM g hg)) (fun g hg => .inl hg)
    have O9 := Lib.hid (O8.out.trans2 O89 (fun k _ e => by have e : k = r.R := e; rw [e]; exact HMR.out))
    obtain ⟨M9, hM9, V9''⟩ : ∃ M' : Nat → Prop, (∀ k, M' k → M k ∨ w.heap.size ≤ k) ∧ RunV w9 C M' r (.slice a4 A'.length q4) (.slice a7 (s.log.length + 1) q7) ⟨A', qs', s.ph, L, s.log ++ [(x, y, z)]⟩ := ⟨_, fun k hk => by
      rcases hk with hk | hk
      · exact HM8.out k hk
      · right; omega, V9'⟩
    have V9 := Lib.hid V9''
    have HM9 := Lib.hid hM9
    have K9 := Lib.hid (show Blk w9 R 92 (rcs r (.slice a4 A'.length q4) s.ph L (.slice a7 (s.log.length + 1) q7)) from by rw [HR.out]; exact V9.out.run)
    clear V9' V9'' hM9 O89 hb9 ho9 hs9 V8 HM8 O8 K8 c6
    have c6 : w9.cell? ⟨R, 6, none⟩ = some (.int .i64 (L : Int)) := K9.out.cell 6
    by_cases hL0 : L = 0
    · have HF := Lib.hid (show fin1 W r.ll s A' (x, y, z) qs' = ⟨A', dlp W r.ll (s.ph + 1), s.ph + 1, (pg r.ll (s.ph + 1)).length, s.log ++ [(x, y, z)]⟩ from by
        unfold fin1; rw [if_pos (by rw [HLF.out, hL0])])
      have HL0 := Lib.hid hL0
      subst hL0
      have c5 : w9.cell? ⟨R, 5, none⟩ = some (.int .i64 (s.ph : Int)) := K9.out.cell 5
      go_wp2_with (refine wl_storeBlk1 3 (fun _ => rfl) _ rfl (.tmp 120) (.tmp 118) rfl R 5 92 _ .i64 ((s.ph : Int) + 1) rfl rfl K9.out (by show 5 < 8; decide) ?_)
      intro w10 hb10 ho10 hs10
      have O90 : Only (fun k => k = r.R) w9 w10 := ho10.mono fun k _ e => by rw [← HR.out]; exact e
      have h09 := O9.out.size
      have V10 := V9.out.put (var' := .slice a4 A'.length q4) (vlog' := .slice a7 (s.log.length + 1) q7) (ar' := A') (ph' := s.ph + 1) (left' := 0) (log' := s.log ++ [(x, y, z)]) (O90.mono fun k _ e => .inl e) (by rw [← HR.out]; exact hb10) (V9.out.ar_put (O90.mono fun k _ e => .inl e)) (V9.out.log_put O90) (fun g hg => .inl (V9.out.arM g hg)) (fun g hg => .inl hg)
      have O10 := Lib.hid (O9.out.trans2 O90 (fun k _ e => by have e : k = r.R := e; rw [e]; exact HMR.out))
      have HS10 := Lib.hid (show w9.heap.size ≤ w10.heap.size from O90.size)
      have HQN := Lib.hid (show qs' = List.replicate r.W [] from by
        have h1 := HPM.out.length_eq
        rw [HI.out.lf, HLF.out, List.length_cons] at h1
        have h2 := flat_nil (qs := qs') (by omega)
        rw [HQL.out] at h2
        exact h2)
      have CDL := Lib.hid (xdeal_any r ⟨A', qs', s.ph + 1, 0, s.log ++ [(x, y, z)]⟩ C _ w10 ⟨_, _, V10⟩ HG.out HX.out HQN.out rfl (by rw [← HWE.out]; exact hW1) (by rw [← HWE.out]; exact hW8))
      clear V10 O90 hb10 ho10 hs10 c5 c6
      rw [← HR.out] at CDL
      go_wp2_with fail
      refine CDL.out.mono ?_
      rintro e w11 ⟨rfl, M11, hrun, hO, hM⟩
      have HRUN := Lib.hid hrun
      have HO11 := Lib.hid hO
      have HM11 := Lib.hid hM
      clear hrun hO hM CDL
      go_wp2
      go_ret
      refine ⟨rfl, M11, ?_, ?_, ?_⟩
      · rw [HF.out, HWE.out]; exact HRUN.out
      · exact O10.out.trans2 HO11.out (fun k hk e => by
          rcases e with e | e
          · rcases HM9.out k e with h1 | h1
            · exact h1
            · omega
          · omega)
      · intro k hk
        rcases HM11.out k hk with h1 | h1
        · rcases h1 with h1 | h1
          · exact HM9.out k h1
          · right; omega
        · have := O10.out.size; right; omega
    · have HF := Lib.hid (show fin1 W r.ll s A' (x, y, z) qs' = ⟨A', qs', s.ph, L, s.log ++ [(x, y, z)]⟩ from by
        unfold fin1; rw [if_neg (by rw [HLF.out]; omega), HLF.out]; rfl)
      go_wp2
      go_ret
      exact ⟨rfl, M9, by rw [HF.out]; exact ⟨_, _, V9.out⟩, O9.out, HM9.out⟩
end Go.Proofs.YtcakeenfkdhedaaDoor.Gm
