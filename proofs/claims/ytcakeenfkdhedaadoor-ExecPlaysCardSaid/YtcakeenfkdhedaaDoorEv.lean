/- A run's step: nothing is to be had. (Printed by wip/mk_XEs.py.) -/
import Derived.Test.YtcakeenfkdhedaaDoorEu
namespace Go.Proofs.YtcakeenfkdhedaaDoor.Gm
open Go.RowKit
set_option linter.unusedVariables false
set_option maxHeartbeats 4000000 in
set_option maxRecDepth 100000 in
theorem xstep_none1 (r : Rn) (s : RS) (zs : List Int) (C M : Nat → Prop) (w : World) (a v : Nat) (h : RunAt w C M r s) (hI : RI r.back r.ks zs r.W r.ll s) (hg : GL r.ks r.ll) (hzl : zs.length = pk r.ks) (hzb : B64 zs) (hw : W64 (zi (szs r.ks))) (hT : Tb w) (hMT : ¬ M 3) (hW1 : 1 ≤ r.W) (hW8 : r.W ≤ 8) (hx : s.ph < r.ll.length) (ha : a < r.W) (hv : v < r.W) (hq : pg s.qs a = []) (hva : v = a) :
    Calls Tryd.prog 20 #[.pointer (some ⟨r.R, 0, none⟩), pkv a v] w fun e w' => e = .returned (.int .i64 0) ∧ RunTo C M r (stX r.back r.ks r.W r.ll s a v) w w' := by
  have hal := (Below.refl w.heap.size w).alloc (Nat.le_refl _) (.cells #[.int .i64 a, .int .i64 v] 43)
  have CC := Lib.hid (xdone_any r s C M _ (h.bel hal))
  rw [decide_eq_false (by omega)] at CC
  have HAL := Lib.hid hal
  obtain ⟨var, vlog, h⟩ := h
  obtain ⟨qa, qc, qe, hqc, _, hqg⟩ := own_shape h.dq
  obtain ⟨gq, rfl⟩ := hqg (by omega)
  have c4 : (w.alloc (.cells #[.int .i64 a, .int .i64 v] 43)).cell? ⟨r.R, 4, none⟩ = some (.slice (some ⟨gq, 0, none⟩) r.W qc) := by rw [← qe]; exact (h.run.alloc _).cell 4
  have V0 := Lib.hid (h.bel hal)
  have T0 := Lib.hid (hT.below hal)
  have KB := Lib.hid (Blk.new w 43 #[.int .i64 a, .int .i64 v])
  have HI := Lib.hid hI
  have HG := Lib.hid hg
  have HX := Lib.hid hx
  have HA := Lib.hid ha
  have HV := Lib.hid hv
  have HQE := Lib.hid qe
  have HLT := Lib.hid h.lt
  have HMT := Lib.hid hMT
  have LLN := Lib.hid (RI.log_le hI hg)
  have hph3 : s.ph < 3 := by have := hg.shp.len3; rw [szs_len, ← hg.len] at this; omega
  obtain ⟨L, hL⟩ : ∃ L, s.left = L + 1 := ⟨s.left - 1, by have := (hI.pos hx).1; omega⟩
  have hL64 : L ≤ 63 := by have := (hI.pos hx).2; omega
  have HLF := Lib.hid hL
  have hst : stX r.back r.ks r.W r.ll s a v = s := by
    unfold stX; rw [if_neg (by rw [hq]; simp), if_neg (fun h => h.1 hva)]
  rw [hst]
  have HQ := Lib.hid hq
  have CDO := Lib.hid (show r.back = r.back from rfl)
  have TLT := Lib.hid (show 3 < w.heap.size from World.block_lt_of_cell? w ⟨3, 0, none⟩ (hT 0 (by omega)))
  have HVA := Lib.hid hva
  clear hva
  clear hst hzl hzb hw
  obtain ⟨R, hR⟩ : ∃ R, R = r.R := ⟨_, rfl⟩
  have HR := Lib.hid hR
  obtain ⟨W, hWe⟩ : ∃ W, W = r.W := ⟨_, rfl⟩
  have HWE := Lib.hid hWe
  obtain ⟨back, hbk⟩ : ∃ b, b = r.back := ⟨_, rfl⟩
  have HBK := Lib.hid hbk
  rw [← hR] at CC c4 ⊢
  rw [← hWe] at c4 ha hv hW1 hW8 hqc
  clear hL h hal qe hR hWe hbk hT hI hg hx hMT hq
  unfold pkv
  go_enter Tryd.func20, Tryd.ntmps20
  go_wp2_with fail
  refine CC.out.mono ?_
  rintro e w1 ⟨rfl, hb⟩
  obtain ⟨bp, hbp⟩ : ∃ b, b = w.heap.size := ⟨_, rfl⟩
  rw [← hbp] at KB ⊢
  have K1 := KB.out.below hb (by rw [hbp]; simp)
  have KP1 := Lib.hid K1
  have b0 : w1.cell? ⟨bp, 0, none⟩ = some (.int .i64 a) := K1.cell 0
  have b1 : w1.cell? ⟨bp, 1, none⟩ = some (.int .i64 v) := K1.cell 1
  have V1 := Lib.hid (V0.out.bel hb)
  have T1 := Lib.hid (T0.out.below hb)
  have HB := Lib.hid (show Only (fun _ => False) w w1 from Only.of_below (HAL.out.trans (hb.mono (by simp))) (fun k hk hk' => by omega))
  have HBP := Lib.hid hbp
  clear K1 hb c4 hbp KB V0 T0 CC HAL
  have c4 : w1.cell? ⟨R, 4, none⟩ = some (.slice (some ⟨gq, 0, none⟩) W qc) := by rw [HR.out, HWE.out, ← HQE.out]; exact V1.out.run.cell 4
  have hdq := V1.out.dq
  rw [HQE.out] at hdq
  have cp : w1.cell? ⟨gq, a, none⟩ = some (.pointer (some ⟨r.D a, 0, none⟩)) := by
    rw [World.ownsRow.cellAt hdq a (by rw [Nat.mul_one]; exact HA.out), get_ptrs r.D HA.out]
  clear hdq
  have g1 : decide ((a : Int) < 0) = false := decide_eq_false (by omega)
  have g2 : decide ((W : Int) ≤ (a : Int)) = false := decide_eq_false (by omega)
  have g2' : decide (W ≤ a) = false := decide_eq_false (by omega)
  have g3 : decide ((v : Int) < 0) = false := decide_eq_false (by omega)
  have g4 : decide ((W : Int) ≤ (v : Int)) = false := decide_eq_false (by omega)
  have g4' : decide (W ≤ v) = false := decide_eq_false (by omega)
  obtain ⟨D, hD⟩ : ∃ D, D = r.D a := ⟨_, rfl⟩
  obtain ⟨G, hG⟩ : ∃ G, G = r.G a := ⟨_, rfl⟩
  have DQ := V1.out.ds a HA.out
  rw [← hD, ← hG] at DQ
  rw [← hD] at cp
  have CPOP := Lib.hid (fun W' (ho : Only (fun _ => False) w1 W') => (show Calls Tryd.prog 58 #[.pointer (some ⟨D, 0, none⟩)] W' (PopNo W') from (dpop_none D G 64 W' (by have := DQ.only ho id id; rw [HQ.out] at this; exact this)).mono fun e w' h => ⟨h.1, Only.of_below h.2 (fun k hk hk' => by omega)⟩))
  have hDl := DQ.lt
  obtain ⟨⟨dc1, db1⟩, ⟨dc2, db2⟩⟩ := DQ.blk
  have nR1 : R ≠ D := by rw [HR.out]; exact V1.out.run.ne_ db1 (by decide)
  have nR2 : R ≠ G := by rw [HR.out]; exact V1.out.run.ne_ db2 (by decide)
  have nQ1 : gq ≠ D := fun e => own_blk_ne V1.out.dq db1 (by decide) (by rw [HQE.out, ← e]; rfl)
  have nQ2 : gq ≠ G := fun e => own_blk_ne V1.out.dq db2 (by decide) (by rw [HQE.out, ← e]; rfl)
  have mD : M D ∧ M G := by rw [hD, hG]; exact V1.out.dsM a HA.out
  have nB1 : bp ≠ D := fun e => by have := HLT.out D (.inr mD.1); have := HBP.out; omega
  have nB2 : bp ≠ G := fun e => by have := HLT.out G (.inr mD.2); have := HBP.out; omega
  have KS := Lib.hid (fun (W' W'' : World) (ho : Only (fun _ => False) W' W'') (hs : W'.cell? ⟨R, 4, none⟩ = some (.slice (some ⟨gq, 0, none⟩) W qc) ∧ W'.cell? ⟨bp, 0, none⟩ = some (.int .i64 a) ∧ W'.cell? ⟨gq, a, none⟩ = some (.pointer (some ⟨D, 0, none⟩))) => (show W''.cell? ⟨R, 4, none⟩ = some (.slice (some ⟨gq, 0, none⟩) W qc) ∧ W''.cell? ⟨bp, 0, none⟩ = some (.int .i64 a) ∧ W''.cell? ⟨gq, a, none⟩ = some (.pointer (some ⟨D, 0, none⟩)) from
    ⟨ho.cell' hs.1 (fun e => e), ho.cell' hs.2.1 (fun e => e), ho.cell' hs.2.2 (fun e => e)⟩))
  have lB : bp < w1.heap.size := World.block_lt_of_cell? w1 ⟨bp, 0, none⟩ b0
  have lQ : gq < w1.heap.size := World.block_lt_of_cell? w1 ⟨gq, a, none⟩ cp
  have lR : R < w1.heap.size := World.block_lt_of_cell? w1 ⟨R, 4, none⟩ c4
  have KA := Lib.hid (fun (W' : World) (o o' : Obj) (b i : Nat) (u : Value) (hlt : b < w1.heap.size) (hz : w1.heap.size ≤ W'.heap.size) (hs : (W'.alloc o).cell? ⟨b, i, none⟩ = some u) => (show (W'.alloc o').cell? ⟨b, i, none⟩ = some u by
    rw [World.cell?_alloc_lt _ _ _ (by show b < W'.heap.size; omega)] at hs ⊢; exact hs))
  have KS2 := Lib.hid (fun (W' : World) (o o' : Obj) (hz : w1.heap.size ≤ W'.heap.size) (hs : (W'.alloc o).cell? ⟨R, 4, none⟩ = some (.slice (some ⟨gq, 0, none⟩) W qc) ∧ (W'.alloc o).cell? ⟨bp, 0, none⟩ = some (.int .i64 a) ∧ (W'.alloc o).cell? ⟨gq, a, none⟩ = some (.pointer (some ⟨D, 0, none⟩))) => (show (W'.alloc o').cell? ⟨R, 4, none⟩ = some (.slice (some ⟨gq, 0, none⟩) W qc) ∧ (W'.alloc o').cell? ⟨bp, 0, none⟩ = some (.int .i64 a) ∧ (W'.alloc o').cell? ⟨gq, a, none⟩ = some (.pointer (some ⟨D, 0, none⟩)) from
    ⟨KA.out W' o o' _ _ _ lR hz hs.1, KA.out W' o o' _ _ _ lB hz hs.2.1, KA.out W' o o' _ _ _ lQ hz hs.2.2⟩))
  have KF := Lib.hid (fun (W' : World) (x y z : Value) (b i : Nat) (u : Value) (hlt : b < w1.heap.size) (hs : W'.cell? ⟨b, i, none⟩ = some u) => (show (((W'.setCell ⟨w1.heap.size, 0, none⟩ x).setCell ⟨w1.heap.size, 1, none⟩ y).setCell ⟨w1.heap.size, 2, none⟩ z).cell? ⟨b, i, none⟩ = some u by
    rw [World.cell?_setCell_far _ _ _ _ (show w1.heap.size ≠ b by omega), World.cell?_setCell_far _ _ _ _ (show w1.heap.size ≠ b by omega), World.cell?_setCell_far _ _ _ _ (show w1.heap.size ≠ b by omega)]; exact hs))
  have KS3 := Lib.hid (fun (W' : World) (x y z : Value) (hs : W'.cell? ⟨R, 4, none⟩ = some (.slice (some ⟨gq, 0, none⟩) W qc) ∧ W'.cell? ⟨bp, 0, none⟩ = some (.int .i64 a) ∧ W'.cell? ⟨gq, a, none⟩ = some (.pointer (some ⟨D, 0, none⟩))) => (show (((W'.setCell ⟨w1.heap.size, 0, none⟩ x).setCell ⟨w1.heap.size, 1, none⟩ y).setCell ⟨w1.heap.size, 2, none⟩ z).cell? ⟨R, 4, none⟩ = some (.slice (some ⟨gq, 0, none⟩) W qc) ∧ (((W'.setCell ⟨w1.heap.size, 0, none⟩ x).setCell ⟨w1.heap.size, 1, none⟩ y).setCell ⟨w1.heap.size, 2, none⟩ z).cell? ⟨bp, 0, none⟩ = some (.int .i64 a) ∧ (((W'.setCell ⟨w1.heap.size, 0, none⟩ x).setCell ⟨w1.heap.size, 1, none⟩ y).setCell ⟨w1.heap.size, 2, none⟩ z).cell? ⟨gq, a, none⟩ = some (.pointer (some ⟨D, 0, none⟩)) from
    ⟨KF.out W' x y z _ _ _ lR hs.1, KF.out W' x y z _ _ _ lB hs.2.1, KF.out W' x y z _ _ _ lQ hs.2.2⟩))
  clear KA KF
  have HDQ := Lib.hid DQ
  have HD := Lib.hid hD
  have HGG := Lib.hid hG
  have HMD := Lib.hid mD
  clear db1 db2 DQ hD hG mD 
  go_wp2_with fail
  go_region_held3 (fun w' => w'.cell? ⟨R, 4, none⟩ = some (.slice (some ⟨gq, 0, none⟩) W qc) ∧ w'.cell? ⟨bp, 0, none⟩ = some (.int .i64 a) ∧ w'.cell? ⟨gq, a, none⟩ = some (.pointer (some ⟨D, 0, none⟩))) (first | with_reducible exact KS3.out _ _ _ _ (by assumption) | with_reducible exact KS2.out _ _ _ (by assumption) (by assumption) | exact KS.out _ _ ho2 (by assumption) | go_keep) ((go_at_call 58; first | (refine (CPOP.out _ (Only.refl (fun _ => False) w1).drew).mono ?_; rintro e w2 ⟨rfl,  ho2⟩; have hz2 : w1.heap.size ≤ w2.heap.size := ho2.size) | (refine (CPOP.out _ ((Only.refl (fun _ => False) w1).drew.alloc _)).mono ?_; rintro e w2 ⟨rfl,  ho2⟩; have kb := (Blk.new w1.drew 56 #[.int .i64 0, .int .i64 0, .int .i64 0]).only ho2 id; have k0 : w2.cell? ⟨w1.heap.size, 0, none⟩ = some (.int .i64 0) := kb.cell 0; have k1 : w2.cell? ⟨w1.heap.size, 1, none⟩ = some (.int .i64 0) := kb.cell 1; have k2 : w2.cell? ⟨w1.heap.size, 2, none⟩ = some (.int .i64 0) := kb.cell 2; have kf0 : w2.frozen? ⟨w1.heap.size, 0, none⟩ = false := kb.frozen 0; have kf1 : w2.frozen? ⟨w1.heap.size, 1, none⟩ = false := kb.frozen 1; have kf2 : w2.frozen? ⟨w1.heap.size, 2, none⟩ = false := kb.frozen 2)))
  · have O12 := ((Only.refl (fun _ => False) w1).drew).trans ho2
    have V2 := V1.out.only O12 (fun _ e => e.elim)
    have hal := (Below.refl w2.heap.size w2).alloc (Nat.le_refl _) (.cells #[.int .i64 0, .int .i64 0, .int .i64 0] 56)
    have Vz := Lib.hid (V2.bel hal)
    have KTz := Lib.hid (Blk.new w2 56 #[.int .i64 0, .int .i64 0, .int .i64 0])
    have KPz := Lib.hid ((KP1.out.only O12 id).alloc (.cells #[.int .i64 0, .int .i64 0, .int .i64 0] 56))
    have Ozz := Lib.hid (((HB.out.trans O12).alloc (.cells #[.int .i64 0, .int .i64 0, .int .i64 0] 56)).mono (T := M) (fun _ _ e => e.elim))
    have Tzz := Lib.hid ((T1.out.only O12 id).below hal)
    have hbt : w.heap.size ≤ w2.heap.size := by have := HB.out.size; omega
    have hbtp : bp ≠ w2.heap.size := by omega
    clear V2 hal ho2 hz2 V1 T1 O12
    rename_i hheld
    clear hheld
    obtain ⟨bt, hbte⟩ : ∃ b, b = w2.heap.size := ⟨_, rfl⟩
    rw [← hbte] at KTz hbt hbtp ⊢
    clear hbte
    generalize w2.alloc (.cells #[.int .i64 0, .int .i64 0, .int .i64 0] 56) = wz at *

    clear b0 b1 c4 cp
    have b0 : wz.cell? ⟨bp, 0, none⟩ = some (.int .i64 a) := KPz.out.cell 0
    have b1 : wz.cell? ⟨bp, 1, none⟩ = some (.int .i64 v) := KPz.out.cell 1
    have hva1 : ((v : Int) == (a : Int)) = true := by have := HVA.out; simp; omega
    go_wp2
    go_ret
    exact ⟨rfl, M, ⟨_, _, Vz.out⟩, Ozz.out, fun k hk => .inl hk⟩
  · have OA := ((Only.refl (fun _ => False) w1).drew).alloc (.cells #[.int .i64 0, .int .i64 0, .int .i64 0] 56)
    have HBT := Lib.hid (((kb.set_ 0 (.int .i64 0)).set_ 1 (.int .i64 0)).set_ 2 (.int .i64 0))
    have O23 := (((Only.refl (fun k => k = w1.heap.size) w2).setCell (p := ⟨w1.heap.size, 0, none⟩) (.inl rfl) (.int .i64 0)).setCell (p := ⟨w1.heap.size, 1, none⟩) (.inl rfl) (.int .i64 0)).setCell (p := ⟨w1.heap.size, 2, none⟩) (.inl rfl) (.int .i64 0)
    have Vz := Lib.hid ((V1.out.only (OA.trans ho2) (fun _ e => e.elim)).only O23 (fun k e => by
      have h1 := fun hh => V1.out.lt k hh
      have e : k = w1.heap.size := e
      exact ⟨fun hc => by have := h1 (.inl hc); omega, fun hm => by have := h1 (.inr hm); omega⟩))
    have KTz := Lib.hid (show Blk (((w2.setCell ⟨w1.heap.size, 0, none⟩ (.int .i64 0)).setCell ⟨w1.heap.size, 1, none⟩ (.int .i64 0)).setCell ⟨w1.heap.size, 2, none⟩ (.int .i64 0)) w1.heap.size 56 #[.int .i64 0, .int .i64 0, .int .i64 0] from HBT.out)
    have KPz := Lib.hid ((KP1.out.only (OA.trans ho2) id).only O23 (show ¬ (bp = w1.heap.size) by omega))
    have Ozz := Lib.hid ((((HB.out.trans OA).trans ho2).mono (T := M) (fun _ _ e => e.elim)).trans2 O23 (fun k hk e => by have := HB.out.size; have e : k = w1.heap.size := e; omega))
    have Tzz := Lib.hid ((T1.out.only (OA.trans ho2) id).only O23 (fun e => by
      have h1 : 3 < w1.heap.size := World.block_lt_of_cell? w1 ⟨3, 0, none⟩ (T1.out 0 (by omega))
      have e : 3 = w1.heap.size := e
      omega))
    have hbt : w.heap.size ≤ w1.heap.size := HB.out.size
    have hbtp : bp ≠ w1.heap.size := by omega
    clear V1 T1 kb k0 k1 k2 kf0 kf1 kf2 HBT O23 OA ho2
    rename_i hheld
    clear hheld
    generalize (((w2.setCell ⟨w1.heap.size, 0, none⟩ (.int .i64 0)).setCell ⟨w1.heap.size, 1, none⟩ (.int .i64 0)).setCell ⟨w1.heap.size, 2, none⟩ (.int .i64 0)) = wz at *
    obtain ⟨bt, hbte⟩ : ∃ b, b = w1.heap.size := ⟨_, rfl⟩
    rw [← hbte] at KTz hbt hbtp ⊢
    clear hbte

    clear b0 b1 c4 cp
    have b0 : wz.cell? ⟨bp, 0, none⟩ = some (.int .i64 a) := KPz.out.cell 0
    have b1 : wz.cell? ⟨bp, 1, none⟩ = some (.int .i64 v) := KPz.out.cell 1
    have hva1 : ((v : Int) == (a : Int)) = true := by have := HVA.out; simp; omega
    go_wp2
    go_ret
    exact ⟨rfl, M, ⟨_, _, Vz.out⟩, Ozz.out, fun k hk => .inl hk⟩
set_option maxHeartbeats 4000000 in
set_option maxRecDepth 100000 in
theorem xstep_none2 (r : Rn) (s : RS) (zs : List Int) (C M : Nat → Prop) (w : World) (a v : Nat) (h : RunAt w C M r s) (hI : RI r.back r.ks zs r.W r.ll s) (hg : GL r.ks r.ll) (hzl : zs.length = pk r.ks) (hzb : B64 zs) (hw : W64 (zi (szs r.ks))) (hT : Tb w) (hMT : ¬ M 3) (hW1 : 1 ≤ r.W) (hW8 : r.W ≤ 8) (hx : s.ph < r.ll.length) (ha : a < r.W) (hv : v < r.W) (hq : pg s.qs a = []) (hva : v ≠ a) (hqv : pg s.qs v = []) :
    Calls Tryd.prog 20 #[.pointer (some ⟨r.R, 0, none⟩), pkv a v] w fun e w' => e = .returned (.int .i64 0) ∧ RunTo C M r (stX r.back r.ks r.W r.ll s a v) w w' := by
  have hal := (Below.refl w.heap.size w).alloc (Nat.le_refl _) (.cells #[.int .i64 a, .int .i64 v] 43)
  have CC := Lib.hid (xdone_any r s C M _ (h.bel hal))
  rw [decide_eq_false (by omega)] at CC
  have HAL := Lib.hid hal
  obtain ⟨var, vlog, h⟩ := h
  obtain ⟨qa, qc, qe, hqc, _, hqg⟩ := own_shape h.dq
  obtain ⟨gq, rfl⟩ := hqg (by omega)
  have c4 : (w.alloc (.cells #[.int .i64 a, .int .i64 v] 43)).cell? ⟨r.R, 4, none⟩ = some (.slice (some ⟨gq, 0, none⟩) r.W qc) := by rw [← qe]; exact (h.run.alloc _).cell 4
  have V0 := Lib.hid (h.bel hal)
  have T0 := Lib.hid (hT.below hal)
  have KB := Lib.hid (Blk.new w 43 #[.int .i64 a, .int .i64 v])
  have HI := Lib.hid hI
  have HG := Lib.hid hg
  have HX := Lib.hid hx
  have HA := Lib.hid ha
  have HV := Lib.hid hv
  have HQE := Lib.hid qe
  have HLT := Lib.hid h.lt
  have HMT := Lib.hid hMT
  have LLN := Lib.hid (RI.log_le hI hg)
  have hph3 : s.ph < 3 := by have := hg.shp.len3; rw [szs_len, ← hg.len] at this; omega
  obtain ⟨L, hL⟩ : ∃ L, s.left = L + 1 := ⟨s.left - 1, by have := (hI.pos hx).1; omega⟩
  have hL64 : L ≤ 63 := by have := (hI.pos hx).2; omega
  have HLF := Lib.hid hL
  have hst : stX r.back r.ks r.W r.ll s a v = s := by
    unfold stX; rw [if_neg (by rw [hq]; simp), if_neg (fun h => by rw [hqv] at h; exact absurd h.2 (by simp))]
  rw [hst]
  have HQ := Lib.hid hq
  have CDO := Lib.hid (show r.back = r.back from rfl)
  have TLT := Lib.hid (show 3 < w.heap.size from World.block_lt_of_cell? w ⟨3, 0, none⟩ (hT 0 (by omega)))
  have HQV := Lib.hid hqv
  clear hqv
  clear hst hzl hzb hw
  obtain ⟨R, hR⟩ : ∃ R, R = r.R := ⟨_, rfl⟩
  have HR := Lib.hid hR
  obtain ⟨W, hWe⟩ : ∃ W, W = r.W := ⟨_, rfl⟩
  have HWE := Lib.hid hWe
  obtain ⟨back, hbk⟩ : ∃ b, b = r.back := ⟨_, rfl⟩
  have HBK := Lib.hid hbk
  rw [← hR] at CC c4 ⊢
  rw [← hWe] at c4 ha hv hW1 hW8 hqc
  clear hL h hal qe hR hWe hbk hT hI hg hx hMT hq
  unfold pkv
  go_enter Tryd.func20, Tryd.ntmps20
  go_wp2_with fail
  refine CC.out.mono ?_
  rintro e w1 ⟨rfl, hb⟩
  obtain ⟨bp, hbp⟩ : ∃ b, b = w.heap.size := ⟨_, rfl⟩
  rw [← hbp] at KB ⊢
  have K1 := KB.out.below hb (by rw [hbp]; simp)
  have KP1 := Lib.hid K1
  have b0 : w1.cell? ⟨bp, 0, none⟩ = some (.int .i64 a) := K1.cell 0
  have b1 : w1.cell? ⟨bp, 1, none⟩ = some (.int .i64 v) := K1.cell 1
  have V1 := Lib.hid (V0.out.bel hb)
  have T1 := Lib.hid (T0.out.below hb)
  have HB := Lib.hid (show Only (fun _ => False) w w1 from Only.of_below (HAL.out.trans (hb.mono (by simp))) (fun k hk hk' => by omega))
  have HBP := Lib.hid hbp
  clear K1 hb c4 hbp KB V0 T0 CC HAL
  have c4 : w1.cell? ⟨R, 4, none⟩ = some (.slice (some ⟨gq, 0, none⟩) W qc) := by rw [HR.out, HWE.out, ← HQE.out]; exact V1.out.run.cell 4
  have hdq := V1.out.dq
  rw [HQE.out] at hdq
  have cp : w1.cell? ⟨gq, a, none⟩ = some (.pointer (some ⟨r.D a, 0, none⟩)) := by
    rw [World.ownsRow.cellAt hdq a (by rw [Nat.mul_one]; exact HA.out), get_ptrs r.D HA.out]
  clear hdq
  have g1 : decide ((a : Int) < 0) = false := decide_eq_false (by omega)
  have g2 : decide ((W : Int) ≤ (a : Int)) = false := decide_eq_false (by omega)
  have g2' : decide (W ≤ a) = false := decide_eq_false (by omega)
  have g3 : decide ((v : Int) < 0) = false := decide_eq_false (by omega)
  have g4 : decide ((W : Int) ≤ (v : Int)) = false := decide_eq_false (by omega)
  have g4' : decide (W ≤ v) = false := decide_eq_false (by omega)
  obtain ⟨D, hD⟩ : ∃ D, D = r.D a := ⟨_, rfl⟩
  obtain ⟨G, hG⟩ : ∃ G, G = r.G a := ⟨_, rfl⟩
  have DQ := V1.out.ds a HA.out
  rw [← hD, ← hG] at DQ
  rw [← hD] at cp
  have CPOP := Lib.hid (fun W' (ho : Only (fun _ => False) w1 W') => (show Calls Tryd.prog 58 #[.pointer (some ⟨D, 0, none⟩)] W' (PopNo W') from (dpop_none D G 64 W' (by have := DQ.only ho id id; rw [HQ.out] at this; exact this)).mono fun e w' h => ⟨h.1, Only.of_below h.2 (fun k hk hk' => by omega)⟩))
  have hDl := DQ.lt
  obtain ⟨⟨dc1, db1⟩, ⟨dc2, db2⟩⟩ := DQ.blk
  have nR1 : R ≠ D := by rw [HR.out]; exact V1.out.run.ne_ db1 (by decide)
  have nR2 : R ≠ G := by rw [HR.out]; exact V1.out.run.ne_ db2 (by decide)
  have nQ1 : gq ≠ D := fun e => own_blk_ne V1.out.dq db1 (by decide) (by rw [HQE.out, ← e]; rfl)
  have nQ2 : gq ≠ G := fun e => own_blk_ne V1.out.dq db2 (by decide) (by rw [HQE.out, ← e]; rfl)
  have mD : M D ∧ M G := by rw [hD, hG]; exact V1.out.dsM a HA.out
  have nB1 : bp ≠ D := fun e => by have := HLT.out D (.inr mD.1); have := HBP.out; omega
  have nB2 : bp ≠ G := fun e => by have := HLT.out G (.inr mD.2); have := HBP.out; omega
  have KS := Lib.hid (fun (W' W'' : World) (ho : Only (fun _ => False) W' W'') (hs : W'.cell? ⟨R, 4, none⟩ = some (.slice (some ⟨gq, 0, none⟩) W qc) ∧ W'.cell? ⟨bp, 0, none⟩ = some (.int .i64 a) ∧ W'.cell? ⟨gq, a, none⟩ = some (.pointer (some ⟨D, 0, none⟩))) => (show W''.cell? ⟨R, 4, none⟩ = some (.slice (some ⟨gq, 0, none⟩) W qc) ∧ W''.cell? ⟨bp, 0, none⟩ = some (.int .i64 a) ∧ W''.cell? ⟨gq, a, none⟩ = some (.pointer (some ⟨D, 0, none⟩)) from
    ⟨ho.cell' hs.1 (fun e => e), ho.cell' hs.2.1 (fun e => e), ho.cell' hs.2.2 (fun e => e)⟩))
  have lB : bp < w1.heap.size := World.block_lt_of_cell? w1 ⟨bp, 0, none⟩ b0
  have lQ : gq < w1.heap.size := World.block_lt_of_cell? w1 ⟨gq, a, none⟩ cp
  have lR : R < w1.heap.size := World.block_lt_of_cell? w1 ⟨R, 4, none⟩ c4
  have KA := Lib.hid (fun (W' : World) (o o' : Obj) (b i : Nat) (u : Value) (hlt : b < w1.heap.size) (hz : w1.heap.size ≤ W'.heap.size) (hs : (W'.alloc o).cell? ⟨b, i, none⟩ = some u) => (show (W'.alloc o').cell? ⟨b, i, none⟩ = some u by
    rw [World.cell?_alloc_lt _ _ _ (by show b < W'.heap.size; omega)] at hs ⊢; exact hs))
  have KS2 := Lib.hid (fun (W' : World) (o o' : Obj) (hz : w1.heap.size ≤ W'.heap.size) (hs : (W'.alloc o).cell? ⟨R, 4, none⟩ = some (.slice (some ⟨gq, 0, none⟩) W qc) ∧ (W'.alloc o).cell? ⟨bp, 0, none⟩ = some (.int .i64 a) ∧ (W'.alloc o).cell? ⟨gq, a, none⟩ = some (.pointer (some ⟨D, 0, none⟩))) => (show (W'.alloc o').cell? ⟨R, 4, none⟩ = some (.slice (some ⟨gq, 0, none⟩) W qc) ∧ (W'.alloc o').cell? ⟨bp, 0, none⟩ = some (.int .i64 a) ∧ (W'.alloc o').cell? ⟨gq, a, none⟩ = some (.pointer (some ⟨D, 0, none⟩)) from
    ⟨KA.out W' o o' _ _ _ lR hz hs.1, KA.out W' o o' _ _ _ lB hz hs.2.1, KA.out W' o o' _ _ _ lQ hz hs.2.2⟩))
  have KF := Lib.hid (fun (W' : World) (x y z : Value) (b i : Nat) (u : Value) (hlt : b < w1.heap.size) (hs : W'.cell? ⟨b, i, none⟩ = some u) => (show (((W'.setCell ⟨w1.heap.size, 0, none⟩ x).setCell ⟨w1.heap.size, 1, none⟩ y).setCell ⟨w1.heap.size, 2, none⟩ z).cell? ⟨b, i, none⟩ = some u by
    rw [World.cell?_setCell_far _ _ _ _ (show w1.heap.size ≠ b by omega), World.cell?_setCell_far _ _ _ _ (show w1.heap.size ≠ b by omega), World.cell?_setCell_far _ _ _ _ (show w1.heap.size ≠ b by omega)]; exact hs))
  have KS3 := Lib.hid (fun (W' : World) (x y z : Value) (hs : W'.cell? ⟨R, 4, none⟩ = some (.slice (some ⟨gq, 0, none⟩) W qc) ∧ W'.cell? ⟨bp, 0, none⟩ = some (.int .i64 a) ∧ W'.cell? ⟨gq, a, none⟩ = some (.pointer (some ⟨D, 0, none⟩))) => (show (((W'.setCell ⟨w1.heap.size, 0, none⟩ x).setCell ⟨w1.heap.size, 1, none⟩ y).setCell ⟨w1.heap.size, 2, none⟩ z).cell? ⟨R, 4, none⟩ = some (.slice (some ⟨gq, 0, none⟩) W qc) ∧ (((W'.setCell ⟨w1.heap.size, 0, none⟩ x).setCell ⟨w1.heap.size, 1, none⟩ y).setCell ⟨w1.heap.size, 2, none⟩ z).cell? ⟨bp, 0, none⟩ = some (.int .i64 a) ∧ (((W'.setCell ⟨w1.heap.size, 0, none⟩ x).setCell ⟨w1.heap.size, 1, none⟩ y).setCell ⟨w1.heap.size, 2, none⟩ z).cell? ⟨gq, a, none⟩ = some (.pointer (some ⟨D, 0, none⟩)) from
    ⟨KF.out W' x y z _ _ _ lR hs.1, KF.out W' x y z _ _ _ lB hs.2.1, KF.out W' x y z _ _ _ lQ hs.2.2⟩))
  clear KA KF
  have HDQ := Lib.hid DQ
  have HD := Lib.hid hD
  have HGG := Lib.hid hG
  have HMD := Lib.hid mD
  clear db1 db2 DQ hD hG mD 
  go_wp2_with fail
  go_region_held3 (fun w' => w'.cell? ⟨R, 4, none⟩ = some (.slice (some ⟨gq, 0, none⟩) W qc) ∧ w'.cell? ⟨bp, 0, none⟩ = some (.int .i64 a) ∧ w'.cell? ⟨gq, a, none⟩ = some (.pointer (some ⟨D, 0, none⟩))) (first | with_reducible exact KS3.out _ _ _ _ (by assumption) | with_reducible exact KS2.out _ _ _ (by assumption) (by assumption) | exact KS.out _ _ ho2 (by assumption) | go_keep) ((go_at_call 58; first | (refine (CPOP.out _ (Only.refl (fun _ => False) w1).drew).mono ?_; rintro e w2 ⟨rfl,  ho2⟩; have hz2 : w1.heap.size ≤ w2.heap.size := ho2.size) | (refine (CPOP.out _ ((Only.refl (fun _ => False) w1).drew.alloc _)).mono ?_; rintro e w2 ⟨rfl,  ho2⟩; have kb := (Blk.new w1.drew 56 #[.int .i64 0, .int .i64 0, .int .i64 0]).only ho2 id; have k0 : w2.cell? ⟨w1.heap.size, 0, none⟩ = some (.int .i64 0) := kb.cell 0; have k1 : w2.cell? ⟨w1.heap.size, 1, none⟩ = some (.int .i64 0) := kb.cell 1; have k2 : w2.cell? ⟨w1.heap.size, 2, none⟩ = some (.int .i64 0) := kb.cell 2; have kf0 : w2.frozen? ⟨w1.heap.size, 0, none⟩ = false := kb.frozen 0; have kf1 : w2.frozen? ⟨w1.heap.size, 1, none⟩ = false := kb.frozen 1; have kf2 : w2.frozen? ⟨w1.heap.size, 2, none⟩ = false := kb.frozen 2)))
  · have O12 := ((Only.refl (fun _ => False) w1).drew).trans ho2
    have V2 := V1.out.only O12 (fun _ e => e.elim)
    have hal := (Below.refl w2.heap.size w2).alloc (Nat.le_refl _) (.cells #[.int .i64 0, .int .i64 0, .int .i64 0] 56)
    have Vz := Lib.hid (V2.bel hal)
    have KTz := Lib.hid (Blk.new w2 56 #[.int .i64 0, .int .i64 0, .int .i64 0])
    have KPz := Lib.hid ((KP1.out.only O12 id).alloc (.cells #[.int .i64 0, .int .i64 0, .int .i64 0] 56))
    have Ozz := Lib.hid (((HB.out.trans O12).alloc (.cells #[.int .i64 0, .int .i64 0, .int .i64 0] 56)).mono (T := M) (fun _ _ e => e.elim))
    have Tzz := Lib.hid ((T1.out.only O12 id).below hal)
    have hbt : w.heap.size ≤ w2.heap.size := by have := HB.out.size; omega
    have hbtp : bp ≠ w2.heap.size := by omega
    clear V2 hal ho2 hz2 V1 T1 O12
    rename_i hheld
    clear hheld
    obtain ⟨bt, hbte⟩ : ∃ b, b = w2.heap.size := ⟨_, rfl⟩
    rw [← hbte] at KTz hbt hbtp ⊢
    clear hbte
    generalize w2.alloc (.cells #[.int .i64 0, .int .i64 0, .int .i64 0] 56) = wz at *
    have NBT := Lib.hid (show ¬ C bt ∧ ¬ M bt from ⟨fun hc => by have := HLT.out bt (.inl hc); omega, fun hc => by have := HLT.out bt (.inr hc); omega⟩)

    clear b0 b1 c4 cp
    have b0 : wz.cell? ⟨bp, 0, none⟩ = some (.int .i64 a) := KPz.out.cell 0
    have b1 : wz.cell? ⟨bp, 1, none⟩ = some (.int .i64 v) := KPz.out.cell 1
    have c4 : wz.cell? ⟨R, 4, none⟩ = some (.slice (some ⟨gq, 0, none⟩) W qc) := by rw [HR.out, HWE.out, ← HQE.out]; exact Vz.out.run.cell 4
    have hdq := Vz.out.dq
    rw [HQE.out] at hdq
    have cv : wz.cell? ⟨gq, v, none⟩ = some (.pointer (some ⟨r.D v, 0, none⟩)) := by
      rw [World.ownsRow.cellAt hdq v (by rw [Nat.mul_one]; exact HV.out), get_ptrs r.D HV.out]
    clear hdq
    obtain ⟨Dv, hDv⟩ : ∃ D, D = r.D v := ⟨_, rfl⟩
    obtain ⟨Gv, hGv⟩ : ∃ G, G = r.G v := ⟨_, rfl⟩
    have HDv := Lib.hid hDv
    have HGv := Lib.hid hGv
    rw [← hDv] at cv
    clear hDv hGv
    have CST := Lib.hid (show Calls Tryd.prog 59 #[.pointer (some ⟨Dv, 0, none⟩)] wz.drew (PopNo wz.drew) by
      have h1 : DqAt wz.drew Dv Gv 64 (pg s.qs v) := by rw [HDv.out, HGv.out]; exact (Vz.out.ds v HV.out).only ((Only.refl (fun _ => False) wz).drew) id id
      rw [HQV.out] at h1
      exact (dsteal_none Dv Gv 64 wz.drew h1).mono fun e w' h => ⟨h.1, Only.of_below h.2 (fun k hk hk' => by omega)⟩)
    have hva1 : ((v : Int) == (a : Int)) = false := by simp; omega
    go_wp2_with fail
    refine wp_region_N [3, 5, 7] [8, 12] (fun w' => w'.cell? ⟨R, 4, none⟩ = some (.slice (some ⟨gq, 0, none⟩) W qc) ∧ w'.cell? ⟨bp, 1, none⟩ = some (.int .i64 v) ∧ w'.cell? ⟨gq, v, none⟩ = some (.pointer (some ⟨Dv, 0, none⟩))) (by kernel_rfl) ?_
    have hS : wz.drew.cell? ⟨R, 4, none⟩ = some (.slice (some ⟨gq, 0, none⟩) W qc) ∧ wz.drew.cell? ⟨bp, 1, none⟩ = some (.int .i64 v) ∧ wz.drew.cell? ⟨gq, v, none⟩ = some (.pointer (some ⟨Dv, 0, none⟩)) := ⟨c4, b1, cv⟩
    refine wpN_pure (i := 0) (v := ?_) rfl (by kernel_rfl) (by kernel_rfl) (by kernel_rfl) (by kernel_rfl) (fun _ _ _ h => h) (Or.inl ⟨by rfl, ?_⟩) (fun _ => hS) ?_
    rotate_left
    · ((intro w' hw'; (try dsimp only at hw'); go_simp) <;> with_reducible rfl)
    simp only [Act.put, List.setIfInBounds_toArray, List.set_cons_zero, List.set_cons_succ]
    refine wpN_pure (i := 1) (v := ?_) rfl (by kernel_rfl) (by kernel_rfl) (by kernel_rfl) (by kernel_rfl) (fun _ _ _ h => h) (Or.inl ⟨by rfl, ?_⟩) (fun _ => hS) ?_
    rotate_left
    · ((intro w' hw'; (try dsimp only at hw'); go_simp) <;> with_reducible rfl)
    simp only [Act.put, List.setIfInBounds_toArray, List.set_cons_zero, List.set_cons_succ]
    refine wpN_pure (i := 2) (v := ?_) rfl (by kernel_rfl) (by kernel_rfl) (by kernel_rfl) (by kernel_rfl) (fun _ _ _ h => h) (Or.inl ⟨by rfl, ?_⟩) (fun _ => hS) ?_
    rotate_left
    · ((intro w' hw'; (try dsimp only at hw'); go_simp) <;> with_reducible rfl)
    simp only [Act.put, List.setIfInBounds_toArray, List.set_cons_zero, List.set_cons_succ]
    refine wpN_read (i := 3) (v := ?_) rfl (by kernel_rfl) (by kernel_rfl) (by kernel_rfl) (by kernel_rfl) (by kernel_rfl) (fun _ _ _ h => h) (Or.inl ⟨by rfl, ?_⟩) hS ?_
    rotate_left
    · ((intro w' hw'; (try dsimp only at hw'); go_simp) <;> with_reducible rfl)
    simp only [Act.put, List.setIfInBounds_toArray, List.set_cons_zero, List.set_cons_succ]
    refine wpN_pure (i := 4) (v := ?_) rfl (by kernel_rfl) (by kernel_rfl) (by kernel_rfl) (by kernel_rfl) (fun _ _ _ h => h) (Or.inl ⟨by rfl, ?_⟩) (fun _ => hS) ?_
    rotate_left
    · ((intro w' hw'; (try dsimp only at hw'); go_simp) <;> with_reducible rfl)
    simp only [Act.put, List.setIfInBounds_toArray, List.set_cons_zero, List.set_cons_succ]
    refine wpN_read (i := 5) (v := ?_) rfl (by kernel_rfl) (by kernel_rfl) (by kernel_rfl) (by kernel_rfl) (by kernel_rfl) (fun _ _ _ h => h) (Or.inl ⟨by rfl, ?_⟩) hS ?_
    rotate_left
    · ((intro w' hw'; (try dsimp only at hw'); go_simp) <;> with_reducible rfl)
    simp only [Act.put, List.setIfInBounds_toArray, List.set_cons_zero, List.set_cons_succ]
    refine wpN_pure (i := 6) (v := ?_) rfl (by kernel_rfl) (by kernel_rfl) (by kernel_rfl) (by kernel_rfl) (fun _ _ _ h => h) (Or.inl ⟨by rfl, ?_⟩) (fun _ => hS) ?_
    rotate_left
    · ((intro w' hw'; (try dsimp only at hw'); go_simp) <;> with_reducible rfl)
    simp only [Act.put, List.setIfInBounds_toArray, List.set_cons_zero, List.set_cons_succ]
    refine wpN_read (i := 7) (v := ?_) rfl (by kernel_rfl) (by kernel_rfl) (by kernel_rfl) (by kernel_rfl) (by kernel_rfl) (fun _ _ _ h => h) (Or.inl ⟨by rfl, ?_⟩) hS ?_
    rotate_left
    · ((intro w' hw'; (try dsimp only at hw'); go_simp) <;> with_reducible rfl)
    simp only [Act.put, List.setIfInBounds_toArray, List.set_cons_zero, List.set_cons_succ]
    refine wpN_one (i := 8) rfl rfl (by kernel_rfl) (by kernel_rfl) (fun K hK => ?_)
    go_simp
    refine CST.out.mono ?_
    rintro e w4 ⟨rfl, ho4⟩
    refine hK.out _ _ ?_
    clear hK K hS
    have V4 := Lib.hid ((Vz.out.bel (w' := wz.drew) (below_drewN (Below.refl _ _) 1)).only ho4 (fun _ e => e.elim))
    have O4 := Lib.hid (Ozz.out.drew.trans2 ho4 (fun k _ e => e.elim))
    have T4 := Lib.hid (Tb.only (w := wz.drew) Tzz.out ho4 id)
    have KT4 := Lib.hid (KTz.out.drew.only ho4 id)
    have HBW := Lib.hid hbt
    clear ho4 CST Vz Ozz Tzz KTz KPz
    refine wpN_pure (i := 9) (v := ?_) rfl (by kernel_rfl) (by kernel_rfl) (by kernel_rfl) (by kernel_rfl) (fun _ _ _ h => h) (Or.inl ⟨by rfl, ?_⟩) (fun h => Bool.noConfusion (h.symm.trans (show _ = false by kernel_rfl))) ?_
    rotate_left
    · ((intro w' hw'; (try dsimp only at hw'); go_simp) <;> with_reducible rfl)
    simp only [Act.put, List.setIfInBounds_toArray, List.set_cons_zero, List.set_cons_succ]
    refine wpN_pure (i := 10) (v := ?_) rfl (by kernel_rfl) (by kernel_rfl) (by kernel_rfl) (by kernel_rfl) (fun _ _ _ h => h) (Or.inl ⟨by rfl, ?_⟩) (fun h => Bool.noConfusion (h.symm.trans (show _ = false by kernel_rfl))) ?_
    rotate_left
    · ((intro w' hw'; (try dsimp only at hw'); go_simp) <;> with_reducible rfl)
    simp only [Act.put, List.setIfInBounds_toArray, List.set_cons_zero, List.set_cons_succ]
    refine wpN_pure (i := 11) (v := ?_) rfl (by kernel_rfl) (by kernel_rfl) (by kernel_rfl) (by kernel_rfl) (fun _ _ _ h => h) (Or.inl ⟨by rfl, ?_⟩) (fun h => Bool.noConfusion (h.symm.trans (show _ = false by kernel_rfl))) ?_
    rotate_left
    · ((intro w' hw'; (try dsimp only at hw'); go_simp) <;> with_reducible rfl)
    simp only [Act.put, List.setIfInBounds_toArray, List.set_cons_zero, List.set_cons_succ]
    refine wpN_one (i := 12) rfl rfl (by kernel_rfl) (by kernel_rfl) (fun K hK => ?_)
    have k0 : w4.cell? ⟨bt, 0, none⟩ = some (.int .i64 0) := KT4.out.cell 0
    have k1 : w4.cell? ⟨bt, 1, none⟩ = some (.int .i64 0) := KT4.out.cell 1
    have k2 : w4.cell? ⟨bt, 2, none⟩ = some (.int .i64 0) := KT4.out.cell 2
    have kf0 : w4.frozen? ⟨bt, 0, none⟩ = false := KT4.out.frozen 0
    have kf1 : w4.frozen? ⟨bt, 1, none⟩ = false := KT4.out.frozen 1
    have kf2 : w4.frozen? ⟨bt, 2, none⟩ = false := KT4.out.frozen 2
    go_simp
    refine hK.out _ _ ?_
    clear hK K k0 k1 k2 kf0 kf1 kf2 b0 b1 c4 cv
    refine wpN_pure (i := 13) (v := ?_) rfl (by kernel_rfl) (by kernel_rfl) (by kernel_rfl) (by kernel_rfl) (fun _ _ _ h => h) (Or.inl ⟨by rfl, ?_⟩) (fun h => Bool.noConfusion (h.symm.trans (show _ = false by kernel_rfl))) ?_
    rotate_left
    · ((intro w' hw'; (try dsimp only at hw'); go_simp) <;> with_reducible rfl)
    simp only [Act.put, List.setIfInBounds_toArray, List.set_cons_zero, List.set_cons_succ]
    refine wpN_done (by kernel_rfl) ?_
    have hlt4 := KT4.out.lt
    have HBT := Lib.hid (((KT4.out.set_ 0 (.int .i64 0)).set_ 1 (.int .i64 0)).set_ 2 (.int .i64 0))
    have O45 := (((Only.refl (fun k => k = bt) w4).setCell (p := ⟨bt, 0, none⟩) (.inl rfl) (.int .i64 0)).setCell (p := ⟨bt, 1, none⟩) (.inl rfl) (.int .i64 0)).setCell (p := ⟨bt, 2, none⟩) (.inl rfl) (.int .i64 0)
    have KT := Lib.hid (show Blk (((w4.setCell ⟨bt, 0, none⟩ (.int .i64 0)).setCell ⟨bt, 1, none⟩ (.int .i64 0)).setCell ⟨bt, 2, none⟩ (.int .i64 0)) bt 56 #[.int .i64 0, .int .i64 0, .int .i64 0] from HBT.out)
    have V5 := V4.out.only O45 (fun k e => by have e : k = bt := e; rw [e]; exact NBT.out)
    have O5 := Lib.hid (O4.out.trans2 O45 (fun k hk e => by have e : k = bt := e; omega))
    have T5 := Lib.hid (T4.out.only O45 (fun e => by have e : 3 = bt := e; have := TLT.out; have := HBW.out; omega))
    clear HBT O45 hlt4 KT4 V4 O4 T4
    generalize (((w4.setCell ⟨bt, 0, none⟩ (.int .i64 0)).setCell ⟨bt, 1, none⟩ (.int .i64 0)).setCell ⟨bt, 2, none⟩ (.int .i64 0)) = w3 at *
    have V3 := Lib.hid V5
    have O3 := Lib.hid O5.out
    have T3 := Lib.hid T5.out
    clear V5 O5 T5

    go_wp2
    go_ret
    exact ⟨rfl, M, ⟨_, _, V3.out⟩, O3.out, fun k hk => .inl hk⟩
  · have OA := ((Only.refl (fun _ => False) w1).drew).alloc (.cells #[.int .i64 0, .int .i64 0, .int .i64 0] 56)
    have HBT := Lib.hid (((kb.set_ 0 (.int .i64 0)).set_ 1 (.int .i64 0)).set_ 2 (.int .i64 0))
    have O23 := (((Only.refl (fun k => k = w1.heap.size) w2).setCell (p := ⟨w1.heap.size, 0, none⟩) (.inl rfl) (.int .i64 0)).setCell (p := ⟨w1.heap.size, 1, none⟩) (.inl rfl) (.int .i64 0)).setCell (p := ⟨w1.heap.size, 2, none⟩) (.inl rfl) (.int .i64 0)
    have Vz := Lib.hid ((V1.out.only (OA.trans ho2) (fun _ e => e.elim)).only O23 (fun k e => by
      have h1 := fun hh => V1.out.lt k hh
      have e : k = w1.heap.size := e
      exact ⟨fun hc => by have := h1 (.inl hc); omega, fun hm => by have := h1 (.inr hm); omega⟩))
    have KTz := Lib.hid (show Blk (((w2.setCell ⟨w1.heap.size, 0, none⟩ (.int .i64 0)).setCell ⟨w1.heap.size, 1, none⟩ (.int .i64 0)).setCell ⟨w1.heap.size, 2, none⟩ (.int .i64 0)) w1.heap.size 56 #[.int .i64 0, .int .i64 0, .int .i64 0] from HBT.out)
    have KPz := Lib.hid ((KP1.out.only (OA.trans ho2) id).only O23 (show ¬ (bp = w1.heap.size) by omega))
    have Ozz := Lib.hid ((((HB.out.trans OA).trans ho2).mono (T := M) (fun _ _ e => e.elim)).trans2 O23 (fun k hk e => by have := HB.out.size; have e : k = w1.heap.size := e; omega))
    have Tzz := Lib.hid ((T1.out.only (OA.trans ho2) id).only O23 (fun e => by
      have h1 : 3 < w1.heap.size := World.block_lt_of_cell? w1 ⟨3, 0, none⟩ (T1.out 0 (by omega))
      have e : 3 = w1.heap.size := e
      omega))
    have hbt : w.heap.size ≤ w1.heap.size := HB.out.size
    have hbtp : bp ≠ w1.heap.size := by omega
    clear V1 T1 kb k0 k1 k2 kf0 kf1 kf2 HBT O23 OA ho2
    rename_i hheld
    clear hheld
    generalize (((w2.setCell ⟨w1.heap.size, 0, none⟩ (.int .i64 0)).setCell ⟨w1.heap.size, 1, none⟩ (.int .i64 0)).setCell ⟨w1.heap.size, 2, none⟩ (.int .i64 0)) = wz at *
    obtain ⟨bt, hbte⟩ : ∃ b, b = w1.heap.size := ⟨_, rfl⟩
    rw [← hbte] at KTz hbt hbtp ⊢
    clear hbte
    have NBT := Lib.hid (show ¬ C bt ∧ ¬ M bt from ⟨fun hc => by have := HLT.out bt (.inl hc); omega, fun hc => by have := HLT.out bt (.inr hc); omega⟩)

    clear b0 b1 c4 cp
    have b0 : wz.cell? ⟨bp, 0, none⟩ = some (.int .i64 a) := KPz.out.cell 0
    have b1 : wz.cell? ⟨bp, 1, none⟩ = some (.int .i64 v) := KPz.out.cell 1
    have c4 : wz.cell? ⟨R, 4, none⟩ = some (.slice (some ⟨gq, 0, none⟩) W qc) := by rw [HR.out, HWE.out, ← HQE.out]; exact Vz.out.run.cell 4
    have hdq := Vz.out.dq
    rw [HQE.out] at hdq
    have cv : wz.cell? ⟨gq, v, none⟩ = some (.pointer (some ⟨r.D v, 0, none⟩)) := by
      rw [World.ownsRow.cellAt hdq v (by rw [Nat.mul_one]; exact HV.out), get_ptrs r.D HV.out]
    clear hdq
    obtain ⟨Dv, hDv⟩ : ∃ D, D = r.D v := ⟨_, rfl⟩
    obtain ⟨Gv, hGv⟩ : ∃ G, G = r.G v := ⟨_, rfl⟩
    have HDv := Lib.hid hDv
    have HGv := Lib.hid hGv
    rw [← hDv] at cv
    clear hDv hGv
    have CST := Lib.hid (show Calls Tryd.prog 59 #[.pointer (some ⟨Dv, 0, none⟩)] wz.drew (PopNo wz.drew) by
      have h1 : DqAt wz.drew Dv Gv 64 (pg s.qs v) := by rw [HDv.out, HGv.out]; exact (Vz.out.ds v HV.out).only ((Only.refl (fun _ => False) wz).drew) id id
      rw [HQV.out] at h1
      exact (dsteal_none Dv Gv 64 wz.drew h1).mono fun e w' h => ⟨h.1, Only.of_below h.2 (fun k hk hk' => by omega)⟩)
    have hva1 : ((v : Int) == (a : Int)) = false := by simp; omega
    go_wp2_with fail
    refine wp_region_N [3, 5, 7] [8, 12] (fun w' => w'.cell? ⟨R, 4, none⟩ = some (.slice (some ⟨gq, 0, none⟩) W qc) ∧ w'.cell? ⟨bp, 1, none⟩ = some (.int .i64 v) ∧ w'.cell? ⟨gq, v, none⟩ = some (.pointer (some ⟨Dv, 0, none⟩))) (by kernel_rfl) ?_
    have hS : wz.drew.cell? ⟨R, 4, none⟩ = some (.slice (some ⟨gq, 0, none⟩) W qc) ∧ wz.drew.cell? ⟨bp, 1, none⟩ = some (.int .i64 v) ∧ wz.drew.cell? ⟨gq, v, none⟩ = some (.pointer (some ⟨Dv, 0, none⟩)) := ⟨c4, b1, cv⟩
    refine wpN_pure (i := 0) (v := ?_) rfl (by kernel_rfl) (by kernel_rfl) (by kernel_rfl) (by kernel_rfl) (fun _ _ _ h => h) (Or.inl ⟨by rfl, ?_⟩) (fun _ => hS) ?_
    rotate_left
    · ((intro w' hw'; (try dsimp only at hw'); go_simp) <;> with_reducible rfl)
    simp only [Act.put, List.setIfInBounds_toArray, List.set_cons_zero, List.set_cons_succ]
    refine wpN_pure (i := 1) (v := ?_) rfl (by kernel_rfl) (by kernel_rfl) (by kernel_rfl) (by kernel_rfl) (fun _ _ _ h => h) (Or.inl ⟨by rfl, ?_⟩) (fun _ => hS) ?_
    rotate_left
    · ((intro w' hw'; (try dsimp only at hw'); go_simp) <;> with_reducible rfl)
    simp only [Act.put, List.setIfInBounds_toArray, List.set_cons_zero, List.set_cons_succ]
    refine wpN_pure (i := 2) (v := ?_) rfl (by kernel_rfl) (by kernel_rfl) (by kernel_rfl) (by kernel_rfl) (fun _ _ _ h => h) (Or.inl ⟨by rfl, ?_⟩) (fun _ => hS) ?_
    rotate_left
    · ((intro w' hw'; (try dsimp only at hw'); go_simp) <;> with_reducible rfl)
    simp only [Act.put, List.setIfInBounds_toArray, List.set_cons_zero, List.set_cons_succ]
    refine wpN_read (i := 3) (v := ?_) rfl (by kernel_rfl) (by kernel_rfl) (by kernel_rfl) (by kernel_rfl) (by kernel_rfl) (fun _ _ _ h => h) (Or.inl ⟨by rfl, ?_⟩) hS ?_
    rotate_left
    · ((intro w' hw'; (try dsimp only at hw'); go_simp) <;> with_reducible rfl)
    simp only [Act.put, List.setIfInBounds_toArray, List.set_cons_zero, List.set_cons_succ]
    refine wpN_pure (i := 4) (v := ?_) rfl (by kernel_rfl) (by kernel_rfl) (by kernel_rfl) (by kernel_rfl) (fun _ _ _ h => h) (Or.inl ⟨by rfl, ?_⟩) (fun _ => hS) ?_
    rotate_left
    · ((intro w' hw'; (try dsimp only at hw'); go_simp) <;> with_reducible rfl)
    simp only [Act.put, List.setIfInBounds_toArray, List.set_cons_zero, List.set_cons_succ]
    refine wpN_read (i := 5) (v := ?_) rfl (by kernel_rfl) (by kernel_rfl) (by kernel_rfl) (by kernel_rfl) (by kernel_rfl) (fun _ _ _ h => h) (Or.inl ⟨by rfl, ?_⟩) hS ?_
    rotate_left
    · ((intro w' hw'; (try dsimp only at hw'); go_simp) <;> with_reducible rfl)
    simp only [Act.put, List.setIfInBounds_toArray, List.set_cons_zero, List.set_cons_succ]
    refine wpN_pure (i := 6) (v := ?_) rfl (by kernel_rfl) (by kernel_rfl) (by kernel_rfl) (by kernel_rfl) (fun _ _ _ h => h) (Or.inl ⟨by rfl, ?_⟩) (fun _ => hS) ?_
    rotate_left
    · ((intro w' hw'; (try dsimp only at hw'); go_simp) <;> with_reducible rfl)
    simp only [Act.put, List.setIfInBounds_toArray, List.set_cons_zero, List.set_cons_succ]
    refine wpN_read (i := 7) (v := ?_) rfl (by kernel_rfl) (by kernel_rfl) (by kernel_rfl) (by kernel_rfl) (by kernel_rfl) (fun _ _ _ h => h) (Or.inl ⟨by rfl, ?_⟩) hS ?_
    rotate_left
    · ((intro w' hw'; (try dsimp only at hw'); go_simp) <;> with_reducible rfl)
    simp only [Act.put, List.setIfInBounds_toArray, List.set_cons_zero, List.set_cons_succ]
    refine wpN_one (i := 8) rfl rfl (by kernel_rfl) (by kernel_rfl) (fun K hK => ?_)
    go_simp
    refine CST.out.mono ?_
    rintro e w4 ⟨rfl, ho4⟩
    refine hK.out _ _ ?_
    clear hK K hS
    have V4 := Lib.hid ((Vz.out.bel (w' := wz.drew) (below_drewN (Below.refl _ _) 1)).only ho4 (fun _ e => e.elim))
    have O4 := Lib.hid (Ozz.out.drew.trans2 ho4 (fun k _ e => e.elim))
    have T4 := Lib.hid (Tb.only (w := wz.drew) Tzz.out ho4 id)
    have KT4 := Lib.hid (KTz.out.drew.only ho4 id)
    have HBW := Lib.hid hbt
    clear ho4 CST Vz Ozz Tzz KTz KPz
    refine wpN_pure (i := 9) (v := ?_) rfl (by kernel_rfl) (by kernel_rfl) (by kernel_rfl) (by kernel_rfl) (fun _ _ _ h => h) (Or.inl ⟨by rfl, ?_⟩) (fun h => Bool.noConfusion (h.symm.trans (show _ = false by kernel_rfl))) ?_
    rotate_left
    · ((intro w' hw'; (try dsimp only at hw'); go_simp) <;> with_reducible rfl)
    simp only [Act.put, List.setIfInBounds_toArray, List.set_cons_zero, List.set_cons_succ]
    refine wpN_pure (i := 10) (v := ?_) rfl (by kernel_rfl) (by kernel_rfl) (by kernel_rfl) (by kernel_rfl) (fun _ _ _ h => h) (Or.inl ⟨by rfl, ?_⟩) (fun h => Bool.noConfusion (h.symm.trans (show _ = false by kernel_rfl))) ?_
    rotate_left
    · ((intro w' hw'; (try dsimp only at hw'); go_simp) <;> with_reducible rfl)
    simp only [Act.put, List.setIfInBounds_toArray, List.set_cons_zero, List.set_cons_succ]
    refine wpN_pure (i := 11) (v := ?_) rfl (by kernel_rfl) (by kernel_rfl) (by kernel_rfl) (by kernel_rfl) (fun _ _ _ h => h) (Or.inl ⟨by rfl, ?_⟩) (fun h => Bool.noConfusion (h.symm.trans (show _ = false by kernel_rfl))) ?_
    rotate_left
    · ((intro w' hw'; (try dsimp only at hw'); go_simp) <;> with_reducible rfl)
    simp only [Act.put, List.setIfInBounds_toArray, List.set_cons_zero, List.set_cons_succ]
    refine wpN_one (i := 12) rfl rfl (by kernel_rfl) (by kernel_rfl) (fun K hK => ?_)
    have k0 : w4.cell? ⟨bt, 0, none⟩ = some (.int .i64 0) := KT4.out.cell 0
    have k1 : w4.cell? ⟨bt, 1, none⟩ = some (.int .i64 0) := KT4.out.cell 1
    have k2 : w4.cell? ⟨bt, 2, none⟩ = some (.int .i64 0) := KT4.out.cell 2
    have kf0 : w4.frozen? ⟨bt, 0, none⟩ = false := KT4.out.frozen 0
    have kf1 : w4.frozen? ⟨bt, 1, none⟩ = false := KT4.out.frozen 1
    have kf2 : w4.frozen? ⟨bt, 2, none⟩ = false := KT4.out.frozen 2
    go_simp
    refine hK.out _ _ ?_
    clear hK K k0 k1 k2 kf0 kf1 kf2 b0 b1 c4 cv
    refine wpN_pure (i := 13) (v := ?_) rfl (by kernel_rfl) (by kernel_rfl) (by kernel_rfl) (by kernel_rfl) (fun _ _ _ h => h) (Or.inl ⟨by rfl, ?_⟩) (fun h => Bool.noConfusion (h.symm.trans (show _ = false by kernel_rfl))) ?_
    rotate_left
    · ((intro w' hw'; (try dsimp only at hw'); go_simp) <;> with_reducible rfl)
    simp only [Act.put, List.setIfInBounds_toArray, List.set_cons_zero, List.set_cons_succ]
    refine wpN_done (by kernel_rfl) ?_
    have hlt4 := KT4.out.lt
    have HBT := Lib.hid (((KT4.out.set_ 0 (.int .i64 0)).set_ 1 (.int .i64 0)).set_ 2 (.int .i64 0))
    have O45 := (((Only.refl (fun k => k = bt) w4).setCell (p := ⟨bt, 0, none⟩) (.inl rfl) (.int .i64 0)).setCell (p := ⟨bt, 1, none⟩) (.inl rfl) (.int .i64 0)).setCell (p := ⟨bt, 2, none⟩) (.inl rfl) (.int .i64 0)
    have KT := Lib.hid (show Blk (((w4.setCell ⟨bt, 0, none⟩ (.int .i64 0)).setCell ⟨bt, 1, none⟩ (.int .i64 0)).setCell ⟨bt, 2, none⟩ (.int .i64 0)) bt 56 #[.int .i64 0, .int .i64 0, .int .i64 0] from HBT.out)
    have V5 := V4.out.only O45 (fun k e => by have e : k = bt := e; rw [e]; exact NBT.out)
    have O5 := Lib.hid (O4.out.trans2 O45 (fun k hk e => by have e : k = bt := e; omega))
    have T5 := Lib.hid (T4.out.only O45 (fun e => by have e : 3 = bt := e; have := TLT.out; have := HBW.out; omega))
    clear HBT O45 hlt4 KT4 V4 O4 T4
    generalize (((w4.setCell ⟨bt, 0, none⟩ (.int .i64 0)).setCell ⟨bt, 1, none⟩ (.int .i64 0)).setCell ⟨bt, 2, none⟩ (.int .i64 0)) = w3 at *
    have V3 := Lib.hid V5
    have O3 := Lib.hid O5.out
    have T3 := Lib.hid T5.out
    clear V5 O5 T5

    go_wp2
    go_ret
    exact ⟨rfl, M, ⟨_, _, V3.out⟩, O3.out, fun k hk => .inl hk⟩
end Go.Proofs.YtcakeenfkdhedaaDoor.Gm
