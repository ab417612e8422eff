/- A run deals a phase. -/
import Derived.Test.YtcakeenfkdhedaaDoorEm
import Derived.StillTailTactics
namespace Go.Proofs.YtcakeenfkdhedaaDoor.Gm
open Go.RowKit
set_option linter.unusedVariables false
theorem xdeal_done (r : Rn) (s : RS) (C M : Nat → Prop) (w : World) (h : RunAt w C M r s) (hx : s.ph = r.ll.length) :
    Calls Tryd.prog 56 #[.pointer (some ⟨r.R, 0, none⟩)] w fun e w' => e = .returned (.tuple #[]) ∧ Below w.heap.size w w' := by
  have CC := Lib.hid (xdone_any r s C M w h)
  rw [decide_eq_true hx] at CC
  clear h hx
  generalize r.R = R at *
  go_enter Tryd.func56, Tryd.ntmps56
  go_wp2_with fail
  refine CC.out.mono ?_
  rintro e w' ⟨rfl, hb⟩
  go_wp2
  exact bodyPost_ret (results_none rfl _ _ _) rfl ⟨rfl, hb⟩
def DlRel (w : World) (C M : Nat → Prop) (r : Rn) (var vlog : Value) (s : RS) (p : List T3) (i : Value) (wr : World) : Prop :=
  ∃ m : Nat, m ≤ p.length ∧ i = .int .i64 m ∧ RunV wr C M r var vlog ⟨s.ar, dl r.W p m, s.ph, s.left, s.log⟩ ∧ Only M w wr
theorem get_ptrs (D : Nat → Nat) {W i : Nat} (h : i < W) : ((List.range W).map fun i => (Value.pointer (some ⟨D i, 0, none⟩)))[i]? = some (.pointer (some ⟨D i, 0, none⟩)) := by
  rw [List.getElem?_map, List.getElem?_range h]; rfl
set_option maxHeartbeats 2000000 in
set_option maxRecDepth 100000 in
theorem xdeal_go (r : Rn) (s : RS) (C M : Nat → Prop) (w : World) (h : RunAt w C M r s) (hx : s.ph < r.ll.length) (hq : s.qs = List.replicate r.W []) (hW : 1 ≤ r.W) (hW8 : r.W ≤ 8) (hp1 : 1 ≤ (pg r.ll s.ph).length) (hp64 : (pg r.ll s.ph).length ≤ 64) :
    Calls Tryd.prog 56 #[.pointer (some ⟨r.R, 0, none⟩)] w fun e w' => e = .returned (.tuple #[]) ∧ RunTo C M r ⟨s.ar, dlp r.W r.ll s.ph, s.ph, (pg r.ll s.ph).length, s.log⟩ w w' := by
  have CC := Lib.hid (xdone_any r s C M w h)
  rw [decide_eq_false (by omega)] at CC
  obtain ⟨var, vlog, h⟩ := h
  have HV := Lib.hid h
  have HX := Lib.hid hx
  have HQ := Lib.hid hq
  obtain ⟨p, hp⟩ : ∃ p, p = pg r.ll s.ph := ⟨_, rfl⟩
  have HP := Lib.hid hp
  rw [← hp] at hp1 hp64
  have HD := Lib.hid (show dlp r.W r.ll s.ph = dl r.W p p.length by rw [hp]; unfold dlp; rfl)
  rw [HD.out, ← hp]
  clear h hq hp
  obtain ⟨W, hWe⟩ : ∃ W, W = r.W := ⟨_, rfl⟩
  have HWE := Lib.hid hWe
  rw [← hWe] at hW hW8 ⊢
  obtain ⟨R, hRe⟩ : ∃ R, R = r.R := ⟨_, rfl⟩
  have HRE := Lib.hid hRe
  rw [← hRe] at CC ⊢
  clear hWe hRe hx
  go_enter Tryd.func56, Tryd.ntmps56
  go_wp2_with fail
  refine CC.out.mono ?_
  rintro e w1 ⟨rfl, hb⟩
  have V1 := Lib.hid (HV.out.bel hb)
  have HB1 := Lib.hid (Only.of_below (S := M) hb (fun k hk hk' => absurd hk (by omega)))
  have HS1 := Lib.hid hb.size
  clear hb CC
  obtain ⟨vs, hph, hvl, hvs⟩ := V1.out.ph
  obtain ⟨N, hN⟩ : ∃ N, N = r.ll.length := ⟨_, rfl⟩
  have hxi := HX.out
  obtain ⟨u, hu⟩ : ∃ u, vs[s.ph]? = some u := ⟨_, List.getElem?_eq_getElem (by omega)⟩
  obtain ⟨hou, hoc⟩ := hvs _ _ hu
  obtain ⟨pa, pcap, pe, pcl, pcm, pg0⟩ := own_shape hph
  obtain ⟨gp, rfl⟩ := pg0 (by omega)
  have hcu : w1.cell? ⟨gp, s.ph, none⟩ = some u := by
    have h1 := hph
    rw [pe] at h1
    have := World.ownsRow.cellAt h1 s.ph (by rw [Nat.mul_one]; exact hxi)
    rw [this, hu]
  have c2 : w1.cell? ⟨R, 2, none⟩ = some (.slice (some ⟨gp, 0, none⟩) N pcap) := by rw [HRE.out, hN, ← pe]; exact V1.out.run.cell 2
  have c5 : w1.cell? ⟨R, 5, none⟩ = some (.int .i64 s.ph) := by rw [HRE.out]; exact V1.out.run.cell 5
  rw [← HP.out] at hou
  obtain ⟨ua, ucap, rfl, ucl, ucm, ug0⟩ := own_shape hou
  obtain ⟨gu, rfl⟩ := ug0 (by omega)
  have HOU := Lib.hid hou
  have HOC := Lib.hid (fun k hk => V1.out.apart k hk)
  have HGU := Lib.hid (hoc gu rfl)
  rw [← hN] at hxi pcl
  clear hph hvl hvs hu hou hoc hN pe
  obtain ⟨x, hxe⟩ : ∃ x, x = s.ph := ⟨_, rfl⟩
  have HXE := Lib.hid hxe
  rw [← hxe] at c5 hcu hxi
  clear hxe
  go_wp2
  go_quiet (fail)
  have V2 := Lib.hid (V1.out.bel (below_drewN (Below.refl _ _) nq))
  have O2 := Lib.hid (HOU.out.below (below_drewN (Below.refl _ _) nq))
  have B2 := Lib.hid (HB1.out.drewN nq)
  clear V1 HOU HB1 c2 c5 hcu HV
  have HS2 := Lib.hid (show w.heap.size ≤ (w1.drewN nq).heap.size from HS1.out)
  clear HS1
  generalize w1.drewN nq = w2 at *
  have HUL := Lib.hid (show p.length ≤ 1000000 by omega)
  go_wp2
  go_loopw [3, 4, 19] (fun _ _ i wr => DlRel w2 C M r var vlog s p i wr) (fun _ _ i _ => p.length - (intOf i).toNat)
  case atStart =>
    refine ⟨0, by omega, rfl, ?_, Only.refl _ _⟩
    have e := V2.out
    rw [dl_zero, ← HQ.out]
    exact e
  case round =>
    obtain ⟨m, hm, rfl, hv, ho⟩ := hrel
    have V := Lib.hid hv
    have HO := Lib.hid ho
    clear hv ho
    have OU := Lib.hid (O2.out.only HO.out (fun k hk hm => HOC.out k hm (by injection hk with hk; subst hk; exact HGU.out)))
    by_cases hml : m < p.length
    · obtain ⟨c0, c1, c2⟩ := Ot.cell OU.out hml
      have HT := Lib.hid (show tg p m = ((tg p m).1, (tg p m).2.1, (tg p m).2.2) from rfl)
      have HN := Lib.hid (dl_room hW (p := p) (a := m % W) hm (Nat.mod_lt _ (by omega)))
      generalize (tg p m).1 = x0 at *
      generalize (tg p m).2.1 = x1 at *
      generalize (tg p m).2.2 = x2 at *
      have hmW : m % W < W := Nat.mod_lt _ (by omega)
      have hdq := V.out.dq
      obtain ⟨qa, qcap, qe, qcl, qcm, qg0⟩ := own_shape hdq
      obtain ⟨gq, rfl⟩ := qg0 (by rw [← HWE.out]; omega)
      rw [qe, ← HWE.out] at hdq
      have cp : wr.cell? ⟨gq, m % W, none⟩ = some (.pointer (some ⟨r.D (m % W), 0, none⟩)) := by
        rw [World.ownsRow.cellAt hdq (m % W) (by rw [Nat.mul_one]; exact hmW), get_ptrs r.D hmW]
      have c4 : wr.cell? ⟨R, 4, none⟩ = some (.slice (some ⟨gq, 0, none⟩) W qcap) := by rw [HRE.out, HWE.out, ← qe]; exact V.out.run.cell 4
      have hRl : R < wr.heap.size := by rw [HRE.out]; exact V.out.run.lt
      have hql : gq < wr.heap.size := (World.ownsRow.lt hdq gq rfl).2
      have HQE := Lib.hid qe
      rw [← HWE.out] at qcl
      clear hdq qe
      go_wp2_with fail
      have em := tmod_mod m W (m % W) rfl
      have hbA := (Below.refl wr.heap.size wr).alloc (Nat.le_refl _) (.cells #[.int .i64 x0, .int .i64 x1, .int .i64 x2] 56)
      have VA := Lib.hid (V.out.bel hbA)
      have KB := Blk.new wr 56 #[.int .i64 x0, .int .i64 x1, .int .i64 x2]
      have HOA := Lib.hid (HO.out.alloc (.cells #[.int .i64 x0, .int .i64 x1, .int .i64 x2] 56))
      have c4 := (hbA.cell (p := ⟨R, 4, none⟩) hRl).trans c4
      have cp := (hbA.cell (p := ⟨gq, m % W, none⟩) hql).trans cp
      have HSR := Lib.hid HO.out.size
      clear c0 c1 c2 V HO OU hbA
      obtain ⟨bb, hbb⟩ : ∃ bb, bb = wr.heap.size := ⟨_, rfl⟩
      rw [← hbb] at KB hRl hql ⊢
      have HBB := Lib.hid hbb
      clear hbb
      generalize wr.alloc (.cells #[.int .i64 x0, .int .i64 x1, .int .i64 x2] 56) = wA at *
      have b0 : wA.cell? ⟨bb, 0, none⟩ = some (.int .i64 x0) := KB.cell 0
      have b1 : wA.cell? ⟨bb, 1, none⟩ = some (.int .i64 x1) := KB.cell 1
      have b2 : wA.cell? ⟨bb, 2, none⟩ = some (.int .i64 x2) := KB.cell 2
      have hW0 : ¬ W = 0 := by omega
      have em2 : (m : Int) % (W : Int) = ((m % W : Nat) : Int) := rfl
      obtain ⟨a, ha⟩ : ∃ a, a = m % W := ⟨_, rfl⟩
      have HA := Lib.hid ha
      rw [← ha] at em em2 cp hmW HN
      clear ha
      go_still_tail 14, (by kernel_rfl)
      repeat still_step
      change wpList _ _ _ _ _ wA.drew
      have VD := Lib.hid (VA.out.bel (w' := wA.drew) (below_drewN (Below.refl _ _) 1))
      have HOD := Lib.hid (HOA.out.drew)
      clear VA HOA c4 cp b0 b1 b2
      generalize wA.drew = w5 at *
      clear em em2
      have CP := Lib.hid (dpush_any _ _ _ _ (x0, x1, x2) w5 (VD.out.ds a (by rw [← HWE.out]; exact hmW)) (Nat.lt_of_le_of_lt (by rw [← HWE.out]; exact HN.out) (by omega)))
      go_wp2_with fail
      refine CP.out.mono ?_
      rintro e w6 ⟨rfl, hd, ho⟩
      have HO6 := Lib.hid (HOD.out.trans2 ho (fun k _ e => by
        have := VD.out.dsM a (by rw [← HWE.out]; exact hmW)
        rcases e with rfl | rfl
        · exact this.1
        · exact this.2))
      have V6 := VD.out.queue (by rw [← HWE.out]; exact hmW) (by rw [dl_len]) ho hd
      go_wp2
      go_roundw
      case rel =>
        refine ⟨m + 1, by omega, by go_num, ?_, HO6.out⟩
        rw [← HWE.out] at V6
        rw [← HWE.out, dl_succ, HT.out, ← HA.out]
        exact V6
      case measure => simp [intOf] <;> omega
    · obtain rfl : p.length = m := by omega
      have K := Lib.hid V.out.run
      rw [← HRE.out] at K
      go_wp2_with (refine wl_storeBlk1 3 (fun _ => rfl) _ rfl (.tmp 44) (.tmp 42) rfl R 6 92 _ .i64 (p.length : Int) rfl rfl K.out (by show 6 < 8; decide) ?_; intro w4 hB4 hO4 hs4)
      go_end0
      have hO5 : Only (fun k => k = r.R) wr w4 := hO4.mono fun k _ e => by rw [← HRE.out]; exact e
      have P := V.out.put (var' := var) (vlog' := vlog) (ph' := s.ph) (left' := p.length) (hO5.mono fun k _ e => .inl e) (by rw [← HRE.out]; exact hB4) (V.out.ar_put (hO5.mono fun k _ e => .inl e)) (V.out.log_put hO5) (fun g hg => .inl (V.out.arM g hg)) (fun g hg => .inl hg)
      rw [← HWE.out] at P
      refine ⟨rfl, _, ⟨var, vlog, P⟩, ?_, ?_⟩
      · exact (B2.out.trans2 HO.out (fun k _ e => e)).trans2 hO4 (fun k _ e => by rw [e, HRE.out]; exact V.out.mR)
      · rintro k (hk | hk)
        · exact .inl hk
        · have := HS2.out; have := HO.out.size; exact .inr (by omega)
end Go.Proofs.YtcakeenfkdhedaaDoor.Gm
