/- ref Crew deals a phase. -/
import Derived.Test.YtcakeenfkdhedaaDoorCrw
namespace Go.Proofs.YtcakeenfkdhedaaDoor.Gm
open Go.RowKit
set_option linter.unusedVariables false
theorem st_storeN (ty : TypeId) (hi : ∀ w : World, Sem.run Tryd.prog (Go.sizeOf ty) w = .ok 1 w) {o : Oper} {a : Act} {K : Act → World → Prop} {Q : Exit → Act → World → Prop} (w : World) (p x : Operand)
    (ho : o.op = .store ty p x) (G off : Nat) (t : TypeId) (cs : Array Value) (k : IntKind) (v : Int) (hp : a.eval p = .pointer (some ⟨G, off, none⟩)) (hx : a.eval x = .int k v)
    (hb : Blk w G t cs) (hsz : off < cs.size)
    (h : ∀ w', Blk w' G t (cs.setIfInBounds off (.int k v)) → Only (fun k => k = G) w w' → w'.heap.size = w.heap.size → K (a.put o.dst undef) w') :
    Oper.wp Tryd.prog o a w K Q := by
  have hc : w.cell? ⟨G, off, none⟩ = some cs[off] := (hb.cell _).trans (Array.getElem?_eq_getElem hsz)
  have hf := hb.frozen off
  have hk := h (w.setCell ⟨G, off, none⟩ (.int k v)) (hb.set_ _ _) ((Only.refl (fun k => k = G) w).setCell (p := ⟨G, off, none⟩) (.inl rfl) _) (by simp [World.setCell])
  unfold Oper.wp
  simp [execOp, ho, hp, hx, Result.andThen]
  go_simp
  exact hk
theorem wl_storeB (ty : TypeId) (hi : ∀ w : World, Sem.run Tryd.prog (Go.sizeOf ty) w = .ok 1 w) {ops : Array Oper} {rest : List Oper} {o : Oper} {a : Act} {Q : Exit → Act → World → Prop} (w : World) (hgd : o.guard = none) (p x : Operand)
    (ho : o.op = .store ty p x) (G off : Nat) (t : TypeId) (cs : Array Value) (v : Bool) (hp : a.eval p = .pointer (some ⟨G, off, none⟩)) (hx : a.eval x = .bool v)
    (hb : Blk w G t cs) (hsz : off < cs.size)
    (h : ∀ w', Blk w' G t (cs.setIfInBounds off (.bool v)) → Only (fun k => k = G) w w' → w'.heap.size = w.heap.size → wpList Tryd.prog ops Q rest (a.put o.dst undef) w') :
    wpList Tryd.prog ops Q (o :: rest) a w := by
  have hc : w.cell? ⟨G, off, none⟩ = some cs[off] := (hb.cell _).trans (Array.getElem?_eq_getElem hsz)
  have hf := hb.frozen off
  refine wpList_plain hgd fun K hK' => ?_
  have hk := hK' _ _ (h (w.setCell ⟨G, off, none⟩ (.bool v)) (hb.set_ _ _) ((Only.refl (fun k => k = G) w).setCell (p := ⟨G, off, none⟩) (.inl rfl) _) (by simp [World.setCell]))
  unfold Oper.wp
  simp [execOp, ho, hp, hx, Result.andThen]
  go_simp
  exact hk
set_option maxRecDepth 100000 in
theorem cdeal_done (c : Cw) (s : RS) (M : Nat → Prop) (w0 w : World) (h : CrAt w0 w M c false s) (X0 : RPs w0 c.vll c.ll) (hx : s.ph = c.ll.length) :
    Calls Tryd.prog 57 #[.pointer (some ⟨c.R, 0, none⟩)] w fun e w' => e = .returned (.tuple #[]) ∧ CrTo w0 M c true s w w' := by
  obtain ⟨va, vd, u, h⟩ := h
  have V := Lib.hid h
  obtain ⟨la, lc, hle, hl1, hl2⟩ := X0.shape
  obtain ⟨N, hN⟩ : ∃ N, N = c.ll.length := ⟨_, rfl⟩
  rw [← hN] at hle hl1 hx
  have c2 : w.cell? ⟨c.R, 2, none⟩ = some (.slice la N lc) := by rw [← hle]; exact h.blk.cell 2
  have c5 : w.cell? ⟨c.R, 5, none⟩ = some (.int .i64 (N : Int)) := by rw [← hx]; exact h.blk.cell 5
  have KB := Lib.hid h.blk
  obtain ⟨R, hR⟩ : ∃ R, R = c.R := ⟨_, rfl⟩
  have HR := Lib.hid hR
  rw [← hR] at c2 c5 KB ⊢
  clear h hle hN hx hR X0
  go_enter Tryd.func57, Tryd.ntmps57
  go_wp2
  go_quiet (fail)
  have KB2 := Lib.hid (KB.out.drewN nq)
  have V2 := Lib.hid (V.out.bel' (below_drewN (Below.refl w.heap.size w) nq))
  clear c2 c5 KB
  have hsz : (w.drewN nq).heap.size = w.heap.size := rfl
  have HSZ := Lib.hid hsz
  have HOD := Lib.hid (show Only (fun k => k = c.R) w (w.drewN nq) from (Only.refl _ w).drewN nq)
  clear hsz
  generalize w.drewN nq = w2 at *
  go_wp2_with (refine wl_storeB 4 (fun _ => rfl) _ rfl (.tmp 16) (.const (.bool true)) rfl R 8 50 _ true rfl rfl KB2.out (by show 8 < 9; decide) ?_)
  intro w3 hb3 ho3 hs3
  have B3 := Lib.hid hb3
  have O3 := Lib.hid (show Only (fun k => k = c.R) w2 w3 from ho3.mono fun k _ e => by rw [← HR.out]; exact e)
  clear hb3 ho3 hs3
  go_wp2
  refine bodyPost_ret (results_none rfl _ _ _) rfl ?_
  have hh := V2.out
  have V3 := hh.put (va' := va) (vd' := vd) (fin' := true) (ar' := s.ar) (ph' := s.ph) (left' := s.left) (log' := s.log) O3.out (fun k e => .inl e) (by rw [← HR.out]; exact B3.out)
    (own_only hh.ar O3.out (fun k hk e => own_blk_ne hh.ar hh.blk (by decide) (e ▸ hk))) (hh.did.only O3.out (fun k hk e => own_blk_ne hh.did hh.blk (by decide) (e ▸ hk))) (fun g hg => .inl hg) (fun g hg => .inl hg)
  refine ⟨rfl, _, ⟨va, vd, u, V3⟩, (HOD.out.trans O3.out).mono (fun k _ e => by have e : k = c.R := e; rw [e]; exact hh.mR), fun k hk => ?_⟩
  rcases hk with hk | hk
  · exact .inl hk
  · right; rw [← HSZ.out]; exact hk.1
def CdR (w0 w : World) (M : Nat → Prop) (c : Cw) (va vd : Value) (s : RS) (p : List T3) (i : Value) (wr : World) : Prop :=
  ∃ (m : Nat) (M' : Nat → Prop) (u : Nat → Value), m ≤ p.length ∧ i = .int .i64 m ∧ CrV w0 wr M' c va vd u false ⟨s.ar, dl c.W p m, s.ph, s.left, s.log⟩ ∧ Only M w wr ∧ ∀ k, M' k → M k ∨ w.heap.size ≤ k
set_option maxHeartbeats 4000000 in
set_option maxRecDepth 100000 in
theorem cdeal_go (c : Cw) (s : RS) (M : Nat → Prop) (w0 w : World) (h : CrAt w0 w M c false s) (X0 : RPs w0 c.vll c.ll) (hx : s.ph < c.ll.length) (hq : s.qs = List.replicate c.W []) (hW : 1 ≤ c.W) (hW8 : c.W ≤ 8) (hp1 : 1 ≤ (pg c.ll s.ph).length) (hp64 : (pg c.ll s.ph).length ≤ 64) :
    Calls Tryd.prog 57 #[.pointer (some ⟨c.R, 0, none⟩)] w fun e w' => e = .returned (.tuple #[]) ∧ CrTo w0 M c false ⟨s.ar, dlp c.W c.ll s.ph, s.ph, (pg c.ll s.ph).length, s.log⟩ w w' := by
  obtain ⟨va, vd, u, h⟩ := h
  obtain ⟨la, lc, lb, lo, hle, hl1, hl2, hl3, hl4⟩ := X0
  obtain ⟨N, hN⟩ : ∃ N, N = c.ll.length := ⟨_, rfl⟩
  rw [← hN] at hle hl1 hl3 hl4 hx
  obtain rfl := hl3.resolve_left (by omega)
  obtain ⟨up, hcu, hrk, _⟩ := hl4 s.ph hx
  obtain ⟨p, hp⟩ : ∃ p, p = pg c.ll s.ph := ⟨_, rfl⟩
  have HD := Lib.hid (show dlp c.W c.ll s.ph = dl c.W p p.length by rw [hp]; unfold dlp; rfl)
  rw [← hp] at hrk hp1 hp64 ⊢
  rw [HD.out]
  obtain ⟨pa, pc, pb, po, rfl, hp2, hp3, hp4, hp5⟩ := hrk
  obtain rfl := hp4.resolve_left (by omega)
  have PC := Lib.hid hp5
  have CU := Lib.hid hcu
  have V0 := Lib.hid h
  have HSW := Lib.hid h.bel.size
  obtain ⟨pl, hpl⟩ : ∃ pl, pl = p.length := ⟨_, rfl⟩
  have HPL := Lib.hid hpl
  rw [← hpl] at CU PC hp1 hp64 hp2 ⊢
  obtain ⟨W, hWe⟩ : ∃ W, W = c.W := ⟨_, rfl⟩
  have HWE := Lib.hid hWe
  rw [← hWe] at hW hW8 hq ⊢
  obtain ⟨ha, hqc, hve, hvc, hvm, hvg⟩ := own_shape h.row
  obtain ⟨gq, rfl⟩ := hvg (by omega)
  rw [← hWe] at hve hvc
  have HVE := Lib.hid hve
  have HLE := Lib.hid hle
  obtain ⟨R, hRe⟩ : ∃ R, R = c.R := ⟨_, rfl⟩
  have HRE := Lib.hid hRe
  have c2 : w.cell? ⟨R, 2, none⟩ = some (.slice (some ⟨lb, lo, none⟩) N lc) := by rw [hRe, ← hle]; exact h.blk.cell 2
  have c5 : w.cell? ⟨R, 5, none⟩ = some (.int .i64 (s.ph : Int)) := by rw [hRe]; exact h.blk.cell 5
  have HQ := Lib.hid (show s.qs = dl W p 0 from by rw [dl_zero]; exact hq)
  rw [← hRe]
  obtain ⟨x, hxe⟩ : ∃ x, x = s.ph := ⟨_, rfl⟩
  have HXE := Lib.hid hxe
  rw [← hxe] at c5 hx CU
  clear h hve hle hp hN hcu hp5 hl4 hpl hWe hRe hq hxe
  go_enter Tryd.func57, Tryd.ntmps57
  go_wp2
  go_quiet (fail)
  have V1 := Lib.hid (V0.out.bel' (below_drewN (Below.refl w.heap.size w) nq))
  have HOD := Lib.hid (show Only M w (w.drewN nq) from (Only.refl _ w).drewN nq)
  clear c2 c5
  generalize w.drewN nq = w1 at *
  go_wp2
  go_loopw [2, 3] (fun i _ wr => CdR w0 w M c va vd s p i wr) (fun i _ _ => pl - (intOf i).toNat)
  case atStart =>
    refine ⟨0, M, u, by omega, rfl, ?_, HOD.out, fun k hk => .inl hk⟩
    have e := V1.out
    rw [← HWE.out, ← HQ.out]
    exact e
  case round =>
    obtain ⟨m, M1, u1, hm, rfl, hv, ho, hM⟩ := hrel
    rw [← HPL.out] at hm
    have V := Lib.hid hv
    have HO := Lib.hid ho
    have HM := Lib.hid hM
    have hbl := hv.bel
    have c2 : wr.cell? ⟨R, 2, none⟩ = some (.slice (some ⟨lb, lo, none⟩) N lc) := by rw [HRE.out, ← HLE.out]; exact hv.blk.cell 2
    have c5 : wr.cell? ⟨R, 5, none⟩ = some (.int .i64 (x : Int)) := by rw [HRE.out, HXE.out]; exact hv.blk.cell 5
    have cL : wr.cell? ⟨lb, lo + x, none⟩ = some (.slice (some ⟨pb, po, none⟩) pl pc) := cell_below hbl CU.out
    have HBL := Lib.hid hbl
    clear hv ho hM hbl
    by_cases hml : m < pl
    · obtain ⟨t0, t1, t2⟩ := PC.out m hml
      have t0 := cell_below HBL.out t0
      have t1 := cell_below HBL.out t1
      have t2 := cell_below HBL.out t2
      have HT := Lib.hid (show tg p m = ((tg p m).1, (tg p m).2.1, (tg p m).2.2) from rfl)
      have HN := Lib.hid (dl_room hW (p := p) (m := m) (a := m % W) (by rw [← HPL.out]; omega) (Nat.mod_lt _ (by omega)))
      generalize (tg p m).1 = x0 at *
      generalize (tg p m).2.1 = x1 at *
      generalize (tg p m).2.2 = x2 at *
      have hmW : m % W < W := Nat.mod_lt _ (by omega)
      have em := tmod_mod m W (m % W) rfl
      have hW0 : ¬ W = 0 := by omega
      have em2 : (m : Int) % (W : Int) = ((m % W : Nat) : Int) := rfl
      obtain ⟨a, ha⟩ : ∃ a, a = m % W := ⟨_, rfl⟩
      have HA := Lib.hid ha
      rw [← ha] at em em2 hmW HN
      clear ha
      go_wp2
      go_quiet (fail)
      have V2 := Lib.hid (V.out.bel' (below_drewN (Below.refl wr.heap.size wr) nq))
      have c2 : (wr.drewN nq).cell? ⟨R, 2, none⟩ = some (.slice (some ⟨lb, lo, none⟩) N lc) := c2
      have c5 : (wr.drewN nq).cell? ⟨R, 5, none⟩ = some (.int .i64 (x : Int)) := c5
      have cL : (wr.drewN nq).cell? ⟨lb, lo + x, none⟩ = some (.slice (some ⟨pb, po, none⟩) pl pc) := cL
      have t0 : (wr.drewN nq).cell? ⟨pb, po + m * 3, none⟩ = some (.int .i64 x0) := t0
      have t1 : (wr.drewN nq).cell? ⟨pb, po + m * 3 + 1, none⟩ = some (.int .i64 x1) := t1
      have t2 : (wr.drewN nq).cell? ⟨pb, po + m * 3 + 2, none⟩ = some (.int .i64 x2) := t2
      have HO2 := Lib.hid (show Only M w (wr.drewN nq) from HO.out.drewN nq)
      clear V HO HBL
      generalize wr.drewN nq = w2 at *
      have c4 : w2.cell? ⟨R, 4, none⟩ = some (.slice (some ⟨gq, 0, none⟩) W hqc) := by rw [HRE.out, ← HVE.out]; exact V2.out.blk.cell 4
      go_wp2
      have hrow := V2.out.row
      rw [HVE.out, ← HWE.out] at hrow
      obtain ⟨hh1, hh2⟩ := V2.out.hand a (by rw [← HWE.out]; exact hmW)
      obtain ⟨ua, uc, hue, huc, hum, _⟩ := own_shape hh1
      obtain ⟨un, hun⟩ : ∃ un, un = (pg (dl W p m) a).length := ⟨_, rfl⟩
      have HUN := Lib.hid hun
      have ca : w2.cell? ⟨gq, a, none⟩ = some (.slice ua un uc) := by
        rw [World.ownsRow.cellAt hrow a (by rw [Nat.mul_one]; exact hmW), get_u _ hmW, hue, hun, HWE.out]
      have HUE := Lib.hid (show u1 a = .slice ua un uc by rw [hue, hun, HWE.out])
      clear hrow hh1 hh2 hue hun em em2 hW0 huc hum
      refine wp_region_N [3, 8, 11, 15, 19, 21, 24] [25, 26, 28] (fun w' => w'.cell? ⟨R, 4, none⟩ = some (.slice (some ⟨gq, 0, none⟩) W hqc) ∧ w'.cell? ⟨R, 2, none⟩ = some (.slice (some ⟨lb, lo, none⟩) N lc) ∧ w'.cell? ⟨R, 5, none⟩ = some (.int .i64 (x : Int)) ∧ w'.cell? ⟨gq, a, none⟩ = some (.slice ua un uc) ∧ w'.cell? ⟨lb, lo + x, none⟩ = some (.slice (some ⟨pb, po, none⟩) pl pc) ∧ w'.cell? ⟨pb, po + m * 3, none⟩ = some (.int .i64 x0) ∧ w'.cell? ⟨pb, po + m * 3 + 1, none⟩ = some (.int .i64 x1) ∧ w'.cell? ⟨pb, po + m * 3 + 2, none⟩ = some (.int .i64 x2)) (by kernel_rfl) ?_
      have hS : w2.drew.cell? ⟨R, 4, none⟩ = some (.slice (some ⟨gq, 0, none⟩) W hqc) ∧ w2.drew.cell? ⟨R, 2, none⟩ = some (.slice (some ⟨lb, lo, none⟩) N lc) ∧ w2.drew.cell? ⟨R, 5, none⟩ = some (.int .i64 (x : Int)) ∧ w2.drew.cell? ⟨gq, a, none⟩ = some (.slice ua un uc) ∧ w2.drew.cell? ⟨lb, lo + x, none⟩ = some (.slice (some ⟨pb, po, none⟩) pl pc) ∧ w2.drew.cell? ⟨pb, po + m * 3, none⟩ = some (.int .i64 x0) ∧ w2.drew.cell? ⟨pb, po + m * 3 + 1, none⟩ = some (.int .i64 x1) ∧ w2.drew.cell? ⟨pb, po + m * 3 + 2, none⟩ = some (.int .i64 x2) := ⟨c4, c2, c5, ca, cL, t0, t1, t2⟩
      have VD := Lib.hid (V2.out.bel' (show Below w2.heap.size w2 w2.drew from below_drewN (Below.refl w2.heap.size w2) 1))
      have HOD2 := Lib.hid (HO2.out.drew)
      clear V2 HO2 c2 c4 c5 ca cL t0 t1 t2
      generalize w2.drew = wd at *
      refine wpN_pure (i := 0) (v := ?_) rfl (by kernel_rfl) (by kernel_rfl) (by kernel_rfl) (by kernel_rfl) (fun _ _ _ h => h) (Or.inl ⟨by rfl, ?_⟩) (fun _ => hS) ?_
      rotate_left
      · ((intro w' hw'; (try dsimp only at hw'); go_simp) <;> with_reducible rfl)
      simp only [Act.put, List.setIfInBounds_toArray, List.set_cons_zero, List.set_cons_succ]
      refine wpN_pure (i := 1) (v := ?_) rfl (by kernel_rfl) (by kernel_rfl) (by kernel_rfl) (by kernel_rfl) (fun _ _ _ h => h) (Or.inl ⟨by rfl, ?_⟩) (fun _ => hS) ?_
      rotate_left
      · ((intro w' hw'; (try dsimp only at hw'); go_simp) <;> with_reducible rfl)
      simp only [Act.put, List.setIfInBounds_toArray, List.set_cons_zero, List.set_cons_succ]
      refine wpN_pure (i := 2) (v := ?_) rfl (by kernel_rfl) (by kernel_rfl) (by kernel_rfl) (by kernel_rfl) (fun _ _ _ h => h) (Or.inl ⟨by rfl, ?_⟩) (fun _ => hS) ?_
      rotate_left
      · ((intro w' hw'; (try dsimp only at hw'); go_simp) <;> with_reducible rfl)
      simp only [Act.put, List.setIfInBounds_toArray, List.set_cons_zero, List.set_cons_succ]
      refine wpN_read (i := 3) (v := ?_) rfl (by kernel_rfl) (by kernel_rfl) (by kernel_rfl) (by kernel_rfl) (by kernel_rfl) (fun _ _ _ h => h) (Or.inl ⟨by rfl, ?_⟩) hS ?_
      rotate_left
      · ((intro w' hw'; (try dsimp only at hw'); go_simp) <;> with_reducible rfl)
      simp only [Act.put, List.setIfInBounds_toArray, List.set_cons_zero, List.set_cons_succ]
      refine wpN_pure (i := 4) (v := ?_) rfl (by kernel_rfl) (by kernel_rfl) (by kernel_rfl) (by kernel_rfl) (fun _ _ _ h => h) (Or.inl ⟨by rfl, ?_⟩) (fun _ => hS) ?_
      rotate_left
      · ((intro w' hw'; (try dsimp only at hw'); go_simp) <;> with_reducible rfl)
      simp only [Act.put, List.setIfInBounds_toArray, List.set_cons_zero, List.set_cons_succ]
      refine wpN_pure (i := 5) (v := ?_) rfl (by kernel_rfl) (by kernel_rfl) (by kernel_rfl) (by kernel_rfl) (fun _ _ _ h => h) (Or.inl ⟨by rfl, ?_⟩) (fun _ => hS) ?_
      rotate_left
      · ((intro w' hw'; (try dsimp only at hw'); go_simp) <;> with_reducible rfl)
      simp only [Act.put, List.setIfInBounds_toArray, List.set_cons_zero, List.set_cons_succ]
      refine wpN_pure (i := 6) (v := ?_) rfl (by kernel_rfl) (by kernel_rfl) (by kernel_rfl) (by kernel_rfl) (fun _ _ _ h => h) (Or.inl ⟨by rfl, ?_⟩) (fun _ => hS) ?_
      rotate_left
      · ((intro w' hw'; (try dsimp only at hw'); go_simp) <;> with_reducible rfl)
      simp only [Act.put, List.setIfInBounds_toArray, List.set_cons_zero, List.set_cons_succ]
      refine wpN_pure (i := 7) (v := ?_) rfl (by kernel_rfl) (by kernel_rfl) (by kernel_rfl) (by kernel_rfl) (fun _ _ _ h => h) (Or.inl ⟨by rfl, ?_⟩) (fun _ => hS) ?_
      rotate_left
      · ((intro w' hw'; (try dsimp only at hw'); go_simp) <;> with_reducible rfl)
      simp only [Act.put, List.setIfInBounds_toArray, List.set_cons_zero, List.set_cons_succ]
      refine wpN_read (i := 8) (v := ?_) rfl (by kernel_rfl) (by kernel_rfl) (by kernel_rfl) (by kernel_rfl) (by kernel_rfl) (fun _ _ _ h => h) (Or.inl ⟨by rfl, ?_⟩) hS ?_
      rotate_left
      · ((intro w' hw'; (try dsimp only at hw'); go_simp) <;> with_reducible rfl)
      simp only [Act.put, List.setIfInBounds_toArray, List.set_cons_zero, List.set_cons_succ]
      refine wpN_pure (i := 9) (v := ?_) rfl (by kernel_rfl) (by kernel_rfl) (by kernel_rfl) (by kernel_rfl) (fun _ _ _ h => h) (Or.inl ⟨by rfl, ?_⟩) (fun _ => hS) ?_
      rotate_left
      · ((intro w' hw'; (try dsimp only at hw'); go_simp) <;> with_reducible rfl)
      simp only [Act.put, List.setIfInBounds_toArray, List.set_cons_zero, List.set_cons_succ]
      refine wpN_pure (i := 10) (v := ?_) rfl (by kernel_rfl) (by kernel_rfl) (by kernel_rfl) (by kernel_rfl) (fun _ _ _ h => h) (Or.inl ⟨by rfl, ?_⟩) (fun _ => hS) ?_
      rotate_left
      · ((intro w' hw'; (try dsimp only at hw'); go_simp) <;> with_reducible rfl)
      simp only [Act.put, List.setIfInBounds_toArray, List.set_cons_zero, List.set_cons_succ]
      refine wpN_read (i := 11) (v := ?_) rfl (by kernel_rfl) (by kernel_rfl) (by kernel_rfl) (by kernel_rfl) (by kernel_rfl) (fun _ _ _ h => h) (Or.inl ⟨by rfl, ?_⟩) hS ?_
      rotate_left
      · ((intro w' hw'; (try dsimp only at hw'); go_simp) <;> with_reducible rfl)
      simp only [Act.put, List.setIfInBounds_toArray, List.set_cons_zero, List.set_cons_succ]
      refine wpN_pure (i := 12) (v := ?_) rfl (by kernel_rfl) (by kernel_rfl) (by kernel_rfl) (by kernel_rfl) (fun _ _ _ h => h) (Or.inl ⟨by rfl, ?_⟩) (fun _ => hS) ?_
      rotate_left
      · ((intro w' hw'; (try dsimp only at hw'); go_simp) <;> with_reducible rfl)
      simp only [Act.put, List.setIfInBounds_toArray, List.set_cons_zero, List.set_cons_succ]
      refine wpN_pure (i := 13) (v := ?_) rfl (by kernel_rfl) (by kernel_rfl) (by kernel_rfl) (by kernel_rfl) (fun _ _ _ h => h) (Or.inl ⟨by rfl, ?_⟩) (fun _ => hS) ?_
      rotate_left
      · ((intro w' hw'; (try dsimp only at hw'); go_simp) <;> with_reducible rfl)
      simp only [Act.put, List.setIfInBounds_toArray, List.set_cons_zero, List.set_cons_succ]
      refine wpN_pure (i := 14) (v := ?_) rfl (by kernel_rfl) (by kernel_rfl) (by kernel_rfl) (by kernel_rfl) (fun _ _ _ h => h) (Or.inl ⟨by rfl, ?_⟩) (fun _ => hS) ?_
      rotate_left
      · ((intro w' hw'; (try dsimp only at hw'); go_simp) <;> with_reducible rfl)
      simp only [Act.put, List.setIfInBounds_toArray, List.set_cons_zero, List.set_cons_succ]
      refine wpN_read (i := 15) (v := ?_) rfl (by kernel_rfl) (by kernel_rfl) (by kernel_rfl) (by kernel_rfl) (by kernel_rfl) (fun _ _ _ h => h) (Or.inl ⟨by rfl, ?_⟩) hS ?_
      rotate_left
      · ((intro w' hw'; (try dsimp only at hw'); go_simp) <;> with_reducible rfl)
      simp only [Act.put, List.setIfInBounds_toArray, List.set_cons_zero, List.set_cons_succ]
      refine wpN_pure (i := 16) (v := ?_) rfl (by kernel_rfl) (by kernel_rfl) (by kernel_rfl) (by kernel_rfl) (fun _ _ _ h => h) (Or.inl ⟨by rfl, ?_⟩) (fun _ => hS) ?_
      rotate_left
      · ((intro w' hw'; (try dsimp only at hw'); go_simp) <;> with_reducible rfl)
      simp only [Act.put, List.setIfInBounds_toArray, List.set_cons_zero, List.set_cons_succ]
      refine wpN_pure (i := 17) (v := ?_) rfl (by kernel_rfl) (by kernel_rfl) (by kernel_rfl) (by kernel_rfl) (fun _ _ _ h => h) (Or.inl ⟨by rfl, ?_⟩) (fun _ => hS) ?_
      rotate_left
      · ((intro w' hw'; (try dsimp only at hw'); go_simp) <;> with_reducible rfl)
      simp only [Act.put, List.setIfInBounds_toArray, List.set_cons_zero, List.set_cons_succ]
      refine wpN_pure (i := 18) (v := ?_) rfl (by kernel_rfl) (by kernel_rfl) (by kernel_rfl) (by kernel_rfl) (fun _ _ _ h => h) (Or.inl ⟨by rfl, ?_⟩) (fun _ => hS) ?_
      rotate_left
      · ((intro w' hw'; (try dsimp only at hw'); go_simp) <;> with_reducible rfl)
      simp only [Act.put, List.setIfInBounds_toArray, List.set_cons_zero, List.set_cons_succ]
      refine wpN_read (i := 19) (v := ?_) rfl (by kernel_rfl) (by kernel_rfl) (by kernel_rfl) (by kernel_rfl) (by kernel_rfl) (fun _ _ _ h => h) (Or.inl ⟨by rfl, ?_⟩) hS ?_
      rotate_left
      · ((intro w' hw'; (try dsimp only at hw'); go_simp) <;> with_reducible rfl)
      simp only [Act.put, List.setIfInBounds_toArray, List.set_cons_zero, List.set_cons_succ]
      refine wpN_pure (i := 20) (v := ?_) rfl (by kernel_rfl) (by kernel_rfl) (by kernel_rfl) (by kernel_rfl) (fun _ _ _ h => h) (Or.inl ⟨by rfl, ?_⟩) (fun _ => hS) ?_
      rotate_left
      · ((intro w' hw'; (try dsimp only at hw'); go_simp) <;> with_reducible rfl)
      simp only [Act.put, List.setIfInBounds_toArray, List.set_cons_zero, List.set_cons_succ]
      refine wpN_read (i := 21) (v := ?_) rfl (by kernel_rfl) (by kernel_rfl) (by kernel_rfl) (by kernel_rfl) (by kernel_rfl) (fun _ _ _ h => h) (Or.inl ⟨by rfl, ?_⟩) hS ?_
      rotate_left
      · ((intro w' hw'; (try dsimp only at hw'); go_simp) <;> with_reducible rfl)
      simp only [Act.put, List.setIfInBounds_toArray, List.set_cons_zero, List.set_cons_succ]
      refine wpN_pure (i := 22) (v := ?_) rfl (by kernel_rfl) (by kernel_rfl) (by kernel_rfl) (by kernel_rfl) (fun _ _ _ h => h) (Or.inl ⟨by rfl, ?_⟩) (fun _ => hS) ?_
      rotate_left
      · ((intro w' hw'; (try dsimp only at hw'); go_simp) <;> with_reducible rfl)
      simp only [Act.put, List.setIfInBounds_toArray, List.set_cons_zero, List.set_cons_succ]
      refine wpN_pure (i := 23) (v := ?_) rfl (by kernel_rfl) (by kernel_rfl) (by kernel_rfl) (by kernel_rfl) (fun _ _ _ h => h) (Or.inl ⟨by rfl, ?_⟩) (fun _ => hS) ?_
      rotate_left
      · ((intro w' hw'; (try dsimp only at hw'); go_simp) <;> with_reducible rfl)
      simp only [Act.put, List.setIfInBounds_toArray, List.set_cons_zero, List.set_cons_succ]
      refine wpN_read (i := 24) (v := ?_) rfl (by kernel_rfl) (by kernel_rfl) (by kernel_rfl) (by kernel_rfl) (by kernel_rfl) (fun _ _ _ h => h) (Or.inl ⟨by rfl, ?_⟩) hS ?_
      rotate_left
      · ((intro w' hw'; (try dsimp only at hw'); go_simp) <;> with_reducible rfl)
      simp only [Act.put, List.setIfInBounds_toArray, List.set_cons_zero, List.set_cons_succ]
      refine wpN_oneS (i := 25) rfl rfl (by kernel_rfl) (fun K hK => ?_)
      go_simp
      have hal := (Below.refl wd.heap.size wd).alloc (Nat.le_refl _) (.cells #[.int .i64 x0, .int .i64 x1, .int .i64 x2] 56)
      have hS5 : (wd.alloc (.cells #[.int .i64 x0, .int .i64 x1, .int .i64 x2] 56)).cell? ⟨R, 4, none⟩ = some (.slice (some ⟨gq, 0, none⟩) W hqc) ∧ (wd.alloc (.cells #[.int .i64 x0, .int .i64 x1, .int .i64 x2] 56)).cell? ⟨R, 2, none⟩ = some (.slice (some ⟨lb, lo, none⟩) N lc) ∧ (wd.alloc (.cells #[.int .i64 x0, .int .i64 x1, .int .i64 x2] 56)).cell? ⟨R, 5, none⟩ = some (.int .i64 (x : Int)) ∧ (wd.alloc (.cells #[.int .i64 x0, .int .i64 x1, .int .i64 x2] 56)).cell? ⟨gq, a, none⟩ = some (.slice ua un uc) ∧ (wd.alloc (.cells #[.int .i64 x0, .int .i64 x1, .int .i64 x2] 56)).cell? ⟨lb, lo + x, none⟩ = some (.slice (some ⟨pb, po, none⟩) pl pc) ∧ (wd.alloc (.cells #[.int .i64 x0, .int .i64 x1, .int .i64 x2] 56)).cell? ⟨pb, po + m * 3, none⟩ = some (.int .i64 x0) ∧ (wd.alloc (.cells #[.int .i64 x0, .int .i64 x1, .int .i64 x2] 56)).cell? ⟨pb, po + m * 3 + 1, none⟩ = some (.int .i64 x1) ∧ (wd.alloc (.cells #[.int .i64 x0, .int .i64 x1, .int .i64 x2] 56)).cell? ⟨pb, po + m * 3 + 2, none⟩ = some (.int .i64 x2) :=
        ⟨(hal.cell (p := ⟨R, 4, none⟩) (World.block_lt_of_cell? wd ⟨R, 4, none⟩ hS.1)).trans hS.1, (hal.cell (p := ⟨R, 2, none⟩) (World.block_lt_of_cell? wd ⟨R, 2, none⟩ hS.2.1)).trans hS.2.1, (hal.cell (p := ⟨R, 5, none⟩) (World.block_lt_of_cell? wd ⟨R, 5, none⟩ hS.2.2.1)).trans hS.2.2.1, (hal.cell (p := ⟨gq, a, none⟩) (World.block_lt_of_cell? wd ⟨gq, a, none⟩ hS.2.2.2.1)).trans hS.2.2.2.1, (hal.cell (p := ⟨lb, lo + x, none⟩) (World.block_lt_of_cell? wd ⟨lb, lo + x, none⟩ hS.2.2.2.2.1)).trans hS.2.2.2.2.1, (hal.cell (p := ⟨pb, po + m * 3, none⟩) (World.block_lt_of_cell? wd ⟨pb, po + m * 3, none⟩ hS.2.2.2.2.2.1)).trans hS.2.2.2.2.2.1, (hal.cell (p := ⟨pb, po + m * 3 + 1, none⟩) (World.block_lt_of_cell? wd ⟨pb, po + m * 3 + 1, none⟩ hS.2.2.2.2.2.2.1)).trans hS.2.2.2.2.2.2.1, (hal.cell (p := ⟨pb, po + m * 3 + 2, none⟩) (World.block_lt_of_cell? wd ⟨pb, po + m * 3 + 2, none⟩ hS.2.2.2.2.2.2.2)).trans hS.2.2.2.2.2.2.2⟩
      first | refine hK.out _ _ hS5 ?_ | refine ⟨hS5, hK.out _ _ hS5 ?_⟩
      clear hK K hS
      have hS := hS5
      have NB := Lib.hid (Blk.new wd 56 #[.int .i64 x0, .int .i64 x1, .int .i64 x2])
      have VA := Lib.hid (VD.out.bel' hal)
      have OA := Lib.hid (show Only (fun k => (u1 a).ownBlock = some k ∨ k = gq) wd (wd.alloc (.cells #[.int .i64 x0, .int .i64 x1, .int .i64 x2] 56)) from (Only.refl _ _).alloc _)
      clear hS5 hal
      obtain ⟨g6, hg6⟩ : ∃ g, g = wd.heap.size := ⟨_, rfl⟩
      rw [← hg6] at NB ⊢
      clear hg6
      generalize wd.alloc (.cells #[.int .i64 x0, .int .i64 x1, .int .i64 x2] 56) = w6 at *
      have HND := Lib.hid (show Ot 0 w6 (.slice ua un uc) (pg (dl W p m) a) from by
        have := (VA.out.hand a (by rw [← HWE.out]; exact hmW)).1
        rw [HUE.out, ← HWE.out] at this
        exact this)
      have ROW := Lib.hid (show w6.ownsRow 0 48 1 (.slice (some ⟨gq, 0, none⟩) W hqc) W ((List.range W).map u1) from by
        have := VA.out.row
        rw [HVE.out, ← HWE.out] at this
        exact this)
      have BLK := Lib.hid (VA.out.blk)
      have HHM := Lib.hid (fun k (hk : (Value.slice ua un uc).ownBlock = some k) => (show w0.heap.size ≤ k from (VA.out.lo k ((VA.out.hand a (by rw [← HWE.out]; exact hmW)).2 k (by rw [HUE.out]; exact hk))).1))
      have LLN := Lib.hid (show un ≤ 1000000 from by rw [HUN.out]; have := HN.out; omega)
      have OTH := Lib.hid (show w6.ownsRow 0 56 3 (.slice ua un uc) un (tcs (pg (dl W p m) a)) from by have := HND.out; unfold Ot at this; rw [← HUN.out] at this; exact this)
      have LLB := Lib.hid (World.block_lt_of_cell? w0 ⟨lb, lo + x, none⟩ CU.out)
      have LPB := Lib.hid (World.block_lt_of_cell? w0 ⟨pb, po + m * 3, none⟩ (PC.out m hml).1)
      refine wpN_oneS (i := 26) rfl rfl (by kernel_rfl) (fun K hK => ?_)
      refine st_appG 56 48 (.agg #[.int .i64 0, .int .i64 0, .int .i64 0]) 3 24 Tryd.underlying48 info_task rfl (by decide) (by decide) w6 (.tmp 50) (.tmp 64) rfl 0 g6 (.slice ua un uc) un (tcs (pg (dl W p m) a)) #[.int .i64 x0, .int .i64 x1, .int .i64 x2] rfl (by intro u hu; simp at hu; rcases hu with rfl | rfl | rfl <;> rfl) rfl rfl OTH.out NB.out (Nat.zero_le _) LLN.out ?_
      intro v7 w7 p7 hg7 hat7
      have O67 : Only (fun k => (Value.slice ua un uc).ownBlock = some k) w6 w7 := Only.of_grown (S := fun k => (Value.slice ua un uc).ownBlock = some k) hg7 (fun _ e => e)
      have nR : ¬ (Value.slice ua un uc).ownBlock = some R := fun e => own_blk_ne HND.out (show Blk w6 R _ _ from by rw [HRE.out]; exact BLK.out) (by decide) e
      have nG : ¬ (Value.slice ua un uc).ownBlock = some gq := fun e => by
        rcases own_ne HND.out ROW.out (by decide) with hh | hh
        · rw [e] at hh; cases hh
        · exact hh (by rw [e]; rfl)
      have nL : ¬ (Value.slice ua un uc).ownBlock = some lb := fun e => by have := HHM.out _ e; have h9 := LLB.out; simp only at h9; omega
      have nP : ¬ (Value.slice ua un uc).ownBlock = some pb := fun e => by have := HHM.out _ e; have h9 := LPB.out; simp only at h9; omega
      have hS7 : w7.cell? ⟨R, 4, none⟩ = some (.slice (some ⟨gq, 0, none⟩) W hqc) ∧ w7.cell? ⟨R, 2, none⟩ = some (.slice (some ⟨lb, lo, none⟩) N lc) ∧ w7.cell? ⟨R, 5, none⟩ = some (.int .i64 (x : Int)) ∧ w7.cell? ⟨gq, a, none⟩ = some (.slice ua un uc) ∧ w7.cell? ⟨lb, lo + x, none⟩ = some (.slice (some ⟨pb, po, none⟩) pl pc) ∧ w7.cell? ⟨pb, po + m * 3, none⟩ = some (.int .i64 x0) ∧ w7.cell? ⟨pb, po + m * 3 + 1, none⟩ = some (.int .i64 x1) ∧ w7.cell? ⟨pb, po + m * 3 + 2, none⟩ = some (.int .i64 x2) :=
        ⟨O67.cell' hS.1 nR, O67.cell' hS.2.1 nR, O67.cell' hS.2.2.1 nR, O67.cell' hS.2.2.2.1 nG, O67.cell' hS.2.2.2.2.1 nL, O67.cell' hS.2.2.2.2.2.1 nP, O67.cell' hS.2.2.2.2.2.2.1 nP, O67.cell' hS.2.2.2.2.2.2.2 nP⟩
      obtain ⟨a7, q7, rfl, _⟩ := own_shape p7
      refine ⟨hS7, hK.out _ _ hS7 ?_⟩
      clear hK K hS
      have hS := hS7
      simp only [Act.put, List.setIfInBounds_toArray, List.set_cons_zero, List.set_cons_succ]
      have ROW7 := Lib.hid (own_only ROW.out O67 (fun k hk e => by
        have e2 : gq = k := Option.some.inj hk
        rw [← e2] at e
        exact nG e))
      have P7 := Lib.hid (show Ot 0 w7 (.slice a7 (un + 1) q7) (pg (dl W p m) a ++ [tg p m]) from by
        unfold Ot
        rw [tcs_append, HT.out, tcs_one, List.length_append, List.length_singleton, ← HUN.out]
        exact p7)
      have HO67 := Lib.hid (show Only (fun k => (u1 a).ownBlock = some k ∨ k = gq) w6 w7 from O67.mono fun k _ e => .inl (by rw [HUE.out]; exact e))
      have HAT := Lib.hid (show ∀ g, (Value.slice a7 (un + 1) q7).ownBlock = some g → (u1 a).ownBlock = some g ∨ wd.heap.size ≤ g from fun g hg => by
        rcases hat7 g hg with h1 | h1
        · exact .inl (by rw [HUE.out]; exact h1)
        · right; rw [h1]; exact OA.out.size)
      clear hS7 O67 nR nG nL nP p7 hg7 hat7
      refine wpN_pure (i := 27) (v := ?_) rfl (by kernel_rfl) (by kernel_rfl) (by kernel_rfl) (by kernel_rfl) (fun _ _ _ h => h) (Or.inl ⟨by rfl, ?_⟩) (fun _ => hS) ?_
      rotate_left
      · ((intro w' hw'; (try dsimp only at hw'); go_simp) <;> with_reducible rfl)
      simp only [Act.put, List.setIfInBounds_toArray, List.set_cons_zero, List.set_cons_succ]
      refine wpN_one (i := 28) rfl rfl (by kernel_rfl) (by kernel_rfl) (fun K hK => ?_)
      refine st_storeRow 48 48 (fun _ => rfl) w7 (.tmp 66) (.tmp 65) rfl 0 gq a W hqc _ a7 (un + 1) q7 rfl rfl ROW7.out hmW ?_
      intro w8 hrow8 ho8 hs8
      refine hK.out _ _ (wpN_done (by kernel_rfl) ?_)
      clear hK K hS
      have HO8 := Lib.hid (OA.out.trans (HO67.out.trans (ho8.mono (T := fun k => (u1 a).ownBlock = some k ∨ k = gq) fun k _ e => .inr e)))
      have P8 := Lib.hid (P7.out.only ho8 (fun k hk e => by
        rcases own_ne P7.out ROW7.out (by decide) with hh | hh
        · rw [hk] at hh; cases hh
        · exact hh (by rw [hk, e]; rfl)))
      have V8' := VD.out.hand_set (a := a) (by rw [← HWE.out]; exact hmW) (by rw [dl_len]) (by rw [← HWE.out]; exact HVE.out) HO8.out (fun k hk => by
        rcases hk with hk | hk
        · exact .inl hk
        · exact .inr (.inl hk)) (by rw [HVE.out, ← HWE.out]; exact hrow8) P8.out HAT.out
      have HQM := Lib.hid (show M1 gq from VD.out.rowM gq (by rw [HVE.out]; rfl))
      have HUM := Lib.hid (fun k (hk : (u1 a).ownBlock = some k) => (VD.out.hand a (by rw [← HWE.out]; exact hmW)).2 k hk)
      have hwd : w.heap.size ≤ wd.heap.size := HOD2.out.size
      have HOF := Lib.hid (show Only M w w8 from HOD2.out.trans2 HO8.out (fun k hk e => by
        have h1 : M1 k := by
          rcases e with e | e
          · exact HUM.out k e
          · rw [e]; exact HQM.out
        rcases HM.out k h1 with h2 | h2
        · exact h2
        · omega))
      obtain ⟨M8, u8, HM8, V8⟩ : ∃ (M' : Nat → Prop) (u' : Nat → Value), Hid (∀ k, M' k → M k ∨ w.heap.size ≤ k) ∧ Hid (CrV w0 w8 M' c va vd u' false ⟨s.ar, dl c.W p (m + 1), s.ph, s.left, s.log⟩) := ⟨fun k => M1 k ∨ (wd.heap.size ≤ k ∧ k < w8.heap.size), _, Lib.hid (fun k hk => by
        rcases hk with hk | hk
        · exact HM.out k hk
        · exact .inr (Nat.le_trans hwd hk.1)), Lib.hid (by
        have h9 := V8'
        rw [← HWE.out] at h9 ⊢
        rw [dl_succ, ← HA.out]
        exact h9)⟩
      clear V8' hrow8 ho8 hs8 VD VA OA HO67 HO8 P7 P8 ROW ROW7 HND BLK NB OTH HAT HOD2
      go_wp2
      go_roundw
      case rel => exact ⟨m + 1, M8, u8, by rw [← HPL.out]; omega, by go_num, V8.out, HOF.out, HM8.out⟩
      case measure => simp [intOf] <;> omega
    · obtain rfl : pl = m := by omega
      go_wp2
      go_quiet (fail)
      have V2 := Lib.hid (V.out.bel' (below_drewN (Below.refl wr.heap.size wr) nq))
      have c2 : (wr.drewN nq).cell? ⟨R, 2, none⟩ = some (.slice (some ⟨lb, lo, none⟩) N lc) := c2
      have c5 : (wr.drewN nq).cell? ⟨R, 5, none⟩ = some (.int .i64 (x : Int)) := c5
      have cL : (wr.drewN nq).cell? ⟨lb, lo + x, none⟩ = some (.slice (some ⟨pb, po, none⟩) pl pc) := cL
      have HO2 := Lib.hid (show Only M w (wr.drewN nq) from HO.out.drewN nq)
      clear V HO HBL
      generalize wr.drewN nq = w2 at *
      go_wp2
      refine wp_region_N [4, 8, 10] [14] (fun w' => w'.cell? ⟨R, 2, none⟩ = some (.slice (some ⟨lb, lo, none⟩) N lc) ∧ w'.cell? ⟨R, 5, none⟩ = some (.int .i64 (x : Int)) ∧ w'.cell? ⟨lb, lo + x, none⟩ = some (.slice (some ⟨pb, po, none⟩) pl pc)) (by kernel_rfl) ?_
      have hS : w2.drew.cell? ⟨R, 2, none⟩ = some (.slice (some ⟨lb, lo, none⟩) N lc) ∧ w2.drew.cell? ⟨R, 5, none⟩ = some (.int .i64 (x : Int)) ∧ w2.drew.cell? ⟨lb, lo + x, none⟩ = some (.slice (some ⟨pb, po, none⟩) pl pc) := ⟨c2, c5, cL⟩
      have VD := Lib.hid (V2.out.bel' (show Below w2.heap.size w2 w2.drew from below_drewN (Below.refl w2.heap.size w2) 1))
      have HOD2 := Lib.hid (HO2.out.drew)
      clear V2 HO2 c2 c5 cL
      generalize w2.drew = wd at *
      have BLK := Lib.hid (show Blk wd R 50 _ from by rw [HRE.out]; exact VD.out.blk)
      refine wpN_pure (i := 0) (v := ?_) rfl (by kernel_rfl) (by kernel_rfl) (by kernel_rfl) (by kernel_rfl) (fun _ _ _ h => h) (Or.inl ⟨by rfl, ?_⟩) (fun _ => hS) ?_
      rotate_left
      · ((intro w' hw'; (try dsimp only at hw'); go_simp) <;> with_reducible rfl)
      simp only [Act.put, List.setIfInBounds_toArray, List.set_cons_zero, List.set_cons_succ]
      refine wpN_pure (i := 1) (v := ?_) rfl (by kernel_rfl) (by kernel_rfl) (by kernel_rfl) (by kernel_rfl) (fun _ _ _ h => h) (Or.inl ⟨by rfl, ?_⟩) (fun _ => hS) ?_
      rotate_left
      · ((intro w' hw'; (try dsimp only at hw'); go_simp) <;> with_reducible rfl)
      simp only [Act.put, List.setIfInBounds_toArray, List.set_cons_zero, List.set_cons_succ]
      refine wpN_pure (i := 2) (v := ?_) rfl (by kernel_rfl) (by kernel_rfl) (by kernel_rfl) (by kernel_rfl) (fun _ _ _ h => h) (Or.inl ⟨by rfl, ?_⟩) (fun _ => hS) ?_
      rotate_left
      · ((intro w' hw'; (try dsimp only at hw'); go_simp) <;> with_reducible rfl)
      simp only [Act.put, List.setIfInBounds_toArray, List.set_cons_zero, List.set_cons_succ]
      refine wpN_pure (i := 3) (v := ?_) rfl (by kernel_rfl) (by kernel_rfl) (by kernel_rfl) (by kernel_rfl) (fun _ _ _ h => h) (Or.inl ⟨by rfl, ?_⟩) (fun _ => hS) ?_
      rotate_left
      · ((intro w' hw'; (try dsimp only at hw'); go_simp) <;> with_reducible rfl)
      simp only [Act.put, List.setIfInBounds_toArray, List.set_cons_zero, List.set_cons_succ]
      refine wpN_read (i := 4) (v := ?_) rfl (by kernel_rfl) (by kernel_rfl) (by kernel_rfl) (by kernel_rfl) (by kernel_rfl) (fun _ _ _ h => h) (Or.inl ⟨by rfl, ?_⟩) hS ?_
      rotate_left
      · ((intro w' hw'; (try dsimp only at hw'); go_simp) <;> with_reducible rfl)
      simp only [Act.put, List.setIfInBounds_toArray, List.set_cons_zero, List.set_cons_succ]
      refine wpN_pure (i := 5) (v := ?_) rfl (by kernel_rfl) (by kernel_rfl) (by kernel_rfl) (by kernel_rfl) (fun _ _ _ h => h) (Or.inl ⟨by rfl, ?_⟩) (fun _ => hS) ?_
      rotate_left
      · ((intro w' hw'; (try dsimp only at hw'); go_simp) <;> with_reducible rfl)
      simp only [Act.put, List.setIfInBounds_toArray, List.set_cons_zero, List.set_cons_succ]
      refine wpN_pure (i := 6) (v := ?_) rfl (by kernel_rfl) (by kernel_rfl) (by kernel_rfl) (by kernel_rfl) (fun _ _ _ h => h) (Or.inl ⟨by rfl, ?_⟩) (fun _ => hS) ?_
      rotate_left
      · ((intro w' hw'; (try dsimp only at hw'); go_simp) <;> with_reducible rfl)
      simp only [Act.put, List.setIfInBounds_toArray, List.set_cons_zero, List.set_cons_succ]
      refine wpN_pure (i := 7) (v := ?_) rfl (by kernel_rfl) (by kernel_rfl) (by kernel_rfl) (by kernel_rfl) (fun _ _ _ h => h) (Or.inl ⟨by rfl, ?_⟩) (fun _ => hS) ?_
      rotate_left
      · ((intro w' hw'; (try dsimp only at hw'); go_simp) <;> with_reducible rfl)
      simp only [Act.put, List.setIfInBounds_toArray, List.set_cons_zero, List.set_cons_succ]
      refine wpN_read (i := 8) (v := ?_) rfl (by kernel_rfl) (by kernel_rfl) (by kernel_rfl) (by kernel_rfl) (by kernel_rfl) (fun _ _ _ h => h) (Or.inl ⟨by rfl, ?_⟩) hS ?_
      rotate_left
      · ((intro w' hw'; (try dsimp only at hw'); go_simp) <;> with_reducible rfl)
      simp only [Act.put, List.setIfInBounds_toArray, List.set_cons_zero, List.set_cons_succ]
      refine wpN_pure (i := 9) (v := ?_) rfl (by kernel_rfl) (by kernel_rfl) (by kernel_rfl) (by kernel_rfl) (fun _ _ _ h => h) (Or.inl ⟨by rfl, ?_⟩) (fun _ => hS) ?_
      rotate_left
      · ((intro w' hw'; (try dsimp only at hw'); go_simp) <;> with_reducible rfl)
      simp only [Act.put, List.setIfInBounds_toArray, List.set_cons_zero, List.set_cons_succ]
      refine wpN_read (i := 10) (v := ?_) rfl (by kernel_rfl) (by kernel_rfl) (by kernel_rfl) (by kernel_rfl) (by kernel_rfl) (fun _ _ _ h => h) (Or.inl ⟨by rfl, ?_⟩) hS ?_
      rotate_left
      · ((intro w' hw'; (try dsimp only at hw'); go_simp) <;> with_reducible rfl)
      simp only [Act.put, List.setIfInBounds_toArray, List.set_cons_zero, List.set_cons_succ]
      refine wpN_pure (i := 11) (v := ?_) rfl (by kernel_rfl) (by kernel_rfl) (by kernel_rfl) (by kernel_rfl) (fun _ _ _ h => h) (Or.inl ⟨by rfl, ?_⟩) (fun _ => hS) ?_
      rotate_left
      · ((intro w' hw'; (try dsimp only at hw'); go_simp) <;> with_reducible rfl)
      simp only [Act.put, List.setIfInBounds_toArray, List.set_cons_zero, List.set_cons_succ]
      refine wpN_pure (i := 12) (v := ?_) rfl (by kernel_rfl) (by kernel_rfl) (by kernel_rfl) (by kernel_rfl) (fun _ _ _ h => h) (Or.inl ⟨by rfl, ?_⟩) (fun _ => hS) ?_
      rotate_left
      · ((intro w' hw'; (try dsimp only at hw'); go_simp) <;> with_reducible rfl)
      simp only [Act.put, List.setIfInBounds_toArray, List.set_cons_zero, List.set_cons_succ]
      refine wpN_pure (i := 13) (v := ?_) rfl (by kernel_rfl) (by kernel_rfl) (by kernel_rfl) (by kernel_rfl) (fun _ _ _ h => h) (Or.inl ⟨by rfl, ?_⟩) (fun _ => hS) ?_
      rotate_left
      · ((intro w' hw'; (try dsimp only at hw'); go_simp) <;> with_reducible rfl)
      simp only [Act.put, List.setIfInBounds_toArray, List.set_cons_zero, List.set_cons_succ]
      refine wpN_one (i := 14) rfl rfl (by kernel_rfl) (by kernel_rfl) (fun K hK => ?_)
      refine st_storeN 3 (fun _ => rfl) wd (.tmp 80) (.tmp 78) rfl R 6 50 _ .i64 (pl : Int) rfl rfl BLK.out (by show 6 < 9; decide) ?_
      intro w8 hb8 ho8 hs8
      refine hK.out _ _ (wpN_done (by kernel_rfl) ?_)
      clear hK K hS
      have O8 : Only (fun k => k = c.R) wd w8 := ho8.mono fun k _ e => by rw [← HRE.out]; exact e
      have hh := VD.out
      have V8' := hh.put (va' := va) (vd' := vd) (fin' := false) (ar' := s.ar) (ph' := s.ph) (left' := pl) (log' := s.log) O8 (fun k e => .inl e) (by rw [← HRE.out]; exact hb8)
        (own_only hh.ar O8 (fun k hk e => own_blk_ne hh.ar hh.blk (by decide) (e ▸ hk))) (hh.did.only O8 (fun k hk e => own_blk_ne hh.did hh.blk (by decide) (e ▸ hk))) (fun g hg => .inl hg) (fun g hg => .inl hg)
      have hwd : w.heap.size ≤ wd.heap.size := HOD2.out.size
      have HMR := hh.mR
      obtain ⟨M8, HM8, V8⟩ : ∃ (M' : Nat → Prop), Hid (∀ k, M' k → M k ∨ w.heap.size ≤ k) ∧ Hid (CrV w0 w8 M' c va vd u1 false ⟨s.ar, dl c.W p p.length, s.ph, pl, s.log⟩) := ⟨fun k => M1 k ∨ (wd.heap.size ≤ k ∧ k < w8.heap.size), Lib.hid (fun k hk => by
        rcases hk with hk | hk
        · exact HM.out k hk
        · exact .inr (Nat.le_trans hwd hk.1)), Lib.hid (by rw [← HPL.out]; exact V8')⟩
      have HOF := Lib.hid (show Only M w w8 from HOD2.out.trans2 O8 (fun k hk e => by
        have e2 : k = c.R := e
        rw [e2]
        rcases HM.out _ HMR with h2 | h2
        · exact h2
        · rw [e2] at hk; omega))
      clear V8' hb8 ho8 hs8 VD HOD2 hh O8 BLK HMR
      go_wp2
      go_end0
      refine ⟨rfl, M8, ⟨va, vd, u1, ?_⟩, HOF.out, HM8.out⟩
      rw [← HWE.out, ← HPL.out] at V8
      exact V8.out
theorem cdeal_any (c : Cw) (s : RS) (M : Nat → Prop) (w0 w : World) (h : CrAt w0 w M c false s) (X0 : RPs w0 c.vll c.ll) (hg : GL c.ks c.ll) (hx : s.ph ≤ c.ll.length) (hq : s.qs = List.replicate c.W []) (hl : s.left = 0) (hW : 1 ≤ c.W) (hW8 : c.W ≤ 8) :
    Calls Tryd.prog 57 #[.pointer (some ⟨c.R, 0, none⟩)] w fun e w' => e = .returned (.tuple #[]) ∧ CrTo w0 M c (decide (s.ph = c.ll.length)) ⟨s.ar, dlp c.W c.ll s.ph, s.ph, (pg c.ll s.ph).length, s.log⟩ w w' := by
  by_cases hd : s.ph = c.ll.length
  · rw [decide_eq_true hd]
    have e : (⟨s.ar, dlp c.W c.ll s.ph, s.ph, (pg c.ll s.ph).length, s.log⟩ : RS) = s := by
      rw [dlp_out (by omega), pg_out (by omega), ← hq, List.length_nil, ← hl]
    rw [e]
    exact cdeal_done c s M w0 w h X0 hd
  · rw [decide_eq_false hd]
    exact cdeal_go c s M w0 w h X0 (by omega) hq hW hW8 (hg.pos (by omega)) (hg.le _ (by omega))
end Go.Proofs.YtcakeenfkdhedaaDoor.Gm
