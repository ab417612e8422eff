/- ref Crew.Step: a steal. (Printed by wip/mk_XCs.py.) -/
import Derived.Test.YtcakeenfkdhedaaDoorCsb
namespace Go.Proofs.YtcakeenfkdhedaaDoor.Gm
open Go.RowKit
set_option linter.unusedVariables false
theorem tcs_ones (l : List T3) : ∀ u ∈ tcs l, u.oneCell' = true := by
  intro u hu
  obtain ⟨t, _, ht⟩ := List.mem_flatMap.1 hu
  simp only [tc, List.mem_cons, List.not_mem_nil, or_false] at ht
  rcases ht with rfl | rfl | rfl <;> rfl
theorem st_appTl {o : Oper} {a : Act} {K : Act → World → Prop} {Q : Exit → Act → World → Prop} (w : World) (s x : Operand)
    (ho : o.op = .call { callee := .builtin .append, args := #[s, x], argTypes := #[48, 48] })
    (gv n vn vc cc off : Nat) (t : T3) (l : List T3) (hs : a.eval s = .slice none 0 0) (hx : a.eval x = .slice (some ⟨gv, off, none⟩) n cc) (hof : n = 0 ∨ off = 3) (hl : l.length = n) (hown : Ot 0 w (.slice (some ⟨gv, 0, none⟩) vn vc) (t :: l)) (hn : n ≤ 1000000)
    (h : ∀ v' w', Ot w.heap.size w' v' l → w.grownBy w' none → K (a.put o.dst v') w') : Oper.wp Tryd.prog o a w K Q := by
  obtain ⟨_, _, ee, _⟩ := Ot.shape hown
  injection ee with _ ee _
  subst ee
  have hown' : w.ownsRow 0 56 3 (.slice (some ⟨gv, 0, none⟩) (t :: l).length vc) (t :: l).length (tcs (t :: l)) := hown
  obtain ⟨i0, hi, hz0, hz1, hz2⟩ := info_parts info_task
  obtain ⟨v', w', hr, h2, h3, _, h5⟩ := run_append_own_at (P := Tryd.prog) w w.heap.size 48 o.type 56 i0 (.agg #[.int .i64 0, .int .i64 0, .int .i64 0]) 3 24 Tryd.underlying48 hi hz0 hz1 hz2 rfl (by decide) (.slice none 0 0) 0 [] (World.ownsRow_nil _ _ _ _) ⟨gv, off, none⟩ n cc (tcs l) (by rw [tcs_len, hl]) (fun j u hj => by
    have hjl : j < l.length * 3 := by rw [← tcs_len]; exact (List.getElem?_eq_some_iff.1 hj).1
    have h1 := World.ownsRow.cellAt hown' (3 + j) (by rw [List.length_cons]; omega)
    rw [show tcs (t :: l) = tc t ++ tcs l from rfl, List.getElem?_append_right (by show 3 ≤ 3 + j; omega)] at h1
    obtain rfl := hof.resolve_left (by omega)
    have hj3 : 3 + j - (tc t).length = j := by show 3 + j - 3 = j; omega
    rw [hj3] at h1
    rw [show (⟨gv, 3, none⟩ : Addr).add j = ⟨gv, 3 + j, none⟩ from by unfold Addr.add; split <;> simp_all, h1, hj]) (tcs_ones l) (by unfold maxLen; omega) (by omega) (Nat.le_refl _)
  unfold Oper.wp execOp
  simp only [ho, resolve, invoke, builtin, Sem.run_bind, Sem.run_pure, Result.andThen_ok, List.map_toArray, List.map_cons, List.map_nil, hs, hx, hr]
  refine h v' w' ?_ h3
  unfold Ot
  rw [hl]
  have h2' := h2
  rw [Nat.zero_add, List.nil_append] at h2'
  exact h2'
set_option maxHeartbeats 4000000 in
set_option maxRecDepth 100000 in
theorem cstep_steal (c : Cw) (s : RS) (zs : List Int) (M : Nat → Prop) (w0 w : World) (a v : Nat) (h : CrAt w0 w M c false s) (hI : RI c.back c.ks zs c.W c.ll s) (hg : GL c.ks c.ll) (hzl : zs.length = pk c.ks) (hzb : B64 zs) (hw : W64 (zi (szs c.ks))) (X0 : RPs w0 c.vll c.ll) (XS : Rd .i64 w0 c.vsh (zi (szs c.ks))) (hW1 : 1 ≤ c.W) (hW8 : c.W ≤ 8) (hx : s.ph < c.ll.length) (ha : a < c.W) (hv : v < c.W) (hq : pg s.qs a = []) (hqv : 0 < (pg s.qs v).length) :
    Calls Tryd.prog 21 #[.pointer (some ⟨c.R, 0, none⟩), pkv a v] w fun e w' => e = .returned (.int .i64 0) ∧ CrTo w0 M c (decide ((stX c.back c.ks c.W c.ll s a v).ph = c.ll.length)) (stX c.back c.ks c.W c.ll s a v) w w' := by
  have hal := (Below.refl w.heap.size w).alloc (Nat.le_refl _) (.cells #[.int .i64 a, .int .i64 v] 43)
  have HAL := Lib.hid hal
  have KB := Blk.new w 43 #[.int .i64 a, .int .i64 v]
  have TLW := Lib.hid (fun k hk => (h.elim fun _ h => h.elim fun _ h => h.elim fun _ h => (h.lo k hk).2 : k < w.heap.size))
  obtain ⟨va, vd, u, h⟩ := h
  obtain ⟨hha, hqc, hve, _, _, hqg⟩ := own_shape h.row
  obtain ⟨gq, rfl⟩ := hqg (by omega)
  have V0 := Lib.hid (h.bel' hal)
  have HI := Lib.hid hI
  have HG := Lib.hid hg
  have HX := Lib.hid hx
  have HA := Lib.hid ha
  have HV := Lib.hid hv
  have HVE := Lib.hid hve
  have X0 := Lib.hid X0
  have XS := Lib.hid XS
  have LLN := Lib.hid (RI.log_le hI hg)
  have hph3 : s.ph < 3 := by have := hg.shp.len3; rw [szs_len, ← hg.len] at this; omega
  obtain ⟨L, hL⟩ : ∃ L, s.left = L + 1 := ⟨s.left - 1, by have := (hI.pos hx).1; omega⟩
  have hL64 : L ≤ 63 := by have := (hI.pos hx).2; omega
  have HLF := Lib.hid hL
  obtain ⟨x, y, z, ht⟩ : ∃ x y z, (x, y, z) = tg (pg s.qs v) 0 := ⟨_, _, _, rfl⟩
  obtain ⟨q, hqq⟩ : ∃ q, q = (pg s.qs v).tail := ⟨_, rfl⟩
  obtain ⟨qs', hqs⟩ : ∃ qs', qs' = s.qs.set v q := ⟨_, rfl⟩
  have hpm := steal_perm (qs := s.qs) (a := v) (by rw [hI.w]; exact hv) hqv
  rw [← ht, ← hqq, ← hqs] at hpm
  have hst : stX c.back c.ks c.W c.ll s a v = fin1 c.W c.ll s (doT c.back c.ks s.ar (x, y, z)) (x, y, z) qs' := by
    unfold stX; rw [if_neg (by rw [hq]; simp), if_pos ⟨fun e => by rw [e, hq] at hqv; simp at hqv, hqv⟩, ← ht, ← hqq, ← hqs]
  have HQS := Lib.hid hqs
  have HPM := Lib.hid hpm
  have HQL := Lib.hid (show qs'.length = c.W by rw [hqs, List.length_set]; exact hI.w)
  obtain ⟨A', hA⟩ : ∃ A', A' = doT c.back c.ks s.ar (x, y, z) := ⟨_, rfl⟩
  have CDO := Lib.hid (fun W' vv vv2 h1 h2 => (show Calls Tryd.prog 60 #[vv, vv2, .int .i64 x, .int .i64 y, .int .i64 z, .bool c.back] W' (RetZ W' A') by
    have := rdo_any c.back c.ks zs s.ar c.ll.length s.ph s.qs.flatten qs'.flatten x y z hg.shp hzl hzb hw (by rw [← hg.len]; exact hx) hx hI.ar (hI.ok hx) hpm vv vv2 W' h1 h2
    rw [← hA] at this
    exact this))
  rw [hst, ← hA]
  have HQU := Lib.hid (show pg s.qs v = (x, y, z) :: q from by
    rw [hqq]
    rcases hp : pg s.qs v with _ | ⟨t, l⟩
    · rw [hp] at hqv; simp at hqv
    · rw [hp] at ht; rw [ht, tg_cons]; rfl)
  have HQ64 := Lib.hid (show q.length ≤ 64 from by
    have h1 := (flat_pg (qs := s.qs) (a := v) (by rw [hI.w]; exact hv)).length_eq
    rw [List.length_append, hI.lf] at h1
    have h2 := (hI.pos hx).2
    have h3 : q.length ≤ (pg s.qs v).length := by rw [hqq, List.length_tail]; omega
    omega)
  have HQ := Lib.hid hq
  have HQV := Lib.hid hqv
  clear hst hpm hqs hA ht hqq hzl hzb hw
  have c8 : (w.alloc (.cells #[.int .i64 a, .int .i64 v] 43)).cell? ⟨c.R, 8, none⟩ = some (.bool false) := (h.blk.alloc _).cell 8
  have c4 : (w.alloc (.cells #[.int .i64 a, .int .i64 v] 43)).cell? ⟨c.R, 4, none⟩ = some (.slice (some ⟨gq, 0, none⟩) c.W hqc) := by rw [← hve]; exact (h.blk.alloc _).cell 4
  have b0 : (w.alloc (.cells #[.int .i64 a, .int .i64 v] 43)).cell? ⟨w.heap.size, 0, none⟩ = some (.int .i64 a) := KB.cell 0
  have b1 : (w.alloc (.cells #[.int .i64 a, .int .i64 v] 43)).cell? ⟨w.heap.size, 1, none⟩ = some (.int .i64 v) := KB.cell 1
  have KB := Lib.hid KB
  have HSW := Lib.hid h.bel.size
  obtain ⟨R, hR⟩ : ∃ R, R = c.R := ⟨_, rfl⟩
  have HR := Lib.hid hR
  obtain ⟨W, hWe⟩ : ∃ W, W = c.W := ⟨_, rfl⟩
  have HWE := Lib.hid hWe
  obtain ⟨back, hbk⟩ : ∃ b, b = c.back := ⟨_, rfl⟩
  have HBK := Lib.hid hbk
  rw [← hR] at c8 c4 ⊢
  rw [← hWe] at c4 ha hv hW1 hW8
  clear h hal hve hL hR hWe hbk hI hg hx hq hqv
  have e1 : IntKind.i64.wrap ((W : Int) - 1) = (W : Int) - 1 := IntWalk.i64_in _ (by omega)
  unfold pkv
  go_enter Tryd.func21, Tryd.ntmps21
  go_wp2_with fail
  refine wp_region_N [1, 5, 12, 16] [8, 19] (fun w' => w'.cell? ⟨R, 4, none⟩ = some (.slice (some ⟨gq, 0, none⟩) W hqc) ∧ w'.cell? ⟨w.heap.size, 0, none⟩ = some (.int .i64 a) ∧ w'.cell? ⟨w.heap.size, 1, none⟩ = some (.int .i64 v)) (by kernel_rfl) ?_
  have hS : (w.alloc (.cells #[.int .i64 a, .int .i64 v] 43)).drew.cell? ⟨R, 4, none⟩ = some (.slice (some ⟨gq, 0, none⟩) W hqc) ∧ (w.alloc (.cells #[.int .i64 a, .int .i64 v] 43)).drew.cell? ⟨w.heap.size, 0, none⟩ = some (.int .i64 a) ∧ (w.alloc (.cells #[.int .i64 a, .int .i64 v] 43)).drew.cell? ⟨w.heap.size, 1, none⟩ = some (.int .i64 v) := ⟨c4, b0, b1⟩
  have VD := Lib.hid (V0.out.bel' (show Below (w.alloc (.cells #[.int .i64 a, .int .i64 v] 43)).heap.size (w.alloc (.cells #[.int .i64 a, .int .i64 v] 43)) (w.alloc (.cells #[.int .i64 a, .int .i64 v] 43)).drew from below_drewN (Below.refl _ _) 1))
  have KD := Lib.hid (KB.out.drew)
  have O1 := Lib.hid (show Only M w (w.alloc (.cells #[.int .i64 a, .int .i64 v] 43)).drew from ((Only.refl M w).alloc _).drew)
  clear c4 b0 b1 c8 V0 KB
  generalize (w.alloc (.cells #[.int .i64 a, .int .i64 v] 43)).drew = wd at *
  refine wpN_pure (i := 0) (v := ?_) rfl (by kernel_rfl) (by kernel_rfl) (by kernel_rfl) (by kernel_rfl) (fun _ _ _ h => h) (Or.inl ⟨by rfl, ?_⟩) (fun _ => hS) ?_
  rotate_left
  · ((intro w' hw'; (try dsimp only at hw'); go_simp) <;> with_reducible rfl)
  simp only [Act.put, List.setIfInBounds_toArray, List.set_cons_zero, List.set_cons_succ]
  refine wpN_read (i := 1) (v := ?_) rfl (by kernel_rfl) (by kernel_rfl) (by kernel_rfl) (by kernel_rfl) (by kernel_rfl) (fun _ _ _ h => h) (Or.inl ⟨by rfl, ?_⟩) hS ?_
  rotate_left
  · ((intro w' hw'; (try dsimp only at hw'); go_simp) <;> with_reducible rfl)
  simp only [Act.put, List.setIfInBounds_toArray, List.set_cons_zero, List.set_cons_succ]
  refine wpN_pure (i := 2) (v := ?_) rfl (by kernel_rfl) (by kernel_rfl) (by kernel_rfl) (by kernel_rfl) (fun _ _ _ h => h) (Or.inl ⟨by rfl, ?_⟩) (fun _ => hS) ?_
  rotate_left
  · ((intro w' hw'; (try dsimp only at hw'); go_simp) <;> with_reducible rfl)
  simp only [Act.put, List.setIfInBounds_toArray, List.set_cons_zero, List.set_cons_succ]
  refine wpN_pure (i := 3) (v := ?_) rfl (by kernel_rfl) (by kernel_rfl) (by kernel_rfl) (by kernel_rfl) (fun _ _ _ h => h) (Or.inl ⟨by rfl, ?_⟩) (fun _ => hS) ?_
  rotate_left
  · ((intro w' hw'; (try dsimp only at hw'); go_simp) <;> with_reducible rfl)
  simp only [Act.put, List.setIfInBounds_toArray, List.set_cons_zero, List.set_cons_succ]
  refine wpN_pure (i := 4) (v := ?_) rfl (by kernel_rfl) (by kernel_rfl) (by kernel_rfl) (by kernel_rfl) (fun _ _ _ h => h) (Or.inl ⟨by rfl, ?_⟩) (fun _ => hS) ?_
  rotate_left
  · ((intro w' hw'; (try dsimp only at hw'); go_simp) <;> with_reducible rfl)
  simp only [Act.put, List.setIfInBounds_toArray, List.set_cons_zero, List.set_cons_succ]
  refine wpN_read (i := 5) (v := ?_) rfl (by kernel_rfl) (by kernel_rfl) (by kernel_rfl) (by kernel_rfl) (by kernel_rfl) (fun _ _ _ h => h) (Or.inl ⟨by rfl, ?_⟩) hS ?_
  rotate_left
  · ((intro w' hw'; (try dsimp only at hw'); go_simp) <;> with_reducible rfl)
  simp only [Act.put, List.setIfInBounds_toArray, List.set_cons_zero, List.set_cons_succ]
  refine wpN_pure (i := 6) (v := ?_) rfl (by kernel_rfl) (by kernel_rfl) (by kernel_rfl) (by kernel_rfl) (fun _ _ _ h => h) (Or.inl ⟨by rfl, ?_⟩) (fun _ => hS) ?_
  rotate_left
  · ((intro w' hw'; (try dsimp only at hw'); go_simp) <;> with_reducible rfl)
  simp only [Act.put, List.setIfInBounds_toArray, List.set_cons_zero, List.set_cons_succ]
  refine wpN_pure (i := 7) (v := ?_) rfl (by kernel_rfl) (by kernel_rfl) (by kernel_rfl) (by kernel_rfl) (fun _ _ _ h => h) (Or.inl ⟨by rfl, ?_⟩) (fun _ => hS) ?_
  rotate_left
  · ((intro w' hw'; (try dsimp only at hw'); go_simp) <;> with_reducible rfl)
  simp only [Act.put, List.setIfInBounds_toArray, List.set_cons_zero, List.set_cons_succ]
  refine wpN_oneS (i := 8) rfl rfl (by kernel_rfl) (fun K hK => ?_)
  go_simp
  refine (in_yes a 0 _ _ (by omega) (by omega)).mono ?_
  rintro e w' ⟨rfl, rfl⟩
  refine ⟨hS, hK.out _ _ hS ?_⟩
  clear hK K
  refine wpN_pure (i := 9) (v := ?_) rfl (by kernel_rfl) (by kernel_rfl) (by kernel_rfl) (by kernel_rfl) (fun _ _ _ h => h) (Or.inl ⟨by rfl, ?_⟩) (fun _ => hS) ?_
  rotate_left
  · ((intro w' hw'; (try dsimp only at hw'); go_simp) <;> with_reducible rfl)
  simp only [Act.put, List.setIfInBounds_toArray, List.set_cons_zero, List.set_cons_succ]
  refine wpN_pure (i := 10) (v := ?_) rfl (by kernel_rfl) (by kernel_rfl) (by kernel_rfl) (by kernel_rfl) (fun _ _ _ h => h) (Or.inl ⟨by rfl, ?_⟩) (fun _ => hS) ?_
  rotate_left
  · ((intro w' hw'; (try dsimp only at hw'); go_simp) <;> with_reducible rfl)
  simp only [Act.put, List.setIfInBounds_toArray, List.set_cons_zero, List.set_cons_succ]
  refine wpN_pure (i := 11) (v := ?_) rfl (by kernel_rfl) (by kernel_rfl) (by kernel_rfl) (by kernel_rfl) (fun _ _ _ h => h) (Or.inl ⟨by rfl, ?_⟩) (fun _ => hS) ?_
  rotate_left
  · ((intro w' hw'; (try dsimp only at hw'); go_simp) <;> with_reducible rfl)
  simp only [Act.put, List.setIfInBounds_toArray, List.set_cons_zero, List.set_cons_succ]
  refine wpN_read (i := 12) (v := ?_) rfl (by kernel_rfl) (by kernel_rfl) (by kernel_rfl) (by kernel_rfl) (by kernel_rfl) (fun _ _ _ h => h) (Or.inl ⟨by rfl, ?_⟩) hS ?_
  rotate_left
  · ((intro w' hw'; (try dsimp only at hw'); go_simp) <;> with_reducible rfl)
  simp only [Act.put, List.setIfInBounds_toArray, List.set_cons_zero, List.set_cons_succ]
  refine wpN_pure (i := 13) (v := ?_) rfl (by kernel_rfl) (by kernel_rfl) (by kernel_rfl) (by kernel_rfl) (fun _ _ _ h => h) (Or.inl ⟨by rfl, ?_⟩) (fun _ => hS) ?_
  rotate_left
  · ((intro w' hw'; (try dsimp only at hw'); go_simp) <;> with_reducible rfl)
  simp only [Act.put, List.setIfInBounds_toArray, List.set_cons_zero, List.set_cons_succ]
  refine wpN_pure (i := 14) (v := ?_) rfl (by kernel_rfl) (by kernel_rfl) (by kernel_rfl) (by kernel_rfl) (fun _ _ _ h => h) (Or.inl ⟨by rfl, ?_⟩) (fun _ => hS) ?_
  rotate_left
  · ((intro w' hw'; (try dsimp only at hw'); go_simp) <;> with_reducible rfl)
  simp only [Act.put, List.setIfInBounds_toArray, List.set_cons_zero, List.set_cons_succ]
  refine wpN_pure (i := 15) (v := ?_) rfl (by kernel_rfl) (by kernel_rfl) (by kernel_rfl) (by kernel_rfl) (fun _ _ _ h => h) (Or.inl ⟨by rfl, ?_⟩) (fun _ => hS) ?_
  rotate_left
  · ((intro w' hw'; (try dsimp only at hw'); go_simp) <;> with_reducible rfl)
  simp only [Act.put, List.setIfInBounds_toArray, List.set_cons_zero, List.set_cons_succ]
  refine wpN_read (i := 16) (v := ?_) rfl (by kernel_rfl) (by kernel_rfl) (by kernel_rfl) (by kernel_rfl) (by kernel_rfl) (fun _ _ _ h => h) (Or.inl ⟨by rfl, ?_⟩) hS ?_
  rotate_left
  · ((intro w' hw'; (try dsimp only at hw'); go_simp) <;> with_reducible rfl)
  simp only [Act.put, List.setIfInBounds_toArray, List.set_cons_zero, List.set_cons_succ]
  refine wpN_pure (i := 17) (v := ?_) rfl (by kernel_rfl) (by kernel_rfl) (by kernel_rfl) (by kernel_rfl) (fun _ _ _ h => h) (Or.inl ⟨by rfl, ?_⟩) (fun _ => hS) ?_
  rotate_left
  · ((intro w' hw'; (try dsimp only at hw'); go_simp) <;> with_reducible rfl)
  simp only [Act.put, List.setIfInBounds_toArray, List.set_cons_zero, List.set_cons_succ]
  refine wpN_pure (i := 18) (v := ?_) rfl (by kernel_rfl) (by kernel_rfl) (by kernel_rfl) (by kernel_rfl) (fun _ _ _ h => h) (Or.inl ⟨by rfl, ?_⟩) (fun _ => hS) ?_
  rotate_left
  · ((intro w' hw'; (try dsimp only at hw'); go_simp) <;> with_reducible rfl)
  simp only [Act.put, List.setIfInBounds_toArray, List.set_cons_zero, List.set_cons_succ]
  refine wpN_oneG (i := 19) rfl (by rfl) (by kernel_rfl) (by kernel_rfl) (fun K hK => ?_)
  go_simp
  refine (in_yes v 0 _ _ (by omega) (by omega)).mono ?_
  rintro e w' ⟨rfl, rfl⟩
  refine hK.out _ _ ?_
  clear hK K
  refine wpN_pure (i := 20) (v := ?_) rfl (by kernel_rfl) (by kernel_rfl) (by kernel_rfl) (by kernel_rfl) (fun _ _ _ h => h) (Or.inl ⟨by rfl, ?_⟩) (fun h => Bool.noConfusion (h.symm.trans (show _ = false by kernel_rfl))) ?_
  rotate_left
  · ((intro w' hw'; (try dsimp only at hw'); go_simp) <;> with_reducible rfl)
  simp only [Act.put, List.setIfInBounds_toArray, List.set_cons_zero, List.set_cons_succ]
  refine wpN_pure (i := 21) (v := ?_) rfl (by kernel_rfl) (by kernel_rfl) (by kernel_rfl) (by kernel_rfl) (fun _ _ _ h => h) (Or.inl ⟨by rfl, ?_⟩) (fun h => Bool.noConfusion (h.symm.trans (show _ = false by kernel_rfl))) ?_
  rotate_left
  · ((intro w' hw'; (try dsimp only at hw'); go_simp) <;> with_reducible rfl)
  simp only [Act.put, List.setIfInBounds_toArray, List.set_cons_zero, List.set_cons_succ]
  refine wpN_done (by kernel_rfl) ?_
  have HS := Lib.hid hS
  clear hS
  go_wp2_with fail
  obtain ⟨bt, hbt⟩ : ∃ b, b = wd.heap.size := ⟨_, rfl⟩
  have KT := Lib.hid (show Blk (wd.alloc (.cells #[.int .i64 0, .int .i64 0, .int .i64 0] 56)).drew bt 56 #[.int .i64 0, .int .i64 0, .int .i64 0] from by rw [hbt]; exact (Blk.new wd 56 #[.int .i64 0, .int .i64 0, .int .i64 0]).drew)
  have HBT := Lib.hid hbt
  have hwd : w.heap.size ≤ wd.heap.size := O1.out.size
  have HWD := Lib.hid (show w.heap.size ≤ bt by omega)
  have hbl2 : Below wd.heap.size wd (wd.alloc (.cells #[.int .i64 0, .int .i64 0, .int .i64 0] 56)).drew := below_drewN ((Below.refl wd.heap.size wd).alloc (Nat.le_refl _) (.cells #[.int .i64 0, .int .i64 0, .int .i64 0] 56)) 1
  have V2 := Lib.hid (VD.out.bel' hbl2)
  have O2 := Lib.hid (show Only M w (wd.alloc (.cells #[.int .i64 0, .int .i64 0, .int .i64 0] 56)).drew from (O1.out.alloc _).drew)
  have KP2 := Lib.hid (KD.out.below hbl2 KD.out.lt)
  clear VD O1 KD hbl2 hbt hwd HS
  obtain ⟨hau, hau2⟩ := V2.out.hand a HA.out
  obtain ⟨ua, uc, hue, huc, hum, hug⟩ := own_shape hau
  obtain ⟨hav, hav2⟩ := V2.out.hand v HV.out
  obtain ⟨va', vc, hve2, hvc, hvm, hvg⟩ := own_shape hav
  obtain ⟨un, hun⟩ : ∃ n, n = (pg s.qs a).length := ⟨_, rfl⟩
  obtain ⟨vn, hvn⟩ : ∃ n, n = (pg s.qs v).length := ⟨_, rfl⟩
  rw [← hun] at hue huc hug
  rw [← hvn] at hve2 hvc hvg
  have HUN := Lib.hid hun
  have HVN := Lib.hid hvn
  have HUE := Lib.hid hue
  have HUC := Lib.hid huc
  have HVC := Lib.hid hvc
  have HVE2 := Lib.hid hve2
  have hrow := V2.out.row
  rw [HVE.out] at hrow
  have ca := World.ownsRow.cellAt hrow a (by rw [Nat.mul_one]; exact HA.out)
  have cv := World.ownsRow.cellAt hrow v (by rw [Nat.mul_one]; exact HV.out)
  rw [get_u _ HA.out, hue] at ca
  rw [get_u _ HV.out, hve2] at cv
  have b0 := KP2.out.cell 0
  have b1 := KP2.out.cell 1
  have c4 : (wd.alloc (.cells #[.int .i64 0, .int .i64 0, .int .i64 0] 56)).drew.cell? ⟨R, 4, none⟩ = some (.slice (some ⟨gq, 0, none⟩) W hqc) := by rw [HR.out, HWE.out, ← HVE.out]; exact V2.out.blk.cell 4
  obtain rfl : un = 0 := by rw [HUN.out, HQ.out]; rfl
  obtain ⟨n, hn⟩ : ∃ n, vn = n + 1 := ⟨vn - 1, by have := HQV.out; omega⟩
  have HN := Lib.hid hn
  obtain ⟨gv, rfl⟩ := hvg (by omega)
  have HOU := Lib.hid (show Ot 0 _ (.slice (some ⟨gv, 0, none⟩) vn vc) ((x, y, z) :: q) from by rw [← hve2, ← HQU.out]; exact hav)
  obtain ⟨t0, t1, t2⟩ := HOU.out.cell (i := 0) (by simp)
  rw [tg_cons] at t0 t1 t2
  simp only at t0 t1 t2
  rw [Nat.zero_mul] at t0 t1 t2
  have HQN2 := Lib.hid (show q.length = n from by have h1 := HVN.out; rw [HQU.out, List.length_cons, hn] at h1; omega)
  have g3 : decide ((0 : Int) < (vn : Int)) = true := decide_eq_true (by omega)
  have g4 : decide (0 < vn) = true := decide_eq_true (by omega)
  have hv1 : 0 < vn := by omega
  have hv2 : 1 ≤ vn := by omega
  have hv3 : (1 : Int) ≤ (vn : Int) := by omega
  obtain ⟨off, hoff, hofc⟩ : ∃ off : Nat, (if vc = 1 then some (⟨gv, 0, none⟩ : Addr) else some ⟨gv, 3, none⟩) = some ⟨gv, off, none⟩ ∧ (n = 0 ∨ off = 3) := by
    by_cases h1 : vc = 1
    · exact ⟨0, by rw [if_pos h1], .inl (by have := HVC.out; omega)⟩
    · exact ⟨3, by rw [if_neg h1], .inr rfl⟩
  have HOFC := Lib.hid hofc
  clear hofc
  have e3 : vn - 1 = n := by omega
  clear hn
  clear hrow hau hav hue hve2 hun hvn hau2 hav2
  rw [← HBT.out]
  refine wp_region_N [3, 5, 7, 11, 13, 15] [] (fun w' => w'.cell? ⟨R, 4, none⟩ = some (.slice (some ⟨gq, 0, none⟩) W hqc) ∧ w'.cell? ⟨w.heap.size, 0, none⟩ = some (.int .i64 a) ∧ w'.cell? ⟨w.heap.size, 1, none⟩ = some (.int .i64 v) ∧ w'.cell? ⟨gq, a, none⟩ = some (.slice ua 0 uc) ∧ w'.cell? ⟨gq, v, none⟩ = some (.slice (some ⟨gv, 0, none⟩) vn vc)) (by kernel_rfl) ?_
  have hS : (wd.alloc (.cells #[.int .i64 0, .int .i64 0, .int .i64 0] 56)).drew.cell? ⟨R, 4, none⟩ = some (.slice (some ⟨gq, 0, none⟩) W hqc) ∧ (wd.alloc (.cells #[.int .i64 0, .int .i64 0, .int .i64 0] 56)).drew.cell? ⟨w.heap.size, 0, none⟩ = some (.int .i64 a) ∧ (wd.alloc (.cells #[.int .i64 0, .int .i64 0, .int .i64 0] 56)).drew.cell? ⟨w.heap.size, 1, none⟩ = some (.int .i64 v) ∧ (wd.alloc (.cells #[.int .i64 0, .int .i64 0, .int .i64 0] 56)).drew.cell? ⟨gq, a, none⟩ = some (.slice ua 0 uc) ∧ (wd.alloc (.cells #[.int .i64 0, .int .i64 0, .int .i64 0] 56)).drew.cell? ⟨gq, v, none⟩ = some (.slice (some ⟨gv, 0, none⟩) vn vc) := ⟨c4, b0, b1, ca, cv⟩
  clear c4 b0 b1 ca cv
  generalize (wd.alloc (.cells #[.int .i64 0, .int .i64 0, .int .i64 0] 56)).drew = w2 at *
  refine wpN_pure (i := 0) (v := ?_) rfl (by kernel_rfl) (by kernel_rfl) (by kernel_rfl) (by kernel_rfl) (fun _ _ _ h => h) (Or.inl ⟨by rfl, ?_⟩) (fun _ => hS) ?_
  rotate_left
  · ((intro w' hw'; (try dsimp only at hw'); go_simp) <;> with_reducible rfl)
  simp only [Act.put, List.setIfInBounds_toArray, List.set_cons_zero, List.set_cons_succ]
  refine wpN_pure (i := 1) (v := ?_) rfl (by kernel_rfl) (by kernel_rfl) (by kernel_rfl) (by kernel_rfl) (fun _ _ _ h => h) (Or.inl ⟨by rfl, ?_⟩) (fun _ => hS) ?_
  rotate_left
  · ((intro w' hw'; (try dsimp only at hw'); go_simp) <;> with_reducible rfl)
  simp only [Act.put, List.setIfInBounds_toArray, List.set_cons_zero, List.set_cons_succ]
  refine wpN_pure (i := 2) (v := ?_) rfl (by kernel_rfl) (by kernel_rfl) (by kernel_rfl) (by kernel_rfl) (fun _ _ _ h => h) (Or.inl ⟨by rfl, ?_⟩) (fun _ => hS) ?_
  rotate_left
  · ((intro w' hw'; (try dsimp only at hw'); go_simp) <;> with_reducible rfl)
  simp only [Act.put, List.setIfInBounds_toArray, List.set_cons_zero, List.set_cons_succ]
  refine wpN_read (i := 3) (v := ?_) rfl (by kernel_rfl) (by kernel_rfl) (by kernel_rfl) (by kernel_rfl) (by kernel_rfl) (fun _ _ _ h => h) (Or.inl ⟨by rfl, ?_⟩) hS ?_
  rotate_left
  · ((intro w' hw'; (try dsimp only at hw'); go_simp) <;> with_reducible rfl)
  simp only [Act.put, List.setIfInBounds_toArray, List.set_cons_zero, List.set_cons_succ]
  refine wpN_pure (i := 4) (v := ?_) rfl (by kernel_rfl) (by kernel_rfl) (by kernel_rfl) (by kernel_rfl) (fun _ _ _ h => h) (Or.inl ⟨by rfl, ?_⟩) (fun _ => hS) ?_
  rotate_left
  · ((intro w' hw'; (try dsimp only at hw'); go_simp) <;> with_reducible rfl)
  simp only [Act.put, List.setIfInBounds_toArray, List.set_cons_zero, List.set_cons_succ]
  refine wpN_read (i := 5) (v := ?_) rfl (by kernel_rfl) (by kernel_rfl) (by kernel_rfl) (by kernel_rfl) (by kernel_rfl) (fun _ _ _ h => h) (Or.inl ⟨by rfl, ?_⟩) hS ?_
  rotate_left
  · ((intro w' hw'; (try dsimp only at hw'); go_simp) <;> with_reducible rfl)
  simp only [Act.put, List.setIfInBounds_toArray, List.set_cons_zero, List.set_cons_succ]
  refine wpN_pure (i := 6) (v := ?_) rfl (by kernel_rfl) (by kernel_rfl) (by kernel_rfl) (by kernel_rfl) (fun _ _ _ h => h) (Or.inl ⟨by rfl, ?_⟩) (fun _ => hS) ?_
  rotate_left
  · ((intro w' hw'; (try dsimp only at hw'); go_simp) <;> with_reducible rfl)
  simp only [Act.put, List.setIfInBounds_toArray, List.set_cons_zero, List.set_cons_succ]
  refine wpN_read (i := 7) (v := ?_) rfl (by kernel_rfl) (by kernel_rfl) (by kernel_rfl) (by kernel_rfl) (by kernel_rfl) (fun _ _ _ h => h) (Or.inl ⟨by rfl, ?_⟩) hS ?_
  rotate_left
  · ((intro w' hw'; (try dsimp only at hw'); go_simp) <;> with_reducible rfl)
  simp only [Act.put, List.setIfInBounds_toArray, List.set_cons_zero, List.set_cons_succ]
  refine wpN_pure (i := 8) (v := ?_) rfl (by kernel_rfl) (by kernel_rfl) (by kernel_rfl) (by kernel_rfl) (fun _ _ _ h => h) (Or.inl ⟨by rfl, ?_⟩) (fun _ => hS) ?_
  rotate_left
  · ((intro w' hw'; (try dsimp only at hw'); go_simp) <;> with_reducible rfl)
  simp only [Act.put, List.setIfInBounds_toArray, List.set_cons_zero, List.set_cons_succ]
  refine wpN_pure (i := 9) (v := ?_) rfl (by kernel_rfl) (by kernel_rfl) (by kernel_rfl) (by kernel_rfl) (fun _ _ _ h => h) (Or.inl ⟨by rfl, ?_⟩) (fun _ => hS) ?_
  rotate_left
  · ((intro w' hw'; (try dsimp only at hw'); go_simp) <;> with_reducible rfl)
  simp only [Act.put, List.setIfInBounds_toArray, List.set_cons_zero, List.set_cons_succ]
  refine wpN_pure (i := 10) (v := ?_) rfl (by kernel_rfl) (by kernel_rfl) (by kernel_rfl) (by kernel_rfl) (fun _ _ _ h => h) (Or.inl ⟨by rfl, ?_⟩) (fun _ => hS) ?_
  rotate_left
  · ((intro w' hw'; (try dsimp only at hw'); go_simp) <;> with_reducible rfl)
  simp only [Act.put, List.setIfInBounds_toArray, List.set_cons_zero, List.set_cons_succ]
  refine wpN_read (i := 11) (v := ?_) rfl (by kernel_rfl) (by kernel_rfl) (by kernel_rfl) (by kernel_rfl) (by kernel_rfl) (fun _ _ _ h => h) (Or.inl ⟨by rfl, ?_⟩) hS ?_
  rotate_left
  · ((intro w' hw'; (try dsimp only at hw'); go_simp) <;> with_reducible rfl)
  simp only [Act.put, List.setIfInBounds_toArray, List.set_cons_zero, List.set_cons_succ]
  refine wpN_pure (i := 12) (v := ?_) rfl (by kernel_rfl) (by kernel_rfl) (by kernel_rfl) (by kernel_rfl) (fun _ _ _ h => h) (Or.inl ⟨by rfl, ?_⟩) (fun _ => hS) ?_
  rotate_left
  · ((intro w' hw'; (try dsimp only at hw'); go_simp) <;> with_reducible rfl)
  simp only [Act.put, List.setIfInBounds_toArray, List.set_cons_zero, List.set_cons_succ]
  refine wpN_read (i := 13) (v := ?_) rfl (by kernel_rfl) (by kernel_rfl) (by kernel_rfl) (by kernel_rfl) (by kernel_rfl) (fun _ _ _ h => h) (Or.inl ⟨by rfl, ?_⟩) hS ?_
  rotate_left
  · ((intro w' hw'; (try dsimp only at hw'); go_simp) <;> with_reducible rfl)
  simp only [Act.put, List.setIfInBounds_toArray, List.set_cons_zero, List.set_cons_succ]
  refine wpN_pure (i := 14) (v := ?_) rfl (by kernel_rfl) (by kernel_rfl) (by kernel_rfl) (by kernel_rfl) (fun _ _ _ h => h) (Or.inl ⟨by rfl, ?_⟩) (fun _ => hS) ?_
  rotate_left
  · ((intro w' hw'; (try dsimp only at hw'); go_simp) <;> with_reducible rfl)
  simp only [Act.put, List.setIfInBounds_toArray, List.set_cons_zero, List.set_cons_succ]
  refine wpN_read (i := 15) (v := ?_) rfl (by kernel_rfl) (by kernel_rfl) (by kernel_rfl) (by kernel_rfl) (by kernel_rfl) (fun _ _ _ h => h) (Or.inl ⟨by rfl, ?_⟩) hS ?_
  rotate_left
  · ((intro w' hw'; (try dsimp only at hw'); go_simp) <;> with_reducible rfl)
  simp only [Act.put, List.setIfInBounds_toArray, List.set_cons_zero, List.set_cons_succ]
  refine wpN_pure (i := 16) (v := ?_) rfl (by kernel_rfl) (by kernel_rfl) (by kernel_rfl) (by kernel_rfl) (fun _ _ _ h => h) (Or.inl ⟨by rfl, ?_⟩) (fun _ => hS) ?_
  rotate_left
  · ((intro w' hw'; (try dsimp only at hw'); go_simp) <;> with_reducible rfl)
  simp only [Act.put, List.setIfInBounds_toArray, List.set_cons_zero, List.set_cons_succ]
  refine wpN_pure (i := 17) (v := ?_) rfl (by kernel_rfl) (by kernel_rfl) (by kernel_rfl) (by kernel_rfl) (fun _ _ _ h => h) (Or.inl ⟨by rfl, ?_⟩) (fun _ => hS) ?_
  rotate_left
  · ((intro w' hw'; (try dsimp only at hw'); go_simp) <;> with_reducible rfl)
  simp only [Act.put, List.setIfInBounds_toArray, List.set_cons_zero, List.set_cons_succ]
  refine wpN_done (by kernel_rfl) ?_
  obtain ⟨c4, b0, b1, ca, cv⟩ := hS

  go_wp2_with (refine wl_storeBlk 56 3 (by kernel_rfl) _ rfl (.tmp 5) (.tmp 76) rfl bt 0 56 _ #[.int .i64 x, .int .i64 y, .int .i64 z] rfl rfl KT.out rfl (by simp) (tk_one x y z) ?_)
  intro w3 hB3 hO3 hs3
  have KT3 := Lib.hid (show Blk w3 bt 56 #[.int .i64 x, .int .i64 y, .int .i64 z] from hB3)
  have nTM : ∀ k, k = bt → w0.heap.size ≤ k ∧ ¬ M k := fun k e => by
    have h1 := HWD.out
    have h2 := HSW.out
    refine ⟨by omega, fun hm => ?_⟩
    have := TLW.out k hm
    omega
  have V3 := Lib.hid (V2.out.only hO3 nTM)
  have O3 := Lib.hid (O2.out.trans2 hO3 (fun k hk e => by have := HWD.out; have e : k = bt := e; omega))
  have KP3 := Lib.hid (KP2.out.only hO3 (fun e => KP2.out.ne_ KT.out (by decide) e))
  have HOU3 := Lib.hid (HOU.out.only hO3 (fun k hk e => (nTM k e).2 ((V2.out.hand v HV.out).2 k (by rw [HVE2.out]; exact hk))))
  clear hB3 hO3 hs3 b0 b1 c4 ca cv t0 t1 t2 V2 O2 KP2 HOU nTM KT
  have b0 := KP3.out.cell 0
  have b1 := KP3.out.cell 1
  have c4 : w3.cell? ⟨R, 4, none⟩ = some (.slice (some ⟨gq, 0, none⟩) W hqc) := by rw [HR.out, HWE.out, ← HVE.out]; exact V3.out.blk.cell 4
  have ROW3 := Lib.hid (show w3.ownsRow 0 48 1 (.slice (some ⟨gq, 0, none⟩) W hqc) W ((List.range W).map u) from by rw [HWE.out, ← HVE.out]; exact V3.out.row)
  go_wp2_with fail
  refine wp_region_N [3, 5] [8, 10] (fun w' => w'.cell? ⟨R, 4, none⟩ = some (.slice (some ⟨gq, 0, none⟩) W hqc) ∧ w'.cell? ⟨w.heap.size, 1, none⟩ = some (.int .i64 v)) (by kernel_rfl) ?_
  have hS : w3.drew.cell? ⟨R, 4, none⟩ = some (.slice (some ⟨gq, 0, none⟩) W hqc) ∧ w3.drew.cell? ⟨w.heap.size, 1, none⟩ = some (.int .i64 v) := ⟨c4, b1⟩
  refine wpN_pure (i := 0) (v := ?_) rfl (by kernel_rfl) (by kernel_rfl) (by kernel_rfl) (by kernel_rfl) (fun _ _ _ h => h) (Or.inl ⟨by rfl, ?_⟩) (fun _ => hS) ?_
  rotate_left
  · ((intro w' hw'; (try dsimp only at hw'); go_simp) <;> with_reducible rfl)
  simp only [Act.put, List.setIfInBounds_toArray, List.set_cons_zero, List.set_cons_succ]
  refine wpN_pure (i := 1) (v := ?_) rfl (by kernel_rfl) (by kernel_rfl) (by kernel_rfl) (by kernel_rfl) (fun _ _ _ h => h) (Or.inl ⟨by rfl, ?_⟩) (fun _ => hS) ?_
  rotate_left
  · ((intro w' hw'; (try dsimp only at hw'); go_simp) <;> with_reducible rfl)
  simp only [Act.put, List.setIfInBounds_toArray, List.set_cons_zero, List.set_cons_succ]
  refine wpN_pure (i := 2) (v := ?_) rfl (by kernel_rfl) (by kernel_rfl) (by kernel_rfl) (by kernel_rfl) (fun _ _ _ h => h) (Or.inl ⟨by rfl, ?_⟩) (fun _ => hS) ?_
  rotate_left
  · ((intro w' hw'; (try dsimp only at hw'); go_simp) <;> with_reducible rfl)
  simp only [Act.put, List.setIfInBounds_toArray, List.set_cons_zero, List.set_cons_succ]
  refine wpN_read (i := 3) (v := ?_) rfl (by kernel_rfl) (by kernel_rfl) (by kernel_rfl) (by kernel_rfl) (by kernel_rfl) (fun _ _ _ h => h) (Or.inl ⟨by rfl, ?_⟩) hS ?_
  rotate_left
  · ((intro w' hw'; (try dsimp only at hw'); go_simp) <;> with_reducible rfl)
  simp only [Act.put, List.setIfInBounds_toArray, List.set_cons_zero, List.set_cons_succ]
  refine wpN_pure (i := 4) (v := ?_) rfl (by kernel_rfl) (by kernel_rfl) (by kernel_rfl) (by kernel_rfl) (fun _ _ _ h => h) (Or.inl ⟨by rfl, ?_⟩) (fun _ => hS) ?_
  rotate_left
  · ((intro w' hw'; (try dsimp only at hw'); go_simp) <;> with_reducible rfl)
  simp only [Act.put, List.setIfInBounds_toArray, List.set_cons_zero, List.set_cons_succ]
  refine wpN_read (i := 5) (v := ?_) rfl (by kernel_rfl) (by kernel_rfl) (by kernel_rfl) (by kernel_rfl) (by kernel_rfl) (fun _ _ _ h => h) (Or.inl ⟨by rfl, ?_⟩) hS ?_
  rotate_left
  · ((intro w' hw'; (try dsimp only at hw'); go_simp) <;> with_reducible rfl)
  simp only [Act.put, List.setIfInBounds_toArray, List.set_cons_zero, List.set_cons_succ]
  refine wpN_pure (i := 6) (v := ?_) rfl (by kernel_rfl) (by kernel_rfl) (by kernel_rfl) (by kernel_rfl) (fun _ _ _ h => h) (Or.inl ⟨by rfl, ?_⟩) (fun _ => hS) ?_
  rotate_left
  · ((intro w' hw'; (try dsimp only at hw'); go_simp) <;> with_reducible rfl)
  simp only [Act.put, List.setIfInBounds_toArray, List.set_cons_zero, List.set_cons_succ]
  refine wpN_pure (i := 7) (v := ?_) rfl (by kernel_rfl) (by kernel_rfl) (by kernel_rfl) (by kernel_rfl) (fun _ _ _ h => h) (Or.inl ⟨by rfl, ?_⟩) (fun _ => hS) ?_
  rotate_left
  · ((intro w' hw'; (try dsimp only at hw'); go_simp) <;> with_reducible rfl)
  simp only [Act.put, List.setIfInBounds_toArray, List.set_cons_zero, List.set_cons_succ]
  refine wpN_oneS (i := 8) rfl rfl (by kernel_rfl) (fun K hK => ?_)
  have HOD := Lib.hid (HOU3.out.only (S := fun _ => False) ((Only.refl _ _).drew) (fun _ _ e => e))
  refine st_appTl w3.drew (.const (.slice none 0 0)) (.tmp 84) rfl gv n vn vc (vc - 1) off (x, y, z) q rfl rfl HOFC.out HQN2.out HOD.out (by have := HQ64.out; have := HQN2.out; omega) ?_
  intro v5 w35 hv5 hg5
  obtain ⟨v5a, v5c, rfl, _⟩ := own_shape hv5
  have hO5 : Only (fun _ => False) w3.drew w35 := Only.of_grown hg5 (fun k e => by cases e)
  have hS5 : w35.cell? ⟨R, 4, none⟩ = some (.slice (some ⟨gq, 0, none⟩) W hqc) ∧ w35.cell? ⟨w.heap.size, 1, none⟩ = some (.int .i64 v) := ⟨hO5.cell' hS.1 id, hO5.cell' hS.2 id⟩
  refine ⟨hS5, hK.out _ _ hS5 ?_⟩
  clear hK K hS
  have hS := hS5
  have O35 := Lib.hid (((Only.refl (fun _ => False) w3).drew).trans hO5)
  have V5 := Lib.hid hv5
  have ROW5 := Lib.hid (own_only ROW3.out O35.out (fun _ _ e => e))
  clear hS5 hO5 hg5 hv5
  simp only [Act.put, List.setIfInBounds_toArray, List.set_cons_zero, List.set_cons_succ]
  refine wpN_pure (i := 9) (v := ?_) rfl (by kernel_rfl) (by kernel_rfl) (by kernel_rfl) (by kernel_rfl) (fun _ _ _ h => h) (Or.inl ⟨by rfl, ?_⟩) (fun _ => hS) ?_
  rotate_left
  · ((intro w' hw'; (try dsimp only at hw'); go_simp) <;> with_reducible rfl)
  simp only [Act.put, List.setIfInBounds_toArray, List.set_cons_zero, List.set_cons_succ]
  refine wpN_one (i := 10) rfl rfl (by kernel_rfl) (by kernel_rfl) (fun K hK => ?_)
  refine st_storeRow 48 48 (fun _ => rfl) w35 (.tmp 86) (.tmp 85) rfl 0 gq v W hqc _ v5a _ v5c rfl rfl ROW5.out (by rw [HWE.out]; exact HV.out) ?_
  intro w4 hrow4 ho4 hs4
  refine hK.out _ _ (wpN_done (by kernel_rfl) ?_)
  clear hK K hS
  have O34 : Only (fun k => k = gq) w3 w4 := (O35.out.mono fun _ _ e => e.elim).trans ho4
  have hqM := V3.out.rowM gq (by rw [HVE.out]; rfl)
  have OU4 : Ot 0 w4 (.slice v5a q.length v5c) q := by
    refine (Ot.mono V5.out (Nat.zero_le _)).only ho4 (fun k hk e => ?_)
    rcases own_ne V5.out ROW5.out (by decide) with hh | hh
    · rw [hk] at hh; cases hh
    · exact hh (by have e : k = gq := e; rw [hk, e]; rfl)
  have V4' := V3.out.hand_set (a := v) (v := .slice v5a q.length v5c) (q := q) HV.out HI.out.w HVE.out O34 (fun k e => .inr (.inl e)) (by rw [HVE.out, ← HWE.out]; exact hrow4) OU4 (fun g hg => .inr (Ot.lt V5.out g hg).1)
  rw [← HQS.out] at V4'
  have O4 := Lib.hid (O3.out.trans2 O34 (fun k _ e => by have e : k = gq := e; rw [e]; exact hqM))
  have KT4 := Lib.hid (KT3.out.only O34 (fun e => by have := TLW.out gq hqM; have := HWD.out; have e : bt = gq := e; omega))
  have h03 := O3.out.size
  obtain ⟨M4, u4, V4, HM4⟩ : ∃ (M' : Nat → Prop) (u' : Nat → Value), Hid (CrV w0 w4 M' c va vd u' false ⟨s.ar, qs', s.ph, s.left, s.log⟩) ∧ Hid (∀ k, M' k → M k ∨ w.heap.size ≤ k) := ⟨_, _, Lib.hid V4', Lib.hid (fun k hk => by
    rcases hk with hk | hk
    · exact .inl hk
    · right; omega)⟩
  clear V4' V3 O3 OU4 hqM O34 hrow4 ho4 hs4 c4 b0 b1 ROW3 HOU3 KP3 KT3 g3 g4 e1 e3 hoff HOD O35 V5 ROW5

  -- a task is known: (x, y, z), its box bt; the world w4
  obtain ⟨sa, sc, hvsh, _⟩ := XS.out.shape
  obtain ⟨ua1, uc1, rfl, _⟩ := own_shape V4.out.ar
  obtain ⟨la, lc, rfl, _⟩ := own_shape V4.out.did
  obtain ⟨ls, hls⟩ : ∃ n, n = (zi (szs c.ks)).length := ⟨_, rfl⟩
  rw [← hls] at hvsh
  clear hls
  have XS4 : Rd .i64 w4 (.slice sa ls sc) (zi (szs c.ks)) := by
    rw [← hvsh]
    exact XS.out.of_cells (fun b o hlt => V4.out.bel.cell (p := ⟨b, o, none⟩) hlt)
  have c0 : w4.cell? ⟨R, 0, none⟩ = some (.slice sa ls sc) := by rw [HR.out, ← hvsh]; exact V4.out.blk.cell 0
  have c1 : w4.cell? ⟨R, 1, none⟩ = some (.slice ua1 s.ar.length uc1) := by rw [HR.out]; exact V4.out.blk.cell 1
  have c3 : w4.cell? ⟨R, 3, none⟩ = some (.bool back) := by rw [HR.out, HBK.out]; exact V4.out.blk.cell 3
  have k0 : w4.cell? ⟨bt, 0, none⟩ = some (.int .i64 x) := KT4.out.cell 0
  have k1 : w4.cell? ⟨bt, 1, none⟩ = some (.int .i64 y) := KT4.out.cell 1
  have k2 : w4.cell? ⟨bt, 2, none⟩ = some (.int .i64 z) := KT4.out.cell 2
  have CD := Lib.hid (CDO.out w4.drew (.slice sa ls sc) (.slice ua1 s.ar.length uc1) XS4.drew V4.out.ar.rd.drew)
  rw [← HBK.out] at CD
  clear XS4 hvsh
  go_wp2_with fail
  refine wp_region_N [4, 8, 10, 12, 14, 18] [19, 22] (fun w' => w'.cell? ⟨R, 0, none⟩ = some (.slice sa ls sc) ∧ w'.cell? ⟨R, 1, none⟩ = some (.slice ua1 s.ar.length uc1) ∧ w'.cell? ⟨R, 3, none⟩ = some (.bool back) ∧ w'.cell? ⟨bt, 0, none⟩ = some (.int .i64 x) ∧ w'.cell? ⟨bt, 1, none⟩ = some (.int .i64 y) ∧ w'.cell? ⟨bt, 2, none⟩ = some (.int .i64 z)) (by kernel_rfl) ?_
  have hS : w4.drew.cell? ⟨R, 0, none⟩ = some (.slice sa ls sc) ∧ w4.drew.cell? ⟨R, 1, none⟩ = some (.slice ua1 s.ar.length uc1) ∧ w4.drew.cell? ⟨R, 3, none⟩ = some (.bool back) ∧ w4.drew.cell? ⟨bt, 0, none⟩ = some (.int .i64 x) ∧ w4.drew.cell? ⟨bt, 1, none⟩ = some (.int .i64 y) ∧ w4.drew.cell? ⟨bt, 2, none⟩ = some (.int .i64 z) := ⟨c0, c1, c3, k0, k1, k2⟩
  refine wpN_pure (i := 0) (v := ?_) rfl (by kernel_rfl) (by kernel_rfl) (by kernel_rfl) (by kernel_rfl) (fun _ _ _ h => h) (Or.inl ⟨by rfl, ?_⟩) (fun _ => hS) ?_
  rotate_left
  · ((intro w' hw'; (try dsimp only at hw'); go_simp) <;> with_reducible rfl)
  simp only [Act.put, List.setIfInBounds_toArray, List.set_cons_zero, List.set_cons_succ]
  refine wpN_pure (i := 1) (v := ?_) rfl (by kernel_rfl) (by kernel_rfl) (by kernel_rfl) (by kernel_rfl) (fun _ _ _ h => h) (Or.inl ⟨by rfl, ?_⟩) (fun _ => hS) ?_
  rotate_left
  · ((intro w' hw'; (try dsimp only at hw'); go_simp) <;> with_reducible rfl)
  simp only [Act.put, List.setIfInBounds_toArray, List.set_cons_zero, List.set_cons_succ]
  refine wpN_pure (i := 2) (v := ?_) rfl (by kernel_rfl) (by kernel_rfl) (by kernel_rfl) (by kernel_rfl) (fun _ _ _ h => h) (Or.inl ⟨by rfl, ?_⟩) (fun _ => hS) ?_
  rotate_left
  · ((intro w' hw'; (try dsimp only at hw'); go_simp) <;> with_reducible rfl)
  simp only [Act.put, List.setIfInBounds_toArray, List.set_cons_zero, List.set_cons_succ]
  refine wpN_pure (i := 3) (v := ?_) rfl (by kernel_rfl) (by kernel_rfl) (by kernel_rfl) (by kernel_rfl) (fun _ _ _ h => h) (Or.inl ⟨by rfl, ?_⟩) (fun _ => hS) ?_
  rotate_left
  · ((intro w' hw'; (try dsimp only at hw'); go_simp) <;> with_reducible rfl)
  simp only [Act.put, List.setIfInBounds_toArray, List.set_cons_zero, List.set_cons_succ]
  refine wpN_read (i := 4) (v := ?_) rfl (by kernel_rfl) (by kernel_rfl) (by kernel_rfl) (by kernel_rfl) (by kernel_rfl) (fun _ _ _ h => h) (Or.inl ⟨by rfl, ?_⟩) hS ?_
  rotate_left
  · ((intro w' hw'; (try dsimp only at hw'); go_simp) <;> with_reducible rfl)
  simp only [Act.put, List.setIfInBounds_toArray, List.set_cons_zero, List.set_cons_succ]
  refine wpN_pure (i := 5) (v := ?_) rfl (by kernel_rfl) (by kernel_rfl) (by kernel_rfl) (by kernel_rfl) (fun _ _ _ h => h) (Or.inl ⟨by rfl, ?_⟩) (fun _ => hS) ?_
  rotate_left
  · ((intro w' hw'; (try dsimp only at hw'); go_simp) <;> with_reducible rfl)
  simp only [Act.put, List.setIfInBounds_toArray, List.set_cons_zero, List.set_cons_succ]
  refine wpN_pure (i := 6) (v := ?_) rfl (by kernel_rfl) (by kernel_rfl) (by kernel_rfl) (by kernel_rfl) (fun _ _ _ h => h) (Or.inl ⟨by rfl, ?_⟩) (fun _ => hS) ?_
  rotate_left
  · ((intro w' hw'; (try dsimp only at hw'); go_simp) <;> with_reducible rfl)
  simp only [Act.put, List.setIfInBounds_toArray, List.set_cons_zero, List.set_cons_succ]
  refine wpN_pure (i := 7) (v := ?_) rfl (by kernel_rfl) (by kernel_rfl) (by kernel_rfl) (by kernel_rfl) (fun _ _ _ h => h) (Or.inl ⟨by rfl, ?_⟩) (fun _ => hS) ?_
  rotate_left
  · ((intro w' hw'; (try dsimp only at hw'); go_simp) <;> with_reducible rfl)
  simp only [Act.put, List.setIfInBounds_toArray, List.set_cons_zero, List.set_cons_succ]
  refine wpN_read (i := 8) (v := ?_) rfl (by kernel_rfl) (by kernel_rfl) (by kernel_rfl) (by kernel_rfl) (by kernel_rfl) (fun _ _ _ h => h) (Or.inl ⟨by rfl, ?_⟩) hS ?_
  rotate_left
  · ((intro w' hw'; (try dsimp only at hw'); go_simp) <;> with_reducible rfl)
  simp only [Act.put, List.setIfInBounds_toArray, List.set_cons_zero, List.set_cons_succ]
  refine wpN_pure (i := 9) (v := ?_) rfl (by kernel_rfl) (by kernel_rfl) (by kernel_rfl) (by kernel_rfl) (fun _ _ _ h => h) (Or.inl ⟨by rfl, ?_⟩) (fun _ => hS) ?_
  rotate_left
  · ((intro w' hw'; (try dsimp only at hw'); go_simp) <;> with_reducible rfl)
  simp only [Act.put, List.setIfInBounds_toArray, List.set_cons_zero, List.set_cons_succ]
  refine wpN_read (i := 10) (v := ?_) rfl (by kernel_rfl) (by kernel_rfl) (by kernel_rfl) (by kernel_rfl) (by kernel_rfl) (fun _ _ _ h => h) (Or.inl ⟨by rfl, ?_⟩) hS ?_
  rotate_left
  · ((intro w' hw'; (try dsimp only at hw'); go_simp) <;> with_reducible rfl)
  simp only [Act.put, List.setIfInBounds_toArray, List.set_cons_zero, List.set_cons_succ]
  refine wpN_pure (i := 11) (v := ?_) rfl (by kernel_rfl) (by kernel_rfl) (by kernel_rfl) (by kernel_rfl) (fun _ _ _ h => h) (Or.inl ⟨by rfl, ?_⟩) (fun _ => hS) ?_
  rotate_left
  · ((intro w' hw'; (try dsimp only at hw'); go_simp) <;> with_reducible rfl)
  simp only [Act.put, List.setIfInBounds_toArray, List.set_cons_zero, List.set_cons_succ]
  refine wpN_read (i := 12) (v := ?_) rfl (by kernel_rfl) (by kernel_rfl) (by kernel_rfl) (by kernel_rfl) (by kernel_rfl) (fun _ _ _ h => h) (Or.inl ⟨by rfl, ?_⟩) hS ?_
  rotate_left
  · ((intro w' hw'; (try dsimp only at hw'); go_simp) <;> with_reducible rfl)
  simp only [Act.put, List.setIfInBounds_toArray, List.set_cons_zero, List.set_cons_succ]
  refine wpN_pure (i := 13) (v := ?_) rfl (by kernel_rfl) (by kernel_rfl) (by kernel_rfl) (by kernel_rfl) (fun _ _ _ h => h) (Or.inl ⟨by rfl, ?_⟩) (fun _ => hS) ?_
  rotate_left
  · ((intro w' hw'; (try dsimp only at hw'); go_simp) <;> with_reducible rfl)
  simp only [Act.put, List.setIfInBounds_toArray, List.set_cons_zero, List.set_cons_succ]
  refine wpN_read (i := 14) (v := ?_) rfl (by kernel_rfl) (by kernel_rfl) (by kernel_rfl) (by kernel_rfl) (by kernel_rfl) (fun _ _ _ h => h) (Or.inl ⟨by rfl, ?_⟩) hS ?_
  rotate_left
  · ((intro w' hw'; (try dsimp only at hw'); go_simp) <;> with_reducible rfl)
  simp only [Act.put, List.setIfInBounds_toArray, List.set_cons_zero, List.set_cons_succ]
  refine wpN_pure (i := 15) (v := ?_) rfl (by kernel_rfl) (by kernel_rfl) (by kernel_rfl) (by kernel_rfl) (fun _ _ _ h => h) (Or.inl ⟨by rfl, ?_⟩) (fun _ => hS) ?_
  rotate_left
  · ((intro w' hw'; (try dsimp only at hw'); go_simp) <;> with_reducible rfl)
  simp only [Act.put, List.setIfInBounds_toArray, List.set_cons_zero, List.set_cons_succ]
  refine wpN_pure (i := 16) (v := ?_) rfl (by kernel_rfl) (by kernel_rfl) (by kernel_rfl) (by kernel_rfl) (fun _ _ _ h => h) (Or.inl ⟨by rfl, ?_⟩) (fun _ => hS) ?_
  rotate_left
  · ((intro w' hw'; (try dsimp only at hw'); go_simp) <;> with_reducible rfl)
  simp only [Act.put, List.setIfInBounds_toArray, List.set_cons_zero, List.set_cons_succ]
  refine wpN_pure (i := 17) (v := ?_) rfl (by kernel_rfl) (by kernel_rfl) (by kernel_rfl) (by kernel_rfl) (fun _ _ _ h => h) (Or.inl ⟨by rfl, ?_⟩) (fun _ => hS) ?_
  rotate_left
  · ((intro w' hw'; (try dsimp only at hw'); go_simp) <;> with_reducible rfl)
  simp only [Act.put, List.setIfInBounds_toArray, List.set_cons_zero, List.set_cons_succ]
  refine wpN_read (i := 18) (v := ?_) rfl (by kernel_rfl) (by kernel_rfl) (by kernel_rfl) (by kernel_rfl) (by kernel_rfl) (fun _ _ _ h => h) (Or.inl ⟨by rfl, ?_⟩) hS ?_
  rotate_left
  · ((intro w' hw'; (try dsimp only at hw'); go_simp) <;> with_reducible rfl)
  simp only [Act.put, List.setIfInBounds_toArray, List.set_cons_zero, List.set_cons_succ]
  refine wpN_one (i := 19) rfl rfl (by kernel_rfl) (by kernel_rfl) (fun K hK => ?_)
  go_simp
  refine CD.out.mono ?_
  rintro e wa ⟨va5, rfl, hoa, hba⟩
  obtain ⟨a5, q5, rfl, _⟩ := own_shape hoa
  refine hK.out _ _ ?_
  clear hK K hS
  have hb45 : Below w4.heap.size w4 wa := (below_drewN (Below.refl w4.heap.size w4) 1).trans hba
  have HB5 := Lib.hid hb45
  have HO5 := Lib.hid (show Oz .u64 52 w4.heap.size wa (.slice a5 A'.length q5) A' from hoa)
  have VA := Lib.hid (V4.out.bel' hb45)
  have KR5 := Lib.hid (show Blk wa R 50 _ from by rw [HR.out]; exact VA.out.blk)
  clear hoa hba hb45 CD c0 c1 c3 k0 k1 k2
  refine wpN_pure (i := 20) (v := ?_) rfl (by kernel_rfl) (by kernel_rfl) (by kernel_rfl) (by kernel_rfl) (fun _ _ _ h => h) (Or.inl ⟨by rfl, ?_⟩) (fun h => Bool.noConfusion (h.symm.trans (show _ = false by kernel_rfl))) ?_
  rotate_left
  · ((intro w' hw'; (try dsimp only at hw'); go_simp) <;> with_reducible rfl)
  simp only [Act.put, List.setIfInBounds_toArray, List.set_cons_zero, List.set_cons_succ]
  refine wpN_pure (i := 21) (v := ?_) rfl (by kernel_rfl) (by kernel_rfl) (by kernel_rfl) (by kernel_rfl) (fun _ _ _ h => h) (Or.inl ⟨by rfl, ?_⟩) (fun h => Bool.noConfusion (h.symm.trans (show _ = false by kernel_rfl))) ?_
  rotate_left
  · ((intro w' hw'; (try dsimp only at hw'); go_simp) <;> with_reducible rfl)
  simp only [Act.put, List.setIfInBounds_toArray, List.set_cons_zero, List.set_cons_succ]
  refine wpN_one (i := 22) rfl rfl (by kernel_rfl) (by kernel_rfl) (fun K hK => ?_)
  refine st_storeS 31 (fun _ => rfl) wa (.tmp 108) (.tmp 106) rfl R 1 50 _ a5 A'.length q5 rfl rfl KR5.out (by show 1 < 9; decide) ?_
  intro w5 hb5 ho5 hs5
  refine hK.out _ _ (wpN_done (by kernel_rfl) ?_)
  clear hK K
  have HMR := Lib.hid V4.out.mR
  have O45 : Only (fun k => k = c.R) w4 w5 := (Only.of_below (S := fun k => k = c.R) HB5.out (fun k hk hk2 => by omega)).trans (ho5.mono fun k _ e => by rw [← HR.out]; exact e)
  have V5' := V4.out.put (va' := .slice a5 A'.length q5) (vd' := .slice la s.log.length lc) (fin' := false) (ar' := A') (ph' := s.ph) (left' := s.left) (log' := s.log) O45 (fun k e => .inl e) (by rw [← HR.out]; exact hb5) (own_only (own_mono (B' := 0) HO5.out (by omega)) ho5 (fun k hk e => by have h1 := World.ownsRow.lt HO5.out k hk; have h2 := V4.out.blk.lt; have e : k = R := e; have h3 := HR.out; omega)) (V4.out.did.only O45 (fun k hk e => own_blk_ne V4.out.did V4.out.blk (by decide) (by have e : k = c.R := e; rw [← e]; exact hk))) (fun g hg => .inr (World.ownsRow.lt HO5.out g hg).1) (fun g hg => .inl hg)
  have nTR : bt ≠ c.R := KT4.out.ne_ V4.out.blk (by decide)
  have KT5 := Lib.hid (KT4.out.only O45 nTR)
  have O5 := Lib.hid (O4.out.trans2 O45 (fun k hk e => by
    have e : k = c.R := e
    rw [e]
    rcases HM4.out _ HMR.out with h1 | h1
    · exact h1
    · rw [e] at hk; omega))
  have h04 := O4.out.size
  obtain ⟨M5, V5, HM5⟩ : ∃ (M' : Nat → Prop), Hid (CrV w0 w5 M' c (.slice a5 A'.length q5) (.slice la s.log.length lc) u4 false ⟨A', qs', s.ph, s.left, s.log⟩) ∧ Hid (∀ k, M' k → M k ∨ w.heap.size ≤ k) := ⟨_, Lib.hid V5', Lib.hid (fun k hk => by
    rcases hk with hk | hk
    · exact HM4.out k hk
    · right; omega)⟩
  clear V5' O45 hb5 ho5 hs5 HB5 HO5 KR5 VA V4 HM4 KT4 O4 nTR HMR
  -- the log
  have c7 : w5.cell? ⟨R, 7, none⟩ = some (.slice la s.log.length lc) := by rw [HR.out]; exact V5.out.blk.cell 7
  have k0 : w5.cell? ⟨bt, 0, none⟩ = some (.int .i64 x) := KT5.out.cell 0
  have k1 : w5.cell? ⟨bt, 1, none⟩ = some (.int .i64 y) := KT5.out.cell 1
  have k2 : w5.cell? ⟨bt, 2, none⟩ = some (.int .i64 z) := KT5.out.cell 2
  have lR5 : R < w5.heap.size := by rw [HR.out]; exact V5.out.blk.lt
  have lT5 : bt < w5.heap.size := KT5.out.lt
  go_wp2_with fail
  refine wp_region_N [4, 5] [6, 7, 10] (fun w' => w'.cell? ⟨R, 7, none⟩ = some (.slice la s.log.length lc) ∧ w'.cell? ⟨bt, 0, none⟩ = some (.int .i64 x) ∧ w'.cell? ⟨bt, 1, none⟩ = some (.int .i64 y) ∧ w'.cell? ⟨bt, 2, none⟩ = some (.int .i64 z)) (by kernel_rfl) ?_
  have hS : w5.drew.cell? ⟨R, 7, none⟩ = some (.slice la s.log.length lc) ∧ w5.drew.cell? ⟨bt, 0, none⟩ = some (.int .i64 x) ∧ w5.drew.cell? ⟨bt, 1, none⟩ = some (.int .i64 y) ∧ w5.drew.cell? ⟨bt, 2, none⟩ = some (.int .i64 z) := ⟨c7, k0, k1, k2⟩
  refine wpN_pure (i := 0) (v := ?_) rfl (by kernel_rfl) (by kernel_rfl) (by kernel_rfl) (by kernel_rfl) (fun _ _ _ h => h) (Or.inl ⟨by rfl, ?_⟩) (fun _ => hS) ?_
  rotate_left
  · ((intro w' hw'; (try dsimp only at hw'); go_simp) <;> with_reducible rfl)
  simp only [Act.put, List.setIfInBounds_toArray, List.set_cons_zero, List.set_cons_succ]
  refine wpN_pure (i := 1) (v := ?_) rfl (by kernel_rfl) (by kernel_rfl) (by kernel_rfl) (by kernel_rfl) (fun _ _ _ h => h) (Or.inl ⟨by rfl, ?_⟩) (fun _ => hS) ?_
  rotate_left
  · ((intro w' hw'; (try dsimp only at hw'); go_simp) <;> with_reducible rfl)
  simp only [Act.put, List.setIfInBounds_toArray, List.set_cons_zero, List.set_cons_succ]
  refine wpN_pure (i := 2) (v := ?_) rfl (by kernel_rfl) (by kernel_rfl) (by kernel_rfl) (by kernel_rfl) (fun _ _ _ h => h) (Or.inl ⟨by rfl, ?_⟩) (fun _ => hS) ?_
  rotate_left
  · ((intro w' hw'; (try dsimp only at hw'); go_simp) <;> with_reducible rfl)
  simp only [Act.put, List.setIfInBounds_toArray, List.set_cons_zero, List.set_cons_succ]
  refine wpN_pure (i := 3) (v := ?_) rfl (by kernel_rfl) (by kernel_rfl) (by kernel_rfl) (by kernel_rfl) (fun _ _ _ h => h) (Or.inl ⟨by rfl, ?_⟩) (fun _ => hS) ?_
  rotate_left
  · ((intro w' hw'; (try dsimp only at hw'); go_simp) <;> with_reducible rfl)
  simp only [Act.put, List.setIfInBounds_toArray, List.set_cons_zero, List.set_cons_succ]
  refine wpN_read (i := 4) (v := ?_) rfl (by kernel_rfl) (by kernel_rfl) (by kernel_rfl) (by kernel_rfl) (by kernel_rfl) (fun _ _ _ h => h) (Or.inl ⟨by rfl, ?_⟩) hS ?_
  rotate_left
  · ((intro w' hw'; (try dsimp only at hw'); go_simp) <;> with_reducible rfl)
  simp only [Act.put, List.setIfInBounds_toArray, List.set_cons_zero, List.set_cons_succ]
  refine wpN_read (i := 5) (v := ?_) rfl (by kernel_rfl) (by kernel_rfl) (by kernel_rfl) (by kernel_rfl) (by kernel_rfl) (fun _ _ _ h => h) (Or.inl ⟨by rfl, ?_⟩) hS ?_
  rotate_left
  · ((intro w' hw'; (try dsimp only at hw'); go_simp) <;> with_reducible rfl)
  simp only [Act.put, List.setIfInBounds_toArray, List.set_cons_zero, List.set_cons_succ]
  refine wpN_oneS (i := 6) rfl rfl (by kernel_rfl) (fun K hK => ?_)
  go_simp
  have hal := (Below.refl w5.heap.size w5).alloc (Nat.le_refl _) (.cells #[.int .i64 x, .int .i64 y, .int .i64 z] 56)
  have q7 := (hal.cell (p := ⟨R, 7, none⟩) lR5).trans c7
  have q0 := (hal.cell (p := ⟨bt, 0, none⟩) lT5).trans k0
  have q1 := (hal.cell (p := ⟨bt, 1, none⟩) lT5).trans k1
  have q2 := (hal.cell (p := ⟨bt, 2, none⟩) lT5).trans k2
  refine hK.out _ _ ⟨q7, q0, q1, q2⟩ ?_
  clear hK K c7 k0 k1 k2 q7 q0 q1 q2 hS
  have LG6 := Lib.hid (V5.out.did.below hal)
  have NB6 := Lib.hid ((Blk.new w5 56 #[.int .i64 x, .int .i64 y, .int .i64 z]).drew)
  have KR6 := Lib.hid (show Blk (w5.alloc (.cells #[.int .i64 x, .int .i64 y, .int .i64 z] 56)).drew R 50 (ccs c (.slice a5 A'.length q5) s.ph s.left (.slice la s.log.length lc) false) from by rw [HR.out]; exact (V5.out.blk.alloc _).drew)
  have O56 := Lib.hid (show Only (fun _ => False) w5 (w5.alloc (.cells #[.int .i64 x, .int .i64 y, .int .i64 z] 56)).drew from ((Only.refl _ _).alloc _).drew)
  clear hal
  obtain ⟨g6, hg6⟩ : ∃ g, g = w5.heap.size := ⟨_, rfl⟩
  rw [← hg6] at NB6 ⊢
  have HG6 := Lib.hid hg6
  clear hg6
  have LG6 := Lib.hid (show Ot 0 (w5.alloc (.cells #[.int .i64 x, .int .i64 y, .int .i64 z] 56)).drew (.slice la s.log.length lc) s.log from LG6.out)
  generalize (w5.alloc (.cells #[.int .i64 x, .int .i64 y, .int .i64 z] 56)).drew = w6 at *
  refine wpN_one (i := 7) rfl rfl (by kernel_rfl) (by kernel_rfl) (fun K hK => ?_)
  refine st_appG 56 48 (.agg #[.int .i64 0, .int .i64 0, .int .i64 0]) 3 24 Tryd.underlying48 info_task rfl (by decide) (by decide) w6 (.tmp 113) (.tmp 115) rfl 0 g6 (.slice la s.log.length lc) s.log.length (tcs s.log) #[.int .i64 x, .int .i64 y, .int .i64 z] rfl (by intro u hu; simp at hu; rcases hu with rfl | rfl | rfl <;> rfl) rfl rfl LG6.out NB6.out (Nat.zero_le _) LLN.out ?_
  intro v7 w7 p7 hg7 hat7
  obtain ⟨a7, q7, rfl, _⟩ := own_shape p7
  refine hK.out _ _ ?_
  clear hK K
  simp only [Act.put, List.setIfInBounds_toArray, List.set_cons_zero, List.set_cons_succ]
  refine wpN_pure (i := 8) (v := ?_) rfl (by kernel_rfl) (by kernel_rfl) (by kernel_rfl) (by kernel_rfl) (fun _ _ _ h => h) (Or.inl ⟨by rfl, ?_⟩) (fun h => Bool.noConfusion (h.symm.trans (show _ = false by kernel_rfl))) ?_
  rotate_left
  · ((intro w' hw'; (try dsimp only at hw'); go_simp) <;> with_reducible rfl)
  simp only [Act.put, List.setIfInBounds_toArray, List.set_cons_zero, List.set_cons_succ]
  refine wpN_pure (i := 9) (v := ?_) rfl (by kernel_rfl) (by kernel_rfl) (by kernel_rfl) (by kernel_rfl) (fun _ _ _ h => h) (Or.inl ⟨by rfl, ?_⟩) (fun h => Bool.noConfusion (h.symm.trans (show _ = false by kernel_rfl))) ?_
  rotate_left
  · ((intro w' hw'; (try dsimp only at hw'); go_simp) <;> with_reducible rfl)
  simp only [Act.put, List.setIfInBounds_toArray, List.set_cons_zero, List.set_cons_succ]
  refine wpN_one (i := 10) rfl rfl (by kernel_rfl) (by kernel_rfl) (fun K hK => ?_)
  have hne : some R ≠ (Value.slice la s.log.length lc).ownBlock := fun e => own_blk_ne LG6.out KR6.out (by decide) e.symm
  have KR7 := Lib.hid (KR6.out.grown hg7 hne)
  refine st_storeS 48 (fun _ => rfl) w7 (.tmp 118) (.tmp 116) rfl R 7 50 _ a7 (s.log.length + 1) q7 rfl rfl KR7.out (by show 7 < 9; decide) ?_
  intro w8 hb8 ho8 hs8
  refine hK.out _ _ (wpN_done (by kernel_rfl) ?_)
  clear hK K
  have HMR := Lib.hid V5.out.mR
  have O58 : Only (fun k => k = c.R ∨ (Value.slice la s.log.length lc).ownBlock = some k) w5 w8 := ((O56.out.mono (T := fun k => k = c.R ∨ (Value.slice la s.log.length lc).ownBlock = some k) fun _ _ e => e.elim).trans (Only.of_grown hg7 (fun k hk => .inr hk))).trans (ho8.mono fun k _ e => .inl (by rw [← HR.out]; exact e))
  have P7 : Ot 0 w7 (.slice a7 (s.log.length + 1) q7) (s.log ++ [(x, y, z)]) := by
    unfold Ot
    rw [tcs_append, tcs_one, List.length_append, List.length_singleton]
    exact p7
  have V8' := V5.out.put (va' := .slice a5 A'.length q5) (vd' := .slice a7 (s.log.length + 1) q7) (fin' := false) (ar' := A') (ph' := s.ph) (left' := s.left) (log' := s.log ++ [(x, y, z)]) O58 (fun k e => e.elim .inl (fun h => .inr (.inl h))) (by rw [← HR.out]; exact hb8) (own_only V5.out.ar O58 (fun k hk e => by
    rcases e with e | e
    · exact own_blk_ne V5.out.ar V5.out.blk (by decide) (by rw [← e]; exact hk)
    · rcases own_ne V5.out.ar V5.out.did (by decide) with hh | hh
      · rw [hk] at hh; cases hh
      · exact hh (by rw [hk, e]))) (P7.only ho8 (fun k hk e => own_blk_ne P7 KR7.out (by decide) (e ▸ hk))) (fun g hg => .inl hg) (fun g hg => by
    rcases hat7 g hg with h1 | h1
    · exact .inl h1
    · have := O56.out.size; right; omega)
  have h05 := O5.out.size
  have O8 := Lib.hid (O5.out.trans2 O58 (fun k hk e => by
    have h1 : M5 k := by
      rcases e with e | e
      · rw [e]; exact HMR.out
      · exact (V5.out.didM k e).1
    rcases HM5.out k h1 with h2 | h2
    · exact h2
    · omega))
  obtain ⟨M8, V8, HM8⟩ : ∃ (M' : Nat → Prop), Hid (CrV w0 w8 M' c (.slice a5 A'.length q5) (.slice a7 (s.log.length + 1) q7) u4 false ⟨A', qs', s.ph, s.left, s.log ++ [(x, y, z)]⟩) ∧ Hid (∀ k, M' k → M k ∨ w.heap.size ≤ k) := ⟨_, Lib.hid V8', Lib.hid (fun k hk => by
    rcases hk with hk | hk
    · exact HM5.out k hk
    · right; omega)⟩
  clear V8' O58 P7 hb8 ho8 hs8 hat7 hg7 p7 KR7 KR6 LG6 NB6 O56 HG6 V5 HM5 O5 hne KT5 HMR
  -- one task less
  have K8 := Lib.hid (show Blk w8 R 50 (ccs c (.slice a5 A'.length q5) s.ph ((L : Int) + 1) (.slice a7 (s.log.length + 1) q7) false) from by
    have h1 := V8.out.blk
    rw [← HR.out] at h1
    rw [show ((L : Int) + 1) = ((s.left : Nat) : Int) by rw [HLF.out]; rfl]
    exact h1)
  have c6 : w8.cell? ⟨R, 6, none⟩ = some (.int .i64 ((L : Int) + 1)) := K8.out.cell 6
  go_wp2_with (refine wl_storeBlk1 3 (fun _ => rfl) _ rfl (.tmp 125) (.tmp 123) rfl R 6 50 _ .i64 (L : Int) rfl rfl K8.out (by show 6 < 9; decide) ?_)
  intro w9 hb9 ho9 hs9
  have O89 : Only (fun k => k = c.R) w8 w9 := ho9.mono fun k _ e => by rw [← HR.out]; exact e
  have h08 := O8.out.size
  have HMR := Lib.hid V8.out.mR
  have V9' := V8.out.put (va' := .slice a5 A'.length q5) (vd' := .slice a7 (s.log.length + 1) q7) (fin' := false) (ar' := A') (ph' := s.ph) (left' := L) (log' := s.log ++ [(x, y, z)]) O89 (fun k e => .inl e) (by rw [← HR.out]; exact hb9) (own_only V8.out.ar O89 (fun k hk e => own_blk_ne V8.out.ar V8.out.blk (by decide) (by have e : k = c.R := e; rw [← e]; exact hk))) (V8.out.did.only O89 (fun k hk e => own_blk_ne V8.out.did V8.out.blk (by decide) (by have e : k = c.R := e; rw [← e]; exact hk))) (fun g hg => .inl hg) (fun g hg => .inl hg)
  have O9 := Lib.hid (O8.out.trans2 O89 (fun k hk e => by
    have e : k = c.R := e
    rw [e]
    rcases HM8.out _ HMR.out with h1 | h1
    · exact h1
    · rw [e] at hk; omega))
  obtain ⟨M9, V9, HM9⟩ : ∃ (M' : Nat → Prop), Hid (CrV w0 w9 M' c (.slice a5 A'.length q5) (.slice a7 (s.log.length + 1) q7) u4 false ⟨A', qs', s.ph, L, s.log ++ [(x, y, z)]⟩) ∧ Hid (∀ k, M' k → M k ∨ w.heap.size ≤ k) := ⟨_, Lib.hid V9', Lib.hid (fun k hk => by
    rcases hk with hk | hk
    · exact HM8.out k hk
    · right; omega)⟩
  have K9 := Lib.hid (show Blk w9 R 50 (ccs c (.slice a5 A'.length q5) s.ph L (.slice a7 (s.log.length + 1) q7) false) from by rw [HR.out]; exact V9.out.blk)
  clear V9' O89 hb9 ho9 hs9 V8 HM8 O8 K8 c6 HMR
  have c6 : w9.cell? ⟨R, 6, none⟩ = some (.int .i64 (L : Int)) := K9.out.cell 6
  by_cases hL0 : L = 0
  · have HF := Lib.hid (show fin1 W c.ll s A' (x, y, z) qs' = ⟨A', dlp W c.ll (s.ph + 1), s.ph + 1, (pg c.ll (s.ph + 1)).length, s.log ++ [(x, y, z)]⟩ from by
      unfold fin1; rw [if_pos (by rw [HLF.out, hL0])])
    subst hL0
    have c5 : w9.cell? ⟨R, 5, none⟩ = some (.int .i64 (s.ph : Int)) := K9.out.cell 5
    go_wp2_with (refine wl_storeBlk1 3 (fun _ => rfl) _ rfl (.tmp 137) (.tmp 135) rfl R 5 50 _ .i64 ((s.ph : Int) + 1) rfl rfl K9.out (by show 5 < 9; decide) ?_)
    intro w10 hb10 ho10 hs10
    have O90 : Only (fun k => k = c.R) w9 w10 := ho10.mono fun k _ e => by rw [← HR.out]; exact e
    have h09 := O9.out.size
    have HMR := Lib.hid V9.out.mR
    have V10 := V9.out.put (va' := .slice a5 A'.length q5) (vd' := .slice a7 (s.log.length + 1) q7) (fin' := false) (ar' := A') (ph' := s.ph + 1) (left' := 0) (log' := s.log ++ [(x, y, z)]) O90 (fun k e => .inl e) (by rw [← HR.out]; exact hb10) (own_only V9.out.ar O90 (fun k hk e => own_blk_ne V9.out.ar V9.out.blk (by decide) (by have e : k = c.R := e; rw [← e]; exact hk))) (V9.out.did.only O90 (fun k hk e => own_blk_ne V9.out.did V9.out.blk (by decide) (by have e : k = c.R := e; rw [← e]; exact hk))) (fun g hg => .inl hg) (fun g hg => .inl hg)
    have O10 := Lib.hid (O9.out.trans2 O90 (fun k hk e => by
      have e : k = c.R := e
      rw [e]
      rcases HM9.out _ HMR.out with h1 | h1
      · exact h1
      · rw [e] at hk; omega))
    have HS10 := Lib.hid (show w9.heap.size ≤ w10.heap.size from O90.size)
    have HQN := Lib.hid (show qs' = List.replicate c.W [] from by
      have h1 := HPM.out.length_eq
      rw [HI.out.lf, HLF.out, List.length_cons] at h1
      have h2 := flat_nil (qs := qs') (by omega)
      rw [HQL.out] at h2
      exact h2)
    have CDL := Lib.hid (cdeal_any c ⟨A', qs', s.ph + 1, 0, s.log ++ [(x, y, z)]⟩ _ w0 w10 ⟨_, _, _, V10⟩ X0.out HG.out HX.out HQN.out rfl (by rw [← HWE.out]; exact hW1) (by rw [← HWE.out]; exact hW8))
    clear V10 O90 hb10 ho10 hs10 c5 c6 HMR
    rw [← HR.out] at CDL
    go_wp2_with fail
    refine CDL.out.mono ?_
    rintro e w11 ⟨rfl, M11, hrun, hO, hM⟩
    have HRUN := Lib.hid hrun
    have HO11 := Lib.hid hO
    have HM11 := Lib.hid hM
    clear hrun hO hM CDL
    go_wp2
    go_ret
    refine ⟨rfl, M11, ?_, ?_, ?_⟩
    · rw [← HWE.out, HF.out]; have h1 := HRUN.out; rw [← HWE.out] at h1; exact h1
    · exact O10.out.trans2 HO11.out (fun k hk e => by
        rcases e with e | e
        · rcases HM9.out k e with h1 | h1
          · exact h1
          · omega
        · omega)
    · intro k hk
      rcases HM11.out k hk with h1 | h1
      · rcases h1 with h1 | h1
        · exact HM9.out k h1
        · right; omega
      · have := O10.out.size; right; omega
  · have HF := Lib.hid (show fin1 W c.ll s A' (x, y, z) qs' = ⟨A', qs', s.ph, L, s.log ++ [(x, y, z)]⟩ from by
      unfold fin1; rw [if_neg (by rw [HLF.out]; omega), HLF.out]; rfl)
    go_wp2
    go_ret
    refine ⟨rfl, M9, ?_, O9.out, HM9.out⟩
    rw [← HWE.out, HF.out, show decide (s.ph = c.ll.length) = false from decide_eq_false (by have := HX.out; omega)]
    exact ⟨_, _, _, V9.out⟩
end Go.Proofs.YtcakeenfkdhedaaDoor.Gm
