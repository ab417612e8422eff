/- ref NewCrew. -/
import Derived.Test.YtcakeenfkdhedaaDoorCsd
namespace Go.Proofs.YtcakeenfkdhedaaDoor.Gm
open Go.RowKit
set_option linter.unusedVariables false
section
variable {P : Program} {md : Region.Mode} {ops : Array Oper} {Q : Exit → Act → World → Prop} {S : World → Prop} {rd ef : List Nat}
/-- two may come up -/
theorem wpN_two {i j : Nat} {oi oj : Oper} {n : Nat} {listed : Array Bool} {a : Act} {w : World} (hi : ops.toList[i]? = some oi) (hj : ops.toList[j]? = some oj) (gi : oi.guard = none) (gj : oj.guard = none) (hr : Region.ready md ops listed = [i, j])
    (ni : needB md ops rd ef (listed.setIfInBounds i true) = false) (nj : needB md ops rd ef (listed.setIfInBounds j true) = false)
    (h1 : ∀ K : Act → World → Prop, Shut (∀ a w, wpN P md ops Q S rd ef n (listed.setIfInBounds i true) a w → K a w) → oi.wp P a w K Q)
    (h2 : ∀ K : Act → World → Prop, Shut (∀ a w, wpN P md ops Q S rd ef n (listed.setIfInBounds j true) a w → K a w) → oj.wp P a w K Q) : wpN P md ops Q S rd ef (n + 1) listed a w := fun inv => by
  have hi := toL hi
  have hj := toL hj
  have mi : i ∈ Region.ready md ops listed := by rw [hr]; simp
  have mj : j ∈ Region.ready md ops listed := by rw [hr]; simp
  refine ⟨fun h0 => (by rw [hr] at h0; cases h0), fun k hk => ?_⟩
  rw [hr] at hk
  rcases List.mem_cons.1 hk with rfl | hk
  · unfold wpOp
    simp only [hi, Region.wanted, gi, if_true]
    exact .inl (h1 _ fun a w hN => ⟨fun h1 => (by rw [ni] at h1; cases h1), hN (inv.set mi (Array.getElem?_eq_some_iff.1 hi).1)⟩)
  · obtain rfl := List.mem_singleton.1 hk
    unfold wpOp
    simp only [hj, Region.wanted, gj, if_true]
    exact .inl (h2 _ fun a w hN => ⟨fun h1 => (by rw [nj] at h1; cases h1), hN (inv.set mj (Array.getElem?_eq_some_iff.1 hj).1)⟩)
end
theorem st_mkP {o : Oper} {a : Act} {K : Act → World → Prop} {Q : Exit → Act → World → Prop} (w : World) (l c : Operand) (ho : o.op = Op.makeSlice 47 l c) (n : Nat) (hl : a.eval l = .int .i64 (n : Int)) (hc : a.eval c = .int .i64 (n : Int)) (hn : n ≤ 1000000)
    (h : ∀ g w', w'.ownsRow w.heap.size 48 1 (.slice (some ⟨g, 0, none⟩) n n) n (List.replicate n (.slice none 0 0)) → Below w.heap.size w w' → K (a.put o.dst (.slice (some ⟨g, 0, none⟩) n n)) w') : Oper.wp Tryd.prog o a w K Q := by
  obtain ⟨i0, hi, hz0, hz1, hz2⟩ := info_parts (show (Tryd.prog.info? 48).map (fun i => (i.zero, i.size, i.bytes)) = some (some (.slice none 0 0), 1, 24) by kernel_rfl)
  have hmx : n ≤ maxLen := by unfold maxLen; omega
  have hr := run_make (P := Tryd.prog) w 47 48 i0 (.slice none 0 0) (show Tryd.prog.underlying 47 = some (.slice 48) by kernel_rfl) hi hz0 .i64 .i64 n n (by omega) (Int.le_refl _) (by rw [hz2]; omega) (by omega)
  simp only [Int.toNat_natCast] at hr
  unfold Oper.wp
  simp [execOp, ho, hl, hc, hr, Result.andThen]
  refine h w.heap.size _ ?_ ?_
  · have := World.ownsRow_lit w (madeCells (Value.slice none 0 0).cells (n * i0.size)) (e := 48) (size := 1) n (Nat.le_refl _) hmx (by rw [size_madeCells, hz1])
    rw [hz1, Nat.mul_one] at this ⊢
    rw [show (Value.slice none 0 0).cells = #[Value.slice none 0 0] from rfl] at this ⊢
    rw [toList_madeCells_one] at this
    exact this
  · exact (Below.refl _ _).alloc (Nat.le_refl _) _
theorem st_apU {o : Oper} {a : Act} {K : Act → World → Prop} {Q : Exit → Act → World → Prop} (w : World) (s x : Operand)
    (ho : o.op = .call { callee := .builtin .append, args := #[s, x], argTypes := #[31, 31] })
    (v : Value) (zs : List Int) (hs : a.eval s = .slice none 0 0) (hx : a.eval x = v) (hr : Rd .u64 w v zs) (h1 : 1 ≤ zs.length) (hn : zs.length ≤ 1000000)
    (h : ∀ v' w', Oz .u64 52 w.heap.size w' v' zs → Below w.heap.size w w' → K (a.put o.dst v') w') : Oper.wp Tryd.prog o a w K Q := by
  obtain ⟨ad, cap, b, off, rfl, hcap, hm, hx', hc⟩ := hr
  obtain rfl := hx'.resolve_left (by intro e; rw [e] at h1; simp at h1)
  obtain ⟨i0, hi, hz0, hz1, hz2⟩ := info_parts info_u64
  obtain ⟨v', w', hrun, h2, h3, _, h5⟩ := run_append_own_at (P := Tryd.prog) w w.heap.size 31 o.type 52 i0 (.int .u64 0) 1 8 Tryd.underlying31 hi hz0 hz1 hz2 rfl (by decide) (.slice none 0 0) 0 [] (World.ownsRow_nil _ _ _ _) ⟨b, off, none⟩ zs.length cap (zs.map (Value.int .u64)) (by simp) (fun j u hj => by
    have hjl : j < zs.length := by have := (List.getElem?_eq_some_iff.1 hj).1; simpa using this
    have e : ((⟨b, off, none⟩ : Addr).add j) = ⟨b, off + j, none⟩ := by unfold Addr.add; by_cases h0 : j = 0 <;> simp [h0]
    rw [e, hc j hjl, gd_eq]
    rw [List.getElem?_map, List.getElem?_eq_getElem hjl] at hj
    rw [List.getElem?_eq_getElem hjl]
    exact hj) (by intro u hu; obtain ⟨z, _, rfl⟩ := List.mem_map.1 hu; rfl) (by unfold maxLen; omega) (by omega) (Nat.le_refl _)
  unfold Oper.wp execOp
  simp only [ho, resolve, invoke, builtin, Sem.run_bind, Sem.run_pure, Result.andThen_ok, List.map_toArray, List.map_cons, List.map_nil, hs, hx, hrun]
  refine h v' w' ?_ ((Only.of_grown (S := fun _ => False) h3 (fun k e => by cases e)).below (Nat.le_refl _) (fun _ e => e.elim))
  unfold Oz
  have h2' := h2
  rw [Nat.zero_add, List.nil_append] at h2'
  exact h2'
def mkC (R gq W : Nat) (v v3 : Value) (back : Bool) (ks : List Nat) (ll : List (List T3)) : Cw := ⟨R, v, v3, .slice (some ⟨gq, 0, none⟩) W W, W, back, ks, ll⟩
def NcTo (w w' : World) (W : Nat) (v v3 : Value) (back : Bool) (ks : List Nat) (ll : List (List T3)) (zs : List Int) (R gq : Nat) : Prop :=
  ∃ M : Nat → Prop, CrAt w w' M (mkC R gq W v v3 back ks ll) false (st0 W ll zs)
set_option maxRecDepth 100000 in
theorem nc_deal (w w4 : World) (R gq W : Nat) (v v3 : Value) (back : Bool) (ks : List Nat) (ll : List (List T3)) (zs : List Int) (va : Value) (X0 : RPs w v3 ll) (hg : GL ks ll) (hW : 1 ≤ W) (hW8 : W ≤ 8)
    (har : Oz .u64 52 w.heap.size w4 va zs) (hrow : w4.ownsRow w.heap.size 48 1 (.slice (some ⟨gq, 0, none⟩) W W) W (List.replicate W (.slice none 0 0))) (hb : Below w.heap.size w w4)
    (hk : Blk w4 R 50 #[v, va, v3, .bool back, .slice (some ⟨gq, 0, none⟩) W W, .int .i64 0, .int .i64 0, .slice none 0 0, .bool false]) (hR : w.heap.size ≤ R) :
    Calls Tryd.prog 57 #[.pointer (some ⟨R, 0, none⟩)] w4 fun e w' => e = .returned (.tuple #[]) ∧ NcTo w w' W v v3 back ks ll zs R gq := by
  have hN : 1 ≤ ll.length := by have := hg.shp.len0; rw [szs_len, ← hg.len] at this; exact this
  have V : CrV w w4 (fun k => w.heap.size ≤ k ∧ k < w4.heap.size) (mkC R gq W v v3 back ks ll) va (.slice none 0 0) (fun _ => .slice none 0 0) false ⟨zs, List.replicate W [], 0, 0, []⟩ := by
    refine ⟨hk, ⟨hR, hk.lt⟩, ?_, fun g hg => World.ownsRow.lt hrow g hg, fun i hi => ⟨?_, fun g hg => (by cases hg)⟩, fun i j g _ _ _ e => (by cases e), own_mono har (Nat.zero_le _), fun g hg => World.ownsRow.lt har g hg, Ot.nil _ _, fun g hg => (by cases hg), fun k hk => hk, hb⟩
    · have e : (List.range W).map (fun _ => Value.slice none 0 0) = List.replicate W (.slice none 0 0) := by
        refine List.ext_getElem (by simp) fun j h1 h2 => by simp
      show w4.ownsRow 0 _ 1 _ W ((List.range W).map fun _ => Value.slice none 0 0)
      rw [e]
      exact own_mono hrow (Nat.zero_le _)
    · show Ot 0 w4 (.slice none 0 0) (pg (List.replicate W []) i)
      have e : pg (List.replicate W ([] : List T3)) i = [] := by
        rw [pg_eq, List.getElem?_replicate]; split <;> rfl
      rw [e]
      exact Ot.nil _ _
  refine (cdeal_any (mkC R gq W v v3 back ks ll) ⟨zs, List.replicate W [], 0, 0, []⟩ _ w w4 ⟨_, _, _, V⟩ X0 hg (Nat.zero_le _) rfl rfl hW hW8).mono ?_
  rintro e w5 ⟨he, M, hc, _⟩
  refine ⟨he, M, ?_⟩
  have e : decide ((0 : Nat) = (mkC R gq W v v3 back ks ll).ll.length) = false := decide_eq_false (by show ¬ 0 = ll.length; omega)
  rw [e] at hc
  exact hc
set_option maxHeartbeats 2000000 in
set_option maxRecDepth 100000 in
theorem newcrew_any (ks : List Nat) (ll : List (List T3)) (zs : List Int) (W : Nat) (back : Bool) (v v2 v3 : Value) (w : World) (h : Rd .i64 w v (zi (szs ks))) (h2 : Rd .u64 w v2 zs) (h3 : RPs w v3 ll) (hg : GL ks ll) (hl : zs.length = pk ks) (hW : 1 ≤ W) (hW8 : W ≤ 8) :
    Calls Tryd.prog 19 #[v, v2, v3, .int .i64 (W : Int), .bool back] w fun e w' => ∃ R gq : Nat, e = .returned (.pointer (some ⟨R, 0, none⟩)) ∧ NcTo w w' W v v3 back ks ll zs R gq := by
  have hl1 : 1 ≤ zs.length := by have := hg.shp.pr1; rw [show pr (szs ks) = pk ks from rfl] at this; omega
  have hl2 : zs.length ≤ 1000000 := by have := hg.shp.le; rw [show pr (szs ks) = pk ks from rfl] at this; omega
  have ND := Lib.hid (fun w4 R gq va => nc_deal w w4 R gq W v v3 back ks ll zs va h3 hg hW hW8)
  have Y := Lib.hid h2.drew
  obtain ⟨sa, sc, rfl, _⟩ := h.shape
  obtain ⟨ua0, uc0, rfl, _⟩ := h2.shape
  obtain ⟨la, lc, rfl, _⟩ := h3.shape
  have HL1 := Lib.hid hl1
  have HL2 := Lib.hid hl2
  generalize (zi (szs ks)).length = ls at *
  generalize ll.length = ln at *
  obtain ⟨zn, hzn⟩ : ∃ n, n = zs.length := ⟨_, rfl⟩
  rw [← hzn] at Y ⊢
  clear h h2 h3 hl hg hl1 hl2 hzn
  go_enter Tryd.func19, Tryd.ntmps19
  go_wp2_with fail
  refine wp_region_N [] [2, 6, 8] (fun _ => True) (by kernel_rfl) ?_
  have hS : True := trivial
  have hbd : Below w.heap.size w w.drew := below_drewN (Below.refl _ _) 1
  have HBD := Lib.hid hbd
  have hzd : w.drew.heap.size = w.heap.size := rfl
  clear hbd
  refine wpN_pure (i := 0) (v := ?_) rfl (by kernel_rfl) (by kernel_rfl) (by kernel_rfl) (by kernel_rfl) (fun _ _ _ h => h) (Or.inl ⟨by rfl, ?_⟩) (fun h => Bool.noConfusion (h.symm.trans (show _ = false by kernel_rfl))) ?_
  rotate_left
  · ((intro w' hw'; (try dsimp only at hw'); go_simp) <;> with_reducible rfl)
  simp only [Act.put, List.setIfInBounds_toArray, List.set_cons_zero, List.set_cons_succ]
  refine wpN_pure (i := 1) (v := ?_) rfl (by kernel_rfl) (by kernel_rfl) (by kernel_rfl) (by kernel_rfl) (fun _ _ _ h => h) (Or.inl ⟨by rfl, ?_⟩) (fun h => Bool.noConfusion (h.symm.trans (show _ = false by kernel_rfl))) ?_
  rotate_left
  · ((intro w' hw'; (try dsimp only at hw'); go_simp) <;> with_reducible rfl)
  simp only [Act.put, List.setIfInBounds_toArray, List.set_cons_zero, List.set_cons_succ]
  refine wpN_pure (i := 3) (v := ?_) rfl (by kernel_rfl) (by kernel_rfl) (by kernel_rfl) (by kernel_rfl) (fun _ _ _ h => h) (Or.inl ⟨by rfl, ?_⟩) (fun h => Bool.noConfusion (h.symm.trans (show _ = false by kernel_rfl))) ?_
  rotate_left
  · ((intro w' hw'; (try dsimp only at hw'); go_simp) <;> with_reducible rfl)
  simp only [Act.put, List.setIfInBounds_toArray, List.set_cons_zero, List.set_cons_succ]
  refine wpN_pure (i := 4) (v := ?_) rfl (by kernel_rfl) (by kernel_rfl) (by kernel_rfl) (by kernel_rfl) (fun _ _ _ h => h) (Or.inl ⟨by rfl, ?_⟩) (fun h => Bool.noConfusion (h.symm.trans (show _ = false by kernel_rfl))) ?_
  rotate_left
  · ((intro w' hw'; (try dsimp only at hw'); go_simp) <;> with_reducible rfl)
  simp only [Act.put, List.setIfInBounds_toArray, List.set_cons_zero, List.set_cons_succ]
  refine wpN_pure (i := 5) (v := ?_) rfl (by kernel_rfl) (by kernel_rfl) (by kernel_rfl) (by kernel_rfl) (fun _ _ _ h => h) (Or.inl ⟨by rfl, ?_⟩) (fun h => Bool.noConfusion (h.symm.trans (show _ = false by kernel_rfl))) ?_
  rotate_left
  · ((intro w' hw'; (try dsimp only at hw'); go_simp) <;> with_reducible rfl)
  simp only [Act.put, List.setIfInBounds_toArray, List.set_cons_zero, List.set_cons_succ]
  refine wpN_two (i := 2) (j := 6) rfl rfl rfl rfl (by kernel_rfl) (by kernel_rfl) (by kernel_rfl) (fun K hK => ?_) (fun K hK => ?_)
  · refine st_apU w.drew (.const (.slice none 0 0)) (.tmp 13) rfl _ zs rfl rfl Y.out HL1.out HL2.out ?_
    intro va w2 ha hb
    obtain ⟨ua, uc, rfl, _⟩ := own_shape ha
    refine hK.out _ _ ?_
    clear hK K
    have AR2 := Lib.hid ha
    have B2 := Lib.hid (HBD.out.trans hb)
    have hz2 := B2.out.size
    clear ha hb
    simp only [Act.put, List.setIfInBounds_toArray, List.set_cons_zero, List.set_cons_succ]
    refine wpN_one (i := 6) rfl rfl (by kernel_rfl) (by kernel_rfl) (fun K hK => ?_)
    refine st_mkP w2 (.tmp 17) (.tmp 17) rfl W rfl rfl (by omega) ?_
    intro gq w3 hrow hb
    refine hK.out _ _ ?_
    clear hK K
    have ROW := Lib.hid (own_mono hrow hz2)
    have AR := Lib.hid (AR2.out.below hb)
    have BW := Lib.hid (B2.out.trans (hb.mono hz2))
    have hz3 := BW.out.size
    clear hrow hb AR2 B2 hz2
    have hz2 := hz3
    simp only [Act.put, List.setIfInBounds_toArray, List.set_cons_zero, List.set_cons_succ]
    refine wpN_pure (i := 7) (v := ?_) rfl (by kernel_rfl) (by kernel_rfl) (by kernel_rfl) (by kernel_rfl) (fun _ _ _ h => h) (Or.inl ⟨by rfl, ?_⟩) (fun h => Bool.noConfusion (h.symm.trans (show _ = false by kernel_rfl))) ?_
    rotate_left
    · ((intro w' hw'; (try dsimp only at hw'); go_simp) <;> with_reducible rfl)
    simp only [Act.put, List.setIfInBounds_toArray, List.set_cons_zero, List.set_cons_succ]
    refine wpN_one (i := 8) rfl rfl (by kernel_rfl) (by kernel_rfl) (fun K hK => ?_)
    go_simp
    obtain ⟨R, hR⟩ : ∃ R, R = w3.heap.size := ⟨_, rfl⟩
    have K4 := Lib.hid (Blk.new w3 50 #[.slice sa ls sc, .slice ua zs.length uc, .slice la ln lc, .bool back, .slice (some ⟨gq, 0, none⟩) W W, .int .i64 0, .int .i64 0, .slice none 0 0, .bool false])
    have hal := (Below.refl w3.heap.size w3).alloc (Nat.le_refl _) (.cells #[.slice sa ls sc, .slice ua zs.length uc, .slice la ln lc, .bool back, .slice (some ⟨gq, 0, none⟩) W W, .int .i64 0, .int .i64 0, .slice none 0 0, .bool false] 50)
    have AR4 := Lib.hid (AR.out.below hal)
    have ROW4 := Lib.hid (own_only (S := fun _ => False) ROW.out (Only.of_below hal (fun k hk hk' => by omega)) (fun _ _ e => e))
    have B4 := Lib.hid (BW.out.trans (hal.mono hz2))
    have HRW := Lib.hid (show w.heap.size ≤ R by omega)
    rw [← hR] at K4 ⊢
    refine hK.out _ _ ?_
    clear hK K hal hR AR ROW BW hz2
    generalize w3.alloc (.cells #[.slice sa ls sc, .slice ua zs.length uc, .slice la ln lc, .bool back, .slice (some ⟨gq, 0, none⟩) W W, .int .i64 0, .int .i64 0, .slice none 0 0, .bool false] 50) = w4 at *
    refine wpN_pure (i := 9) (v := ?_) rfl (by kernel_rfl) (by kernel_rfl) (by kernel_rfl) (by kernel_rfl) (fun _ _ _ h => h) (Or.inl ⟨by rfl, ?_⟩) (fun h => Bool.noConfusion (h.symm.trans (show _ = false by kernel_rfl))) ?_
    rotate_left
    · ((intro w' hw'; (try dsimp only at hw'); go_simp) <;> with_reducible rfl)
    simp only [Act.put, List.setIfInBounds_toArray, List.set_cons_zero, List.set_cons_succ]
    refine wpN_done (by kernel_rfl) ?_
    have HC := Lib.hid (ND.out w4 R gq _ AR4.out ROW4.out B4.out K4.out HRW.out)
    go_wp2_with fail
    refine HC.out.mono ?_
    rintro e w5 ⟨rfl, hc⟩
    have HF := Lib.hid hc
    clear hc HC
    go_wp2
    go_ret
    exact ⟨R, gq, rfl, HF.out⟩
  · refine st_mkP w.drew (.tmp 17) (.tmp 17) rfl W rfl rfl (by omega) ?_
    intro gq w2 hrow hb
    refine hK.out _ _ ?_
    clear hK K
    have R2 := Lib.hid hrow
    have Y2 := Lib.hid (Y.out.below hb)
    have B2 := Lib.hid (HBD.out.trans hb)
    have hz2 := B2.out.size
    clear hrow hb
    simp only [Act.put, List.setIfInBounds_toArray, List.set_cons_zero, List.set_cons_succ]
    refine wpN_one (i := 2) rfl rfl (by kernel_rfl) (by kernel_rfl) (fun K hK => ?_)
    refine st_apU w2 (.const (.slice none 0 0)) (.tmp 13) rfl _ zs rfl rfl Y2.out HL1.out HL2.out ?_
    intro va w3 ha hb
    obtain ⟨ua, uc, rfl, _⟩ := own_shape ha
    refine hK.out _ _ ?_
    clear hK K
    have AR := Lib.hid (Oz.mono ha hz2)
    have ROW := Lib.hid (own_only (S := fun _ => False) R2.out (Only.of_below hb (fun k hk hk' => by omega)) (fun _ _ e => e))
    have BW := Lib.hid (B2.out.trans (hb.mono hz2))
    have hz3 := BW.out.size
    clear ha hb R2 Y2 B2 hz2
    have hz2 := hz3
    simp only [Act.put, List.setIfInBounds_toArray, List.set_cons_zero, List.set_cons_succ]
    refine wpN_pure (i := 7) (v := ?_) rfl (by kernel_rfl) (by kernel_rfl) (by kernel_rfl) (by kernel_rfl) (fun _ _ _ h => h) (Or.inl ⟨by rfl, ?_⟩) (fun h => Bool.noConfusion (h.symm.trans (show _ = false by kernel_rfl))) ?_
    rotate_left
    · ((intro w' hw'; (try dsimp only at hw'); go_simp) <;> with_reducible rfl)
    simp only [Act.put, List.setIfInBounds_toArray, List.set_cons_zero, List.set_cons_succ]
    refine wpN_one (i := 8) rfl rfl (by kernel_rfl) (by kernel_rfl) (fun K hK => ?_)
    go_simp
    obtain ⟨R, hR⟩ : ∃ R, R = w3.heap.size := ⟨_, rfl⟩
    have K4 := Lib.hid (Blk.new w3 50 #[.slice sa ls sc, .slice ua zs.length uc, .slice la ln lc, .bool back, .slice (some ⟨gq, 0, none⟩) W W, .int .i64 0, .int .i64 0, .slice none 0 0, .bool false])
    have hal := (Below.refl w3.heap.size w3).alloc (Nat.le_refl _) (.cells #[.slice sa ls sc, .slice ua zs.length uc, .slice la ln lc, .bool back, .slice (some ⟨gq, 0, none⟩) W W, .int .i64 0, .int .i64 0, .slice none 0 0, .bool false] 50)
    have AR4 := Lib.hid (AR.out.below hal)
    have ROW4 := Lib.hid (own_only (S := fun _ => False) ROW.out (Only.of_below hal (fun k hk hk' => by omega)) (fun _ _ e => e))
    have B4 := Lib.hid (BW.out.trans (hal.mono hz2))
    have HRW := Lib.hid (show w.heap.size ≤ R by omega)
    rw [← hR] at K4 ⊢
    refine hK.out _ _ ?_
    clear hK K hal hR AR ROW BW hz2
    generalize w3.alloc (.cells #[.slice sa ls sc, .slice ua zs.length uc, .slice la ln lc, .bool back, .slice (some ⟨gq, 0, none⟩) W W, .int .i64 0, .int .i64 0, .slice none 0 0, .bool false] 50) = w4 at *
    refine wpN_pure (i := 9) (v := ?_) rfl (by kernel_rfl) (by kernel_rfl) (by kernel_rfl) (by kernel_rfl) (fun _ _ _ h => h) (Or.inl ⟨by rfl, ?_⟩) (fun h => Bool.noConfusion (h.symm.trans (show _ = false by kernel_rfl))) ?_
    rotate_left
    · ((intro w' hw'; (try dsimp only at hw'); go_simp) <;> with_reducible rfl)
    simp only [Act.put, List.setIfInBounds_toArray, List.set_cons_zero, List.set_cons_succ]
    refine wpN_done (by kernel_rfl) ?_
    have HC := Lib.hid (ND.out w4 R gq _ AR4.out ROW4.out B4.out K4.out HRW.out)
    go_wp2_with fail
    refine HC.out.mono ?_
    rintro e w5 ⟨rfl, hc⟩
    have HF := Lib.hid hc
    clear hc HC
    go_wp2
    go_ret
    exact ⟨R, gq, rfl, HF.out⟩
end Go.Proofs.YtcakeenfkdhedaaDoor.Gm
