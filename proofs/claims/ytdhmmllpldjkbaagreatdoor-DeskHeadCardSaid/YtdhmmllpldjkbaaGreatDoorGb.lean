/- Laid together by wip/merge.py: Tk Rp Bd Nr In Hs On Hl Hr Np Oc Ap. -/
import Derived.Test.YtdhmmllpldjkbaaGreatDoorGa
import Derived.Test.YtdhmmllpldjkbaaGreatDoorPla
import Derived.Laws.BitsAllLaws
import Derived.Laws.BitsLemmas
import Derived.Deep.RegionHeld3
import Derived.Deep.AppendLies
import Derived.Laws.CopyOwn
/- (Tk) -/
namespace Go.Proofs.YtdhmmllpldjkbaaGreatDoor.Gm
open Go.RowKit
/-- a task -/
abbrev T3 := Int × Int × Int
/-- task i of a list -/
@[irreducible] def tg (l : List T3) (i : Nat) : T3 := l.getD i (0, 0, 0)
theorem tg_eq (l : List T3) (i : Nat) : tg l i = l[i]?.getD (0, 0, 0) := by unfold tg; rw [List.getD_eq_getElem?_getD]
theorem tg_lt {l : List T3} {i : Nat} (h : i < l.length) : tg l i = l[i] := by rw [tg_eq, List.getElem?_eq_getElem h]; rfl
theorem tg_snoc_lt (l : List T3) (t : T3) {i : Nat} (h : i < l.length) : tg (l ++ [t]) i = tg l i := by rw [tg_eq, tg_eq, List.getElem?_append_left h]
theorem tg_snoc_at (l : List T3) (t : T3) : tg (l ++ [t]) l.length = t := by rw [tg_eq]; simp
theorem tg_take (l : List T3) {n i : Nat} (h : i < n) : tg (l.take n) i = tg l i := by rw [tg_eq, tg_eq, List.getElem?_take_of_lt h]
theorem tg_drop (l : List T3) (n i : Nat) : tg (l.drop n) i = tg l (n + i) := by rw [tg_eq, tg_eq, List.getElem?_drop]
/-- a task's value; its cells -/
def tk (t : T3) : Value := .agg #[.int .i64 t.1, .int .i64 t.2.1, .int .i64 t.2.2]
theorem tk_one (x y z : Int) : (#[Value.int .i64 x, Value.int .i64 y, Value.int .i64 z].all (·.oneCell')) = true := by simp [Value.oneCell']
def tc (t : T3) : List Value := [.int .i64 t.1, .int .i64 t.2.1, .int .i64 t.2.2]
def tcs (l : List T3) : List Value := l.flatMap tc
theorem tcs_len (l : List T3) : (tcs l).length = l.length * 3 := by
  induction l with
  | nil => rfl
  | cons t l ih => show (tc t ++ tcs l).length = _; rw [List.length_append, ih, List.length_cons]; show 3 + _ = _; omega
theorem tcs_append (l m : List T3) : tcs (l ++ m) = tcs l ++ tcs m := by unfold tcs; rw [List.flatMap_append]
theorem tcs_one (t : T3) : tcs [t] = tc t := by simp [tcs]
theorem tcs_get (l : List T3) (i : Nat) (h : i < l.length) : (tcs l)[i * 3]? = some (.int .i64 (tg l i).1) ∧ (tcs l)[i * 3 + 1]? = some (.int .i64 (tg l i).2.1) ∧ (tcs l)[i * 3 + 2]? = some (.int .i64 (tg l i).2.2) := by
  induction l generalizing i with
  | nil => exact absurd h (by simp)
  | cons t l ih =>
    have e : tcs (t :: l) = tc t ++ tcs l := rfl
    have h3 : (tc t).length = 3 := rfl
    cases i with
    | zero =>
      rw [e, tg_eq]
      exact ⟨rfl, rfl, rfl⟩
    | succ i =>
      have := ih i (by simpa using h)
      rw [e, List.getElem?_append_right (by rw [h3]; omega), List.getElem?_append_right (by rw [h3]; omega), List.getElem?_append_right (by rw [h3]; omega), h3]
      rw [show (i + 1) * 3 - 3 = i * 3 by omega, show (i + 1) * 3 + 1 - 3 = i * 3 + 1 by omega, show (i + 1) * 3 + 2 - 3 = i * 3 + 2 by omega]
      have et : tg (t :: l) (i + 1) = tg l i := by rw [tg_eq, tg_eq]; rfl
      rw [et]
      exact this
theorem tcs_take (l : List T3) (n : Nat) : tcs (l.take n) = (tcs l).take (n * 3) := by
  induction l generalizing n with
  | nil => simp [tcs]
  | cons t l ih =>
    cases n with
    | zero => simp [tcs]
    | succ n =>
      show tc t ++ tcs (l.take n) = (tc t ++ tcs l).take _
      rw [ih, List.take_append]
      have h3 : (tc t).length = 3 := rfl
      rw [List.take_of_length_le (l := tc t) (by rw [h3]; omega), h3, show (n + 1) * 3 - 3 = n * 3 by omega]
theorem tcs_drop (l : List T3) (n : Nat) : tcs (l.drop n) = (tcs l).drop (n * 3) := by
  induction l generalizing n with
  | nil => simp [tcs]
  | cons t l ih =>
    cases n with
    | zero => simp
    | succ n =>
      show tcs (l.drop n) = (tc t ++ tcs l).drop _
      rw [ih, List.drop_append]
      have h3 : (tc t).length = 3 := rfl
      rw [List.drop_of_length_le (l := tc t) (by rw [h3]; omega), h3, List.nil_append, show (n + 1) * 3 - 3 = n * 3 by omega]
/-- a list of tasks of the call's own -/
def Ot (B : Nat) (w : World) (v : Value) (l : List T3) : Prop := w.ownsRow B 108 3 v l.length (tcs l)
theorem Ot.nil (B : Nat) (w : World) : Ot B w (.slice none 0 0) [] := World.ownsRow_nil _ _ _ _
theorem Ot.only {S : Nat → Prop} {B : Nat} {w w' : World} {v : Value} {l : List T3} (h : Ot B w v l) (ho : Only S w w') (hs : ∀ k, v.ownBlock = some k → ¬ S k) : Ot B w' v l := own_only h ho hs
theorem Ot.below {B : Nat} {w w' : World} {v : Value} {l : List T3} (h : Ot B w v l) (hb : Below w.heap.size w w') : Ot B w' v l :=
  own_only (S := fun _ => False) h (Only.of_below hb (fun k hk hk' => by omega)) (fun _ _ e => e)
theorem Ot.mono {B B' : Nat} {w : World} {v : Value} {l : List T3} (h : Ot B w v l) (hB : B' ≤ B) : Ot B' w v l := by
  refine ⟨h.1, ?_⟩
  rcases h.2 with h0 | ⟨g, cap, cur, e, hb, rest⟩
  · exact .inl h0
  · exact .inr ⟨g, cap, cur, e, by omega, rest⟩
theorem Ot.lt {B : Nat} {w : World} {v : Value} {l : List T3} (h : Ot B w v l) : ∀ g, v.ownBlock = some g → B ≤ g ∧ g < w.heap.size := World.ownsRow.lt h
theorem Ot.shape {B : Nat} {w : World} {v : Value} {l : List T3} (h : Ot B w v l) : ∃ a cap, v = .slice a l.length cap ∧ l.length ≤ cap ∧ cap ≤ 9223372036854775807 ∧ (0 < l.length → ∃ g, a = some ⟨g, 0, none⟩) := by
  rcases h.2 with ⟨rfl, h0⟩ | ⟨g, cap, cur, rfl, hb, hg, hn, hm, hs, ht⟩
  · rw [h0]; exact ⟨none, 0, rfl, by simp, by omega, fun h => absurd h (by omega)⟩
  · exact ⟨_, cap, rfl, hn, by unfold maxLen at hm; omega, fun _ => ⟨g, rfl⟩⟩
theorem Ot.shapeN {B : Nat} {w : World} {v : Value} {l : List T3} (h : Ot B w v l) : ∃ a cap N, v = .slice a N cap ∧ N = l.length ∧ N ≤ cap ∧ cap ≤ 9223372036854775807 ∧ (0 < N → ∃ g, a = some ⟨g, 0, none⟩) := by
  obtain ⟨a, cap, h1, h2, h3, h4⟩ := h.shape
  exact ⟨a, cap, l.length, h1, rfl, h2, h3, h4⟩
theorem Ot.cell {B g n cap : Nat} {w : World} {l : List T3} (h : Ot B w (.slice (some ⟨g, 0, none⟩) n cap) l) {i : Nat} (hi : i < l.length) :
    w.cell? ⟨g, i * 3, none⟩ = some (.int .i64 (tg l i).1) ∧ w.cell? ⟨g, i * 3 + 1, none⟩ = some (.int .i64 (tg l i).2.1) ∧ w.cell? ⟨g, i * 3 + 2, none⟩ = some (.int .i64 (tg l i).2.2) := by
  have hn : n = l.length := by
    obtain ⟨a, c, e, _⟩ := Ot.shape h
    injection e
  subst hn
  have hg := tcs_get l i hi
  refine ⟨?_, ?_, ?_⟩ <;> rw [World.ownsRow.cellAt h _ (by omega)]
  · exact hg.1
  · exact hg.2.1
  · exact hg.2.2
/-- the first n of them -/
theorem Ot.take {B g m cap : Nat} {w : World} {l : List T3} (h : Ot B w (.slice (some ⟨g, 0, none⟩) m cap) l) (n : Nat) (hn : n ≤ l.length) : Ot B w (.slice (some ⟨g, 0, none⟩) n cap) (l.take n) := by
  have hl : (l.take n).length = n := by rw [List.length_take]; omega
  refine ⟨by rw [hl, tcs_len, hl], ?_⟩
  rcases h.2 with ⟨e, _⟩ | ⟨g', cap', cur, e, hb, hg, hnc, hm, hs, ht⟩
  · injection e with e; cases e
  · injection e with e1 e2 e3
    subst e3
    injection e1 with e1
    injection e1 with e1
    subst e1
    refine .inr ⟨g, cap, cur, by rw [hl], hb, hg, by omega, hm, hs, ?_⟩
    rw [hl, tcs_take, ← ht, List.take_take]
    congr 1; omega
/-- a slice of tasks reads as a list -/
def Rk (w : World) (v : Value) (l : List T3) : Prop :=
  ∃ a cap b off, v = .slice a l.length cap ∧ l.length ≤ cap ∧ cap ≤ 9223372036854775807 ∧ (l.length ≤ 0 ∨ a = some ⟨b, off, none⟩) ∧
    ∀ i, i < l.length → w.cell? ⟨b, off + i * 3, none⟩ = some (.int .i64 (tg l i).1) ∧ w.cell? ⟨b, off + i * 3 + 1, none⟩ = some (.int .i64 (tg l i).2.1) ∧ w.cell? ⟨b, off + i * 3 + 2, none⟩ = some (.int .i64 (tg l i).2.2)
theorem Rk.of_cells {w w' : World} {v : Value} {l : List T3} (h : Rk w v l) (hc : ∀ b o, b < w.heap.size → w'.cell? ⟨b, o, none⟩ = w.cell? ⟨b, o, none⟩) : Rk w' v l := by
  obtain ⟨a, cap, b, off, e, h1, h2, h3, hx⟩ := h
  refine ⟨a, cap, b, off, e, h1, h2, h3, fun i hi => ?_⟩
  have := hx i hi
  rw [hc b _ (World.block_lt_of_cell? w _ this.1), hc b _ (World.block_lt_of_cell? w _ this.2.1), hc b _ (World.block_lt_of_cell? w _ this.2.2)]
  exact this
theorem Rk.below {w w' : World} {v : Value} {l : List T3} (h : Rk w v l) (hb : Below w.heap.size w w') : Rk w' v l :=
  h.of_cells (fun b o hlt => hb.cell (p := ⟨b, o, none⟩) hlt)
theorem Rk.shape {w : World} {v : Value} {l : List T3} (h : Rk w v l) : ∃ a cap, v = .slice a l.length cap ∧ l.length ≤ cap ∧ cap ≤ 9223372036854775807 := by
  obtain ⟨a, cap, b, off, e, h1, h2, h3, hx⟩ := h
  exact ⟨a, cap, e, h1, h2⟩
theorem Rk.nil (w : World) : Rk w (.slice none 0 0) [] := ⟨none, 0, 0, 0, rfl, by simp, by omega, .inl (Nat.le_refl _), by simp⟩
theorem Ot.rk {B : Nat} {w : World} {v : Value} {l : List T3} (h : Ot B w v l) : Rk w v l := by
  have h' := h
  rcases h.2 with ⟨rfl, h0⟩ | ⟨g, cap, cur, rfl, hb, hg, hn, hm, hs, ht⟩
  · have : l = [] := List.length_eq_zero_iff.1 h0
    subst this; exact Rk.nil _
  · refine ⟨some ⟨g, 0, none⟩, cap, g, 0, rfl, by simpa using hn, by unfold maxLen at hm; omega, .inr rfl, fun i hi => ?_⟩
    simp only [Nat.zero_add]
    exact Ot.cell h' hi
theorem info_task : (Tryz.prog.info? 108).map (fun i => (i.zero, i.size, i.bytes)) = some (some (.agg #[.int .i64 0, .int .i64 0, .int .i64 0]), 3, 24) := by kernel_rfl
/-- append of a task -/
theorem wl_appT (ts : TypeId) (hu : Tryz.prog.underlying ts = some (.slice 108)) {ops : Array Oper} {rest : List Oper} {o : Oper} {a : Act} {Q : Exit → Act → World → Prop} (w : World) (hgd : o.guard = none) (s x : Operand)
    (ho : o.op = .call { callee := .builtin .append, args := #[s, x], argTypes := #[ts, ts] })
    (B : Nat) (v : Value) (l : List T3) (x0 x1 x2 : Int) (hs : a.eval s = v) (hx : a.eval x = .slice (some ⟨w.heap.size, 0, none⟩) 1 1)
    (hown : Ot B w v l) (hB : B ≤ w.heap.size) (hl : l.length ≤ 1000000)
    (h : ∀ v' w', Ot B w' v' (l ++ [(x0, x1, x2)]) → Only (fun k => v.ownBlock = some k) w w' → (v'.ownBlock = v.ownBlock ∨ ∃ g, v'.ownBlock = some g ∧ w.heap.size ≤ g) → wpList Tryz.prog ops Q rest (a.put o.dst v') w') :
    wpList Tryz.prog ops Q (o :: rest) a (w.alloc (.cells #[.int .i64 x0, .int .i64 x1, .int .i64 x2] 108)) := by
  obtain ⟨i0, hi, hz0, hz1, hz2⟩ := info_parts info_task
  have hmx : l.length + 1 ≤ maxLen := by unfold maxLen; omega
  refine wpList_append_own_at _ hgd s x ts ho B 108 i0 (.agg #[.int .i64 0, .int .i64 0, .int .i64 0]) 3 24 hu hi hz0 hz1 hz2 rfl (by decide) v l.length (tcs l) hs (World.ownsRow.alloc hown _) ⟨w.heap.size, 0, none⟩ 1 1 [.int .i64 x0, .int .i64 x1, .int .i64 x2] hx rfl ?_ ?_ hmx (by omega) (by simp; omega) ?_
  · intro j u hj
    have e : (Addr.add ⟨w.heap.size, 0, none⟩ j : Addr) = ⟨w.heap.size, j, none⟩ := by unfold Addr.add; by_cases h0 : j = 0 <;> simp [h0]
    rw [e, World.cell?_alloc_at _ _ _ _ rfl]
    rw [← hj]
    simp
  · intro u hu
    simp only [List.mem_cons, List.not_mem_nil, or_false] at hu
    rcases hu with rfl | rfl | rfl <;> rfl
  · intro v' w' hown' hgrow _ hat
    refine h v' w' ?_ ?_ ?_
    · unfold Ot
      rw [tcs_append, tcs_one, List.length_append, List.length_singleton]
      exact hown'
    · exact ((Only.refl _ w).alloc _).trans2 (Only.of_grown (S := fun k => v.ownBlock = some k) hgrow (fun _ e => e)) (fun _ _ e => e)
    · rcases hat with e | e
      · exact .inl e
      · exact .inr ⟨_, e, by simp⟩
theorem Ot.tail {B g m cq : Nat} {w : World} {l : List T3} (h : Ot B w (.slice (some ⟨g, 0, none⟩) (m + 1) cq) l) : Rk w (.slice (some ⟨g, 3, none⟩) m (cq - 1)) l.tail ∧ m + 1 = l.length ∧ m + 1 ≤ cq := by
  obtain ⟨a, cap, N, e, hN, hc, hm, _⟩ := h.shapeN
  injection e with e1 e2 e3
  subst e3; subst e2
  have hl : l.tail.length = m := by rw [List.length_tail]; omega
  refine ⟨⟨some ⟨g, 3, none⟩, cq - 1, g, 3, by rw [hl], by omega, by omega, .inr rfl, fun i hi => ?_⟩, hN, hc⟩
  have h1 := h.cell (i := i + 1) (by omega)
  have e : tg l.tail i = tg l (i + 1) := by rw [tg_eq, tg_eq]; cases l <;> simp
  rw [e]
  rw [show 3 + i * 3 = (i + 1) * 3 by omega]
  exact h1
end Go.Proofs.YtdhmmllpldjkbaaGreatDoor.Gm
/- (Rp) -/
namespace Go.Proofs.YtdhmmllpldjkbaaGreatDoor.Gm
open Go.RowKit
def CntB (m : Nat) (w : World) (i : Value) (wr : World) : Prop := ∃ k : Nat, k ≤ m ∧ i = .int .i64 k ∧ Below w.heap.size w wr
theorem at_lt (zs : List Int) (v : Value) (k : Nat) (w : World) (h : Rd .u64 w v zs) (hz : B64 zs) (hk : k < zs.length) :
    Calls Tryz.prog 73 #[v, .int .i64 k] w fun e w' => e = .returned (.int .u64 (vl (cf (zs.map toF) k))) ∧ w = w' := by
  obtain ⟨a, cap, b, off, rfl, hcap, hm, hx, hc⟩ := h
  rcases hx with rfl | rfl
  · simp at hk
  · have hck := hc k hk
    have hb := hz.get k
    have He := Lib.hid (cf_map zs k)
    clear hc
    go_enter Tryz.func73, Tryz.ntmps73
    go_wp2_with fail
    refine (rnorm_any _ _ hb.1 hb.2).mono ?_
    rintro e w' ⟨rfl, rfl⟩
    go_wp2
    go_ret
    exact ⟨by rw [He.out]; rfl, rfl⟩
theorem at_ge (zs : List Int) (v : Value) (k : Nat) (w : World) (h : Rd .u64 w v zs) (hk : zs.length ≤ k) (_hk2 : k ≤ 1000000000) :
    Calls Tryz.prog 73 #[v, .int .i64 k] w fun e w' => e = .returned (.int .u64 (vl (cf (zs.map toF) k))) ∧ w = w' := by
  obtain ⟨a, cap, b, off, rfl, hcap, hm, hx, hc⟩ := h
  have He : vl (cf (zs.map toF) k) = 0 := by rw [cf_ge (by simpa using hk), vl_zero]
  have H := Lib.hid He
  clear hx hc He
  go_enter Tryz.func73, Tryz.ntmps73
  go_wp2
  go_ret
  exact ⟨by rw [H.out]; rfl, rfl⟩
theorem at_any (zs : List Int) (v : Value) (k : Nat) (w : World) (h : Rd .u64 w v zs) (hz : B64 zs) (hk2 : k ≤ 1000000000) :
    Calls Tryz.prog 73 #[v, .int .i64 k] w fun e w' => e = .returned (.int .u64 (vl (cf (zs.map toF) k))) ∧ w = w' := by
  by_cases hk : k < zs.length
  · exact at_lt zs v k w h hz hk
  · exact at_ge zs v k w h (by omega) hk2
def REvalRel (l : List F) (x : F) (out power i : Value) : Prop := ∃ k : Nat, k ≤ l.length ∧ i = .int .i64 k ∧ out = .int .u64 (vl (ev k (cf l) x)) ∧ power = .int .u64 (vl (x ^ k))
theorem rmul_xF (x : Int) (y : F) (w : World) (hx0 : 0 ≤ x) (hx1 : x < 18446744073709551616) :
    Calls Tryz.prog 72 #[.int .u64 x, .int .u64 (vl y)] w fun e w' => e = .returned (.int .u64 (vl (toF x * y))) ∧ w = w' := by
  have h := rmul_any x (vl y) w hx0 hx1 (vl_lo y) (vl_64 y)
  rwa [toF_vl] at h
set_option maxHeartbeats 1000000 in
theorem reval_any (zs : List Int) (v : Value) (x : Int) (w : World) (h : Rd .u64 w v zs) (hz : B64 zs) (hx0 : 0 ≤ x) (hx1 : x < 18446744073709551616) :
    Calls Tryz.prog 105 #[v, .int .u64 x] w fun e w' => e = .returned (.int .u64 (vl (evl (zs.map toF) (toF x)))) ∧ w = w' := by
  obtain ⟨a, cap, b, off, rfl, hcap, hm, hx, hc⟩ := h
  obtain ⟨fs, hfs⟩ : ∃ fs, fs = zs.map toF := ⟨_, rfl⟩
  have hlen : fs.length = zs.length := by rw [hfs, List.length_map]
  have hget : ∀ i, cf fs i = toF (gd zs i) := fun i => by rw [hfs, cf_map]
  rw [← hfs]
  have Hlen := Lib.hid hlen
  have Hget := Lib.hid hget
  have Hc := Lib.hid hc
  clear hfs hlen hget hc
  rcases hx with hx | rfl
  · subst hx
    obtain rfl : fs = [] := List.length_eq_zero_iff.1 (by rw [Hlen.out]; rfl)
    clear Hc Hget Hlen
    go_enter Tryz.func105, Tryz.ntmps105
    go_wp2
    refine wp_loop_rounds 1 ?_
    rw [rounds_succ]
    go_wp2
    go_ret
    exact ⟨by rw [evl_nil, vl_zero]; rfl, rfl⟩
  · go_enter Tryz.func105, Tryz.ntmps105
    go_wp2
    go_loop [5, 6, 7] (fun out p i => REvalRel fs (toF x) out p i) (fun _ _ i => zs.length - (intOf i).toNat)
    case atStart => exact ⟨0, by omega, rfl, by show _ = Value.int .u64 (vl 0); rw [vl_zero], by rw [pow_zero, vl_one]⟩
    case round =>
      obtain ⟨k, hk, rfl, rfl, rfl⟩ := hrel
      have hk2 : k ≤ zs.length := by rw [← Hlen.out]; exact hk
      by_cases hlt : k < zs.length
      · have hck := Hc.out k hlt
        have hb := hz.get k
        have hk3 : k < fs.length := by rw [Hlen.out]; exact hlt
        have HG := Lib.hid (Hget.out k)
        go_wp2_with fail
        refine (rmul_xF _ _ _ hb.1 hb.2).mono ?_
        rintro e w' ⟨rfl, rfl⟩
        go_wp2_with fail
        refine (radd_F _ _ _).mono ?_
        rintro e w' ⟨rfl, rfl⟩
        go_wp2_with fail
        refine (rmul_Fa _ x _ hx0 hx1).mono ?_
        rintro e w' ⟨rfl, rfl⟩
        go_wp2
        go_round
        case rel => exact ⟨k + 1, by omega, by go_num, by rw [← HG.out]; rfl, by rw [pow_succ]⟩
        case measure => simp [intOf] <;> omega
      · have hkl : k = zs.length := by omega
        have Hk := Lib.hid hkl
        clear hkl
        go_wp2
        go_ret
        exact ⟨by unfold evl; rw [Hlen.out, ← Hk.out]; rfl, rfl⟩
def SumRel (B : Nat) (w : World) (l : List F) (n : Nat) (v i : Value) (wr : World) : Prop :=
  ∃ k : Nat, k ≤ n ∧ i = .int .i64 k ∧ Ow B wr v (l.take k) ∧ Below B w wr
end Go.Proofs.YtdhmmllpldjkbaaGreatDoor.Gm
/- (Bd) -/
namespace Go.Proofs.YtdhmmllpldjkbaaGreatDoor.Gm
open Go.RowKit
theorem u64_bounds {a : Int} (h : (Lit.int .u64 a).wf = true) : 0 ≤ a ∧ a < 18446744073709551616 := by
  have : 0 ≤ a ∧ a ≤ 18446744073709551615 := by simpa [Lit.wf, IntKind.min, IntKind.max, IntKind.signed, IntKind.bits] using h
  omega
theorem i64_bounds {a : Int} (h : (Lit.int .i64 a).wf = true) : -9223372036854775808 ≤ a ∧ a ≤ 9223372036854775807 := by
  simpa [Lit.wf, IntKind.min, IntKind.max, IntKind.signed, IntKind.bits] using h
theorem vl_minus : vl (-1) = 18446744069414584320 := by
  have : (-1 : F) = 0 - 1 := by grind
  rw [this, vl_sub, vl_zero, vl_one]; rfl
theorem root_one : root 1 = -1 := by
  have h := root_half 0 (by omega)
  rw [Nat.pow_zero, show (1:Nat) = 0 + 1 from rfl, pow_succ, pow_zero] at h
  rw [← h]; show root 1 = 1 * root 1; grind
theorem root_anyZ (z : Int) (k : Nat) (w : World) (h : k ≤ 32) (hz : z = k) :
    Calls Tryz.prog 35 #[.int .i64 z] w fun e w' => e = .returned (.tuple #[.int .u64 (vl (root k)), .int .i64 0]) ∧ w = w' := by
  subst hz; exact root_any k w h
theorem pow_anyZ (a z : Int) (n : Nat) (w : World) (ha0 : 0 ≤ a) (ha1 : a < 18446744073709551616) (hn : n < 18446744073709551616) (hz : z = n) :
    Calls Tryz.prog 67 #[.int .u64 a, .int .u64 z] w fun e w' => e = .returned (.int .u64 (vl (toF a ^ n))) ∧ w = w' := by
  subst hz; exact pow_any a n w ha0 ha1 hn
theorem pow_64 (j : Nat) (h : j < 64) : 2 ^ j < 18446744073709551616 := Nat.pow_lt_pow_right (by omega) h
theorem wrap_pow (j : Nat) (h : j < 64) : IntKind.u64.wrap (2 ^ j) = ((2 ^ j : Nat) : Int) := by
  have h1 := pow_64 j h
  have e : ((2 : Int) ^ j) = ((2 ^ j : Nat) : Int) := by rw [Int.natCast_pow]; rfl
  rw [e]
  generalize 2 ^ j = q at h1 ⊢
  exact IntWalk.u64_in _ (by omega)
end Go.Proofs.YtdhmmllpldjkbaaGreatDoor.Gm
/- (Nr) -/
namespace Go.Proofs.YtdhmmllpldjkbaaGreatDoor.Gm
open Go.RowKit
set_option linter.unusedVariables false
theorem wrap_two (j : Nat) (h : j ≤ 60) : IntKind.i64.wrap (2 ^ j) = ((2 ^ j : Nat) : Int) := by
  have h1 : 2 ^ j ≤ 2 ^ 60 := Nat.pow_le_pow_right (by omega) h
  have e : ((2 : Int) ^ j) = ((2 ^ j : Nat) : Int) := by rw [Int.natCast_pow]; rfl
  rw [e]
  generalize 2 ^ j = q at h1 ⊢
  exact IntWalk.i64_in _ (by omega)
/-- what Log answers -/
def LogAns (n : Int) (e : Ending) : Prop := (∃ k : Nat, k ≤ 10 ∧ n = ((2 ^ k : Nat) : Int) ∧ e = .returned (.int .i64 k)) ∨ ((∀ k : Nat, k ≤ 10 → n ≠ ((2 ^ k : Nat) : Int)) ∧ e = .returned (.int .i64 (-1)))
set_option maxHeartbeats 1000000 in
theorem rlog_any (n : Int) (w : World) (h0 : -9223372036854775808 ≤ n) (h1 : n ≤ 9223372036854775807) :
    Calls Tryz.prog 42 #[.int .i64 n] w fun e w' => LogAns n e ∧ w = w' := by
  go_enter Tryz.func42, Tryz.ntmps42
  go_wp2
  go_loop [3] (fun i => ∃ j : Nat, j ≤ 11 ∧ i = .int .i64 j ∧ ∀ k : Nat, k < j → n ≠ ((2 ^ k : Nat) : Int)) (fun i => 11 - (intOf i).toNat)
  case atStart => exact ⟨0, by omega, rfl, fun k hk => absurd hk (by omega)⟩
  case round =>
    obtain ⟨j, hj, rfl, hno⟩ := hrel
    have NO := Lib.hid hno
    clear hno
    by_cases hjl : j ≤ 10
    · have e1 := wrap_two j (by omega)
      have e2 : IntKind.i64.wrap (1 * 2 ^ j) = ((2 ^ j : Nat) : Int) := by rw [Int.one_mul]; exact e1
      by_cases he : n = ((2 ^ j : Nat) : Int)
      · have FIN := Lib.hid (show LogAns n (.returned (.int .i64 j)) from .inl ⟨j, hjl, he, rfl⟩)
        have hb : (n == ((2 ^ j : Nat) : Int)) = true := by simpa using he
        generalize ((2 ^ j : Nat) : Int) = p at *
        clear he
        go_wp2
        go_ret
        exact ⟨FIN.out, rfl⟩
      · have hb : (n == ((2 ^ j : Nat) : Int)) = false := by simpa using he
        have NX := Lib.hid (show ∀ k : Nat, k < j + 1 → n ≠ ((2 ^ k : Nat) : Int) from fun k hk => by
          by_cases hkj : k = j
          · subst hkj; exact he
          · exact NO.out k (by omega))
        generalize ((2 ^ j : Nat) : Int) = p at *
        clear he
        go_wp2
        go_round
        case rel => exact ⟨j + 1, by omega, by go_num, NX.out⟩
        case measure => simp [intOf]; omega
    · obtain rfl : j = 11 := by omega
      go_wp2
      go_ret
      exact ⟨.inr ⟨fun k hk => NO.out k (by omega), rfl⟩, rfl⟩
theorem pow2_inj {a b : Nat} (h : ((2 ^ a : Nat) : Int) = ((2 ^ b : Nat) : Int)) : a = b := by
  have h' : 2 ^ a = 2 ^ b := by omega
  exact (Nat.pow_right_inj (by omega)).1 h'
theorem rlog_pow (k : Nat) (n : Int) (w : World) (hk : k ≤ 10) (hn : n = ((2 ^ k : Nat) : Int)) :
    Calls Tryz.prog 42 #[.int .i64 n] w fun e w' => e = .returned (.int .i64 k) ∧ w = w' := by
  have h1 : 2 ^ k ≤ 2 ^ 10 := Nat.pow_le_pow_right (by omega) hk
  have h2 : n ≤ 1024 ∧ 0 ≤ n := by rw [hn]; generalize 2 ^ k = q at *; omega
  refine (rlog_any n w (by omega) (by omega)).mono ?_
  rintro e w' ⟨⟨j, hj, he, rfl⟩ | ⟨hno, _⟩, rfl⟩
  · rw [hn] at he
    rw [pow2_inj he]
    exact ⟨rfl, rfl⟩
  · exact absurd hn (hno k hk)
/-- a list transformed -/
def trL (back : Bool) (k : Nat) (l : List F) : List F := (List.range (2 ^ k)).map (tr back k (cf l))
theorem trL_len (back : Bool) (k : Nat) (l : List F) : (trL back k l).length = 2 ^ k := by simp [trL]
theorem cf_trL (back : Bool) (k : Nat) (l : List F) {j : Nat} (hj : j < 2 ^ k) : cf (trL back k l) j = tr back k (cf l) j := cf_ofFn _ hj
@[irreducible] def trTo (back : Bool) (k : Nat) (l : List F) (m : Nat) : List F := (List.range m).map (tr back k (cf l))
theorem trTo_zero (back : Bool) (k : Nat) (l : List F) : trTo back k l 0 = [] := by unfold trTo; rfl
theorem trTo_succ (back : Bool) (k : Nat) (l : List F) (m : Nat) : trTo back k l (m + 1) = trTo back k l m ++ [tr back k (cf l) m] := by unfold trTo; rw [List.range_succ, List.map_append]; rfl
theorem trTo_len (back : Bool) (k : Nat) (l : List F) (m : Nat) : (trTo back k l m).length = m := by unfold trTo; simp
theorem trTo_full (back : Bool) (k : Nat) (l : List F) : trTo back k l (2 ^ k) = trL back k l := by unfold trTo trL; rfl
theorem evl_dft {k : Nat} {l : List F} (hl : l.length = 2 ^ k) (w : F) (j : Nat) : evl l (w ^ j) = dft (2 ^ k) w (cf l) j := by unfold evl dft; rw [hl]
def FwRel (w : World) (back : Bool) (k n : Nat) (l : List F) (v : F) (out st j : Value) (wr : World) : Prop :=
  ∃ m : Nat, m ≤ n ∧ j = .int .i64 m ∧ st = .int .u64 (vl (v ^ m)) ∧ Ow w.heap.size wr out (trTo back k l m) ∧ Below w.heap.size w wr
theorem rinvF (x : F) (w : World) (hx : x ≠ 0) : Calls Tryz.prog 77 #[.int .u64 (vl x)] w fun e w' => e = .returned (.int .u64 (vl (inv x))) ∧ w = w' := by
  have h := rinv_any (vl x) w (vl_lo _) (vl_64 _) (by rw [toF_vl]; exact hx)
  rwa [toF_vl] at h
set_option maxHeartbeats 2000000 in
theorem rfwd_any (k : Nat) (zs : List Int) (v : Value) (w : World) (h : Rd .u64 w v zs) (hz : B64 zs) (hk : k ≤ 10) (hl : zs.length = 2 ^ k) :
    Calls Tryz.prog 80 #[v] w (RetL w (trL false k (zs.map toF))) := by
  have hk2 : 2 ^ k ≤ 2 ^ 10 := Nat.pow_le_pow_right (by omega) hk
  have HR := Lib.hid h
  obtain ⟨a, cap, rfl, hcap, hm⟩ := h.shape
  have HL := Lib.hid hl
  have hln : zs.length ≤ 1024 := by omega
  have TR := Lib.hid (fun j => (tr_fwd k (cf (zs.map toF)) j).trans (evl_dft (by rw [List.length_map]; exact HL.out) (root k) j).symm)
  clear h hl
  go_enter Tryz.func80, Tryz.ntmps80
  go_wp2_with fail
  refine (rlog_pow k _ _ hk (by rw [HL.out])).mono ?_
  rintro e w' ⟨rfl, rfl⟩
  go_wp2_with fail
  refine (rroot_any k _ (by omega)).mono ?_
  rintro e w' ⟨rfl, rfl⟩
  go_wp2
  go_loopw [4, 5, 6] (fun out st j wr => FwRel w false k zs.length (zs.map toF) (root k) out st j wr) (fun _ _ j _ => zs.length - (intOf j).toNat)
  case atStart => exact ⟨0, Nat.zero_le _, rfl, by rw [pow_zero, vl_one], by rw [trTo_zero]; exact Ow.nil _ _, Below.refl _ _⟩
  case round =>
    obtain ⟨m, hm1, rfl, rfl, hout, hbel⟩ := hrel
    have OO := Lib.hid hout
    have HB := Lib.hid hbel
    have hwsz := hbel.size
    clear hout hbel
    by_cases hml : m < zs.length
    · have TL := Lib.hid (trTo_len false k (zs.map toF) m)
      have TS := Lib.hid (trTo_succ false k (zs.map toF) m)
      go_wp2_with fail
      refine (reval_any zs _ (vl (root k ^ m)) _ (HR.out.below HB.out) hz (vl_lo _) (vl_64 _)).mono ?_
      rintro e w' ⟨rfl, rfl⟩
      rw [toF_vl, ← TR.out]
      have hll : (trTo false k (zs.map toF) m).length ≤ 1000000 := by rw [TL.out]; omega
      obtain ⟨y, hy⟩ : ∃ y, y = tr false k (cf (zs.map toF)) m := ⟨_, rfl⟩
      rw [← hy] at TS ⊢
      clear hy
      go_wp2_with (at_builtin; refine wl_app _ rfl (.tmp 17) (.tmp 21) rfl w.heap.size _ (trTo false k (zs.map toF) m) _ w rfl rfl OO.out HB.out hwsz hll ?_)
      intro v3 w3 hown3 hbel3
      go_wp2_with fail
      refine (rmul_F (root k ^ m) (root k) _).mono ?_
      rintro e w' ⟨rfl, rfl⟩
      rw [← pow_succ]
      have O3 := Lib.hid hown3
      have B3 := Lib.hid hbel3
      clear hown3 hbel3
      go_wp2
      go_roundw
      case rel => exact ⟨m + 1, by omega, by go_num, rfl, by rw [TS.out]; exact O3.out, B3.out⟩
      case measure => simp [intOf] <;> omega
    · obtain rfl : m = zs.length := by omega
      have O9 := OO.out
      rw [HL.out, trTo_full] at O9
      have O9 := Lib.hid O9
      go_wp2
      go_ret
      exact ⟨_, rfl, O9.out, HB.out⟩
theorem cast_pow_ne {k : Nat} (hk : k ≤ 10) : cast (2 ^ k) ≠ 0 := cast_ne _ (Nat.two_pow_pos k) (pow_20 (by omega))
set_option maxHeartbeats 2000000 in
theorem rbwd_abs (k : Nat) (zs : List Int) (v : Value) (w : World) (h : Rd .u64 w v zs) (hz : B64 zs) (hk : k ≤ 10) (hl : zs.length = 2 ^ k) (r q c : F)
    (h1 : ∀ w, Calls Tryz.prog 78 #[.int .i64 k] w fun e w' => e = .returned (.int .u64 (vl r)) ∧ w = w')
    (h2 : ∀ w, Calls Tryz.prog 77 #[.int .u64 (vl r)] w fun e w' => e = .returned (.int .u64 (vl q)) ∧ w = w')
    (h3 : ∀ w, Calls Tryz.prog 77 #[.int .u64 (zs.length : Int)] w fun e w' => e = .returned (.int .u64 (vl c)) ∧ w = w')
    (h4 : ∀ j, tr true k (cf (zs.map toF)) j = c * evl (zs.map toF) (q ^ j)) :
    Calls Tryz.prog 79 #[v] w (RetL w (trL true k (zs.map toF))) := by
  have hk2 : 2 ^ k ≤ 2 ^ 10 := Nat.pow_le_pow_right (by omega) hk
  have HR := Lib.hid h
  obtain ⟨a, cap, rfl, hcap, hm⟩ := h.shape
  have HL := Lib.hid hl
  have hln : zs.length ≤ 1024 := by omega
  have TR := Lib.hid h4
  have C1 := Lib.hid h1
  have C2 := Lib.hid h2
  have C3 := Lib.hid h3
  have ew : IntKind.u64.wrap (zs.length : Int) = (zs.length : Int) := IntWalk.u64_in _ (by omega)
  clear h hl h1 h2 h3 h4
  go_enter Tryz.func79, Tryz.ntmps79
  go_wp2_with fail
  refine (rlog_pow k _ _ hk (by rw [HL.out])).mono ?_
  rintro e w' ⟨rfl, rfl⟩
  go_wp2_with fail
  refine (C1.out _).mono ?_
  rintro e w' ⟨rfl, rfl⟩
  go_wp2_with fail
  refine (C2.out _).mono ?_
  rintro e w' ⟨rfl, rfl⟩
  go_wp2_with fail
  refine (C3.out _).mono ?_
  rintro e w' ⟨rfl, rfl⟩
  go_wp2
  go_loopw [5, 6, 7] (fun out st j wr => FwRel w true k zs.length (zs.map toF) (q) out st j wr) (fun _ _ j _ => zs.length - (intOf j).toNat)
  case atStart => exact ⟨0, Nat.zero_le _, rfl, by rw [pow_zero, vl_one], by rw [trTo_zero]; exact Ow.nil _ _, Below.refl _ _⟩
  case round =>
    obtain ⟨m, hm1, rfl, rfl, hout, hbel⟩ := hrel
    have OO := Lib.hid hout
    have HB := Lib.hid hbel
    have hwsz := hbel.size
    clear hout hbel
    by_cases hml : m < zs.length
    · have TL := Lib.hid (trTo_len true k (zs.map toF) m)
      have TS := Lib.hid (trTo_succ true k (zs.map toF) m)
      go_wp2_with fail
      refine (reval_any zs _ (vl (q ^ m)) _ (HR.out.below HB.out) hz (vl_lo _) (vl_64 _)).mono ?_
      rintro e w' ⟨rfl, rfl⟩
      rw [toF_vl]
      go_wp2_with fail
      refine (rmul_F (c) (evl (zs.map toF) (q ^ m)) _).mono ?_
      rintro e w' ⟨rfl, rfl⟩
      rw [← TR.out]
      have hll : (trTo true k (zs.map toF) m).length ≤ 1000000 := by rw [TL.out]; omega
      obtain ⟨y, hy⟩ : ∃ y, y = tr true k (cf (zs.map toF)) m := ⟨_, rfl⟩
      rw [← hy] at TS ⊢
      clear hy
      go_wp2_with (at_builtin; refine wl_app _ rfl (.tmp 23) (.tmp 29) rfl w.heap.size _ (trTo true k (zs.map toF) m) _ w rfl rfl OO.out HB.out hwsz hll ?_)
      intro v3 w3 hown3 hbel3
      go_wp2_with fail
      refine (rmul_F (q ^ m) (q) _).mono ?_
      rintro e w' ⟨rfl, rfl⟩
      rw [← pow_succ]
      have O3 := Lib.hid hown3
      have B3 := Lib.hid hbel3
      clear hown3 hbel3
      go_wp2
      go_roundw
      case rel => exact ⟨m + 1, by omega, by go_num, rfl, by rw [TS.out]; exact O3.out, B3.out⟩
      case measure => simp [intOf] <;> omega
    · obtain rfl : m = zs.length := by omega
      have O9 := OO.out
      rw [HL.out, trTo_full] at O9
      have O9 := Lib.hid O9
      go_wp2
      go_ret
      exact ⟨_, rfl, O9.out, HB.out⟩
theorem rbwd_any (k : Nat) (zs : List Int) (v : Value) (w : World) (h : Rd .u64 w v zs) (hz : B64 zs) (hk : k ≤ 10) (hl : zs.length = 2 ^ k) :
    Calls Tryz.prog 79 #[v] w (RetL w (trL true k (zs.map toF))) := by
  have CW : toF (zs.length : Int) = cast (2 ^ k) := by rw [cast_toF, hl]
  have hk2 : 2 ^ k ≤ 2 ^ 10 := Nat.pow_le_pow_right (by omega) hk
  refine rbwd_abs k zs v w h hz hk hl (root k) (inv (root k)) (inv (cast (2 ^ k))) (fun w => rroot_any k w (by omega)) (fun w => rinvF (root k) w (root_ne k)) (fun w => ?_) (fun j => ?_)
  · have := rinv_any (zs.length : Int) w (by omega) (by omega) (by rw [CW]; exact cast_pow_ne hk)
    rwa [CW] at this
  · rw [tr_inv, evl_dft (l := zs.map toF) (by rw [List.length_map]; exact hl)]
end Go.Proofs.YtdhmmllpldjkbaaGreatDoor.Gm
/- (In) -/
namespace Go.Proofs.YtdhmmllpldjkbaaGreatDoor.Gm
open Go.RowKit
theorem in_yes (n lo hi : Int) (w : World) (h1 : lo ≤ n) (h2 : n ≤ hi) :
    Calls Tryz.prog 84 #[.int .i64 n, .int .i64 lo, .int .i64 hi] w fun e w' => e = .returned (.bool true) ∧ w = w' := by
  have d1 : decide (lo ≤ n) = true := by simpa using h1
  have d2 : decide (n ≤ hi) = true := by simpa using h2
  go_enter Tryz.func84, Tryz.ntmps84
  go_wp2
  go_ret
  exact ⟨rfl, rfl⟩
theorem in_no (n lo hi : Int) (w : World) (h : n < lo ∨ hi < n) :
    Calls Tryz.prog 84 #[.int .i64 n, .int .i64 lo, .int .i64 hi] w fun e w' => e = .returned (.bool false) ∧ w = w' := by
  by_cases h1 : lo ≤ n
  · have h2 : decide (n ≤ hi) = false := by simp; omega
    go_enter Tryz.func84, Tryz.ntmps84
    go_wp2
    go_ret
    exact ⟨rfl, rfl⟩
  · go_enter Tryz.func84, Tryz.ntmps84
    go_wp2
    go_ret
    exact ⟨rfl, rfl⟩
end Go.Proofs.YtdhmmllpldjkbaaGreatDoor.Gm
/- (Hs) -/
namespace Go.Proofs.YtdhmmllpldjkbaaGreatDoor.Gm
open Go.RowKit
def W64 (l : List Int) : Prop := ∀ a ∈ l, (Lit.int .i64 a).wf = true
theorem W64.get {l : List Int} (h : W64 l) {i : Nat} (hi : i < l.length) : -9223372036854775808 ≤ gd l i ∧ gd l i ≤ 9223372036854775807 := by
  have h1 := h (gd l i) (by rw [gd_eq, List.getElem?_eq_getElem hi]; exact List.getElem_mem hi)
  simpa [Lit.wf, IntKind.min, IntKind.max, IntKind.signed, IntKind.bits] using h1
/-- naturals as integers -/
def zi (l : List Nat) : List Int := l.map (fun n : Nat => (n : Int))
theorem zi_len (l : List Nat) : (zi l).length = l.length := by simp [zi]
theorem gd_zi (l : List Nat) (i : Nat) : gd (zi l) i = (nd l i : Int) := by
  rw [gd_eq, nd_eq, zi, List.getElem?_map]
  cases l[i]? <;> rfl
theorem gd_memZ {l : List Int} {i : Nat} (h : i < l.length) : gd l i ∈ l := by
  rw [gd_eq, List.getElem?_eq_getElem h]; exact List.getElem_mem h
/-- not a shape: a wrong count of axes, or a size that is no power of two -/
def Bad (zs : List Int) : Prop := ¬ (1 ≤ zs.length ∧ zs.length ≤ 3) ∨ ∃ d ∈ zs, ¬ pw d
/-- too large a shape -/
def Big (zs : List Int) : Prop := ∃ ds, zs = zi ds ∧ 1 ≤ ds.length ∧ ds.length ≤ 3 ∧ (∀ d ∈ ds, ∃ k, d = 2 ^ k) ∧ 1024 < pr ds
theorem pw_nat {d : Int} (h : pw d) : ∃ k : Nat, d = ((2 ^ k : Nat) : Int) := by obtain ⟨k, hk⟩ := h; exact ⟨k, by rw [hk]; simp⟩
theorem to_nat {zs : List Int} (h : ∀ d ∈ zs, pw d) : ∃ ds, zs = zi ds ∧ ∀ d ∈ ds, ∃ k, d = 2 ^ k := by
  induction zs with
  | nil => exact ⟨[], rfl, by simp⟩
  | cons z zs ih =>
    obtain ⟨ds, h1, h2⟩ := ih (fun d hd => h d (by simp [hd]))
    obtain ⟨k, hk⟩ := pw_nat (h z (by simp))
    exact ⟨2 ^ k :: ds, by rw [h1, hk]; rfl, fun d hd => by rcases List.mem_cons.1 hd with rfl | hd; exact ⟨k, rfl⟩; exact h2 d hd⟩
theorem pw_of {ds : List Nat} (h : ∀ d ∈ ds, ∃ k, d = 2 ^ k) : ∀ d ∈ zi ds, pw d := by
  intro d hd
  obtain ⟨n, hn, rfl⟩ := List.mem_map.1 hd
  obtain ⟨k, rfl⟩ := h n hn
  exact ⟨k, by simp⟩
theorem shape_cases (zs : List Int) : Bad zs ∨ Big zs ∨ ∃ ds, zs = zi ds ∧ Shp ds := by
  by_cases h : 1 ≤ zs.length ∧ zs.length ≤ 3
  · by_cases h2 : ∀ d ∈ zs, pw d
    · obtain ⟨ds, rfl, h3⟩ := to_nat h2
      rw [zi_len] at h
      by_cases h4 : pr ds ≤ 1024
      · exact .inr (.inr ⟨ds, rfl, h.1, h.2, h3, h4⟩)
      · exact .inr (.inl ⟨ds, rfl, h.1, h.2, h3, by omega⟩)
    · exact .inl (.inr (by
        apply Classical.byContradiction
        intro hn
        exact h2 (fun d hd => Classical.byContradiction fun hp => hn ⟨d, hd, hp⟩)))
  · exact .inl (.inl h)
theorem zi_inj {a b : List Nat} (h : zi a = zi b) : a = b := by
  have := congrArg (List.map Int.toNat) h
  simpa [zi, List.map_map, Function.comp_def] using this
theorem Bad.not_shp {ds : List Nat} (h : Bad (zi ds)) (h1 : 1 ≤ ds.length) (h3 : ds.length ≤ 3) (hp : ∀ d ∈ ds, ∃ k, d = 2 ^ k) : False := by
  rcases h with h | ⟨d, hd, h⟩
  · rw [zi_len] at h; exact h ⟨h1, h3⟩
  · exact h (pw_of hp d hd)
/-- the answer on a shape -/
def ShAns (zs : List Int) (e : Ending) : Prop :=
  (Bad zs ∧ e = .returned (.tuple #[.int .i64 0, .int .i64 1])) ∨ (Big zs ∧ e = .returned (.tuple #[.int .i64 0, .int .i64 2])) ∨ ∃ ds, zs = zi ds ∧ Shp ds ∧ e = .returned (.tuple #[.int .i64 (pr ds), .int .i64 0])
theorem ShAns.bad {zs : List Int} {e : Ending} (h : ShAns zs e) (hb : Bad zs) : e = .returned (.tuple #[.int .i64 0, .int .i64 1]) := by
  rcases h with ⟨_, h⟩ | ⟨⟨ds, rfl, h1, h2, h3, _⟩, _⟩ | ⟨ds, rfl, h1, _⟩
  · exact h
  · exact (hb.not_shp h1 h2 h3).elim
  · exact (hb.not_shp h1.len0 h1.len3 h1.pow).elim
theorem ShAns.big {zs : List Int} {e : Ending} (h : ShAns zs e) (hb : Big zs) : e = .returned (.tuple #[.int .i64 0, .int .i64 2]) := by
  obtain ⟨ds, rfl, h1, h2, h3, h4⟩ := hb
  rcases h with ⟨h, _⟩ | ⟨_, h⟩ | ⟨ds', e1, h5, _⟩
  · exact (h.not_shp h1 h2 h3).elim
  · exact h
  · have := zi_inj e1; subst this; have := h5.le; omega
theorem ShAns.ok {ds : List Nat} {e : Ending} (h : ShAns (zi ds) e) (hs : Shp ds) : e = .returned (.tuple #[.int .i64 (pr ds), .int .i64 0]) := by
  rcases h with ⟨h, _⟩ | ⟨⟨ds', e1, h1, h2, h3, h4⟩, _⟩ | ⟨ds', e1, h5, h⟩
  · exact (h.not_shp hs.len0 hs.len3 hs.pow).elim
  · have := zi_inj e1; subst this; have := hs.le; omega
  · have := zi_inj e1; subst this; exact h
theorem take_pw {zs : List Int} {k : Nat} (hk : k < zs.length) (h : ∀ d ∈ zs.take k, pw d) (h2 : pw (gd zs k)) : ∀ d ∈ zs.take (k + 1), pw d := by
  intro d hd
  rw [List.take_succ_eq_append_getElem hk] at hd
  rcases List.mem_append.1 hd with hd | hd
  · exact h d hd
  · rw [List.mem_singleton] at hd
    rw [hd]
    rw [gd_eq, List.getElem?_eq_getElem hk] at h2
    exact h2
set_option maxHeartbeats 2000000 in
theorem rshape_any (zs : List Int) (v : Value) (w : World) (h : Rd .i64 w v zs) (hw : W64 zs) :
    Calls Tryz.prog 106 #[v] w fun e w' => ShAns zs e ∧ w = w' := by
  obtain ⟨a, cap, b, off, rfl, hcap, hm, hx, hc⟩ := h.opened
  have HC := Lib.hid hc
  clear hc h
  by_cases hlen : 1 ≤ zs.length ∧ zs.length ≤ 3
  · obtain ⟨hl1, hl3⟩ := hlen
    rcases hx with hx | rfl
    · exfalso; omega
    go_enter Tryz.func106, Tryz.ntmps106
    go_wp2_with fail
    refine (in_yes (zs.length : Int) 1 3 _ (by omega) (by omega)).mono ?_
    rintro e w' ⟨rfl, rfl⟩
    go_wp2
    go_loop [4, 5] (fun i _ => ∃ k : Nat, k ≤ zs.length ∧ i = .int .i64 k ∧ ∀ d ∈ zs.take k, pw d) (fun i _ => zs.length - (intOf i).toNat)
    case atStart => exact ⟨0, by omega, rfl, by simp⟩
    case round =>
      obtain ⟨k, hk, rfl, hp⟩ := hrel
      have HP := Lib.hid hp
      clear hp
      by_cases hkl : k < zs.length
      · have hcell := HC.out k hkl
        have hb := hw.get hkl
        have TP := Lib.hid (take_pw hkl HP.out)
        have MM := Lib.hid (gd_memZ hkl)
        generalize gd zs k = d at *
        go_wp2
        go_loop [5] (fun m => ∃ z : Int, m = .int .i64 z ∧ z ≤ 9223372036854775807 ∧ -9223372036854775808 ≤ z ∧ (pw d ↔ pw z)) (fun m => (intOf m).toNat)
        case atStart => exact ⟨d, rfl, hb.2, hb.1, Iff.rfl⟩
        case round =>
          obtain ⟨z, rfl, hz1, hz2, hz⟩ := hrel
          have HZ := Lib.hid hz
          clear hz
          by_cases h1 : 1 < z
          · by_cases h2 : z % 2 = 0
            · have ht : z.tmod 2 = 0 := by rw [Int.tmod_eq_emod_of_nonneg (by omega)]; exact h2
              have hz' := Lib.hid (show pw d ↔ pw (z / 2) by rw [HZ.out, ← pw_double (d := z / 2), show z / 2 * 2 = z by omega])
              have H2 := Lib.hid h2
              clear h2
              go_wp2
              go_round
              case rel => exact ⟨z / 2, rfl, by omega, by omega, hz'.out⟩
              case measure => simp [intOf]; omega
            · have ht : z.tmod 2 = 1 := by rw [Int.tmod_eq_emod_of_nonneg (by omega)]; omega
              have NP := Lib.hid (show ¬ pw d from fun hp => by have := (pw_odd h2).1 (HZ.out.1 hp); omega)
              have hz1 : (z == 1) = false := by simp; omega
              clear h2
              go_wp2
              go_ret2
              exact ⟨.inl ⟨.inr ⟨d, MM.out, NP.out⟩, rfl⟩, rfl⟩
          · by_cases h2 : z = 1
            · subst h2
              have PP := Lib.hid (TP.out (HZ.out.2 pw_one))
              go_wp2
              go_round
              case rel => exact ⟨k + 1, by omega, by go_num, PP.out⟩
              case measure => simp [intOf]; omega
            · have hz1 : (z == 1) = false := by simpa using h2
              have NP := Lib.hid (show ¬ pw d from fun hp => h2 ((pw_low (by omega)).1 (HZ.out.1 hp)))
              go_wp2
              go_ret2
              exact ⟨.inl ⟨.inr ⟨d, MM.out, NP.out⟩, rfl⟩, rfl⟩
      · obtain rfl : k = zs.length := by omega
        rw [List.take_length] at HP
        obtain ⟨ds, hds, hpd⟩ := to_nat HP.out
        subst hds
        have hpos : ∀ d ∈ ds, 1 ≤ d := fun d hd => by obtain ⟨k, rfl⟩ := hpd d hd; exact Nat.two_pow_pos k
        have HPD := Lib.hid hpd
        have HPS := Lib.hid hpos
        rw [zi_len] at hl1 hl3
        have LZ := Lib.hid (zi_len ds)
        clear hpd hpos
        rw [LZ.out]
        go_wp2
        go_loop [6, 7] (fun n i => ∃ k : Nat, k ≤ ds.length ∧ i = .int .i64 k ∧ n = .int .i64 (pr (ds.take k)) ∧ pr (ds.take k) ≤ 1024) (fun _ i => ds.length - (intOf i).toNat)
        case atStart => exact ⟨0, by omega, rfl, rfl, by simp [pr]⟩
        case round =>
          obtain ⟨k, hk, rfl, rfl, hle⟩ := hrel
          by_cases hkl : k < ds.length
          · have hcell := HC.out k (by rw [LZ.out]; exact hkl)
            rw [gd_zi] at hcell
            have PT := Lib.hid (pr_take_succ ds k hkl)
            have hd1 := HPS.out _ (nd_mem hkl)
            have TL := Lib.hid (pr_take_le HPS.out (k + 1))
            have TN := Lib.hid (pr_pos (l := ds.take k) (fun d hd => HPS.out d (List.mem_of_mem_take hd)))
            have hn1 := TN.out
            have SPL := Lib.hid (pr_take_le HPS.out (k + 1))
            have hbw : ((nd ds k : Nat) : Int) ≤ 9223372036854775807 := by
              have := hw.get (i := k) (by rw [LZ.out]; exact hkl)
              rw [gd_zi] at this
              exact this.2
            generalize pr (ds.take k) = p at *
            generalize nd ds k = d at *
            by_cases hbig : 1024 < d
            · have BB := Lib.hid (show 1024 < pr ds by have h1 := SPL.out; rw [PT.out] at h1; have := Nat.le_mul_of_pos_left d hn1; omega)
              go_wp2
              go_ret2
              exact ⟨.inr (.inl ⟨⟨ds, rfl, hl1, hl3, HPD.out, BB.out⟩, rfl⟩), rfl⟩
            · have hmul := Nat.mul_le_mul hle (show d ≤ 1024 by omega)
              have hm0 : (0 : Int) ≤ (p : Int) * (d : Int) := by rw [← Int.natCast_mul]; exact Int.natCast_nonneg _
              have hm1 : (p : Int) * (d : Int) ≤ 1048576 := by rw [← Int.natCast_mul]; omega
              by_cases hbg : 1024 < p * d
              · have hbi : (1024 : Int) < (p : Int) * (d : Int) := by rw [← Int.natCast_mul]; omega
                have BB := Lib.hid (show 1024 < pr ds by have h1 := SPL.out; rw [PT.out] at h1; omega)
                clear hbg hmul
                go_wp2
                go_ret2
                exact ⟨.inr (.inl ⟨⟨ds, rfl, hl1, hl3, HPD.out, BB.out⟩, rfl⟩), rfl⟩
              · have hbi : (p : Int) * (d : Int) ≤ 1024 := by rw [← Int.natCast_mul]; omega
                have HLE := Lib.hid (show p * d ≤ 1024 by omega)
                clear hbg hmul
                go_wp2
                go_round
                case rel => exact ⟨k + 1, by omega, by go_num, by rw [PT.out, Int.natCast_mul], by rw [PT.out]; exact HLE.out⟩
                case measure => simp [intOf]; omega
          · obtain rfl : k = ds.length := by omega
            rw [List.take_length] at hle ⊢
            go_wp2
            go_ret2
            exact ⟨.inr (.inr ⟨ds, rfl, ⟨hl1, hl3, HPD.out, hle⟩, rfl⟩), rfl⟩
  · have HL := Lib.hid hlen
    have hlo : (zs.length : Int) < 1 ∨ 3 < (zs.length : Int) := by omega
    have HLO := Lib.hid hlo
    clear hlo hlen
    go_enter Tryz.func106, Tryz.ntmps106
    go_wp2_with fail
    refine (in_no (zs.length : Int) 1 3 _ HLO.out).mono ?_
    rintro e w' ⟨rfl, rfl⟩
    go_wp2
    go_ret2
    exact ⟨.inl ⟨.inl HL.out, rfl⟩, rfl⟩
end Go.Proofs.YtdhmmllpldjkbaaGreatDoor.Gm
/- (On) -/
namespace Go.Proofs.YtdhmmllpldjkbaaGreatDoor.Gm
open Go.RowKit
theorem Oz.only {S : Nat → Prop} {k : IntKind} {te : TypeId} {B : Nat} {w w' : World} {v : Value} {l : List Int} (h : Oz k te B w v l) (ho : Only S w w') (hs : ∀ g, v.ownBlock = some g → ¬ S g) : Oz k te B w' v l := own_only h ho hs
/-- append of a number -/
theorem wl_appI {ops : Array Oper} {rest : List Oper} {o : Oper} {a : Act} {Q : Exit → Act → World → Prop} (w : World) (hgd : o.guard = none) (s x : Operand)
    (ho : o.op = .call { callee := .builtin .append, args := #[s, x], argTypes := #[81, 81] })
    (B : Nat) (v : Value) (l : List Int) (y : Int) (hs : a.eval s = v) (hx : a.eval x = .slice (some ⟨w.heap.size, 0, none⟩) 1 1)
    (hown : Oz .i64 3 B w v l) (hB : B ≤ w.heap.size) (hl : l.length ≤ 1000000)
    (h : ∀ v' w', Oz .i64 3 B w' v' (l ++ [y]) → Only (fun k => v.ownBlock = some k) w w' → (v'.ownBlock = v.ownBlock ∨ ∃ g, v'.ownBlock = some g ∧ w.heap.size ≤ g) → wpList Tryz.prog ops Q rest (a.put o.dst v') w') :
    wpList Tryz.prog ops Q (o :: rest) a (w.alloc (.cells #[.int .i64 y] 3)) := by
  obtain ⟨i0, hi, hz0, hz1, hz2⟩ := info_parts info_int
  have hmx : l.length + 1 ≤ maxLen := by unfold maxLen; omega
  refine wpList_append_own_at _ hgd s x 81 ho B 3 i0 (.int .i64 0) 1 8 Tryz.underlying81 hi hz0 hz1 hz2 rfl (by decide) v l.length (l.map (Value.int .i64)) hs (World.ownsRow.alloc hown _) ⟨w.heap.size, 0, none⟩ 1 1 [.int .i64 y] hx rfl (cell_one_new _ _ _) (by intro u hu; simp at hu; subst hu; rfl) hmx (by omega) (by simp; omega) ?_
  intro v' w' hown' hgrow _ hat
  refine h v' w' ?_ ?_ ?_
  · unfold Oz
    rw [List.map_append, List.length_append, List.length_singleton]
    exact hown'
  · exact ((Only.refl _ w).alloc _).trans2 (Only.of_grown (S := fun k => v.ownBlock = some k) hgrow (fun _ e => e)) (fun _ _ e => e)
  · rcases hat with e | e
    · exact .inl e
    · exact .inr ⟨_, e, by simp⟩
/-- a store into an own list -/
theorem wl_storeI (k : IntKind) (te : TypeId) {ops : Array Oper} {rest : List Oper} {o : Oper} {a : Act} {Q : Exit → Act → World → Prop} (w : World) (hgd : o.guard = none) (p x : Operand)
    (hz : ∀ w : World, Sem.run Tryz.prog (Go.sizeOf te) w = .ok 1 w)
    (ho : o.op = .store te p x) (B g i n cap : Nat) (l : List Int) (y : Int) (hp : a.eval p = .pointer (some ⟨g, i, none⟩)) (hx : a.eval x = .int k y)
    (hown : Oz k te B w (.slice (some ⟨g, 0, none⟩) n cap) l) (hn : l.length = n) (hi : i < n)
    (h : ∀ w', Oz k te B w' (.slice (some ⟨g, 0, none⟩) n cap) (l.set i y) → Only (fun j => j = g) w w' → w'.heap.size = w.heap.size → wpList Tryz.prog ops Q rest (a.put o.dst undef) w') :
    wpList Tryz.prog ops Q (o :: rest) a w := by
  subst hn
  have hc := hown.cell hi
  have hf : w.frozen? ⟨g, i, none⟩ = false := World.ownsRow.frozenAt hown i
  refine wpList_plain hgd fun K hK' => ?_
  have hset : Oz k te B (w.setCell ⟨g, i, none⟩ (.int k y)) (.slice (some ⟨g, 0, none⟩) l.length cap) (l.set i y) := by
    have := (World.ownsRow.stored hown i (.int k y)).1
    unfold Oz
    rw [List.map_set, List.length_set]
    exact this
  have hk := hK' _ _ (h (w.setCell ⟨g, i, none⟩ (.int k y)) hset ((Only.refl (fun j => j = g) w).setCell (p := ⟨g, i, none⟩) (.inl rfl) _) (by simp [World.setCell]))
  unfold Oper.wp
  simp [execOp, ho, hp, hx, Result.andThen]
  go_simp
  exact hk
/-- list i of a list of lists -/
@[irreducible] def lg (l : List (List Int)) (i : Nat) : List Int := l.getD i []
theorem lg_eq (l : List (List Int)) (i : Nat) : lg l i = l[i]?.getD [] := by unfold lg; rw [List.getD_eq_getElem?_getD]
theorem lg_lt {l : List (List Int)} {i : Nat} (h : i < l.length) : lg l i = l[i] := by rw [lg_eq, List.getElem?_eq_getElem h]; rfl
/-- a list of lists of the call's own -/
def OL (B : Nat) (w : World) (v : Value) (ll : List (List Int)) : Prop :=
  ∃ vs : List Value, w.ownsRow B 81 1 v ll.length vs ∧ vs.length = ll.length ∧ ∀ i u, vs[i]? = some u → Oz .i64 3 B w u (lg ll i)
theorem OL.nil (B : Nat) (w : World) : OL B w (.slice none 0 0) [] := ⟨[], World.ownsRow_nil _ _ _ _, rfl, fun i u h => by simp at h⟩
theorem OL.only {S : Nat → Prop} {B : Nat} {w w' : World} {v : Value} {ll : List (List Int)} (h : OL B w v ll) (ho : Only S w w') (hs : ∀ g, B ≤ g → g < w.heap.size → ¬ S g) : OL B w' v ll := by
  obtain ⟨vs, h1, h2, h3⟩ := h
  exact ⟨vs, own_only h1 ho (fun g e => hs g (World.ownsRow.lt h1 g e).1 (World.ownsRow.lt h1 g e).2), h2, fun i u hu => (h3 i u hu).only ho (fun g e => hs g (Oz.lt (h3 i u hu) g e).1 (Oz.lt (h3 i u hu) g e).2)⟩
theorem OL.below {B : Nat} {w w' : World} {v : Value} {ll : List (List Int)} (h : OL B w v ll) (hb : Below w.heap.size w w') : OL B w' v ll :=
  h.only (Only.of_below (S := fun _ => False) hb (fun k hk hk' => by omega)) (fun _ _ _ e => e)
theorem OL.mono {B B' : Nat} {w : World} {v : Value} {ll : List (List Int)} (h : OL B w v ll) (hB : B' ≤ B) : OL B' w v ll := by
  obtain ⟨vs, h1, h2, h3⟩ := h
  refine ⟨vs, ⟨h1.1, ?_⟩, h2, fun i u hu => (h3 i u hu).mono hB⟩
  rcases h1.2 with h0 | ⟨g, cap, cur, e, hb, rest⟩
  · exact .inl h0
  · exact .inr ⟨g, cap, cur, e, by omega, rest⟩
theorem OL.shape {B : Nat} {w : World} {v : Value} {ll : List (List Int)} (h : OL B w v ll) : ∃ a cap, v = .slice a ll.length cap ∧ ll.length ≤ cap ∧ cap ≤ 9223372036854775807 := by
  obtain ⟨vs, h1, h2, h3⟩ := h
  rcases h1.2 with ⟨rfl, h0⟩ | ⟨g, cap, cur, rfl, hb, hg, hn, hm, hs, ht⟩
  · rw [h0]; exact ⟨none, 0, rfl, by simp, by omega⟩
  · exact ⟨_, cap, rfl, hn, by unfold maxLen at hm; omega⟩
theorem own_ne {w : World} {B B' : Nat} {e e' : TypeId} {s s' n n' : Nat} {v v' : Value} {xs xs' : List Value} (h : w.ownsRow B e s v n xs) (h' : w.ownsRow B' e' s' v' n' xs') (hne : e ≠ e') : v.ownBlock = none ∨ v.ownBlock ≠ v'.ownBlock := by
  rcases h.2 with ⟨rfl, _⟩ | ⟨g, cap, cur, rfl, _, hg, _⟩
  · exact .inl rfl
  · right
    rcases h'.2 with ⟨rfl, _⟩ | ⟨g', cap', cur', rfl, _, hg', _⟩
    · simp [Value.ownBlock]
    · intro e0
      have e1 : g = g' := by simpa [Value.ownBlock] using e0
      subst e1
      rw [hg] at hg'
      injection hg' with hg'
      injection hg' with _ h2
      exact hne h2
theorem info_ints : (Tryz.prog.info? 81).map (fun i => (i.zero, i.size, i.bytes)) = some (some (.slice none 0 0), 1, 24) := by kernel_rfl
/-- a slice of slices of integers reads as a list of lists -/
def Rl (w : World) (v : Value) (ll : List (List Int)) : Prop :=
  ∃ a cap b off, v = .slice a ll.length cap ∧ ll.length ≤ cap ∧ cap ≤ 9223372036854775807 ∧ (ll.length ≤ 0 ∨ a = some ⟨b, off, none⟩) ∧
    ∀ i, i < ll.length → ∃ u, w.cell? ⟨b, off + i, none⟩ = some u ∧ Rd .i64 w u (lg ll i)
theorem OL.rl {B : Nat} {w : World} {v : Value} {ll : List (List Int)} (h : OL B w v ll) : Rl w v ll := by
  obtain ⟨vs, h1, h2, h3⟩ := h
  have h1' := h1
  rcases h1.2 with ⟨rfl, h0⟩ | ⟨g, cap, cur, rfl, hb, hg, hn, hm, hs, ht⟩
  · exact ⟨none, 0, 0, 0, by rw [h0], by omega, by omega, .inl (by omega), fun i hi => absurd hi (by omega)⟩
  · refine ⟨some ⟨g, 0, none⟩, cap, g, 0, rfl, by simpa using hn, by unfold maxLen at hm; omega, .inr rfl, fun i hi => ?_⟩
    have hi2 : i < vs.length := by omega
    refine ⟨vs[i], ?_, (h3 i _ (List.getElem?_eq_getElem hi2)).rd⟩
    have := World.ownsRow.cellAt h1' i (by omega)
    rw [Nat.zero_add, this, List.getElem?_eq_getElem hi2]
theorem Rl.below {w w' : World} {v : Value} {ll : List (List Int)} (h : Rl w v ll) (hb : Below w.heap.size w w') : Rl w' v ll := by
  obtain ⟨a, cap, b, off, e, h1, h2, h3, hx⟩ := h
  refine ⟨a, cap, b, off, e, h1, h2, h3, fun i hi => ?_⟩
  obtain ⟨u, hc, hr⟩ := hx i hi
  exact ⟨u, (hb.cell (p := ⟨b, off + i, none⟩) (World.block_lt_of_cell? w _ hc)).trans hc, hr.below hb⟩
theorem Rl.nil (w : World) : Rl w (.slice none 0 0) [] := ⟨none, 0, 0, 0, rfl, by simp, by omega, .inl (Nat.le_refl _), fun i hi => absurd hi (by simp)⟩
theorem Rl.shape {w : World} {v : Value} {ll : List (List Int)} (h : Rl w v ll) : ∃ a cap, v = .slice a ll.length cap ∧ ll.length ≤ cap ∧ cap ≤ 9223372036854775807 := by
  obtain ⟨a, cap, b, off, e, h1, h2, h3, hx⟩ := h
  exact ⟨a, cap, e, h1, h2⟩
end Go.Proofs.YtdhmmllpldjkbaaGreatDoor.Gm
/- (Hl) -/
namespace Go.Proofs.YtdhmmllpldjkbaaGreatDoor.Gm
open Go.RowKit
/-- a call's end: a list of integers of its own -/
def RetI (w : World) (l : List Int) (e : Ending) (w' : World) : Prop := ∃ v, e = .returned v ∧ Oz .i64 3 w.heap.size w' v l ∧ Below w.heap.size w w'
theorem zi_snoc (l : List Nat) (n : Nat) : zi (l ++ [n]) = zi l ++ [(n : Int)] := by simp [zi]
theorem plcs_take (l : List Nat) (k i : Nat) (hi : i < l.length) : (plcs l k).take (i + 1) = (plcs l k).take i ++ [k / under l i % nd l i] := by
  rw [List.take_succ_eq_append_getElem (by rw [plcs_len]; exact hi)]
  congr 2
  rw [← nd_lt (by rw [plcs_len]; exact hi), nd_plcs l k i hi]
def PlcRel (w : World) (l : List Nat) (k : Nat) (out i : Value) (wr : World) : Prop :=
  ∃ m : Nat, m ≤ l.length ∧ i = .int .i64 m ∧ Oz .i64 3 w.heap.size wr out (zi ((plcs l k).take m)) ∧ Below w.heap.size w wr
theorem nat_quo (k u : Nat) : ((k : Int)).tdiv (u : Int) = ((k / u : Nat) : Int) := rfl
theorem nat_rem (k u : Nat) : ((k : Int)).tmod (u : Int) = ((k % u : Nat) : Int) := rfl
theorem wrap_nat {n : Nat} (h : n ≤ 9223372036854775807) : IntKind.i64.wrap (n : Int) = (n : Int) := IntWalk.i64_in _ (by omega)
def PlRel (w : World) (ds p : List Nat) (n i : Value) (wr : World) : Prop :=
  ∃ m : Nat, m ≤ ds.length ∧ i = .int .i64 m ∧ n = .int .i64 (plf ds p m) ∧ Below w.heap.size w wr
end Go.Proofs.YtdhmmllpldjkbaaGreatDoor.Gm
/- (Hr) -/
namespace Go.Proofs.YtdhmmllpldjkbaaGreatDoor.Gm
open Go.RowKit
/-- lines as lists of integers -/
def lnz (ll : List (List Nat)) : List (List Int) := ll.map zi
theorem lnz_len (ll : List (List Nat)) : (lnz ll).length = ll.length := by simp [lnz]
theorem lnz_snoc (ll : List (List Nat)) (l : List Nat) : lnz (ll ++ [l]) = lnz ll ++ [zi l] := by simp [lnz]
def lin (ds : List Nat) (a k n : Nat) : List Nat := (List.range n).map fun i => k + i * under ds a
theorem lin_succ (ds : List Nat) (a k n : Nat) : lin ds a k (n + 1) = lin ds a k n ++ [k + n * under ds a] := by unfold lin; rw [List.range_succ, List.map_append]; rfl
theorem lin_len (ds : List Nat) (a k n : Nat) : (lin ds a k n).length = n := by simp [lin]
def lnsTo (ds : List Nat) (a k : Nat) : List (List Nat) := ((List.range k).filter fun k => decide (k / under ds a % nd ds a = 0)).map fun k => lin ds a k (nd ds a)
theorem lnsTo_full (ds : List Nat) (a : Nat) : lnsTo ds a (pr ds) = lns ds a := rfl
theorem lnsTo_yes {ds : List Nat} {a k : Nat} (h : k / under ds a % nd ds a = 0) : lnsTo ds a (k + 1) = lnsTo ds a k ++ [lin ds a k (nd ds a)] := by
  unfold lnsTo
  rw [List.range_succ, List.filter_append, List.map_append]
  simp [h]
theorem lnsTo_no {ds : List Nat} {a k : Nat} (h : k / under ds a % nd ds a ≠ 0) : lnsTo ds a (k + 1) = lnsTo ds a k := by
  unfold lnsTo
  rw [List.range_succ, List.filter_append, List.map_append]
  simp [h]
theorem lnsTo_len (ds : List Nat) (a k : Nat) : (lnsTo ds a k).length ≤ k := by
  unfold lnsTo
  rw [List.length_map]
  exact Nat.le_trans (List.length_filter_le _ _) (by simp)
/-- a call's end: a list of lists of its own -/
def RetLL (w : World) (ll : List (List Int)) (e : Ending) (w' : World) : Prop := ∃ v, e = .returned v ∧ OL w.heap.size w' v ll ∧ Below w.heap.size w w'
def LnRel (w : World) (ds : List Nat) (a : Nat) (out k : Value) (wr : World) : Prop :=
  ∃ m : Nat, m ≤ pr ds ∧ k = .int .i64 m ∧ OL w.heap.size wr out (lnz (lnsTo ds a m)) ∧ Below w.heap.size w wr
def LiRel (w2 : World) (ds : List Nat) (a k g n c : Nat) (l i : Value) (wi : World) : Prop :=
  ∃ (m x : Nat), m ≤ nd ds a ∧ x < nd ds a ∧ i = .int .i64 m ∧ Oz .i64 3 w2.heap.size wi (.slice (some ⟨g, 0, none⟩) n c) (zi ((plcs ds k).set a x)) ∧ Oz .i64 3 w2.heap.size wi l (zi (lin ds a k m)) ∧ l.ownBlock ≠ some g ∧ Below w2.heap.size w2 wi
end Go.Proofs.YtdhmmllpldjkbaaGreatDoor.Gm
/- (Np) -/
namespace Go.Proofs.YtdhmmllpldjkbaaGreatDoor.Gm
open Go.RowKit
set_option linter.unusedVariables false
/-- an array with lines first .. last - 1 of an axis (sizes 2 ^ k, s apart) transformed: number p -/
def tzAt (back : Bool) (s k first last : Nat) (zs : List Int) (p : Nat) : Int :=
  if first ≤ lineNo s (2 ^ k) p ∧ lineNo s (2 ^ k) p < last then vl (tr back k (fun i => toF (gd zs (lineAt s (2 ^ k) (lineNo s (2 ^ k) p) + i * s))) (coord s (2 ^ k) p)) else gd zs p
@[irreducible] def tz (back : Bool) (s k n first last : Nat) (zs : List Int) : List Int := (List.range n).map (tzAt back s k first last zs)
theorem tz_len (back : Bool) (s k n first last : Nat) (zs : List Int) : (tz back s k n first last zs).length = n := by unfold tz; simp
theorem gd_range {f : Nat → Int} {n i : Nat} (h : i < n) : gd ((List.range n).map f) i = f i := by
  rw [gd_eq, List.getElem?_map, List.getElem?_range h]; rfl
theorem gd_tz (back : Bool) (s k n first last : Nat) (zs : List Int) {p : Nat} (h : p < n) : gd (tz back s k n first last zs) p = tzAt back s k first last zs p := by unfold tz; exact gd_range h
theorem ext_gd {l m : List Int} (hl : l.length = m.length) (h : ∀ i, i < l.length → gd l i = gd m i) : l = m := by
  apply List.ext_getElem?
  intro i
  by_cases hi : i < l.length
  · have := h i hi
    rw [gd_eq, gd_eq, List.getElem?_eq_getElem hi, List.getElem?_eq_getElem (by omega)] at this
    rw [List.getElem?_eq_getElem hi, List.getElem?_eq_getElem (by omega)]
    exact congrArg some this
  · rw [List.getElem?_eq_none (by omega), List.getElem?_eq_none (by omega)]
theorem tz_none (back : Bool) (s k n first : Nat) {zs : List Int} (h : zs.length = n) : tz back s k n first first zs = zs := by
  refine ext_gd (by rw [tz_len, h]) (fun i hi => ?_)
  rw [tz_len] at hi
  rw [gd_tz _ _ _ _ _ _ _ hi, tzAt, if_neg (by omega)]
/-- the places of the line come in one after another -/
def tzPart (back : Bool) (s k n first L m : Nat) (zs : List Int) : List Int :=
  (List.range n).map fun p => if lineNo s (2 ^ k) p = L ∧ coord s (2 ^ k) p < m then tzAt back s k L (L + 1) zs p else tzAt back s k first L zs p
theorem tzPart_len (back : Bool) (s k n first L m : Nat) (zs : List Int) : (tzPart back s k n first L m zs).length = n := by simp [tzPart]
theorem tzPart_zero (back : Bool) (s k n first L : Nat) (zs : List Int) : tzPart back s k n first L 0 zs = tz back s k n first L zs := by
  unfold tzPart tz
  apply List.map_congr_left
  intro p _
  rw [if_neg (by omega)]
theorem tzPart_full (back : Bool) (s k n first L : Nat) (zs : List Int) (hL : first ≤ L) : tzPart back s k n first L (2 ^ k) zs = tz back s k n first (L + 1) zs := by
  unfold tzPart tz
  apply List.map_congr_left
  intro p _
  have hc := coord_lt s (2 ^ k) p (Nat.two_pow_pos k)
  by_cases h : lineNo s (2 ^ k) p = L
  · rw [if_pos ⟨h, hc⟩, tzAt, tzAt, if_pos (by omega), if_pos (by omega)]
  · rw [if_neg (by omega), tzAt, tzAt]
    by_cases h2 : first ≤ lineNo s (2 ^ k) p ∧ lineNo s (2 ^ k) p < L
    · rw [if_pos h2, if_pos (by omega)]
    · rw [if_neg h2, if_neg (by omega)]
theorem tzPart_step (back : Bool) (s k n first L m : Nat) (zs : List Int) (hs : 0 < s) (hm : m < 2 ^ k) :
    (tzPart back s k n first L m zs).set (lineAt s (2 ^ k) L + m * s) (vl (tr back k (fun i => toF (gd zs (lineAt s (2 ^ k) L + i * s))) m)) = tzPart back s k n first L (m + 1) zs := by
  refine ext_gd (by rw [List.length_set, tzPart_len, tzPart_len]) (fun p hp => ?_)
  rw [List.length_set, tzPart_len] at hp
  have e : ∀ m, gd (tzPart back s k n first L m zs) p = if lineNo s (2 ^ k) p = L ∧ coord s (2 ^ k) p < m then tzAt back s k L (L + 1) zs p else tzAt back s k first L zs p := fun m => gd_range hp
  have hsp := place_split s (2 ^ k) p
  by_cases hpe : lineAt s (2 ^ k) L + m * s = p
  · have h1 := coord_of s (2 ^ k) L m hs hm
    have h2 := lineNo_of s (2 ^ k) L m hs hm
    rw [hpe] at h1 h2
    rw [gd_set _ _ _ _ (by rw [tzPart_len, hpe]; exact hp), if_pos hpe, e, if_pos ⟨h2, by omega⟩, tzAt, h2, if_pos (by omega), h1]
  · by_cases hlt : lineAt s (2 ^ k) L + m * s < n
    · rw [gd_set _ _ _ _ (by rw [tzPart_len]; exact hlt), if_neg hpe, e, e]
      by_cases hL : lineNo s (2 ^ k) p = L
      · have hne : coord s (2 ^ k) p ≠ m := fun hc => hpe (by rw [hL, hc] at hsp; exact hsp.symm)
        by_cases hc : coord s (2 ^ k) p < m
        · rw [if_pos ⟨hL, hc⟩, if_pos ⟨hL, by omega⟩]
        · rw [if_neg (by omega), if_neg (by omega)]
      · rw [if_neg (by omega), if_neg (by omega)]
    · rw [List.set_eq_of_length_le (by rw [tzPart_len]; omega), e, e]
      by_cases hL : lineNo s (2 ^ k) p = L
      · have hne : coord s (2 ^ k) p ≠ m := fun hc => hpe (by rw [hL, hc] at hsp; exact hsp.symm)
        by_cases hc : coord s (2 ^ k) p < m
        · rw [if_pos ⟨hL, hc⟩, if_pos ⟨hL, by omega⟩]
        · rw [if_neg (by omega), if_neg (by omega)]
      · rw [if_neg (by omega), if_neg (by omega)]
theorem B64.tz {back : Bool} {s k n first last : Nat} {zs : List Int} (h : B64 zs) (hl : zs.length = n) : B64 (tz back s k n first last zs) := by
  intro z hz
  unfold Gm.tz at hz
  obtain ⟨p, hp, rfl⟩ := List.mem_map.1 hz
  have hp := List.mem_range.1 hp
  unfold tzAt
  split
  · have h1 := vl_lo (tr back k (fun i => toF (gd zs (lineAt s (2 ^ k) (lineNo s (2 ^ k) p) + i * s))) (coord s (2 ^ k) p))
    have h2 := vl_hi (tr back k (fun i => toF (gd zs (lineAt s (2 ^ k) (lineNo s (2 ^ k) p) + i * s))) (coord s (2 ^ k) p))
    omega
  · exact h.get p
theorem lns_get {l : List Nat} (h : Shp l) {a : Nat} (ha : a < l.length) {i : Nat} (hi : i < pr (l.take a) * under l a) : lg (lnz (lns l a)) i = zi (line (under l a) (nd l a) i) := by
  rw [lg_eq, lnz, List.getElem?_map, lns_eq h ha, linesOf, List.getElem?_map, List.getElem?_range hi]
  rfl
theorem lns_length {l : List Nat} (h : Shp l) {a : Nat} (ha : a < l.length) : (lnz (lns l a)).length = pr (l.take a) * under l a := by
  rw [lnz_len, lns_eq h ha, linesOf]; simp
theorem gd_line (s d L : Nat) {i : Nat} (hi : i < d) : gd (zi (line s d L)) i = ((lineAt s d L + i * s : Nat) : Int) := by
  rw [gd_zi, nd_eq, line, List.getElem?_map, List.getElem?_range hi]; rfl
theorem line_len (s d L : Nat) : (zi (line s d L)).length = d := by rw [zi_len]; simp [line]
end Go.Proofs.YtdhmmllpldjkbaaGreatDoor.Gm
/- (Oc) -/
namespace Go.Proofs.YtdhmmllpldjkbaaGreatDoor.Gm
open Go.RowKit
theorem U_eq (l : List F) : U l = (l.map vl).map (Value.int .u64) := by unfold U; rw [List.map_map]; rfl
theorem Ow.oz {B : Nat} {w : World} {v : Value} {l : List F} (h : Ow B w v l) : Oz .u64 51 B w v (l.map vl) := by
  unfold Oz; unfold Ow at h; rw [List.length_map, ← U_eq]; exact h
theorem Oz.ow {B : Nat} {w : World} {v : Value} {l : List F} (h : Oz .u64 51 B w v (l.map vl)) : Ow B w v l := by
  unfold Oz at h; unfold Ow; rw [List.length_map, ← U_eq] at h; exact h
theorem wl_copyZ (k : IntKind) (te ts : TypeId) (hu : Tryz.prog.underlying ts = some (.slice te)) (hsz : (Tryz.prog.info? te).map (·.size) = some 1)
    {ops : Array Oper} {rest : List Oper} {o : Oper} {a : Act} {Q : Exit → Act → World → Prop} (w : World) (hgd : o.guard = none) (d s : Operand)
    (ho : o.op = .call { callee := .builtin .copy, args := #[d, s], argTypes := #[ts, ts] })
    (B g n cap : Nat) (l zs : List Int) (v : Value) (W : World) (hd : a.eval d = .slice (some ⟨g, 0, none⟩) n cap) (hs : a.eval s = v)
    (hown : Oz k te B w (.slice (some ⟨g, 0, none⟩) n cap) l) (hn : l.length = n) (hrd : Rd k w v zs) (hle : zs.length ≤ n) (hbel : Below B W w)
    (h : ∀ w', Oz k te B w' (.slice (some ⟨g, 0, none⟩) n cap) (zs ++ l.drop zs.length) → Below B W w' → wpList Tryz.prog ops Q rest (a.put o.dst (goInt zs.length)) w') :
    wpList Tryz.prog ops Q (o :: rest) a w := by
  subst hn
  obtain ⟨sp, scap, b, off, rfl, h1, h2, h3, h4⟩ := hrd
  rcases hown.2 with ⟨e0, _⟩ | ⟨g', cap', cur, e, hb, hg, hnc, hm, hsc, ht⟩
  · injection e0 with e1; cases e1
  · injection e with e1 e2 e3
    injection e1 with e4
    injection e4 with e5
    subst e5; subst e3
    have hcl : cur.toList.length = cap := by rw [Array.length_toList]; omega
    have hlen2 := hown.1
    have hcs : (zs.map (Value.int k)).length = zs.length := List.length_map _
    refine wpList_copy_splice hgd d s ts ts ho te hu hsz (some ⟨g, 0, none⟩) sp l.length cap zs.length scap hd hs g 0 cur.toList te (by simpa using hg) (zs.map (Value.int k)) (by rw [hcs]; exact (Nat.min_eq_left hle).symm) ?_ (by rw [hcs, hcl]; omega) ?_ B W hbel hb ?_
    · intro hp
      rcases h3 with h3 | h3
      · subst h3; simp at hp
      · refine ⟨rfl, _, h3, fun j u hj => ?_⟩
        have hjl : j < zs.length := by
          have := (List.getElem?_eq_some_iff.1 hj).1
          omega
        have e : ((⟨b, off, none⟩ : Addr).add j) = ⟨b, off + j, none⟩ := by unfold Addr.add; by_cases h0 : j = 0 <;> simp [h0]
        rw [e, h4 j hjl, gd_eq]
        rw [List.getElem?_map, List.getElem?_eq_getElem hjl] at hj
        rw [List.getElem?_eq_getElem hjl]
        exact hj
    · intro u hu'
      obtain ⟨x, _, rfl⟩ := List.mem_map.1 hu'
      rfl
    · intro w' hw' hbel'
      rw [hcs]
      refine h w' ?_ hbel'
      have hl : (zs ++ l.drop zs.length).length = l.length := by rw [List.length_append, List.length_drop]; omega
      unfold Oz
      rw [hl]
      refine ⟨by simp; omega, .inr ⟨g, cap, _, rfl, hb, hw'.out, hnc, hm, ?_, ?_⟩⟩
      · rw [List.size_toArray, length_splice _ _ _ (by rw [hcs, hcl]; omega), hcl, Nat.mul_one]
      · rw [List.toList_toArray, Nat.mul_one]
        rw [Nat.mul_one] at ht
        unfold splice
        rw [List.take_zero, List.nil_append, Nat.zero_add, hcs, List.map_append, List.map_drop, ← ht]
        rw [List.take_append, hcs, List.take_of_length_le (by rw [hcs]; omega)]
        rw [List.drop_take]
end Go.Proofs.YtdhmmllpldjkbaaGreatDoor.Gm
/- (Ap) -/
namespace Go.Proofs.YtdhmmllpldjkbaaGreatDoor.Gm
open Go.RowKit
set_option linter.unusedVariables false
def RetZ (w : World) (l : List Int) (e : Ending) (w' : World) : Prop := ∃ v, e = .returned v ∧ Oz .u64 51 w.heap.size w' v l ∧ Below w.heap.size w w'
theorem Oz.opened {k : IntKind} {te : TypeId} {B : Nat} {w : World} {v : Value} {l : List Int} (h : Oz k te B w v l) (hl : 1 ≤ l.length) : ∃ g cap, v = .slice (some ⟨g, 0, none⟩) l.length cap ∧ l.length ≤ cap ∧ cap ≤ 9223372036854775807 := by
  rcases h.2 with ⟨rfl, h0⟩ | ⟨g, cap, cur, rfl, hb, hg, hn, hm, hs, ht⟩
  · omega
  · exact ⟨g, cap, rfl, hn, by unfold maxLen at hm; omega⟩
theorem Ow.opened {B : Nat} {w : World} {v : Value} {l : List F} (h : Ow B w v l) (hl : 1 ≤ l.length) : ∃ g cap, v = .slice (some ⟨g, 0, none⟩) l.length cap ∧ l.length ≤ cap ∧ cap ≤ 9223372036854775807 := by
  rcases h.2 with ⟨rfl, h0⟩ | ⟨g, cap, cur, rfl, hb, hg, hn, hm, hs, ht⟩
  · omega
  · exact ⟨g, cap, rfl, hn, by unfold maxLen at hm; omega⟩
theorem OL.opened {B : Nat} {w : World} {v : Value} {ll : List (List Int)} (h : OL B w v ll) (hl : 1 ≤ ll.length) : ∃ g cap, v = .slice (some ⟨g, 0, none⟩) ll.length cap ∧ ll.length ≤ cap ∧ cap ≤ 9223372036854775807 := by
  obtain ⟨vs, h1, h2, h3⟩ := h
  rcases h1.2 with ⟨rfl, h0⟩ | ⟨g, cap, cur, rfl, hb, hg, hn, hm, hs, ht⟩
  · omega
  · exact ⟨g, cap, rfl, hn, by unfold maxLen at hm; omega⟩
theorem OL.at {B g n cap : Nat} {w : World} {ll : List (List Int)} (h : OL B w (.slice (some ⟨g, 0, none⟩) n cap) ll) {i : Nat} (hi : i < ll.length) : ∃ u, w.cell? ⟨g, i, none⟩ = some u ∧ Oz .i64 3 B w u (lg ll i) := by
  obtain ⟨aa, cc, e, _, _⟩ := OL.shape h
  injection e with _ e2 _
  subst e2
  obtain ⟨vs, h1, h2, h3⟩ := h
  rw [← h2] at h1
  have hi2 : i < vs.length := by omega
  refine ⟨vs[i], ?_, h3 i _ (List.getElem?_eq_getElem hi2)⟩
  have := World.ownsRow.cellAt h1 i (by rw [Nat.mul_one]; omega)
  rw [this, List.getElem?_eq_getElem hi2]
theorem shp_k {ds : List Nat} {x k : Nat} (hs : Shp ds) (hxl : x < ds.length) (hk : nd ds x = 2 ^ k) : k ≤ 10 := by
  have hkle : 2 ^ k ≤ 1024 := by rw [← hk]; exact hs.ndle hxl
  apply Classical.byContradiction
  intro hn
  have := Nat.pow_le_pow_right (show 0 < 2 by omega) (show 11 ≤ k by omega)
  omega
theorem shp_split {ds : List Nat} {x k : Nat} (hxl : x < ds.length) (hk : nd ds x = 2 ^ k) : pr ds = pr (ds.take x) * (2 ^ k * under ds x) := by
  rw [← pr_split ds x, pr_drop ds x hxl, hk]; rfl
theorem shp_ks {ds : List Nat} (hs : Shp ds) : ∃ ks, ds = szs ks ∧ ∀ k ∈ ks, k ≤ 10 := by
  have h : ∀ l : List Nat, (∀ d ∈ l, ∃ k, d = 2 ^ k) → ∃ ks, l = szs ks := fun l => by
    induction l with
    | nil => intro _; exact ⟨[], rfl⟩
    | cons d l ih =>
      intro h
      obtain ⟨k, rfl⟩ := h d (by simp)
      obtain ⟨ks, rfl⟩ := ih (fun x hx => h x (by simp [hx]))
      exact ⟨k :: ks, rfl⟩
  obtain ⟨ks, rfl⟩ := h ds hs.pow
  refine ⟨ks, rfl, fun k hk => ?_⟩
  have h1 : 2 ^ k ∈ szs ks := List.mem_map.2 ⟨k, hk, rfl⟩
  obtain ⟨i, hi, he⟩ := List.getElem_of_mem h1
  have h2 := hs.ndle hi
  rw [nd_lt hi, he] at h2
  apply Classical.byContradiction
  intro hn
  have := Nat.pow_le_pow_right (show 0 < 2 by omega) (show 11 ≤ k by omega)
  omega
theorem szs_len (ks : List Nat) : (szs ks).length = ks.length := by simp [szs]
theorem nd_szs (ks : List Nat) {x : Nat} (hx : x < ks.length) : nd (szs ks) x = 2 ^ nd ks x := by
  rw [nd_eq, nd_eq, szs, List.getElem?_map, List.getElem?_eq_getElem hx]; rfl
theorem axs_get : ∀ (ks : List Nat) (x : Nat), x < ks.length → (axs ks)[x]? = some (under (szs ks) x, nd ks x)
  | k :: ks, 0, _ => by rw [nd_zero]; simp [axs, under, pk, szs]
  | k :: ks, x + 1, h => by
    rw [nd_succ]
    have := axs_get ks x (by simpa using h)
    simpa [axs, under, szs] using this
theorem axs_len (ks : List Nat) : (axs ks).length = ks.length := by
  induction ks with
  | nil => rfl
  | cons k ks ih => simp [axs, ih]
def alR (back : Bool) (ks : List Nat) (zs : List Int) : Nat → List Int
  | 0 => zs
  | x + 1 => tz back (under (szs ks) x) (nd ks x) (pk ks) 0 (pr ((szs ks).take x) * under (szs ks) x) (alR back ks zs x)
/-- behind so many axes -/
@[irreducible] def alT (back : Bool) (ks : List Nat) (zs : List Int) (x : Nat) : List Int := alR back ks zs x
theorem alT_zero (back : Bool) (ks : List Nat) (zs : List Int) : alT back ks zs 0 = zs := by unfold alT; rfl
theorem alT_succ (back : Bool) (ks : List Nat) (zs : List Int) (x : Nat) : alT back ks zs (x + 1) = tz back (under (szs ks) x) (nd ks x) (pk ks) 0 (pr ((szs ks).take x) * under (szs ks) x) (alT back ks zs x) := by unfold alT; rfl
theorem alT_len {back : Bool} {ks : List Nat} {zs : List Int} (h : zs.length = pk ks) (x : Nat) : (alT back ks zs x).length = pk ks := by
  cases x with
  | zero => rw [alT_zero, h]
  | succ x => rw [alT_succ, tz_len]
theorem alT_64 {back : Bool} {ks : List Nat} {zs : List Int} (h : zs.length = pk ks) (hz : B64 zs) : ∀ x, B64 (alT back ks zs x)
  | 0 => by rw [alT_zero]; exact hz
  | x + 1 => by rw [alT_succ]; exact B64.tz (alT_64 h hz x) (alT_len h x)
theorem tz_full {back : Bool} {ks : List Nat} {zs : List Int} {x : Nat} (hx : x < ks.length) {p : Nat} (hp : p < pk ks) :
    gd (tz back (under (szs ks) x) (nd ks x) (pk ks) 0 (pr ((szs ks).take x) * under (szs ks) x) zs) p = vl (axis back (under (szs ks) x) (nd ks x) (fun i => toF (gd zs i)) p) := by
  have hu : 0 < under (szs ks) x := under_pos szs_pos x
  have hsp : pk ks = pr ((szs ks).take x) * (2 ^ nd ks x * under (szs ks) x) := shp_split (by rw [szs_len]; exact hx) (nd_szs ks hx)
  rw [gd_tz _ _ _ _ _ _ _ hp, tzAt, if_pos ⟨Nat.zero_le _, lineNo_lt _ _ _ _ hu (by rw [← hsp]; exact hp)⟩]
  rfl
theorem take_axs {ks : List Nat} {x : Nat} (hx : x < ks.length) : (axs ks).take (x + 1) = (axs ks).take x ++ [(under (szs ks) x, nd ks x)] := by
  have h := axs_get ks x hx
  have hl : x < (axs ks).length := by rw [axs_len]; exact hx
  rw [List.take_succ_eq_append_getElem hl]
  rw [List.getElem?_eq_getElem hl] at h
  rw [Option.some.inj h]
theorem fit_take (ks : List Nat) (x : Nat) : Fit (pk ks) ((axs ks).take x) := fun y hy => fit_axs ks y (List.mem_of_mem_take hy)
theorem alT_run {back : Bool} {ks : List Nat} {zs : List Int} : ∀ x, x ≤ ks.length → ∀ p, p < pk ks → toF (gd (alT back ks zs x) p) = run back ((axs ks).take x) (fun i => toF (gd zs i)) p
  | 0, _, p, _ => by rw [alT_zero]; rfl
  | x + 1, hx, p, hp => by
    have hx' : x < ks.length := hx
    rw [alT_succ, tz_full hx' hp, toF_vl, take_axs hx', run_append]
    have hf := fit_axs ks _ (List.mem_of_getElem? (axs_get ks x hx'))
    exact axis_congr hf.1 hf.2 (fun i hi => alT_run x (by omega) i hi) hp
/-- the whole transform of a list -/
@[irreducible] def WL (back : Bool) (ks : List Nat) (l : List F) : List F := (List.range (pk ks)).map (WT back ks (cf l))
theorem WL_len (back : Bool) (ks : List Nat) (l : List F) : (WL back ks l).length = pk ks := by unfold WL; simp
theorem cf_WL (back : Bool) (ks : List Nat) (l : List F) {p : Nat} (hp : p < pk ks) : cf (WL back ks l) p = WT back ks (cf l) p := by unfold WL; exact cf_ofFn _ hp
theorem alT_whole {back : Bool} {ks : List Nat} {zs : List Int} (h0 : 1 ≤ ks.length) : alT back ks zs ks.length = (WL back ks (zs.map toF)).map vl := by
  obtain ⟨x, hx⟩ : ∃ x, ks.length = x + 1 := ⟨ks.length - 1, by omega⟩
  have hl : (alT back ks zs ks.length).length = pk ks := by rw [hx, alT_succ, tz_len]
  refine ext_gd (by rw [hl, List.length_map, WL_len]) (fun p hp => ?_)
  rw [hl] at hp
  have h1 := alT_run (back := back) (zs := zs) ks.length (Nat.le_refl _) p hp
  rw [show (axs ks).take ks.length = axs ks by rw [← axs_len]; exact List.take_length, run_whole back ks _ p hp] at h1
  have h2 : gd (alT back ks zs ks.length) p = vl (toF (gd (alT back ks zs ks.length) p)) := by
    rw [hx, alT_succ, tz_full (by omega) hp, toF_vl]
  rw [h2, h1]
  rw [gd_eq ((WL back ks (zs.map toF)).map vl), List.getElem?_map, List.getElem?_eq_getElem (by rw [WL_len]; exact hp)]
  show _ = vl _
  rw [← cf_lt (by rw [WL_len]; exact hp), cf_WL _ _ _ hp]
  congr 1
  exact WT_congr (fun i _ => (cf_map zs i).symm) p
def AnRel (w : World) (back : Bool) (ks : List Nat) (zs : List Int) (N : Nat) (av i : Value) (wr : World) : Prop :=
  ∃ m : Nat, m ≤ N ∧ i = .int .i64 m ∧ Rd .u64 wr av (alT back ks zs m) ∧ (0 < m → Oz .u64 51 w.heap.size wr av (alT back ks zs m)) ∧ Below w.heap.size w wr
set_option maxRecDepth 100000 in
/-- a store into an own list of the field, with the sharper word on what has turned -/
theorem wl_storeF {ops : Array Oper} {rest : List Oper} {o : Oper} {a : Act} {Q : Exit → Act → World → Prop} (w : World) (hgd : o.guard = none) (p x : Operand)
    (ho : o.op = .store 51 p x) (B g i n cap : Nat) (l : List F) (y : F) (hp : a.eval p = .pointer (some ⟨g, i, none⟩)) (hx : a.eval x = .int .u64 (vl y))
    (hown : Ow B w (.slice (some ⟨g, 0, none⟩) n cap) l) (hn : l.length = n) (hi : i < n)
    (h : ∀ w', Ow B w' (.slice (some ⟨g, 0, none⟩) n cap) (l.set i y) → Only (fun j => j = g) w w' → w'.heap.size = w.heap.size → wpList Tryz.prog ops Q rest (a.put o.dst undef) w') :
    wpList Tryz.prog ops Q (o :: rest) a w :=
  wl_storeI .u64 51 w hgd p x (fun _ => rfl) ho B g i n cap (l.map vl) (vl y) hp hx hown.oz (by rw [List.length_map]; exact hn) hi fun w' h1 h2 h3 => h w' (by
    rw [← List.map_set] at h1; exact h1.ow) h2 h3
theorem Ow.only {S : Nat → Prop} {B : Nat} {w w' : World} {v : Value} {l : List F} (h : Ow B w v l) (ho : Only S w w') (hs : ∀ g, v.ownBlock = some g → ¬ S g) : Ow B w' v l := own_only h ho hs
/-- make of ever so many numbers -/
theorem wl_makeF {ops : Array Oper} {rest : List Oper} {o : Oper} {a : Act} {Q : Exit → Act → World → Prop} (w : World) (hgd : o.guard = none) (l c : Operand)
    (ho : o.op = Op.makeSlice 44 l c) (B : Nat) (L C : Int) (n : Nat) (W : World) (hl : a.eval l = .int .i64 L) (hc : a.eval c = .int .i64 C) (hL : L = (n : Int)) (hC : C = (n : Int))
    (hn : n ≤ 4294967296) (hbel : Below B W w) (hB : B ≤ w.heap.size)
    (h : ∀ g w', Hid (g = w.heap.size) → Ow B w' (.slice (some ⟨g, 0, none⟩) n n) (List.replicate n 0) → Below B W w' → wpList Tryz.prog ops Q rest (a.put o.dst (.slice (some ⟨g, 0, none⟩) n n)) w') :
    wpList Tryz.prog ops Q (o :: rest) a w := by
  obtain ⟨i0, hi, hz0, hz1, hz2⟩ := info_parts info_u64
  have hmx : n ≤ maxLen := by unfold maxLen; omega
  refine wpList_plain hgd fun K hK' => ?_
  subst hL
  subst hC
  have hmi : (n : Int) ≤ 9223372036854775807 := by omega
  have hr := run_make (P := Tryz.prog) w 44 51 i0 (.int .u64 0) Tryz.underlying44 hi hz0 .i64 .i64 n n (by omega) (Int.le_refl _) (by rw [hz2]; omega) hmi
  simp only [Int.toNat_natCast] at hr
  unfold Oper.wp
  simp [execOp, ho, hl, hc, hr, Result.andThen]
  refine hK' _ _ (h w.heap.size _ (Lib.hid rfl) ?_ ?_)
  · have := World.ownsRow_lit w (madeCells (Value.int .u64 0).cells (n * i0.size)) (e := 51) (size := 1) n hB hmx (by rw [size_madeCells, hz1])
    unfold Ow
    rw [List.length_replicate, U_replicate]
    rw [hz1, Nat.mul_one] at this ⊢
    rw [show (Value.int .u64 0).cells = #[.int .u64 0] from rfl] at this ⊢
    rw [toList_madeCells_one] at this
    exact this
  · exact hbel.alloc hB _
/-- a slice over a block of the call's own, of whatever numbers -/
def Rw (B : Nat) (w : World) (v : Value) : Prop := v = .slice none 0 0 ∨ ∃ g n cap cur, v = .slice (some ⟨g, 0, none⟩) n cap ∧ B ≤ g ∧ w.heap[g]? = some (.cells cur 51) ∧ n ≤ cap ∧ cap ≤ cur.size ∧ cap ≤ maxLen
theorem Rw.of_row {B n : Nat} {w : World} {v : Value} {xs : List Value} (h : w.ownsRow B 51 1 v n xs) : Rw B w v := by
  rcases h.2 with ⟨rfl, h0⟩ | ⟨g, cap, cur, rfl, hb, hg, hn, hm, hs, ht⟩
  · exact .inl rfl
  · exact .inr ⟨g, n, cap, cur, rfl, hb, hg, hn, by rw [hs, Nat.mul_one]; exact Nat.le_refl _, hm⟩
theorem Rw.of_own {B : Nat} {w : World} {v : Value} {l : List F} (h : Ow B w v l) : Rw B w v := Rw.of_row h
theorem Rw.of_oz {B : Nat} {w : World} {v : Value} {l : List Int} (h : Oz .u64 51 B w v l) : Rw B w v := Rw.of_row h
theorem Rw.nil (B : Nat) (w : World) : Rw B w (.slice none 0 0) := .inl rfl
theorem Rw.cut {B n cap : Nat} {a : Option Addr} {w : World} (h : Rw B w (.slice a n cap)) (t c : Nat) (ht : t ≤ c) (hc : c ≤ cap) : Rw B w (.slice a t c) := by
  rcases h with h | ⟨g, n', cap', cur, e, h1, h2, h3, h4, h5⟩
  · injection h with e1 e2 e3
    subst e1; subst e2; subst e3
    obtain rfl : c = 0 := by omega
    obtain rfl : t = 0 := by omega
    exact .inl rfl
  · injection e with e1 e2 e3
    subst e1; subst e2; subst e3
    exact .inr ⟨g, t, c, cur, rfl, h1, h2, ht, by omega, by omega⟩
theorem Rw.mono {B B' : Nat} {w : World} {v : Value} (h : Rw B w v) (hB : B' ≤ B) : Rw B' w v := by
  rcases h with h | ⟨g, n', cap', cur, e, h1, h⟩
  · exact .inl h
  · exact .inr ⟨g, n', cap', cur, e, by omega, h⟩
theorem Rw.below {B : Nat} {w w' : World} {v : Value} (h : Rw B w v) (hb : Below w.heap.size w w') : Rw B w' v := by
  rcases h with h | ⟨g, n', cap', cur, e, h1, h2, h⟩
  · exact .inl h
  · exact .inr ⟨g, n', cap', cur, e, h1, (hb.block g (Array.getElem?_eq_some_iff.1 h2).1).trans h2, h⟩
end Go.Proofs.YtdhmmllpldjkbaaGreatDoor.Gm
