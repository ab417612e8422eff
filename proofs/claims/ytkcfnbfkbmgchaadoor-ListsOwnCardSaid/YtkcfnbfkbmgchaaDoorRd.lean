/- Slices in memory: what a slice reads as; what a slice of the call's own holds. -/
import Derived.Test.YtkcfnbfkbmgchaaDoorChecked
import Derived.WalkKit
import Derived.WalkLawsBesides
import Derived.WalkSpells
import Derived.WalkSmall
import Derived.Lib.Hide
import Derived.Outline
import Derived.Deep.QuietTactic
import Derived.BigQuiet
import Derived.OwnWalk
import Derived.Test.YtkcfnbfkbmgchaaDoorPla
namespace Go.Proofs.YtkcfnbfkbmgchaaDoor.Gm
open Go.RowKit
/-- number i of a list of integers -/
@[irreducible] def gd (zs : List Int) (i : Nat) : Int := zs.getD i 0
theorem gd_eq (zs : List Int) (i : Nat) : gd zs i = zs[i]?.getD 0 := by unfold gd; rw [List.getD_eq_getElem?_getD]
/-- a slice of integers of one kind reads as a list -/
def Rd (k : IntKind) (w : World) (v : Value) (zs : List Int) : Prop :=
  ∃ a cap b off, v = .slice a zs.length cap ∧ zs.length ≤ cap ∧ cap ≤ 9223372036854775807 ∧ (zs = [] ∨ a = some ⟨b, off, none⟩) ∧
    ∀ i, i < zs.length → w.cell? ⟨b, off + i, none⟩ = some (.int k (gd zs i))
theorem Rd.of_cells {k : IntKind} {w w' : World} {v : Value} {zs : List Int} (h : Rd k w v zs) (hc : ∀ b o, b < w.heap.size → w'.cell? ⟨b, o, none⟩ = w.cell? ⟨b, o, none⟩) : Rd k w' v zs := by
  obtain ⟨a, cap, b, off, e, h1, h2, h3, hx⟩ := h
  refine ⟨a, cap, b, off, e, h1, h2, h3, fun i hi => ?_⟩
  have := hx i hi
  rw [hc b (off + i) (World.block_lt_of_cell? w _ this)]
  exact this
theorem Rd.opened {k : IntKind} {w : World} {v : Value} {zs : List Int} (h : Rd k w v zs) : ∃ a cap b off, v = .slice a zs.length cap ∧ zs.length ≤ cap ∧ cap ≤ 9223372036854775807 ∧ (zs.length ≤ 0 ∨ a = some ⟨b, off, none⟩) ∧
    ∀ i, i < zs.length → w.cell? ⟨b, off + i, none⟩ = some (.int k (gd zs i)) := by
  obtain ⟨a, cap, b, off, e, h1, h2, h3, hx⟩ := h
  exact ⟨a, cap, b, off, e, h1, h2, h3.imp_left (fun e => by rw [e]; simp), hx⟩
theorem Rd.below {k : IntKind} {w w' : World} {v : Value} {zs : List Int} (h : Rd k w v zs) (hb : Below w.heap.size w w') : Rd k w' v zs :=
  h.of_cells (fun b o hlt => hb.cell (p := ⟨b, o, none⟩) hlt)
theorem Rd.drew {k : IntKind} {w : World} {v : Value} {zs : List Int} (h : Rd k w v zs) : Rd k w.drew v zs := h.of_cells (fun _ _ _ => rfl)
theorem Rd.drewN {k : IntKind} {w : World} {v : Value} {zs : List Int} (h : Rd k w v zs) (n : Nat) : Rd k (w.drewN n) v zs := h.of_cells (fun _ _ _ => rfl)
theorem Rd.alloc {k : IntKind} {w : World} {v : Value} {zs : List Int} (h : Rd k w v zs) (o : Obj) : Rd k (w.alloc o) v zs :=
  h.below ((Below.refl _ _).alloc (Nat.le_refl _) o)
theorem Rd.nil (k : IntKind) (w : World) : Rd k w (.slice none 0 0) [] := ⟨none, 0, 0, 0, rfl, by simp, by omega, .inl rfl, by simp⟩
/-- numbers of 64 bits -/
def B64 (zs : List Int) : Prop := ∀ z ∈ zs, 0 ≤ z ∧ z < 18446744073709551616
theorem B64.get {zs : List Int} (h : B64 zs) (i : Nat) : 0 ≤ gd zs i ∧ gd zs i < 18446744073709551616 := by
  rw [gd_eq]
  by_cases hi : i < zs.length
  · rw [List.getElem?_eq_getElem hi]; exact h _ (List.getElem_mem hi)
  · rw [List.getElem?_eq_none (by omega)]; simp
theorem B64.take {zs : List Int} (h : B64 zs) (n : Nat) : B64 (zs.take n) := fun z hz => h z (List.mem_of_mem_take hz)
theorem B64.vl (l : List F) : B64 (l.map vl) := by
  intro z hz
  obtain ⟨x, _, rfl⟩ := List.mem_map.1 hz
  have h1 := vl_lo x; have h2 := vl_hi x
  omega
/-- the cells of a list of the field -/
def U (l : List F) : List Value := l.map fun x => .int .u64 (vl x)
theorem U_len (l : List F) : (U l).length = l.length := by simp [U]
theorem U_snoc (l : List F) (x : F) : U (l ++ [x]) = U l ++ [.int .u64 (vl x)] := by simp [U]
/-- a slice of the call's own that holds a list of the field -/
def Ow (B : Nat) (w : World) (v : Value) (l : List F) : Prop := w.ownsRow B 25 1 v l.length (U l)
theorem Ow.nil (B : Nat) (w : World) : Ow B w (.slice none 0 0) [] := World.ownsRow_nil _ _ _ _
theorem Ow.rd {B : Nat} {w : World} {v : Value} {l : List F} (h : Ow B w v l) : Rd .u64 w v (l.map vl) := by
  unfold Ow at h
  rcases h.2 with ⟨rfl, h0⟩ | ⟨g, cap, cur, rfl, hb, hg, hn, hm, hs, ht⟩
  · have : l = [] := List.length_eq_zero_iff.1 h0
    subst this; exact Rd.nil _ _
  · refine ⟨some ⟨g, 0, none⟩, cap, g, 0, by simp, by simpa using hn, by unfold maxLen at hm; omega, .inr rfl, fun i hi => ?_⟩
    rw [List.length_map] at hi
    have h1 := World.ownsRow.cellAt h i (by omega)
    rw [Nat.zero_add, h1, gd_eq]
    simp [U, List.getElem?_eq_getElem hi]
theorem Ow.of_heap {B : Nat} {w w' : World} {v : Value} {l : List F} (h : Ow B w v l) (hh : ∀ k, k < w.heap.size → w'.heap[k]? = w.heap[k]?) : Ow B w' v l := by
  refine ⟨h.1, ?_⟩
  rcases h.2 with h0 | ⟨g, cap, cur, e, hb, hg, rest⟩
  · exact .inl h0
  · exact .inr ⟨g, cap, cur, e, hb, (hh g (Array.getElem?_eq_some_iff.1 hg).1).trans hg, rest⟩
theorem Ow.below {B : Nat} {w w' : World} {v : Value} {l : List F} (h : Ow B w v l) (hb : Below w.heap.size w w') : Ow B w' v l :=
  h.of_heap (fun k hk => hb.block k hk)
theorem Ow.mono {B B' : Nat} {w : World} {v : Value} {l : List F} (h : Ow B w v l) (hB : B' ≤ B) : Ow B' w v l := by
  refine ⟨h.1, ?_⟩
  rcases h.2 with h0 | ⟨g, cap, cur, e, hb, rest⟩
  · exact .inl h0
  · exact .inr ⟨g, cap, cur, e, by omega, rest⟩
theorem Ow.drewN {B : Nat} {w : World} {v : Value} {l : List F} (h : Ow B w v l) (n : Nat) : Ow B (w.drewN n) v l := h.of_heap (fun _ _ => rfl)
theorem map_toF_vl (l : List F) : (l.map vl).map toF = l := by
  rw [List.map_map]
  conv => rhs; rw [← List.map_id l]
  exact List.map_congr_left (fun x _ => toF_vl x)
theorem cf_map (zs : List Int) (i : Nat) : cf (zs.map toF) i = toF (gd zs i) := by
  rw [gd_eq]
  unfold cf
  rw [List.getD_eq_getElem?_getD, List.getElem?_map]
  cases zs[i]? with
  | none => exact toF_zero.symm
  | some z => rfl
/-- a call's end: a list of its own -/
def RetL (w : World) (l : List F) (e : Ending) (w' : World) : Prop := ∃ v, e = .returned v ∧ Ow w.heap.size w' v l ∧ Below w.heap.size w w'
/-- .. and an error's number -/
def RetLE (w : World) (l : List F) (n : Int) (e : Ending) (w' : World) : Prop := ∃ v, e = .returned (.tuple #[v, .int .i64 n]) ∧ Ow w.heap.size w' v l ∧ Below w.heap.size w w'
def RetV (w : World) (v : Value) (e : Ending) (w' : World) : Prop := e = .returned v ∧ Below w.heap.size w w'
theorem info_u64 : (Tryd.prog.info? 25).map (fun i => (i.zero, i.size, i.bytes)) = some (some (.int .u64 0), 1, 8) := by kernel_rfl
/-- append of one number to a list of the call's own (the number's block has just been laid) -/
theorem wl_app {ops : Array Oper} {rest : List Oper} {o : Oper} {a : Act} {Q : Exit → Act → World → Prop} (w : World) (hgd : o.guard = none) (s x : Operand)
    (ho : o.op = .call { callee := .builtin .append, args := #[s, x], argTypes := #[22, 22] })
    (B : Nat) (v : Value) (l : List F) (y : F) (W : World) (hs : a.eval s = v) (hx : a.eval x = .slice (some ⟨w.heap.size, 0, none⟩) 1 1)
    (hown : Ow B w v l) (hbel : Below B W w) (hB : B ≤ w.heap.size) (hl : l.length ≤ 1000000)
    (h : ∀ v' w', Ow B w' v' (l ++ [y]) → Below B W w' → wpList Tryd.prog ops Q rest (a.put o.dst v') w') :
    wpList Tryd.prog ops Q (o :: rest) a (w.alloc (.cells #[.int .u64 (vl y)] 25)) := by
  obtain ⟨i0, hi, hz0, hz1, hz2⟩ := info_parts info_u64
  have hmx : l.length + 1 ≤ maxLen := by unfold maxLen; omega
  refine wpList_append_own _ hgd s x 22 ho B 25 i0 (.int .u64 0) 1 8 Tryd.underlying22 hi hz0 hz1 hz2 rfl (by decide) v l.length (U l) hs (World.ownsRow.alloc hown _) ⟨w.heap.size, 0, none⟩ 1 1 [.int .u64 (vl y)] hx rfl ?_ ?_ hmx (by omega) (by simp; omega) ?_
  · intro j u hj
    match j, hj with
    | 0, hj => simp at hj; subst hj; simp [Addr.add]
  · intro u hu; simp at hu; subst hu; rfl
  · intro v' w' hown' hgrow _
    refine h v' w' ?_ ?_
    · unfold Ow
      rw [U_snoc, List.length_append, List.length_singleton]
      exact hown'
    · have h1 : Below B W (w.alloc (.cells #[.int .u64 (vl y)] 25)) := hbel.alloc hB _
      refine h1.grown hgrow (by simp; omega) (fun k hk => ?_)
      exact (World.ownsRow.lt hown k hk).1
theorem U_replicate (n : Nat) : U (List.replicate n 0) = List.replicate n (.int .u64 0) := by
  unfold U; rw [List.map_replicate, vl_zero]
/-- make of so many numbers -/
theorem wl_make {ops : Array Oper} {rest : List Oper} {o : Oper} {a : Act} {Q : Exit → Act → World → Prop} (w : World) (hgd : o.guard = none) (l c : Operand)
    (ho : o.op = Op.makeSlice 22 l c) (B : Nat) (L C : Int) (n : Nat) (W : World) (hl : a.eval l = .int .i64 L) (hc : a.eval c = .int .i64 C) (hL : L = (n : Int)) (hC : C = (n : Int))
    (hn : n ≤ 1000000) (hbel : Below B W w) (hB : B ≤ w.heap.size)
    (h : ∀ g w', Hid (g = w.heap.size) → Ow B w' (.slice (some ⟨g, 0, none⟩) n n) (List.replicate n 0) → Below B W w' → wpList Tryd.prog ops Q rest (a.put o.dst (.slice (some ⟨g, 0, none⟩) n n)) w') :
    wpList Tryd.prog ops Q (o :: rest) a w := by
  obtain ⟨i0, hi, hz0, hz1, hz2⟩ := info_parts info_u64
  have hmx : n ≤ maxLen := by unfold maxLen; omega
  refine wpList_plain hgd fun K hK' => ?_
  subst hL
  subst hC
  have hmi : (n : Int) ≤ 9223372036854775807 := by omega
  have hr := run_make (P := Tryd.prog) w 22 25 i0 (.int .u64 0) Tryd.underlying22 hi hz0 .i64 .i64 n n (by omega) (Int.le_refl _) (by rw [hz2]; omega) hmi
  simp only [Int.toNat_natCast] at hr
  unfold Oper.wp
  simp [execOp, ho, hl, hc, hr, Result.andThen]
  refine hK' _ _ (h w.heap.size _ (Lib.hid rfl) ?_ ?_)
  · have := World.ownsRow_lit w (madeCells (Value.int .u64 0).cells (n * i0.size)) (e := 25) (size := 1) n hB hmx (by rw [size_madeCells, hz1])
    unfold Ow
    rw [List.length_replicate, U_replicate]
    rw [hz1, Nat.mul_one] at this ⊢
    rw [show (Value.int .u64 0).cells = #[.int .u64 0] from rfl] at this ⊢
    rw [toList_madeCells_one] at this
    exact this
  · exact hbel.alloc hB _
theorem Ow.cell {B g cap : Nat} {w : World} {l : List F} (h : Ow B w (.slice (some ⟨g, 0, none⟩) l.length cap) l) {i : Nat} (hi : i < l.length) : w.cell? ⟨g, i, none⟩ = some (.int .u64 (vl (cf l i))) := by
  rw [World.ownsRow.cellAt h i (by omega), cf_lt hi]
  simp [U, List.getElem?_eq_getElem hi]
theorem Ow.frozen {B g cap : Nat} {w : World} {l : List F} (h : Ow B w (.slice (some ⟨g, 0, none⟩) l.length cap) l) (i : Nat) : w.frozen? ⟨g, i, none⟩ = false :=
  World.ownsRow.frozenAt h i
theorem U_set (l : List F) (i : Nat) (y : F) : U (l.set i y) = (U l).set i (.int .u64 (vl y)) := by
  unfold U; rw [List.map_set]
theorem Ow.set {B g cap : Nat} {w : World} {l : List F} (h : Ow B w (.slice (some ⟨g, 0, none⟩) l.length cap) l) (i : Nat) (y : F) : Ow B (w.setCell ⟨g, i, none⟩ (.int .u64 (vl y))) (.slice (some ⟨g, 0, none⟩) (l.set i y).length cap) (l.set i y) := by
  have := (World.ownsRow.stored h i (.int .u64 (vl y))).1
  unfold Ow
  rw [U_set, List.length_set]
  exact this
theorem Ow.base {B g n cap : Nat} {w : World} {l : List F} (h : Ow B w (.slice (some ⟨g, 0, none⟩) n cap) l) : B ≤ g ∧ g < w.heap.size := World.ownsRow.lt h g rfl
theorem cf_set (l : List F) (i j : Nat) (y : F) (hi : i < l.length) : cf (l.set i y) j = if i = j then y else cf l j := by
  unfold cf
  rw [List.getD_eq_getElem?_getD, List.getElem?_set, List.getD_eq_getElem?_getD]
  split
  · rename_i h; subst h; simp
  · rfl
theorem cf_replicate (n i : Nat) : cf (List.replicate n 0) i = 0 := by
  unfold cf
  rw [List.getD_eq_getElem?_getD, List.getElem?_replicate]
  split <;> rfl
/-- a store into a list of the call's own -/
theorem wl_store {ops : Array Oper} {rest : List Oper} {o : Oper} {a : Act} {Q : Exit → Act → World → Prop} (w : World) (hgd : o.guard = none) (p x : Operand)
    (ho : o.op = .store 25 p x) (B g i n cap : Nat) (l : List F) (y : F) (W : World) (hp : a.eval p = .pointer (some ⟨g, i, none⟩)) (hx : a.eval x = .int .u64 (vl y))
    (hown : Ow B w (.slice (some ⟨g, 0, none⟩) n cap) l) (hn : l.length = n) (hi : i < n) (hbel : Below B W w)
    (h : ∀ w', Ow B w' (.slice (some ⟨g, 0, none⟩) n cap) (l.set i y) → Below B W w' → w'.heap.size = w.heap.size → wpList Tryd.prog ops Q rest (a.put o.dst undef) w') :
    wpList Tryd.prog ops Q (o :: rest) a w := by
  subst hn
  have hc := hown.cell hi
  have hf := hown.frozen i
  refine wpList_plain hgd fun K hK' => ?_
  have hset := hown.set i y
  rw [List.length_set] at hset
  have hk := hK' _ _ (h (w.setCell ⟨g, i, none⟩ (.int .u64 (vl y))) hset (hbel.setCell hown.base.1 _) (by simp [World.setCell]))
  unfold Oper.wp
  simp [execOp, ho, hp, hx, Result.andThen]
  go_simp
  exact hk
theorem bcell {W w1 : World} {B : Nat} (hb : Below B W w1) : (∀ b o, b < B → w1.cell? ⟨b, o, none⟩ = W.cell? ⟨b, o, none⟩) := fun b o h => hb.cell (p := ⟨b, o, none⟩) h
end Go.Proofs.YtkcfnbfkbmgchaaDoor.Gm
