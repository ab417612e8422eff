/- Laid together by wip/merge.py: Rd Bits Fw Fx Pn Rf Ri Pe Pa Oz Bl. -/
import Derived.Test.YtdhmmllpldjkbaaGreatDoorChecked
import Derived.WalkKit
import Derived.WalkLawsBesides
import Derived.WalkSpells
import Derived.WalkSmall
import Derived.Lib.Hide
import Derived.Outline
import Derived.Deep.QuietTactic
import Derived.BigQuiet
import Derived.OwnWalk
import Derived.Test.YtdhmmllpldjkbaaGreatDoorPla
import Derived.Shelf.Bits.Mul64
import Derived.Test.YtdhmmllpldjkbaaGreatDoorProg
import Derived.StillTailTactics
import Derived.Deep.AppendLies
import Derived.Laws.Rows
import Derived.Laws.OwnMore
import Derived.Maps.AppendAt
import Derived.Deep.MidRow
/- (Rd) -/
namespace Go.Proofs.YtdhmmllpldjkbaaGreatDoor.Gm
open Go.RowKit
/-- number i of a list of integers -/
@[irreducible] def gd (zs : List Int) (i : Nat) : Int := zs.getD i 0
theorem gd_eq (zs : List Int) (i : Nat) : gd zs i = zs[i]?.getD 0 := by unfold gd; rw [List.getD_eq_getElem?_getD]
/-- a slice of integers of one kind reads as a list -/
def Rd (k : IntKind) (w : World) (v : Value) (zs : List Int) : Prop :=
  ∃ a cap b off, v = .slice a zs.length cap ∧ zs.length ≤ cap ∧ cap ≤ 9223372036854775807 ∧ (zs = [] ∨ a = some ⟨b, off, none⟩) ∧
    ∀ i, i < zs.length → w.cell? ⟨b, off + i, none⟩ = some (.int k (gd zs i))
theorem Rd.of_cells {k : IntKind} {w w' : World} {v : Value} {zs : List Int} (h : Rd k w v zs) (hc : ∀ b o, b < w.heap.size → w'.cell? ⟨b, o, none⟩ = w.cell? ⟨b, o, none⟩) : Rd k w' v zs := by
  obtain ⟨a, cap, b, off, e, h1, h2, h3, hx⟩ := h
  refine ⟨a, cap, b, off, e, h1, h2, h3, fun i hi => ?_⟩
  have := hx i hi
  rw [hc b (off + i) (World.block_lt_of_cell? w _ this)]
  exact this
theorem Rd.opened {k : IntKind} {w : World} {v : Value} {zs : List Int} (h : Rd k w v zs) : ∃ a cap b off, v = .slice a zs.length cap ∧ zs.length ≤ cap ∧ cap ≤ 9223372036854775807 ∧ (zs.length ≤ 0 ∨ a = some ⟨b, off, none⟩) ∧
    ∀ i, i < zs.length → w.cell? ⟨b, off + i, none⟩ = some (.int k (gd zs i)) := by
  obtain ⟨a, cap, b, off, e, h1, h2, h3, hx⟩ := h
  exact ⟨a, cap, b, off, e, h1, h2, h3.imp_left (fun e => by rw [e]; simp), hx⟩
theorem Rd.below {k : IntKind} {w w' : World} {v : Value} {zs : List Int} (h : Rd k w v zs) (hb : Below w.heap.size w w') : Rd k w' v zs :=
  h.of_cells (fun b o hlt => hb.cell (p := ⟨b, o, none⟩) hlt)
theorem Rd.drew {k : IntKind} {w : World} {v : Value} {zs : List Int} (h : Rd k w v zs) : Rd k w.drew v zs := h.of_cells (fun _ _ _ => rfl)
theorem Rd.drewN {k : IntKind} {w : World} {v : Value} {zs : List Int} (h : Rd k w v zs) (n : Nat) : Rd k (w.drewN n) v zs := h.of_cells (fun _ _ _ => rfl)
theorem Rd.alloc {k : IntKind} {w : World} {v : Value} {zs : List Int} (h : Rd k w v zs) (o : Obj) : Rd k (w.alloc o) v zs :=
  h.below ((Below.refl _ _).alloc (Nat.le_refl _) o)
theorem Rd.nil (k : IntKind) (w : World) : Rd k w (.slice none 0 0) [] := ⟨none, 0, 0, 0, rfl, by simp, by omega, .inl rfl, by simp⟩
/-- numbers of 64 bits -/
def B64 (zs : List Int) : Prop := ∀ z ∈ zs, 0 ≤ z ∧ z < 18446744073709551616
theorem B64.get {zs : List Int} (h : B64 zs) (i : Nat) : 0 ≤ gd zs i ∧ gd zs i < 18446744073709551616 := by
  rw [gd_eq]
  by_cases hi : i < zs.length
  · rw [List.getElem?_eq_getElem hi]; exact h _ (List.getElem_mem hi)
  · rw [List.getElem?_eq_none (by omega)]; simp
theorem B64.take {zs : List Int} (h : B64 zs) (n : Nat) : B64 (zs.take n) := fun z hz => h z (List.mem_of_mem_take hz)
theorem B64.vl (l : List F) : B64 (l.map vl) := by
  intro z hz
  obtain ⟨x, _, rfl⟩ := List.mem_map.1 hz
  have h1 := vl_lo x; have h2 := vl_hi x
  omega
/-- the cells of a list of the field -/
def U (l : List F) : List Value := l.map fun x => .int .u64 (vl x)
theorem U_len (l : List F) : (U l).length = l.length := by simp [U]
theorem U_snoc (l : List F) (x : F) : U (l ++ [x]) = U l ++ [.int .u64 (vl x)] := by simp [U]
/-- a slice of the call's own that holds a list of the field -/
def Ow (B : Nat) (w : World) (v : Value) (l : List F) : Prop := w.ownsRow B 51 1 v l.length (U l)
theorem Ow.nil (B : Nat) (w : World) : Ow B w (.slice none 0 0) [] := World.ownsRow_nil _ _ _ _
theorem Ow.rd {B : Nat} {w : World} {v : Value} {l : List F} (h : Ow B w v l) : Rd .u64 w v (l.map vl) := by
  unfold Ow at h
  rcases h.2 with ⟨rfl, h0⟩ | ⟨g, cap, cur, rfl, hb, hg, hn, hm, hs, ht⟩
  · have : l = [] := List.length_eq_zero_iff.1 h0
    subst this; exact Rd.nil _ _
  · refine ⟨some ⟨g, 0, none⟩, cap, g, 0, by simp, by simpa using hn, by unfold maxLen at hm; omega, .inr rfl, fun i hi => ?_⟩
    rw [List.length_map] at hi
    have h1 := World.ownsRow.cellAt h i (by omega)
    rw [Nat.zero_add, h1, gd_eq]
    simp [U, List.getElem?_eq_getElem hi]
theorem Ow.of_heap {B : Nat} {w w' : World} {v : Value} {l : List F} (h : Ow B w v l) (hh : ∀ k, k < w.heap.size → w'.heap[k]? = w.heap[k]?) : Ow B w' v l := by
  refine ⟨h.1, ?_⟩
  rcases h.2 with h0 | ⟨g, cap, cur, e, hb, hg, rest⟩
  · exact .inl h0
  · exact .inr ⟨g, cap, cur, e, hb, (hh g (Array.getElem?_eq_some_iff.1 hg).1).trans hg, rest⟩
theorem Ow.below {B : Nat} {w w' : World} {v : Value} {l : List F} (h : Ow B w v l) (hb : Below w.heap.size w w') : Ow B w' v l :=
  h.of_heap (fun k hk => hb.block k hk)
theorem Ow.mono {B B' : Nat} {w : World} {v : Value} {l : List F} (h : Ow B w v l) (hB : B' ≤ B) : Ow B' w v l := by
  refine ⟨h.1, ?_⟩
  rcases h.2 with h0 | ⟨g, cap, cur, e, hb, rest⟩
  · exact .inl h0
  · exact .inr ⟨g, cap, cur, e, by omega, rest⟩
theorem Ow.drewN {B : Nat} {w : World} {v : Value} {l : List F} (h : Ow B w v l) (n : Nat) : Ow B (w.drewN n) v l := h.of_heap (fun _ _ => rfl)
theorem map_toF_vl (l : List F) : (l.map vl).map toF = l := by
  rw [List.map_map]
  conv => rhs; rw [← List.map_id l]
  exact List.map_congr_left (fun x _ => toF_vl x)
theorem cf_map (zs : List Int) (i : Nat) : cf (zs.map toF) i = toF (gd zs i) := by
  rw [gd_eq]
  unfold cf
  rw [List.getD_eq_getElem?_getD, List.getElem?_map]
  cases zs[i]? with
  | none => exact toF_zero.symm
  | some z => rfl
/-- a call's end: a list of its own -/
def RetL (w : World) (l : List F) (e : Ending) (w' : World) : Prop := ∃ v, e = .returned v ∧ Ow w.heap.size w' v l ∧ Below w.heap.size w w'
/-- .. and an error's number -/
def RetLE (w : World) (l : List F) (n : Int) (e : Ending) (w' : World) : Prop := ∃ v, e = .returned (.tuple #[v, .int .i64 n]) ∧ Ow w.heap.size w' v l ∧ Below w.heap.size w w'
def RetV (w : World) (v : Value) (e : Ending) (w' : World) : Prop := e = .returned v ∧ Below w.heap.size w w'
theorem info_u64 : (Tryz.prog.info? 51).map (fun i => (i.zero, i.size, i.bytes)) = some (some (.int .u64 0), 1, 8) := by kernel_rfl
/-- append of one number to a list of the call's own (the number's block has just been laid) -/
theorem wl_app {ops : Array Oper} {rest : List Oper} {o : Oper} {a : Act} {Q : Exit → Act → World → Prop} (w : World) (hgd : o.guard = none) (s x : Operand)
    (ho : o.op = .call { callee := .builtin .append, args := #[s, x], argTypes := #[44, 44] })
    (B : Nat) (v : Value) (l : List F) (y : F) (W : World) (hs : a.eval s = v) (hx : a.eval x = .slice (some ⟨w.heap.size, 0, none⟩) 1 1)
    (hown : Ow B w v l) (hbel : Below B W w) (hB : B ≤ w.heap.size) (hl : l.length ≤ 1000000)
    (h : ∀ v' w', Ow B w' v' (l ++ [y]) → Below B W w' → wpList Tryz.prog ops Q rest (a.put o.dst v') w') :
    wpList Tryz.prog ops Q (o :: rest) a (w.alloc (.cells #[.int .u64 (vl y)] 51)) := by
  obtain ⟨i0, hi, hz0, hz1, hz2⟩ := info_parts info_u64
  have hmx : l.length + 1 ≤ maxLen := by unfold maxLen; omega
  refine wpList_append_own _ hgd s x 44 ho B 51 i0 (.int .u64 0) 1 8 Tryz.underlying44 hi hz0 hz1 hz2 rfl (by decide) v l.length (U l) hs (World.ownsRow.alloc hown _) ⟨w.heap.size, 0, none⟩ 1 1 [.int .u64 (vl y)] hx rfl ?_ ?_ hmx (by omega) (by simp; omega) ?_
  · intro j u hj
    match j, hj with
    | 0, hj => simp at hj; subst hj; simp [Addr.add]
  · intro u hu; simp at hu; subst hu; rfl
  · intro v' w' hown' hgrow _
    refine h v' w' ?_ ?_
    · unfold Ow
      rw [U_snoc, List.length_append, List.length_singleton]
      exact hown'
    · have h1 : Below B W (w.alloc (.cells #[.int .u64 (vl y)] 51)) := hbel.alloc hB _
      refine h1.grown hgrow (by simp; omega) (fun k hk => ?_)
      exact (World.ownsRow.lt hown k hk).1
theorem U_replicate (n : Nat) : U (List.replicate n 0) = List.replicate n (.int .u64 0) := by
  unfold U; rw [List.map_replicate, vl_zero]
/-- make of so many numbers -/
theorem wl_make {ops : Array Oper} {rest : List Oper} {o : Oper} {a : Act} {Q : Exit → Act → World → Prop} (w : World) (hgd : o.guard = none) (l c : Operand)
    (ho : o.op = Op.makeSlice 44 l c) (B : Nat) (L C : Int) (n : Nat) (W : World) (hl : a.eval l = .int .i64 L) (hc : a.eval c = .int .i64 C) (hL : L = (n : Int)) (hC : C = (n : Int))
    (hn : n ≤ 1000000) (hbel : Below B W w) (hB : B ≤ w.heap.size)
    (h : ∀ g w', Hid (g = w.heap.size) → Ow B w' (.slice (some ⟨g, 0, none⟩) n n) (List.replicate n 0) → Below B W w' → wpList Tryz.prog ops Q rest (a.put o.dst (.slice (some ⟨g, 0, none⟩) n n)) w') :
    wpList Tryz.prog ops Q (o :: rest) a w := by
  obtain ⟨i0, hi, hz0, hz1, hz2⟩ := info_parts info_u64
  have hmx : n ≤ maxLen := by unfold maxLen; omega
  refine wpList_plain hgd fun K hK' => ?_
  subst hL
  subst hC
  have hmi : (n : Int) ≤ 9223372036854775807 := by omega
  have hr := run_make (P := Tryz.prog) w 44 51 i0 (.int .u64 0) Tryz.underlying44 hi hz0 .i64 .i64 n n (by omega) (Int.le_refl _) (by rw [hz2]; omega) hmi
  simp only [Int.toNat_natCast] at hr
  unfold Oper.wp
  simp [execOp, ho, hl, hc, hr, Result.andThen]
  refine hK' _ _ (h w.heap.size _ (Lib.hid rfl) ?_ ?_)
  · have := World.ownsRow_lit w (madeCells (Value.int .u64 0).cells (n * i0.size)) (e := 51) (size := 1) n hB hmx (by rw [size_madeCells, hz1])
    unfold Ow
    rw [List.length_replicate, U_replicate]
    rw [hz1, Nat.mul_one] at this ⊢
    rw [show (Value.int .u64 0).cells = #[.int .u64 0] from rfl] at this ⊢
    rw [toList_madeCells_one] at this
    exact this
  · exact hbel.alloc hB _
theorem Ow.cell {B g cap : Nat} {w : World} {l : List F} (h : Ow B w (.slice (some ⟨g, 0, none⟩) l.length cap) l) {i : Nat} (hi : i < l.length) : w.cell? ⟨g, i, none⟩ = some (.int .u64 (vl (cf l i))) := by
  rw [World.ownsRow.cellAt h i (by omega), cf_lt hi]
  simp [U, List.getElem?_eq_getElem hi]
theorem Ow.frozen {B g cap : Nat} {w : World} {l : List F} (h : Ow B w (.slice (some ⟨g, 0, none⟩) l.length cap) l) (i : Nat) : w.frozen? ⟨g, i, none⟩ = false :=
  World.ownsRow.frozenAt h i
theorem U_set (l : List F) (i : Nat) (y : F) : U (l.set i y) = (U l).set i (.int .u64 (vl y)) := by
  unfold U; rw [List.map_set]
theorem Ow.set {B g cap : Nat} {w : World} {l : List F} (h : Ow B w (.slice (some ⟨g, 0, none⟩) l.length cap) l) (i : Nat) (y : F) : Ow B (w.setCell ⟨g, i, none⟩ (.int .u64 (vl y))) (.slice (some ⟨g, 0, none⟩) (l.set i y).length cap) (l.set i y) := by
  have := (World.ownsRow.stored h i (.int .u64 (vl y))).1
  unfold Ow
  rw [U_set, List.length_set]
  exact this
theorem Ow.base {B g n cap : Nat} {w : World} {l : List F} (h : Ow B w (.slice (some ⟨g, 0, none⟩) n cap) l) : B ≤ g ∧ g < w.heap.size := World.ownsRow.lt h g rfl
theorem cf_set (l : List F) (i j : Nat) (y : F) (hi : i < l.length) : cf (l.set i y) j = if i = j then y else cf l j := by
  unfold cf
  rw [List.getD_eq_getElem?_getD, List.getElem?_set, List.getD_eq_getElem?_getD]
  split
  · rename_i h; subst h; simp
  · rfl
theorem cf_replicate (n i : Nat) : cf (List.replicate n 0) i = 0 := by
  unfold cf
  rw [List.getD_eq_getElem?_getD, List.getElem?_replicate]
  split <;> rfl
/-- a store into a list of the call's own -/
theorem wl_store {ops : Array Oper} {rest : List Oper} {o : Oper} {a : Act} {Q : Exit → Act → World → Prop} (w : World) (hgd : o.guard = none) (p x : Operand)
    (ho : o.op = .store 51 p x) (B g i n cap : Nat) (l : List F) (y : F) (W : World) (hp : a.eval p = .pointer (some ⟨g, i, none⟩)) (hx : a.eval x = .int .u64 (vl y))
    (hown : Ow B w (.slice (some ⟨g, 0, none⟩) n cap) l) (hn : l.length = n) (hi : i < n) (hbel : Below B W w)
    (h : ∀ w', Ow B w' (.slice (some ⟨g, 0, none⟩) n cap) (l.set i y) → Below B W w' → w'.heap.size = w.heap.size → wpList Tryz.prog ops Q rest (a.put o.dst undef) w') :
    wpList Tryz.prog ops Q (o :: rest) a w := by
  subst hn
  have hc := hown.cell hi
  have hf := hown.frozen i
  refine wpList_plain hgd fun K hK' => ?_
  have hset := hown.set i y
  rw [List.length_set] at hset
  have hk := hK' _ _ (h (w.setCell ⟨g, i, none⟩ (.int .u64 (vl y))) hset (hbel.setCell hown.base.1 _) (by simp [World.setCell]))
  unfold Oper.wp
  simp [execOp, ho, hp, hx, Result.andThen]
  go_simp
  exact hk
theorem bcell {W w1 : World} {B : Nat} (hb : Below B W w1) : (∀ b o, b < B → w1.cell? ⟨b, o, none⟩ = W.cell? ⟨b, o, none⟩) := fun b o h => hb.cell (p := ⟨b, o, none⟩) h
end Go.Proofs.YtdhmmllpldjkbaaGreatDoor.Gm
/- (Bits) -/
namespace Go.Proofs.YtdhmmllpldjkbaaGreatDoor.Gm
open Go.Shelf
def lays264_ren : Go.Shelf.Ren := ⟨fun | 264 => 103 | n => n, fun | 53 => 51 | 46 => 90 | n => n, fun | n => n⟩
theorem lays264 : Go.Proofs.Lays.n264 Tryz.prog lays264_ren := {
  mixed := by kernel_rfl
  f264 := Tryz.func103.trans (congrArg some (by kernel_rfl))
  t46 := Tryz.underlying90
  a46 := Tryz.isAgg90
  z46 := Tryz.sizeOf90
  v46 := Tryz.zeroValue90
  t53 := Tryz.underlying51
  a53 := Tryz.isAgg51
  z53 := Tryz.sizeOf51
  v53 := Tryz.zeroValue51 }
@[irreducible] def hiM (x y : F) : Int := vl x * vl y / 18446744073709551616
@[irreducible] def loM (x y : F) : Int := vl x * vl y % 18446744073709551616
theorem hilo (x y : F) : vl x * vl y = hiM x y * 18446744073709551616 + loM x y := by unfold hiM loM; omega
theorem lo_lo (x y : F) : 0 ≤ loM x y := by unfold loM; omega
theorem lo_hi (x y : F) : loM x y < 18446744073709551616 := by unfold loM; omega
theorem hi_lo (x y : F) : 0 ≤ hiM x y := by
  have := Int.mul_nonneg (vl_lo x) (vl_lo y)
  unfold hiM; omega
theorem hi_hi (x y : F) : hiM x y < 18446744073709551616 := by
  have h1 := vl_hi x
  have h2 := vl_hi y
  have h3 := vl_lo x
  have h4 := vl_lo y
  have := Int.mul_le_mul (Int.le_of_lt h1) (Int.le_of_lt h2) h4 (by omega)
  unfold hiM; omega
open Go.RowKit Go.Lib in
theorem mul64_any (x y : F) (w : World) :
    Calls Tryz.prog 103 #[.int .u64 (vl x), .int .u64 (vl y)] w fun e w' => e = .returned (.tuple #[.int .u64 (hiM x y), .int .u64 (loM x y)]) ∧ w = w' := by
  have h1 := vl_hi x
  have h2 := vl_hi y
  have hx : x.val < 18446744073709551616 := by unfold vl at h1; omega
  have hy : y.val < 18446744073709551616 := by unfold vl at h2; omega
  have e1 : ∀ z : F, vl z = ((z.val : Nat) : Int) := fun z => by unfold vl; rfl
  unfold hiM loM
  rw [e1, e1]
  refine (Any.bits_Mul64 lays264 x.val y.val hx hy w).mono fun e w' h => ⟨h.1.trans ?_, h.2.symm⟩

  rw [Int.natCast_ediv, Int.natCast_emod, Int.natCast_mul]
  rfl
end Go.Proofs.YtdhmmllpldjkbaaGreatDoor.Gm
/- (Fw) -/
namespace Go.Proofs.YtdhmmllpldjkbaaGreatDoor.Gm
open Go.RowKit
theorem lt_ge (a b : Int) : a < b ∨ b ≤ a := by omega
theorem ret_u64 {a b : Int} (h : a = b) : Ending.returned (.int .u64 a) = .returned (.int .u64 b) := by rw [h]
theorem norm_any (a : Int) (w : World) (h0 : 0 ≤ a) (h1 : a < 18446744073709551616) :
    Calls Tryz.prog 68 #[.int .u64 a] w fun e w' => e = .returned (.int .u64 (vl (toF a))) ∧ w = w' := by
  by_cases hc : 18446744069414584321 ≤ a
  · go_enter Tryz.func68, Tryz.ntmps68
    go_wp2
    go_ret
    exact ⟨ret_u64 (norm_ge hc h1), rfl⟩
  · go_enter Tryz.func68, Tryz.ntmps68
    go_wp2
    go_ret
    exact ⟨ret_u64 (toF_id h0 (by omega)).symm, rfl⟩
theorem add_ge {x y : F} (h : 18446744069414584321 - vl y ≤ vl x) : vl x - (18446744069414584321 - vl y) = vl (x + y) := by
  have h1 := vl_lo x; have h2 := vl_hi x; have h3 := vl_lo y; have h4 := vl_hi y
  rw [vl_add]; omega
theorem add_lt {x y : F} (h : vl x < 18446744069414584321 - vl y) : vl x + vl y = vl (x + y) := by
  have h1 := vl_lo x; have h2 := vl_hi x; have h3 := vl_lo y; have h4 := vl_hi y
  rw [vl_add]; omega
theorem sub_lt {x y : F} (h : vl x < vl y) : vl x + (18446744069414584321 - vl y) = vl (x - y) := by
  have h1 := vl_lo x; have h2 := vl_hi x; have h3 := vl_lo y; have h4 := vl_hi y
  rw [vl_sub]; omega
theorem sub_ge {x y : F} (h : vl y ≤ vl x) : vl x - vl y = vl (x - y) := by
  have h1 := vl_lo x; have h2 := vl_hi x; have h3 := vl_lo y; have h4 := vl_hi y
  rw [vl_sub]; omega
theorem add_any (a b : Int) (w : World) (ha0 : 0 ≤ a) (ha1 : a < 18446744073709551616) (hb0 : 0 ≤ b) (hb1 : b < 18446744073709551616) :
    Calls Tryz.prog 64 #[.int .u64 a, .int .u64 b] w fun e w' => e = .returned (.int .u64 (vl (toF a + toF b))) ∧ w = w' := by
  have h1 := vl_lo (toF a); have h2 := vl_hi (toF a); have h3 := vl_lo (toF b); have h4 := vl_hi (toF b)
  rcases lt_ge (vl (toF a)) (18446744069414584321 - vl (toF b)) with hc | hc
  rotate_left
  · go_enter Tryz.func64, Tryz.ntmps64
    go_wp2_with fail
    refine (norm_any a _ ha0 ha1).mono ?_
    rintro e w' ⟨rfl, rfl⟩
    go_wp2_with fail
    refine (norm_any b _ hb0 hb1).mono ?_
    rintro e w' ⟨rfl, rfl⟩
    go_wp2
    go_ret
    exact ⟨ret_u64 (add_ge hc), rfl⟩
  · go_enter Tryz.func64, Tryz.ntmps64
    go_wp2_with fail
    refine (norm_any a _ ha0 ha1).mono ?_
    rintro e w' ⟨rfl, rfl⟩
    go_wp2_with fail
    refine (norm_any b _ hb0 hb1).mono ?_
    rintro e w' ⟨rfl, rfl⟩
    go_wp2
    go_ret
    exact ⟨ret_u64 (add_lt hc), rfl⟩
theorem sub_any (a b : Int) (w : World) (ha0 : 0 ≤ a) (ha1 : a < 18446744073709551616) (hb0 : 0 ≤ b) (hb1 : b < 18446744073709551616) :
    Calls Tryz.prog 65 #[.int .u64 a, .int .u64 b] w fun e w' => e = .returned (.int .u64 (vl (toF a - toF b))) ∧ w = w' := by
  have h1 := vl_lo (toF a); have h2 := vl_hi (toF a); have h3 := vl_lo (toF b); have h4 := vl_hi (toF b)
  rcases lt_ge (vl (toF a)) (vl (toF b)) with hc | hc
  · go_enter Tryz.func65, Tryz.ntmps65
    go_wp2_with fail
    refine (norm_any a _ ha0 ha1).mono ?_
    rintro e w' ⟨rfl, rfl⟩
    go_wp2_with fail
    refine (norm_any b _ hb0 hb1).mono ?_
    rintro e w' ⟨rfl, rfl⟩
    go_wp2
    go_ret
    exact ⟨ret_u64 (sub_lt hc), rfl⟩
  · go_enter Tryz.func65, Tryz.ntmps65
    go_wp2_with fail
    refine (norm_any a _ ha0 ha1).mono ?_
    rintro e w' ⟨rfl, rfl⟩
    go_wp2_with fail
    refine (norm_any b _ hb0 hb1).mono ?_
    rintro e w' ⟨rfl, rfl⟩
    go_wp2
    go_ret
    exact ⟨ret_u64 (sub_ge hc), rfl⟩
theorem and_mask (E : Int) (h0 : 0 ≤ E) (h1 : E < 18446744073709551616) : bits BinOp.and IntKind.u64 E 4294967295 = E % 4294967296 := by
  have h := bits_and_u64_nat E.toNat (2 ^ 32 - 1) (by omega) (by omega)
  rw [Nat.and_two_pow_sub_one_eq_mod, Int.toNat_of_nonneg h0] at h
  have h2 : ((E.toNat % 2 ^ 32 : Nat) : Int) = E % 4294967296 := by omega
  exact h.trans h2
@[irreducible] def midM (x y : F) : Int := hiM x y % 4294967296
theorem mid_lo (x y : F) : 0 ≤ midM x y := by unfold midM; omega
theorem mid_hi (x y : F) : midM x y < 4294967296 := by unfold midM; omega
theorem mid_eq (x y : F) : hiM x y = hiM x y / 4294967296 * 4294967296 + midM x y := by unfold midM; omega
theorem mid_and (x y : F) : bits BinOp.and IntKind.u64 (hiM x y) 4294967295 = midM x y := by
  unfold midM; exact and_mask _ (hi_lo x y) (hi_hi x y)
theorem mul_any (a b : Int) (w : World) (ha0 : 0 ≤ a) (ha1 : a < 18446744073709551616) (hb0 : 0 ≤ b) (hb1 : b < 18446744073709551616) :
    Calls Tryz.prog 66 #[.int .u64 a, .int .u64 b] w fun e w' => e = .returned (.int .u64 (vl (toF a * toF b))) ∧ w = w' := by
  have l0 := lo_lo (toF a) (toF b); have l1 := lo_hi (toF a) (toF b); have l2 := hi_lo (toF a) (toF b); have l3 := hi_hi (toF a) (toF b)
  have hb := mid_and (toF a) (toF b)
  have n0 := mid_lo (toF a) (toF b)
  have n1 := mid_hi (toF a) (toF b)
  have Hm := Lib.hid (mid_eq (toF a) (toF b))
  have m1 := vl_lo (toF (loM (toF a) (toF b)))
  have m2 : vl (toF (loM (toF a) (toF b))) < 18446744073709551616 := by have := vl_hi (toF (loM (toF a) (toF b))); omega
  have m3 : 0 ≤ hiM (toF a) (toF b) / 4294967296 := by omega
  have m4 : hiM (toF a) (toF b) / 4294967296 < 18446744073709551616 := by omega
  have m5 : 0 ≤ midM (toF a) (toF b) * 4294967296 - midM (toF a) (toF b) := by omega
  have m6 : midM (toF a) (toF b) * 4294967296 - midM (toF a) (toF b) < 18446744073709551616 := by omega
  have m7 := vl_lo (toF (loM (toF a) (toF b)) - toF (hiM (toF a) (toF b) / 4294967296))
  have m8 : vl (toF (loM (toF a) (toF b)) - toF (hiM (toF a) (toF b) / 4294967296)) < 18446744073709551616 := by have := vl_hi (toF (loM (toF a) (toF b)) - toF (hiM (toF a) (toF b) / 4294967296)); omega
  have m9 := vl_lo (toF (midM (toF a) (toF b) * 4294967296 - midM (toF a) (toF b)))
  have m10 : vl (toF (midM (toF a) (toF b) * 4294967296 - midM (toF a) (toF b))) < 18446744073709551616 := by have := vl_hi (toF (midM (toF a) (toF b) * 4294967296 - midM (toF a) (toF b))); omega
  go_enter Tryz.func66, Tryz.ntmps66
  go_wp2_with fail
  refine (norm_any a _ ha0 ha1).mono ?_
  rintro e w' ⟨rfl, rfl⟩
  go_wp2_with fail
  refine (norm_any b _ hb0 hb1).mono ?_
  rintro e w' ⟨rfl, rfl⟩
  go_wp2_with fail
  refine (mul64_any (toF a) (toF b) _).mono ?_
  rintro e w' ⟨rfl, rfl⟩
  go_wp2_with fail
  refine (norm_any _ _ l0 l1).mono ?_
  rintro e w' ⟨rfl, rfl⟩
  go_wp2_with fail
  refine (sub_any _ _ _ m1 m2 m3 m4).mono ?_
  rintro e w' ⟨rfl, rfl⟩
  rw [toF_vl]
  go_wp2_with fail
  refine (norm_any _ _ m5 m6).mono ?_
  rintro e w' ⟨rfl, rfl⟩
  go_wp2_with fail
  refine (add_any _ _ _ m7 m8 m9 m10).mono ?_
  rintro e w' ⟨rfl, rfl⟩
  go_wp2
  go_ret
  refine ⟨ret_u64 ?_, rfl⟩
  rw [toF_vl, toF_vl]
  congr 1
  exact mul_fold _ _ _ _ _ _ (hilo _ _) Hm.out
theorem vl_64 (x : F) : vl x < 18446744073709551616 := by have := vl_hi x; omega
theorem mul_F (x y : F) (w : World) :
    Calls Tryz.prog 66 #[.int .u64 (vl x), .int .u64 (vl y)] w fun e w' => e = .returned (.int .u64 (vl (x * y))) ∧ w = w' := by
  have h := mul_any (vl x) (vl y) w (vl_lo x) (vl_64 x) (vl_lo y) (vl_64 y)
  rwa [toF_vl, toF_vl] at h
theorem add_F (x y : F) (w : World) :
    Calls Tryz.prog 64 #[.int .u64 (vl x), .int .u64 (vl y)] w fun e w' => e = .returned (.int .u64 (vl (x + y))) ∧ w = w' := by
  have h := add_any (vl x) (vl y) w (vl_lo x) (vl_64 x) (vl_lo y) (vl_64 y)
  rwa [toF_vl, toF_vl] at h
theorem sub_F (x y : F) (w : World) :
    Calls Tryz.prog 65 #[.int .u64 (vl x), .int .u64 (vl y)] w fun e w' => e = .returned (.int .u64 (vl (x - y))) ∧ w = w' := by
  have h := sub_any (vl x) (vl y) w (vl_lo x) (vl_64 x) (vl_lo y) (vl_64 y)
  rwa [toF_vl, toF_vl] at h
theorem norm_F (x : F) (w : World) :
    Calls Tryz.prog 68 #[.int .u64 (vl x)] w fun e w' => e = .returned (.int .u64 (vl x)) ∧ w = w' := by
  have h := norm_any (vl x) w (vl_lo x) (vl_64 x)
  rwa [toF_vl] at h
theorem pow_odd {x y c : F} {m : Nat} (h : y * x ^ m = c) (ho : m % 2 = 1) : y * x * (x * x) ^ (m / 2) = c := by
  have e : x ^ m = (x * x) ^ (m / 2) * x := by
    rw [pow_mul_pow, ← pow_add, ← pow_succ]; congr 1; omega
  rw [e] at h; grind
theorem pow_even {x y c : F} {m : Nat} (h : y * x ^ m = c) (ho : m % 2 = 0) : y * (x * x) ^ (m / 2) = c := by
  have e : x ^ m = (x * x) ^ (m / 2) := by
    rw [pow_mul_pow, ← pow_add]; congr 1; omega
  rw [e] at h; exact h
def PowRel (c : F) (a n out : Value) : Prop := ∃ (x : F) (m : Nat) (y : F), a = .int .u64 (vl x) ∧ n = .int .u64 m ∧ out = .int .u64 (vl y) ∧ y * x ^ m = c ∧ m < 18446744073709551616
theorem pow_any (a : Int) (n : Nat) (w : World) (ha0 : 0 ≤ a) (ha1 : a < 18446744073709551616) (hn : n < 18446744073709551616) :
    Calls Tryz.prog 67 #[.int .u64 a, .int .u64 n] w fun e w' => e = .returned (.int .u64 (vl (toF a ^ n))) ∧ w = w' := by
  go_enter Tryz.func67, Tryz.ntmps67
  go_wp2_with fail
  refine (norm_any a _ ha0 ha1).mono ?_
  rintro e w' ⟨rfl, rfl⟩
  go_wp2_with fail
  go_loop [0, 1, 5] (fun a' n' out => PowRel (toF a ^ n) a' n' out) (fun _ n' _ => (intOf n').toNat)
  case atStart => exact ⟨toF a, n, 1, rfl, rfl, by rw [vl_one], by grind, hn⟩
  case round =>
    obtain ⟨x, m, y, rfl, rfl, rfl, hm, hlt⟩ := hrel
    have Hm := Lib.hid hm
    clear hm
    have hb : bits BinOp.and IntKind.u64 (m : Int) 1 = (m : Int) % 2 := and_one_u64 m (by omega) (by omega)
    by_cases h0 : 0 < m
    · by_cases ho : m % 2 = 1
      · have hz : ((m : Int) % 2 == 1) = true := by rw [beq_iff_eq]; omega
        have Ho := Lib.hid ho
        clear ho
        go_wp2_with fail
        refine (mul_F y x _).mono ?_
        rintro e w' ⟨rfl, rfl⟩
        go_wp2_with fail
        refine (mul_F x x _).mono ?_
        rintro e w' ⟨rfl, rfl⟩
        go_wp2
        go_round
        case rel => exact ⟨x * x, m / 2, y * x, rfl, by go_num, rfl, pow_odd Hm.out Ho.out, by omega⟩
        case measure => simp [intOf]; omega
      · have hz : ((m : Int) % 2 == 1) = false := by rw [beq_eq_false_iff_ne]; omega
        have Ho := Lib.hid ho
        clear ho
        go_wp2_with fail
        refine (mul_F x x _).mono ?_
        rintro e w' ⟨rfl, rfl⟩
        go_wp2
        go_round
        case rel => exact ⟨x * x, m / 2, y, rfl, by go_num, rfl, pow_even Hm.out (by have := Ho.out; omega), by omega⟩
        case measure => simp [intOf]; omega
    · obtain rfl : m = 0 := by omega
      go_wp2
      go_ret
      exact ⟨ret_u64 (by congr 1; have := Hm.out; rw [pow_zero] at this; grind), rfl⟩
end Go.Proofs.YtdhmmllpldjkbaaGreatDoor.Gm
/- (Fx) -/
namespace Go.Proofs.YtdhmmllpldjkbaaGreatDoor.Gm
open Go.RowKit
theorem toF_eq_zero {a : Int} : vl (toF a) = 0 ↔ toF a = 0 := vl_eq_zero _
theorem inv_none (a : Int) (w : World) (ha0 : 0 ≤ a) (ha1 : a < 18446744073709551616) (h : toF a = 0) :
    Calls Tryz.prog 34 #[.int .u64 a] w fun e w' => e = .returned (.tuple #[.int .u64 0, .int .i64 4]) ∧ w = w' := by
  have hz : vl (toF a) = 0 := (vl_eq_zero _).2 h
  have Hh := Lib.hid h
  clear h
  go_enter Tryz.func34, Tryz.ntmps34
  go_wp2_with fail
  refine (norm_any a _ ha0 ha1).mono ?_
  rintro e w' ⟨rfl, rfl⟩
  go_wp2
  go_ret2
  exact ⟨rfl, rfl⟩
theorem pow_inv (a : Int) (w : World) (ha0 : 0 ≤ a) (ha1 : a < 18446744073709551616) :
    Calls Tryz.prog 67 #[.int .u64 a, .int .u64 18446744069414584319] w fun e w' => e = .returned (.int .u64 (vl (inv (toF a)))) ∧ w = w' := by
  have e : inv (toF a) = toF a ^ (18446744069414584319 : Nat) := by unfold inv; rfl
  rw [e]
  exact pow_any a 18446744069414584319 w ha0 ha1 (by omega)
theorem inv_any (a : Int) (w : World) (ha0 : 0 ≤ a) (ha1 : a < 18446744073709551616) (h : toF a ≠ 0) :
    Calls Tryz.prog 34 #[.int .u64 a] w fun e w' => e = .returned (.tuple #[.int .u64 (vl (inv (toF a))), .int .i64 0]) ∧ w = w' := by
  have hz : (vl (toF a) == 0) = false := by rw [beq_eq_false_iff_ne]; exact fun e => h ((vl_eq_zero _).1 e)
  clear h
  go_enter Tryz.func34, Tryz.ntmps34
  go_wp2_with fail
  refine (norm_any a _ ha0 ha1).mono ?_
  rintro e w' ⟨rfl, rfl⟩
  go_wp2_with fail
  refine (pow_inv a _ ha0 ha1).mono ?_
  rintro e w' ⟨rfl, rfl⟩
  go_wp2
  go_ret2
  exact ⟨rfl, rfl⟩
theorem root_no (k : Int) (w : World) (h : k < 0 ∨ 32 < k) :
    Calls Tryz.prog 35 #[.int .i64 k] w fun e w' => e = .returned (.tuple #[.int .u64 0, .int .i64 1]) ∧ w = w' := by
  rcases h with h | h
  · go_enter Tryz.func35, Tryz.ntmps35
    go_wp2
    go_ret2
    exact ⟨rfl, rfl⟩
  · go_enter Tryz.func35, Tryz.ntmps35
    go_wp2
    go_ret2
    exact ⟨rfl, rfl⟩
theorem toF_seven : toF 7 = 7 := by
  apply vl_inj; rw [vl_toF]; unfold vl; rw [val_seven]; rfl
theorem root_exp (k : Nat) : (18446744069414584320 : Int) / 2 ^ k = ((18446744069414584320 / 2 ^ k : Nat) : Int) := by
  rw [Int.natCast_ediv, Int.natCast_pow]; rfl
theorem pow_root (k : Nat) (w : World) :
    Calls Tryz.prog 67 #[.int .u64 7, .int .u64 (18446744069414584320 / 2 ^ k)] w fun e w' => e = .returned (.int .u64 (vl (root k))) ∧ w = w' := by
  have h := pow_any 7 (18446744069414584320 / 2 ^ k) w (by omega) (by omega) (by have := Nat.div_le_self 18446744069414584320 (2 ^ k); omega)
  rw [root_exp]
  rw [toF_seven] at h
  unfold root
  exact h
theorem root_any (k : Nat) (w : World) (h : k ≤ 32) :
    Calls Tryz.prog 35 #[.int .i64 k] w fun e w' => e = .returned (.tuple #[.int .u64 (vl (root k)), .int .i64 0]) ∧ w = w' := by
  go_enter Tryz.func35, Tryz.ntmps35
  go_wp2_with fail
  refine (pow_root k _).mono ?_
  rintro e w' ⟨rfl, rfl⟩
  go_wp2
  go_ret2
  exact ⟨rfl, rfl⟩
end Go.Proofs.YtdhmmllpldjkbaaGreatDoor.Gm
/- (Pn) -/
namespace Go.Proofs.YtdhmmllpldjkbaaGreatDoor.Gm
open Go.RowKit
theorem strip_tail (l : List F) (i : Nat) (h : (strip l).length ≤ i) : cf l i = 0 := by
  rw [← cf_strip]; exact cf_ge h
theorem strip_is_take (l : List F) : strip l = l.take (strip l).length := by
  apply ext_cf
  · rw [List.length_take, Nat.min_eq_left (strip_len l)]
  · intro i hi
    rw [cf_strip, cf_take _ _ _ hi]
theorem strip_end (l : List F) (h : 0 < (strip l).length) : cf l ((strip l).length - 1) ≠ 0 := by
  rcases strip_last l with h1 | h1
  · rw [h1] at h; simp at h
  · exact h1
theorem take_snoc_F (l : List F) (k : Nat) (h : k < l.length) : l.take (k+1) = l.take k ++ [cf l k] := by
  rw [List.take_succ_eq_append_getElem h, cf_lt h]
def NrmRel (n m : Nat) (i : Value) : Prop := ∃ k : Nat, n ≤ k ∧ k ≤ m ∧ i = .int .i64 k
def NrmOut (B : Nat) (w : World) (fs : List F) (n : Nat) (v i : Value) (wr : World) : Prop :=
  ∃ k : Nat, k ≤ n ∧ i = .int .i64 k ∧ Ow B wr v (fs.take k) ∧ Below B w wr
end Go.Proofs.YtdhmmllpldjkbaaGreatDoor.Gm
/- (Rf) -/
namespace Go.Proofs.YtdhmmllpldjkbaaGreatDoor.Gm
open Go.RowKit
theorem rnorm_any (a : Int) (w : World) (h0 : 0 ≤ a) (h1 : a < 18446744073709551616) :
    Calls Tryz.prog 76 #[.int .u64 a] w fun e w' => e = .returned (.int .u64 (vl (toF a))) ∧ w = w' := by
  go_enter Tryz.func76, Tryz.ntmps76
  go_wp2
  go_ret
  exact ⟨ret_u64 (vl_toF a).symm, rfl⟩
theorem radd_any (a b : Int) (w : World) (ha0 : 0 ≤ a) (ha1 : a < 18446744073709551616) (hb0 : 0 ≤ b) (hb1 : b < 18446744073709551616) :
    Calls Tryz.prog 71 #[.int .u64 a, .int .u64 b] w fun e w' => e = .returned (.int .u64 (vl (toF a + toF b))) ∧ w = w' := by
  rcases lt_ge (a % 18446744069414584321) (18446744069414584321 - b % 18446744069414584321) with hc | hc
  · go_enter Tryz.func71, Tryz.ntmps71
    go_wp2
    go_ret
    exact ⟨ret_u64 (by rw [← add_lt (by rw [vl_toF, vl_toF]; exact hc), vl_toF, vl_toF]), rfl⟩
  · go_enter Tryz.func71, Tryz.ntmps71
    go_wp2
    go_ret
    exact ⟨ret_u64 (by rw [← add_ge (by rw [vl_toF, vl_toF]; exact hc), vl_toF, vl_toF]), rfl⟩
theorem rsub_arg (b : Int) : toF (18446744069414584321 - b % 18446744069414584321) = 0 - toF b := by
  rw [toF_sub, toF_P, toF_emod]
theorem rsub_any (a b : Int) (w : World) (ha0 : 0 ≤ a) (ha1 : a < 18446744073709551616) (hb0 : 0 ≤ b) (hb1 : b < 18446744073709551616) :
    Calls Tryz.prog 74 #[.int .u64 a, .int .u64 b] w fun e w' => e = .returned (.int .u64 (vl (toF a - toF b))) ∧ w = w' := by
  have h1 : 0 ≤ 18446744069414584321 - b % 18446744069414584321 := by omega
  have h2 : 18446744069414584321 - b % 18446744069414584321 < 18446744073709551616 := by omega
  go_enter Tryz.func74, Tryz.ntmps74
  go_wp2_with fail
  refine (radd_any a _ _ ha0 ha1 h1 h2).mono ?_
  rintro e w' ⟨rfl, rfl⟩
  go_wp2
  go_ret
  exact ⟨ret_u64 (by congr 1; rw [rsub_arg]; grind), rfl⟩
theorem radd_F (x y : F) (w : World) :
    Calls Tryz.prog 71 #[.int .u64 (vl x), .int .u64 (vl y)] w fun e w' => e = .returned (.int .u64 (vl (x + y))) ∧ w = w' := by
  have h := radd_any (vl x) (vl y) w (vl_lo x) (vl_64 x) (vl_lo y) (vl_64 y)
  rwa [toF_vl, toF_vl] at h
/-- the bits from i on -/
@[irreducible] def top (b i : Nat) : Nat := b / 2 ^ i
theorem top_eq (b i : Nat) : top b i = b / 2 ^ i := by unfold top; rfl
theorem top_zero (b : Nat) : top b 0 = b := by rw [top_eq, Nat.pow_zero, Nat.div_one]
theorem top_64 {b : Nat} (h : b < 18446744073709551616) : top b 64 = 0 := by rw [top_eq, Nat.div_eq_of_lt (by omega)]
/-- doubled, bit by bit: behind the bits from i on -/
theorem bit_step (b : Nat) (i : Nat) : b / 2 ^ i = 2 * (b / 2 ^ (i+1)) + b / 2 ^ i % 2 := by
  rw [Nat.pow_succ, ← Nat.div_div_eq_div_mul]; omega
theorem cast_bit (b i : Nat) (h : b / 2 ^ i % 2 = 1) (x : F) : toF (top b (i+1) : Int) * x + toF (top b (i+1) : Int) * x + x = toF (top b i : Int) * x := by
  rw [top_eq, top_eq, bit_step b i, h, Int.natCast_add, Int.natCast_mul, toF_add, toF_mul, show ((2:Nat):Int) = 1 + 1 from rfl, toF_add, show ((1:Nat):Int) = 1 from rfl, toF_one]
  grind
theorem cast_bit0 (b i : Nat) (h : b / 2 ^ i % 2 = 0) (x : F) : toF (top b (i+1) : Int) * x + toF (top b (i+1) : Int) * x = toF (top b i : Int) * x := by
  rw [top_eq, top_eq, bit_step b i, h, Int.natCast_add, Int.natCast_mul, toF_add, toF_mul, show ((0:Nat):Int) = 0 from rfl, toF_zero, show ((2:Nat):Int) = 1 + 1 from rfl, toF_add, toF_one]
  grind
theorem bit_cast (b j : Nat) : (b : Int) / 2 ^ j % 2 = ((b / 2 ^ j % 2 : Nat) : Int) := by
  rw [Int.natCast_emod, Int.natCast_ediv, Int.natCast_pow]; rfl
theorem bit_lo (b j : Nat) : 0 ≤ (b : Int) / 2 ^ j := by
  have : (b : Int) / 2 ^ j = ((b / 2 ^ j : Nat) : Int) := by rw [Int.natCast_ediv, Int.natCast_pow]; rfl
  rw [this]; exact Int.natCast_nonneg _
def RMulRel (x : F) (b : Nat) (out i : Value) : Prop := ∃ k : Nat, k ≤ 64 ∧ i = .int .i64 ((k : Int) - 1) ∧ out = .int .u64 (vl (toF (top b k : Int) * x))
theorem rmul_any (a b' : Int) (w : World) (ha0 : 0 ≤ a) (ha1 : a < 18446744073709551616) (hb0 : 0 ≤ b') (hb1 : b' < 18446744073709551616) :
    Calls Tryz.prog 72 #[.int .u64 a, .int .u64 b'] w fun e w' => e = .returned (.int .u64 (vl (toF a * toF b'))) ∧ w = w' := by
  obtain ⟨b, hb⟩ : ∃ b : Nat, b' % 18446744069414584321 = b := ⟨(b' % 18446744069414584321).toNat, by omega⟩
  have hyb : toF (b : Int) = toF b' := by rw [← hb, toF_emod]
  have hy1 : b < 18446744069414584321 := by omega
  have Hyb := Lib.hid hyb
  have Hb := Lib.hid hb
  have Hx := Lib.hid (vl_toF a)
  clear hyb hb
  go_enter Tryz.func72, Tryz.ntmps72
  go_wp2
  rw [Hb.out, ← Hx.out]
  have hx0 := vl_lo (toF a); have hx1 := vl_hi (toF a)
  go_loop [5, 6] (fun out i => RMulRel (toF a) b out i) (fun _ i => (intOf i + 1).toNat)
  case atStart => exact ⟨64, by omega, rfl, by rw [top_64 (by omega), show ((0:Nat):Int) = 0 from rfl, toF_zero, show (0:F) * toF a = 0 by grind, vl_zero]⟩
  case round =>
    obtain ⟨k, hk, rfl, rfl⟩ := hrel
    cases k with
    | zero =>
      go_wp2
      go_ret
      exact ⟨ret_u64 (by have := Hyb.out; rw [top_zero, this]; congr 1; grind), rfl⟩
    | succ j =>
      rw [show ((j + 1 : Nat) : Int) - 1 = (j : Int) by omega]
      have hz0 := bit_lo b j
      by_cases hz : b / 2 ^ j % 2 = 1
      · have hz2 : ((b : Int) / 2 ^ j % 2 == 1) = true := by rw [beq_iff_eq, bit_cast, hz]; rfl
        have Hz := Lib.hid hz
        clear hz
        go_wp2_with fail
        refine (radd_F _ _ _).mono ?_
        rintro e w' ⟨rfl, rfl⟩
        go_wp2_with fail
        refine (radd_F _ _ _).mono ?_
        rintro e w' ⟨rfl, rfl⟩
        go_wp2
        go_round
        case rel => exact ⟨j, by omega, rfl, by rw [cast_bit b j Hz.out]⟩
        case measure => simp [intOf] <;> omega
      · have hz2 : ((b : Int) / 2 ^ j % 2 == 1) = false := by rw [beq_eq_false_iff_ne, bit_cast]; omega
        have Hz := Lib.hid hz
        clear hz
        go_wp2_with fail
        refine (radd_F _ _ _).mono ?_
        rintro e w' ⟨rfl, rfl⟩
        go_wp2
        go_round
        case rel => exact ⟨j, by omega, rfl, by rw [cast_bit0 b j (by have := Hz.out; omega)]⟩
        case measure => simp [intOf] <;> omega
theorem rmul_F (x y : F) (w : World) :
    Calls Tryz.prog 72 #[.int .u64 (vl x), .int .u64 (vl y)] w fun e w' => e = .returned (.int .u64 (vl (x * y))) ∧ w = w' := by
  have h := rmul_any (vl x) (vl y) w (vl_lo x) (vl_64 x) (vl_lo y) (vl_64 y)
  rwa [toF_vl, toF_vl] at h
theorem rmul_Fa (x : F) (a : Int) (w : World) (ha0 : 0 ≤ a) (ha1 : a < 18446744073709551616) :
    Calls Tryz.prog 72 #[.int .u64 (vl x), .int .u64 a] w fun e w' => e = .returned (.int .u64 (vl (x * toF a))) ∧ w = w' := by
  have h := rmul_any (vl x) a w (vl_lo x) (vl_64 x) ha0 ha1
  rwa [toF_vl] at h
theorem rsub_F (x y : F) (w : World) :
    Calls Tryz.prog 74 #[.int .u64 (vl x), .int .u64 (vl y)] w fun e w' => e = .returned (.int .u64 (vl (x - y))) ∧ w = w' := by
  have h := rsub_any (vl x) (vl y) w (vl_lo x) (vl_64 x) (vl_lo y) (vl_64 y)
  rwa [toF_vl, toF_vl] at h
theorem powbit1 (c : F) (b i : Nat) (h : b / 2 ^ i % 2 = 1) : c ^ top b (i+1) * c ^ top b (i+1) * c = c ^ top b i := by
  rw [top_eq, top_eq, ← pow_add, ← pow_succ]; congr 1; have := bit_step b i; omega
theorem powbit0 (c : F) (b i : Nat) (h : b / 2 ^ i % 2 = 0) : c ^ top b (i+1) * c ^ top b (i+1) = c ^ top b i := by
  rw [top_eq, top_eq, ← pow_add]; congr 1; have := bit_step b i; omega
def RPowRel (c : F) (b : Nat) (out i : Value) : Prop := ∃ k : Nat, k ≤ 64 ∧ i = .int .i64 ((k : Int) - 1) ∧ out = .int .u64 (vl (c ^ top b k))
theorem rpow_any (a : Int) (b : Nat) (w : World) (ha0 : 0 ≤ a) (ha1 : a < 18446744073709551616) (hb1 : b < 18446744073709551616) :
    Calls Tryz.prog 75 #[.int .u64 a, .int .u64 b] w fun e w' => e = .returned (.int .u64 (vl (toF a ^ b))) ∧ w = w' := by
  go_enter Tryz.func75, Tryz.ntmps75
  go_wp2
  go_loop [5, 6] (fun out i => RPowRel (toF a) b out i) (fun _ i => (intOf i + 1).toNat)
  case atStart => exact ⟨64, by omega, rfl, by rw [top_64 hb1, pow_zero, vl_one]⟩
  case round =>
    obtain ⟨k, hk, rfl, rfl⟩ := hrel
    cases k with
    | zero =>
      go_wp2
      go_ret
      exact ⟨ret_u64 (by rw [top_zero]), rfl⟩
    | succ j =>
      rw [show ((j + 1 : Nat) : Int) - 1 = (j : Int) by omega]
      have hz0 := bit_lo b j
      by_cases hz : b / 2 ^ j % 2 = 1
      · have hz2 : ((b : Int) / 2 ^ j % 2 == 1) = true := by rw [beq_iff_eq, bit_cast, hz]; rfl
        have Hz := Lib.hid hz
        clear hz
        go_wp2_with fail
        refine (rmul_F _ _ _).mono ?_
        rintro e w' ⟨rfl, rfl⟩
        go_wp2_with fail
        refine (rmul_Fa _ a _ ha0 ha1).mono ?_
        rintro e w' ⟨rfl, rfl⟩
        go_wp2
        go_round
        case rel => exact ⟨j, by omega, rfl, by rw [powbit1 _ b j Hz.out]⟩
        case measure => simp [intOf] <;> omega
      · have hz2 : ((b : Int) / 2 ^ j % 2 == 1) = false := by rw [beq_eq_false_iff_ne, bit_cast]; omega
        have Hz := Lib.hid hz
        clear hz
        go_wp2_with fail
        refine (rmul_F _ _ _).mono ?_
        rintro e w' ⟨rfl, rfl⟩
        go_wp2
        go_round
        case rel => exact ⟨j, by omega, rfl, by rw [powbit0 _ b j (by have := Hz.out; omega)]⟩
        case measure => simp [intOf] <;> omega
def RRootRel (k : Nat) (n i : Value) : Prop := ∃ j : Nat, j ≤ k ∧ i = .int .i64 j ∧ n = .int .u64 (top 18446744069414584320 j : Int)
theorem half_cast (a : Nat) : (a : Int) / 2 = ((a / 2 : Nat) : Int) := by omega
theorem rroot_any (k : Nat) (w : World) (h : k ≤ 32) :
    Calls Tryz.prog 78 #[.int .i64 k] w fun e w' => e = .returned (.int .u64 (vl (root k))) ∧ w = w' := by
  go_enter Tryz.func78, Tryz.ntmps78
  go_wp2
  go_loop [3, 4] (fun n i => RRootRel k n i) (fun _ i => k - (intOf i).toNat)
  case atStart => exact ⟨0, by omega, rfl, by rw [top_zero]; rfl⟩
  case round =>
    obtain ⟨j, hj, rfl, rfl⟩ := hrel
    have hb : top 18446744069414584320 j < 18446744073709551616 := by rw [top_eq]; have := Nat.div_le_self 18446744069414584320 (2 ^ j); omega
    have Hd := Lib.hid (show top 18446744069414584320 j / 2 = top 18446744069414584320 (j+1) by rw [top_eq, top_eq, Nat.pow_succ, Nat.div_div_eq_div_mul])
    by_cases hlt : j < k
    · go_wp2
      go_round
      case rel => exact ⟨j + 1, by omega, by go_num, by rw [half_cast, Hd.out]⟩
      case measure => simp [intOf] <;> omega
    · obtain rfl : j = k := by omega
      go_wp2_with fail
      refine (rpow_any 7 (top 18446744069414584320 j) _ (by omega) (by omega) hb).mono ?_
      rintro e w' ⟨rfl, rfl⟩
      go_wp2
      go_ret
      refine ⟨ret_u64 ?_, rfl⟩
      rw [toF_seven, top_eq]
      unfold root
      rfl
end Go.Proofs.YtdhmmllpldjkbaaGreatDoor.Gm
/- (Ri) -/
namespace Go.Proofs.YtdhmmllpldjkbaaGreatDoor.Gm
open Go.RowKit
theorem gcd_start {a : Int} (h : toF a ≠ 0) : Nat.gcd 18446744069414584321 (a % 18446744069414584321).toNat = 1 := by
  have h1 := mul_inv (toF a) h
  have h2 := congrArg vl h1
  rw [vl_mul, vl_one, vl_toF] at h2
  generalize vl (inv (toF a)) = u at h2
  have hg : (Nat.gcd 18446744069414584321 (a % 18446744069414584321).toNat : Int) ∣ 1 := by
    have d1 : (Nat.gcd 18446744069414584321 (a % 18446744069414584321).toNat : Int) ∣ 18446744069414584321 := Int.natCast_dvd_natCast.2 (Nat.gcd_dvd_left _ _)
    have d2 : (Nat.gcd 18446744069414584321 (a % 18446744069414584321).toNat : Int) ∣ a % 18446744069414584321 := by
      have := Int.natCast_dvd_natCast.2 (Nat.gcd_dvd_right 18446744069414584321 (a % 18446744069414584321).toNat)
      rwa [Int.toNat_of_nonneg (by omega)] at this
    have e : (1 : Int) = a % 18446744069414584321 * u - 18446744069414584321 * (a % 18446744069414584321 * u / 18446744069414584321) := by
      have := Int.mul_ediv_add_emod (a % 18446744069414584321 * u) 18446744069414584321
      omega
    rw [e]
    exact Int.dvd_sub (Int.dvd_mul_of_dvd_left d2) (Int.dvd_mul_of_dvd_left d1)
  have := Int.natCast_dvd_natCast.1 (show ((Nat.gcd 18446744069414584321 (a % 18446744069414584321).toNat : Nat) : Int) ∣ ((1 : Nat) : Int) from hg)
  exact Nat.dvd_one.1 this
def RInvRel (c : F) (r next x then_ : Value) : Prop := ∃ (m n : Nat) (u v : F), r = .int .u64 m ∧ next = .int .u64 n ∧ x = .int .u64 (vl u) ∧ then_ = .int .u64 (vl v) ∧ u * c = toF m ∧ v * c = toF n ∧ Nat.gcd m n = 1 ∧ n < m ∧ m ≤ 18446744069414584321
theorem inv_step {c u v : F} {m n : Nat} (h1 : u * c = toF m) (h2 : v * c = toF n) : (u - toF ((m / n : Nat) : Int) * v) * c = toF ((m % n : Nat) : Int) := by
  have e : ((m % n : Nat) : Int) = (m : Int) - ((m / n : Nat) : Int) * (n : Int) := by
    have h3 := Nat.div_add_mod m n
    have h4 : ((n * (m / n) + m % n : Nat) : Int) = (m : Int) := by rw [h3]
    rw [Int.natCast_add, Int.natCast_mul] at h4
    have h5 := Int.mul_comm ((m / n : Nat) : Int) (n : Int)
    omega
  rw [e, toF_sub, toF_mul, ← h1, ← h2]; grind
theorem rinv_any (a : Int) (w : World) (ha0 : 0 ≤ a) (ha1 : a < 18446744073709551616) (h : toF a ≠ 0) :
    Calls Tryz.prog 77 #[.int .u64 a] w fun e w' => e = .returned (.int .u64 (vl (inv (toF a)))) ∧ w = w' := by
  have hg := Lib.hid (gcd_start h)
  obtain ⟨n0, hn0⟩ : ∃ n0 : Nat, a % 18446744069414584321 = n0 := ⟨(a % 18446744069414584321).toNat, by omega⟩
  have Hn := Lib.hid hn0
  have hlt : n0 < 18446744069414584321 := by omega
  clear hn0 h
  go_enter Tryz.func77, Tryz.ntmps77
  go_wp2
  rw [Hn.out]
  go_loop [3, 4, 5, 6] (fun r n x t => RInvRel (toF a) r n x t) (fun _ n _ _ => (intOf n).toNat)
  case atStart =>
    refine ⟨18446744069414584321, n0, 0, 1, rfl, rfl, by rw [vl_zero], by rw [vl_one], ?_, ?_, ?_, hlt, Nat.le_refl _⟩
    · have := toF_P
      rw [show (((18446744069414584321 : Nat) : Int)) = 18446744069414584321 from rfl, toF_P]; grind
    · rw [← Hn.out, toF_emod]; grind
    · have := hg.out
      rwa [Hn.out] at this
  case round =>
    obtain ⟨m, n, u, v, rfl, rfl, rfl, rfl, h1, h2, h3, h4, h5⟩ := hrel
    have H1 := Lib.hid h1
    have H2 := Lib.hid h2
    have H3 := Lib.hid h3
    clear h1 h2 h3
    by_cases h0 : 0 < n
    · have hq : (m : Int) / (n : Int) = ((m / n : Nat) : Int) := by rw [Int.natCast_ediv]
      have hle : ((m / n : Nat) : Int) * (n : Int) ≤ (m : Int) := by rw [← Int.natCast_mul]; have := Nat.div_mul_le_self m n; omega
      have hge : 0 ≤ ((m / n : Nat) : Int) * (n : Int) := by rw [← Int.natCast_mul]; exact Int.natCast_nonneg _
      have hqle : m / n ≤ m := Nat.div_le_self _ _
      have hr : (m : Int) - ((m / n : Nat) : Int) * (n : Int) = ((m % n : Nat) : Int) := by
        have h3 := Nat.div_add_mod m n
        have h4 : ((n * (m / n) + m % n : Nat) : Int) = (m : Int) := by rw [h3]
        rw [Int.natCast_add, Int.natCast_mul] at h4
        have h5 := Int.mul_comm ((m / n : Nat) : Int) (n : Int)
        omega
      have hml : m % n < n := Nat.mod_lt _ h0
      have Hr := Lib.hid hr
      have Hs := Lib.hid (inv_step H1.out H2.out)
      have Hg : Hid (Nat.gcd n (m % n) = 1) := Lib.hid (by rw [Nat.gcd_comm, ← Nat.gcd_rec, Nat.gcd_comm]; exact H3.out)
      generalize m / n = q at *
      generalize m % n = r at *
      clear hr
      go_wp2_with fail
      refine (rmul_any (q : Int) (vl v) _ (by omega) (by omega) (vl_lo v) (vl_64 v)).mono ?_
      rintro e w' ⟨rfl, rfl⟩
      rw [toF_vl]
      go_wp2_with fail
      refine (rsub_F _ _ _).mono ?_
      rintro e w' ⟨rfl, rfl⟩
      go_wp2
      rw [Hr.out]
      go_round
      case rel => exact ⟨n, r, v, _, rfl, rfl, rfl, rfl, H2.out, Hs.out, Hg.out, hml, by omega⟩
      case measure => simp [intOf] <;> omega
    · obtain rfl : n = 0 := by omega
      have hm1 : m = 1 := by have := H3.out; rwa [Nat.gcd_zero_right] at this
      have h6 := H1.out
      rw [hm1] at h6
      have Hu : Hid (toF a * u = 1) := Lib.hid (by rw [show ((1:Nat):Int) = 1 from rfl, toF_one] at h6; grind)
      subst hm1
      clear h4 h5 hlt H1 H2 H3 h6
      go_wp2
      go_ret
      refine ⟨ret_u64 ?_, rfl⟩
      congr 1
      exact inv_unique _ _ Hu.out
end Go.Proofs.YtdhmmllpldjkbaaGreatDoor.Gm
/- (Pe) -/
namespace Go.Proofs.YtdhmmllpldjkbaaGreatDoor.Gm
open Go.RowKit
theorem q_same {P : Program} {f : FuncId} {args : Array Value} {w : World} {n : Nat} {v : Value}
    (h : Calls P f args (w.drewN n) fun e w' => e = .returned v ∧ w.drewN n = w') : Calls P f args (w.drewN n) fun e w'' => e = .returned v ∧ ∃ m, w'' = w.drewN m :=
  h.mono fun _ _ ⟨he, hm⟩ => ⟨he, n, hm.symm⟩
def UpToN (m : Nat) (i : Value) : Prop := ∃ k : Nat, k ≤ m ∧ i = .int .i64 k
theorem large1_no (b : Nat) (a : Option Addr) (n cap : Nat) (w : World) (hc : w.cell? ⟨b, 0, none⟩ = some (.slice a n cap)) (hn : n ≤ 2048) :
    Calls Tryz.prog 118 #[.slice (some ⟨b, 0, none⟩) 1 1] w fun e w' => e = .returned (.bool false) ∧ w = w' := by
  go_enter Tryz.func118, Tryz.ntmps118
  go_wp2
  go_loop [4, 7] (fun _ i => UpToN 1 i) (fun _ i => 1 - (intOf i).toNat)
  case atStart => exact ⟨0, by omega, rfl⟩
  case round =>
    obtain ⟨k, hk, rfl⟩ := hrel
    have hk' : k = 0 ∨ k = 1 := by omega
    rcases hk' with rfl | rfl
    · go_wp2
      exact ⟨⟨1, by omega, rfl⟩, by decide⟩
    · go_wp2
      go_ret
      exact ⟨rfl, rfl⟩
theorem large1_yes (b : Nat) (a : Option Addr) (n cap : Nat) (w : World) (hc : w.cell? ⟨b, 0, none⟩ = some (.slice a n cap)) (hn : 2048 < n) :
    Calls Tryz.prog 118 #[.slice (some ⟨b, 0, none⟩) 1 1] w fun e w' => e = .returned (.bool true) ∧ w = w' := by
  go_enter Tryz.func118, Tryz.ntmps118
  go_wp2
  refine wp_loop_rounds 1 ?_
  rw [rounds_succ]
  go_wp2
  go_ret
  exact ⟨rfl, rfl⟩
theorem large2_no (b : Nat) (a a' : Option Addr) (n cap n' cap' : Nat) (w : World) (hc : w.cell? ⟨b, 0, none⟩ = some (.slice a n cap)) (hc' : w.cell? ⟨b, 1, none⟩ = some (.slice a' n' cap')) (hn : n ≤ 2048) (hn' : n' ≤ 2048) :
    Calls Tryz.prog 118 #[.slice (some ⟨b, 0, none⟩) 2 2] w fun e w' => e = .returned (.bool false) ∧ w = w' := by
  go_enter Tryz.func118, Tryz.ntmps118
  go_wp2
  go_loop [4, 7] (fun _ i => UpToN 2 i) (fun _ i => 2 - (intOf i).toNat)
  case atStart => exact ⟨0, by omega, rfl⟩
  case round =>
    obtain ⟨k, hk, rfl⟩ := hrel
    have hk' : k = 0 ∨ k = 1 ∨ k = 2 := by omega
    rcases hk' with rfl | rfl | rfl
    · go_wp2
      exact ⟨⟨1, by omega, rfl⟩, by decide⟩
    · go_wp2
      exact ⟨⟨2, by omega, rfl⟩, by decide⟩
    · go_wp2
      go_ret
      exact ⟨rfl, rfl⟩
theorem large2_yes (b : Nat) (a a' : Option Addr) (n cap n' cap' : Nat) (w : World) (hc : w.cell? ⟨b, 0, none⟩ = some (.slice a n cap)) (hc' : w.cell? ⟨b, 1, none⟩ = some (.slice a' n' cap')) (hn : 2048 < n ∨ 2048 < n') :
    Calls Tryz.prog 118 #[.slice (some ⟨b, 0, none⟩) 2 2] w fun e w' => e = .returned (.bool true) ∧ w = w' := by
  by_cases h1 : 2048 < n
  · clear hn
    go_enter Tryz.func118, Tryz.ntmps118
    go_wp2
    refine wp_loop_rounds 1 ?_
    rw [rounds_succ]
    go_wp2
    go_ret
    exact ⟨rfl, rfl⟩
  · have h2 : 2048 < n' := by omega
    clear hn
    go_enter Tryz.func118, Tryz.ntmps118
    go_wp2
    go_loop [4, 7] (fun _ i => UpToN 1 i) (fun _ i => 2 - (intOf i).toNat)
    case atStart => exact ⟨0, by omega, rfl⟩
    case round =>
      obtain ⟨k, hk, rfl⟩ := hrel
      have hk' : k = 0 ∨ k = 1 := by omega
      rcases hk' with rfl | rfl
      · go_wp2
        exact ⟨⟨1, by omega, rfl⟩, by decide⟩
      · go_wp2
        go_ret
        exact ⟨rfl, rfl⟩
theorem mul_Fx (y : F) (x : Int) (w : World) (hx0 : 0 ≤ x) (hx1 : x < 18446744073709551616) :
    Calls Tryz.prog 66 #[.int .u64 (vl y), .int .u64 x] w fun e w' => e = .returned (.int .u64 (vl (y * toF x))) ∧ w = w' := by
  have h := mul_any (vl y) x w (vl_lo y) (vl_64 y) hx0 hx1
  rwa [toF_vl] at h
theorem mul_xF (x : Int) (y : F) (w : World) (hx0 : 0 ≤ x) (hx1 : x < 18446744073709551616) :
    Calls Tryz.prog 66 #[.int .u64 x, .int .u64 (vl y)] w fun e w' => e = .returned (.int .u64 (vl (toF x * y))) ∧ w = w' := by
  have h := mul_any x (vl y) w hx0 hx1 (vl_lo y) (vl_64 y)
  rwa [toF_vl] at h
theorem add_Fx (y : F) (x : Int) (w : World) (hx0 : 0 ≤ x) (hx1 : x < 18446744073709551616) :
    Calls Tryz.prog 64 #[.int .u64 (vl y), .int .u64 x] w fun e w' => e = .returned (.int .u64 (vl (y + toF x))) ∧ w = w' := by
  have h := add_any (vl y) x w (vl_lo y) (vl_64 y) hx0 hx1
  rwa [toF_vl] at h
theorem sub_xF (x : Int) (y : F) (w : World) (hx0 : 0 ≤ x) (hx1 : x < 18446744073709551616) :
    Calls Tryz.prog 65 #[.int .u64 x, .int .u64 (vl y)] w fun e w' => e = .returned (.int .u64 (vl (toF x - y))) ∧ w = w' := by
  have h := sub_any x (vl y) w hx0 hx1 (vl_lo y) (vl_64 y)
  rwa [toF_vl] at h
/-- Horner: the value of what stands from place k on -/
def horn (l : List F) (x : F) (k : Nat) : F := S (l.length - k) (fun i => cf l (k + i) * x ^ i)
theorem horn_zero (l : List F) (x : F) : horn l x 0 = evl l x := by
  unfold horn evl ev
  rw [Nat.sub_zero]; exact S_congr (fun i _ => by rw [Nat.zero_add])
theorem horn_end (l : List F) (x : F) : horn l x l.length = 0 := by unfold horn; rw [Nat.sub_self, S_zero]
theorem horn_step (l : List F) (x : F) (k : Nat) (h : k < l.length) : horn l x (k+1) * x + cf l k = horn l x k := by
  unfold horn
  rw [show l.length - k = (l.length - (k+1)) + 1 by omega, S_front, ← S_mul_right, pow_zero, Nat.add_zero]
  rw [S_congr (g := fun i => cf l (k + (i + 1)) * x ^ (i + 1)) (fun i _ => by rw [pow_succ, show k + 1 + i = k + (i + 1) by omega]; grind)]
  grind
def EvalRel (l : List F) (x : F) (out i : Value) : Prop := ∃ k : Nat, k ≤ l.length ∧ i = .int .i64 ((k : Int) - 1) ∧ out = .int .u64 (vl (horn l x k))
set_option maxHeartbeats 1000000 in
theorem eval_any (zs : List Int) (v : Value) (x : Int) (w : World) (h : Rd .u64 w v zs) (hz : B64 zs) (hl : zs.length ≤ 2048) (hx0 : 0 ≤ x) (hx1 : x < 18446744073709551616) :
    Calls Tryz.prog 101 #[v, .int .u64 x] w (RetV w (.tuple #[.int .u64 (vl (evl (zs.map toF) (toF x))), .int .i64 0])) := by
  obtain ⟨a, cap, b, off, rfl, hcap, hm, hx, hc⟩ := h
  obtain ⟨fs, hfs⟩ : ∃ fs, fs = zs.map toF := ⟨_, rfl⟩
  have hlen : fs.length = zs.length := by rw [hfs, List.length_map]
  have hget : ∀ i, cf fs i = toF (gd zs i) := fun i => by rw [hfs, cf_map]
  rw [← hfs]
  have Hlen := Lib.hid hlen
  have Hget := Lib.hid hget
  clear hfs hlen hget
  rcases hx with rfl | rfl
  · obtain rfl : fs = [] := List.length_eq_zero_iff.1 (by rw [Hlen.out]; rfl)
    have hc1 : (w.alloc (.cells #[.slice a 0 cap] 44)).cell? ⟨w.heap.size, 0, none⟩ = some (.slice a 0 cap) := by
      rw [World.cell?_alloc_at _ _ _ _ rfl]; rfl
    go_enter Tryz.func101, Tryz.ntmps101
    go_wp2_with fail
    refine (large1_no w.heap.size a 0 cap _ hc1 (by omega)).mono ?_
    rintro e w' ⟨rfl, rfl⟩
    go_wp2
    refine wp_loop_rounds 1 ?_
    rw [rounds_succ]
    go_wp2
    go_ret2
    exact ⟨by rw [evl_nil, vl_zero]; rfl, (Below.refl _ _).alloc (Nat.le_refl _) _⟩
  · have Hc := Lib.hid hc
    clear hc
    have hc1 : (w.alloc (.cells #[.slice (some ⟨b, off, none⟩) zs.length cap] 44)).cell? ⟨w.heap.size, 0, none⟩ = some (.slice (some ⟨b, off, none⟩) zs.length cap) := by
      rw [World.cell?_alloc_at _ _ _ _ rfl]; rfl
    go_enter Tryz.func101, Tryz.ntmps101
    go_wp2_with fail
    refine (large1_no w.heap.size _ _ _ _ hc1 hl).mono ?_
    rintro e w' ⟨rfl, rfl⟩
    clear hc1
    go_wp2
    go_loopw [6, 7] (fun out i wr => EvalRel fs (toF x) out i ∧ Below w.heap.size w wr) (fun _ i _ => (intOf i + 1).toNat)
    case atStart => exact ⟨⟨fs.length, Nat.le_refl _, by rw [Hlen.out], by rw [horn_end, vl_zero]⟩, (Below.refl _ _).alloc (Nat.le_refl _) _⟩
    case round =>
      obtain ⟨⟨k, hk, rfl, rfl⟩, hbel⟩ := hrel
      have hk2 : k ≤ zs.length := by rw [← Hlen.out]; exact hk
      cases k with
      | zero =>
        go_wp2
        go_ret2
        exact ⟨by rw [horn_zero]; rfl, hbel⟩
      | succ j =>
        rw [show ((j + 1 : Nat) : Int) - 1 = (j : Int) by omega]
        have hcw := Hc.out j (by omega)
        have hcj : wr.cell? ⟨b, off + j, none⟩ = some (.int .u64 (gd zs j)) := (hbel.cell (World.block_lt_of_cell? _ _ hcw)).trans hcw
        have hbj := hz.get j
        have HH := Lib.hid (horn_step fs (toF x) j (by omega))
        have HG := Lib.hid (Hget.out j)
        have Hb := Lib.hid hbel
        clear hcw hbel
        go_wp2
        go_quiet ((first | (go_at_call 66; exact q_same (mul_Fx _ x _ hx0 hx1)) | (go_at_call 64; exact q_same (add_Fx _ _ _ hbj.1 hbj.2))))
        go_wp2
        go_roundw
        case rel => exact ⟨⟨j, by omega, rfl, by rw [← HG.out, HH.out]⟩, below_drewN Hb.out _⟩
        case measure => simp [intOf] <;> omega
end Go.Proofs.YtdhmmllpldjkbaaGreatDoor.Gm
/- (Pa) -/
namespace Go.Proofs.YtdhmmllpldjkbaaGreatDoor.Gm
open Go.RowKit
theorem s_same {P : Program} {f : FuncId} {args : Array Value} {w : World} {v : Value}
    (h : Calls P f args w fun e w' => e = .returned v ∧ w = w') : Calls P f args w fun e w'' => e = .returned v ∧ w'' = w :=
  h.mono fun _ _ ⟨he, hm⟩ => ⟨he, hm.symm⟩
theorem Rd.shape {k : IntKind} {w : World} {v : Value} {zs : List Int} (h : Rd k w v zs) : ∃ a cap, v = .slice a zs.length cap ∧ zs.length ≤ cap ∧ cap ≤ 9223372036854775807 := by
  obtain ⟨a, cap, b, off, rfl, hcap, hm, _, _⟩ := h
  exact ⟨a, cap, rfl, hcap, hm⟩
theorem eval_large (zs : List Int) (v : Value) (x : Int) (w : World) (h : Rd .u64 w v zs) (hl : 2048 < zs.length) :
    Calls Tryz.prog 101 #[v, .int .u64 x] w (RetV w (.tuple #[.int .u64 0, .int .i64 2])) := by
  obtain ⟨a, cap, rfl, hcap, hm⟩ := h.shape
  clear h
  have hc1 : (w.alloc (.cells #[.slice a zs.length cap] 44)).cell? ⟨w.heap.size, 0, none⟩ = some (.slice a zs.length cap) := by
    rw [World.cell?_alloc_at _ _ _ _ rfl]; rfl
  go_enter Tryz.func101, Tryz.ntmps101
  go_wp2_with fail
  refine (large1_yes w.heap.size a zs.length cap _ hc1 hl).mono ?_
  rintro e w' ⟨rfl, rfl⟩
  go_wp2
  go_ret2
  exact ⟨rfl, (Below.refl _ _).alloc (Nat.le_refl _) _⟩
/-- two cells, just laid -/
theorem two_cells (w : World) (x y : Value) (t : TypeId) : (w.alloc (.cells #[x, y] t)).cell? ⟨w.heap.size, 0, none⟩ = some x ∧ (w.alloc (.cells #[x, y] t)).cell? ⟨w.heap.size, 1, none⟩ = some y := by
  constructor
  · rw [World.cell?_alloc_at _ _ _ _ rfl]; rfl
  · rw [World.cell?_alloc_at _ _ _ _ rfl]; rfl
/-- the sum's array, behind k places -/
def AddRel (B : Nat) (w : World) (fa fb : List F) (n g : Nat) (i : Value) (wr : World) : Prop :=
  ∃ (k : Nat) (l : List F), k ≤ n ∧ i = .int .i64 k ∧ l.length = n ∧ (∀ j, j < k → cf l j = cf fa j + cf fb j) ∧ (∀ j, k ≤ j → cf l j = 0) ∧ Ow B wr (.slice (some ⟨g, 0, none⟩) n n) l ∧ Below B w wr
theorem addrel_step {fa fb l : List F} {k n : Nat} {y : F} (hk : k < n) (hl : l.length = n) (h1 : ∀ j, j < k → cf l j = cf fa j + cf fb j) (h2 : ∀ j, k ≤ j → cf l j = 0) (hy : y = cf fa k + cf fb k) :
    (∀ j, j < k + 1 → cf (l.set k y) j = cf fa j + cf fb j) ∧ (∀ j, k + 1 ≤ j → cf (l.set k y) j = 0) := by
  constructor
  · intro j hj
    rw [cf_set _ _ _ _ (by omega)]
    by_cases h : k = j
    · subst h; rw [if_pos rfl, hy]
    · rw [if_neg h]; exact h1 j (by omega)
  · intro j hj
    rw [cf_set _ _ _ _ (by omega), if_neg (by omega)]; exact h2 j (by omega)
theorem set_set (l : List F) (k : Nat) (x y : F) : (l.set k x).set k y = l.set k y := by rw [List.set_set]
end Go.Proofs.YtdhmmllpldjkbaaGreatDoor.Gm
/- (Oz) -/
namespace Go.Proofs.YtdhmmllpldjkbaaGreatDoor.Gm
open Go.RowKit
/-- append of one element to a slice of the call's own (the element's block has just been laid) -/
theorem wl_appV (te ts : TypeId) (z : Value) (size by8 : Nat) (hu : Tryz.prog.underlying ts = some (.slice te)) (hinfo : (Tryz.prog.info? te).map (fun i => (i.zero, i.size, i.bytes)) = some (some z, size, by8))
    (hzs : z.cells.size = size) (hsz : 0 < size) (hby : by8 ≤ 64)
    {ops : Array Oper} {rest : List Oper} {o : Oper} {a : Act} {Q : Exit → Act → World → Prop} (w : World) (hgd : o.guard = none) (s x : Operand)
    (ho : o.op = .call { callee := .builtin .append, args := #[s, x], argTypes := #[ts, ts] })
    (B : Nat) (v : Value) (n : Nat) (xs : List Value) (cs : Array Value) (hcs : cs.size = size) (h1 : ∀ u ∈ cs.toList, u.oneCell' = true) (W : World) (hs : a.eval s = v) (hx : a.eval x = .slice (some ⟨w.heap.size, 0, none⟩) 1 1)
    (hown : w.ownsRow B te size v n xs) (hbel : Below B W w) (hB : B ≤ w.heap.size) (hl : n ≤ 1000000)
    (h : ∀ v' w', w'.ownsRow B te size v' (n + 1) (xs ++ cs.toList) → Below B W w' → wpList Tryz.prog ops Q rest (a.put o.dst v') w') :
    wpList Tryz.prog ops Q (o :: rest) a (w.alloc (.cells cs te)) := by
  obtain ⟨i0, hi, hz0, hz1, hz2⟩ := info_parts hinfo
  have hmx : n + 1 ≤ maxLen := by unfold maxLen; omega
  refine wpList_append_own _ hgd s x ts ho B te i0 z size by8 hu hi hz0 hz1 hz2 hzs hsz v n xs hs (World.ownsRow.alloc hown _) ⟨w.heap.size, 0, none⟩ 1 1 cs.toList hx (by rw [Array.length_toList, hcs, Nat.one_mul]) ?_ h1 hmx ?_ (by simp; omega) ?_
  · intro j u hj
    have e : (Addr.add ⟨w.heap.size, 0, none⟩ j : Addr) = ⟨w.heap.size, j, none⟩ := by unfold Addr.add; by_cases h0 : j = 0 <;> simp [h0]
    rw [e, World.cell?_alloc_at _ _ _ _ rfl]
    rw [Array.getElem?_toList] at hj
    exact hj
  · have := Nat.mul_le_mul (show n + 1 ≤ 1000001 by omega) hby
    omega
  · intro v' w' hown' hgrow _
    refine h v' w' hown' ?_
    have h1 : Below B W (w.alloc (.cells cs te)) := hbel.alloc hB _
    refine h1.grown hgrow (by simp; omega) (fun k hk => ?_)
    exact (World.ownsRow.lt hown k hk).1
/-- make of so many elements of one cell -/
theorem wl_makeV (te ts : TypeId) (z : Value) (by8 : Nat) (hu : Tryz.prog.underlying ts = some (.slice te)) (hinfo : (Tryz.prog.info? te).map (fun i => (i.zero, i.size, i.bytes)) = some (some z, 1, by8))
    (hzc : z.cells = #[z]) (hby : by8 ≤ 64)
    {ops : Array Oper} {rest : List Oper} {o : Oper} {a : Act} {Q : Exit → Act → World → Prop} (w : World) (hgd : o.guard = none) (l c : Operand)
    (ho : o.op = Op.makeSlice ts l c) (B : Nat) (L C : Int) (n : Nat) (W : World) (hl : a.eval l = .int .i64 L) (hc : a.eval c = .int .i64 C) (hL : L = (n : Int)) (hC : C = (n : Int))
    (hn : n ≤ 1000000) (hbel : Below B W w) (hB : B ≤ w.heap.size)
    (h : ∀ g w', Hid (g = w.heap.size) → w'.ownsRow B te 1 (.slice (some ⟨g, 0, none⟩) n n) n (List.replicate n z) → Below B W w' → wpList Tryz.prog ops Q rest (a.put o.dst (.slice (some ⟨g, 0, none⟩) n n)) w') :
    wpList Tryz.prog ops Q (o :: rest) a w := by
  obtain ⟨i0, hi, hz0, hz1, hz2⟩ := info_parts hinfo
  have hmx : n ≤ maxLen := by unfold maxLen; omega
  refine wpList_plain hgd fun K hK' => ?_
  subst hL
  subst hC
  have hmi : (n : Int) ≤ 9223372036854775807 := by omega
  have hm8 : (by8 : Int) * (n : Int) ≤ 281474976710656 := by
    have := Nat.mul_le_mul hby hn
    have h3 : by8 * n ≤ 281474976710656 := Nat.le_trans this (by omega)
    rw [← Int.natCast_mul]
    exact Int.ofNat_le.2 h3
  have hr := run_make (P := Tryz.prog) w ts te i0 z hu hi hz0 .i64 .i64 n n (by omega) (Int.le_refl _) (by rw [hz2]; exact hm8) hmi
  simp only [Int.toNat_natCast] at hr
  unfold Oper.wp
  simp [execOp, ho, hl, hc, hr, Result.andThen]
  refine hK' _ _ (h w.heap.size _ (Lib.hid rfl) ?_ ?_)
  · have := World.ownsRow_lit w (madeCells z.cells (n * i0.size)) (e := te) (size := 1) n hB hmx (by rw [size_madeCells, hz1])
    rw [hz1, Nat.mul_one] at this ⊢
    rw [hzc] at this ⊢
    rw [toList_madeCells_one] at this
    exact this
  · exact hbel.alloc hB _
/-- a slice of the call's own that holds a list of integers of one kind -/
def Oz (k : IntKind) (te : TypeId) (B : Nat) (w : World) (v : Value) (l : List Int) : Prop := w.ownsRow B te 1 v l.length (l.map (Value.int k))
theorem Oz.nil (k : IntKind) (te : TypeId) (B : Nat) (w : World) : Oz k te B w (.slice none 0 0) [] := World.ownsRow_nil _ _ _ _
theorem Oz.rd {k : IntKind} {te : TypeId} {B : Nat} {w : World} {v : Value} {l : List Int} (h : Oz k te B w v l) : Rd k w v l := by
  unfold Oz at h
  rcases h.2 with ⟨rfl, h0⟩ | ⟨g, cap, cur, rfl, hb, hg, hn, hm, hs, ht⟩
  · have : l = [] := List.length_eq_zero_iff.1 h0
    subst this; exact Rd.nil _ _
  · refine ⟨some ⟨g, 0, none⟩, cap, g, 0, by simp, by simpa using hn, by unfold maxLen at hm; omega, .inr rfl, fun i hi => ?_⟩
    have h1 := World.ownsRow.cellAt h i (by omega)
    rw [Nat.zero_add, h1, gd_eq]
    simp [List.getElem?_eq_getElem hi]
theorem Oz.of_heap {k : IntKind} {te : TypeId} {B : Nat} {w w' : World} {v : Value} {l : List Int} (h : Oz k te B w v l) (hh : ∀ k, k < w.heap.size → w'.heap[k]? = w.heap[k]?) : Oz k te B w' v l := by
  refine ⟨h.1, ?_⟩
  rcases h.2 with h0 | ⟨g, cap, cur, e, hb, hg, rest⟩
  · exact .inl h0
  · exact .inr ⟨g, cap, cur, e, hb, (hh g (Array.getElem?_eq_some_iff.1 hg).1).trans hg, rest⟩
theorem Oz.below {k : IntKind} {te : TypeId} {B : Nat} {w w' : World} {v : Value} {l : List Int} (h : Oz k te B w v l) (hb : Below w.heap.size w w') : Oz k te B w' v l :=
  h.of_heap (fun k hk => hb.block k hk)
theorem Oz.mono {k : IntKind} {te : TypeId} {B B' : Nat} {w : World} {v : Value} {l : List Int} (h : Oz k te B w v l) (hB : B' ≤ B) : Oz k te B' w v l := by
  refine ⟨h.1, ?_⟩
  rcases h.2 with h0 | ⟨g, cap, cur, e, hb, rest⟩
  · exact .inl h0
  · exact .inr ⟨g, cap, cur, e, by omega, rest⟩
theorem Oz.drewN {k : IntKind} {te : TypeId} {B : Nat} {w : World} {v : Value} {l : List Int} (h : Oz k te B w v l) (n : Nat) : Oz k te B (w.drewN n) v l := h.of_heap (fun _ _ => rfl)
theorem Oz.drew {k : IntKind} {te : TypeId} {B : Nat} {w : World} {v : Value} {l : List Int} (h : Oz k te B w v l) : Oz k te B w.drew v l := h.of_heap (fun _ _ => rfl)
theorem Oz.alloc {k : IntKind} {te : TypeId} {B : Nat} {w : World} {v : Value} {l : List Int} (h : Oz k te B w v l) (o : Obj) : Oz k te B (w.alloc o) v l := h.below ((Below.refl _ _).alloc (Nat.le_refl _) o)
theorem Oz.shape {k : IntKind} {te : TypeId} {B : Nat} {w : World} {v : Value} {l : List Int} (h : Oz k te B w v l) : ∃ a cap, v = .slice a l.length cap ∧ l.length ≤ cap ∧ cap ≤ 9223372036854775807 ∧ ∀ i, i < l.length → ∃ g, a = some ⟨g, 0, none⟩ ∧ B ≤ g ∧ g < w.heap.size := by
  rcases h.2 with ⟨rfl, h0⟩ | ⟨g, cap, cur, rfl, hb, hg, hn, hm, hs, ht⟩
  · rw [show l = [] from List.length_eq_zero_iff.1 h0]; exact ⟨none, 0, rfl, by simp, by omega, fun i hi => absurd hi (by simp)⟩
  · exact ⟨_, cap, rfl, hn, by unfold maxLen at hm; omega, fun i hi => ⟨g, rfl, hb, (Array.getElem?_eq_some_iff.1 hg).1⟩⟩
theorem Oz.cell {k : IntKind} {te : TypeId} {B g n cap : Nat} {w : World} {l : List Int} (h : Oz k te B w (.slice (some ⟨g, 0, none⟩) n cap) l) {i : Nat} (hi : i < l.length) : w.cell? ⟨g, i, none⟩ = some (.int k (gd l i)) := by
  have hn : n = l.length := by
    obtain ⟨a, c, e, _⟩ := Oz.shape h
    injection e
  subst hn
  rw [World.ownsRow.cellAt h i (by omega), gd_eq]
  simp [List.getElem?_eq_getElem hi]
theorem Oz.base {k : IntKind} {te : TypeId} {B g n cap : Nat} {w : World} {l : List Int} (h : Oz k te B w (.slice (some ⟨g, 0, none⟩) n cap) l) : B ≤ g ∧ g < w.heap.size := World.ownsRow.lt h g rfl
theorem gd_set (l : List Int) (i j : Nat) (y : Int) (hi : i < l.length) : gd (l.set i y) j = if i = j then y else gd l j := by
  rw [gd_eq, gd_eq, List.getElem?_set]
  split
  · rename_i h; subst h; simp
  · rfl
theorem gd_snoc_lt (l : List Int) (y : Int) (i : Nat) (h : i < l.length) : gd (l ++ [y]) i = gd l i := by
  rw [gd_eq, gd_eq, List.getElem?_append_left h]
theorem gd_replicate (n i : Nat) : gd (List.replicate n 0) i = 0 := by
  rw [gd_eq, List.getElem?_replicate]
  split <;> rfl
theorem info_int : (Tryz.prog.info? 3).map (fun i => (i.zero, i.size, i.bytes)) = some (some (.int .i64 0), 1, 8) := by kernel_rfl
/-- append of one number, raw -/
theorem wl_app_u64 {ops : Array Oper} {rest : List Oper} {o : Oper} {a : Act} {Q : Exit → Act → World → Prop} (w : World) (hgd : o.guard = none) (s x : Operand)
    (ho : o.op = .call { callee := .builtin .append, args := #[s, x], argTypes := #[44, 44] })
    (B : Nat) (v : Value) (l : List Int) (y : Int) (W : World) (hs : a.eval s = v) (hx : a.eval x = .slice (some ⟨w.heap.size, 0, none⟩) 1 1)
    (hown : Oz .u64 51 B w v l) (hbel : Below B W w) (hB : B ≤ w.heap.size) (hl : l.length ≤ 1000000)
    (h : ∀ v' w', Oz .u64 51 B w' v' (l ++ [y]) → Below B W w' → wpList Tryz.prog ops Q rest (a.put o.dst v') w') :
    wpList Tryz.prog ops Q (o :: rest) a (w.alloc (.cells #[.int .u64 y] 51)) := by
  refine wl_appV 51 44 (.int .u64 0) 1 8 Tryz.underlying44 info_u64 rfl (by decide) (by decide) w hgd s x ho B v l.length (l.map (Value.int .u64)) #[.int .u64 y] rfl (by intro u hu; simp at hu; subst hu; rfl) W hs hx hown hbel hB hl fun v' w' h1 h2 => h v' w' ?_ h2
  unfold Oz
  rw [List.map_append, List.length_append, List.length_singleton]
  exact h1
theorem wl_app_int {ops : Array Oper} {rest : List Oper} {o : Oper} {a : Act} {Q : Exit → Act → World → Prop} (w : World) (hgd : o.guard = none) (s x : Operand)
    (ho : o.op = .call { callee := .builtin .append, args := #[s, x], argTypes := #[81, 81] })
    (B : Nat) (v : Value) (l : List Int) (y : Int) (W : World) (hs : a.eval s = v) (hx : a.eval x = .slice (some ⟨w.heap.size, 0, none⟩) 1 1)
    (hown : Oz .i64 3 B w v l) (hbel : Below B W w) (hB : B ≤ w.heap.size) (hl : l.length ≤ 1000000)
    (h : ∀ v' w', Oz .i64 3 B w' v' (l ++ [y]) → Below B W w' → wpList Tryz.prog ops Q rest (a.put o.dst v') w') :
    wpList Tryz.prog ops Q (o :: rest) a (w.alloc (.cells #[.int .i64 y] 3)) := by
  refine wl_appV 3 81 (.int .i64 0) 1 8 Tryz.underlying81 info_int rfl (by decide) (by decide) w hgd s x ho B v l.length (l.map (Value.int .i64)) #[.int .i64 y] rfl (by intro u hu; simp at hu; subst hu; rfl) W hs hx hown hbel hB hl fun v' w' h1 h2 => h v' w' ?_ h2
  unfold Oz
  rw [List.map_append, List.length_append, List.length_singleton]
  exact h1
theorem wl_make_int {ops : Array Oper} {rest : List Oper} {o : Oper} {a : Act} {Q : Exit → Act → World → Prop} (w : World) (hgd : o.guard = none) (l c : Operand)
    (ho : o.op = Op.makeSlice 81 l c) (B : Nat) (L C : Int) (n : Nat) (W : World) (hl : a.eval l = .int .i64 L) (hc : a.eval c = .int .i64 C) (hL : L = (n : Int)) (hC : C = (n : Int))
    (hn : n ≤ 1000000) (hbel : Below B W w) (hB : B ≤ w.heap.size)
    (h : ∀ g w', Hid (g = w.heap.size) → Oz .i64 3 B w' (.slice (some ⟨g, 0, none⟩) n n) (List.replicate n 0) → Below B W w' → wpList Tryz.prog ops Q rest (a.put o.dst (.slice (some ⟨g, 0, none⟩) n n)) w') :
    wpList Tryz.prog ops Q (o :: rest) a w := by
  refine wl_makeV 3 81 (.int .i64 0) 8 Tryz.underlying81 info_int rfl (by decide) w hgd l c ho B L C n W hl hc hL hC hn hbel hB fun g w' h0 h1 h2 => h g w' h0 ?_ h2
  unfold Oz
  rw [List.length_replicate, List.map_replicate]
  exact h1
/-- a store into a list of the call's own -/
theorem wl_storeZ (k : IntKind) (te : TypeId) {ops : Array Oper} {rest : List Oper} {o : Oper} {a : Act} {Q : Exit → Act → World → Prop} (w : World) (hgd : o.guard = none) (p x : Operand)
    (hz : ∀ w : World, Sem.run Tryz.prog (Go.sizeOf te) w = .ok 1 w)
    (ho : o.op = .store te p x) (B g i n cap : Nat) (l : List Int) (y : Int) (W : World) (hp : a.eval p = .pointer (some ⟨g, i, none⟩)) (hx : a.eval x = .int k y)
    (hown : Oz k te B w (.slice (some ⟨g, 0, none⟩) n cap) l) (hn : l.length = n) (hi : i < n) (hbel : Below B W w)
    (h : ∀ w', Oz k te B w' (.slice (some ⟨g, 0, none⟩) n cap) (l.set i y) → Below B W w' → w'.heap.size = w.heap.size → wpList Tryz.prog ops Q rest (a.put o.dst undef) w') :
    wpList Tryz.prog ops Q (o :: rest) a w := by
  subst hn
  have hc := hown.cell hi
  have hf : w.frozen? ⟨g, i, none⟩ = false := World.ownsRow.frozenAt hown i
  refine wpList_plain hgd fun K hK' => ?_
  have hset : Oz k te B (w.setCell ⟨g, i, none⟩ (.int k y)) (.slice (some ⟨g, 0, none⟩) l.length cap) (l.set i y) := by
    have := (World.ownsRow.stored hown i (.int k y)).1
    unfold Oz
    rw [List.map_set, List.length_set]
    exact this
  have hk := hK' _ _ (h (w.setCell ⟨g, i, none⟩ (.int k y)) hset (hbel.setCell hown.base.1 _) (by simp [World.setCell]))
  unfold Oper.wp
  simp [execOp, ho, hp, hx, Result.andThen]
  go_simp
  exact hk
/-- two slices of the call's own do not lie over each other -/
def Ap (v v2 : Value) : Prop := v2.ownBlock = none ∨ v2.ownBlock ≠ v.ownBlock
theorem Oz.lt {k : IntKind} {te : TypeId} {B : Nat} {w : World} {v : Value} {l : List Int} (h : Oz k te B w v l) : ∀ g, v.ownBlock = some g → B ≤ g ∧ g < w.heap.size := World.ownsRow.lt h
theorem Oz.kept {k : IntKind} {te : TypeId} {B : Nat} {w w' : World} {v v2 : Value} {l : List Int} (h : Oz k te B w v2 l) (hg : w.grownBy w' v.ownBlock) (ha : Ap v v2) : Oz k te B w' v2 l := World.ownsRow.kept h hg ha
theorem Ap.next {k : IntKind} {te : TypeId} {B : Nat} {w : World} {v v' v2 : Value} {l : List Int} (ha : Ap v v2) (h : Oz k te B w v2 l) (hat : ∀ g, v'.ownBlock = some g → v.ownBlock = some g ∨ g = w.heap.size) : Ap v' v2 := by
  rcases ha with ha | ha
  · exact .inl ha
  · cases h2 : v2.ownBlock with
    | none => exact .inl h2
    | some c =>
      right
      intro e
      rw [h2] at e
      rcases hat c e.symm with h3 | h3
      · exact ha (h2.trans h3.symm)
      · have := h.lt c h2; omega
theorem Ap.symm {v v2 : Value} (h : Ap v v2) : Ap v2 v := by
  rcases h with h | h
  · cases hv : v.ownBlock with
    | none => exact .inl hv
    | some c => right; intro e; rw [h, hv] at e; cases e
  · exact .inr (Ne.symm h)
/-- append of one number at a step of a region that draws its order -/
theorem st_app_u64 {ops : Array Oper} {o : Oper} {a : Act} {K : Act → World → Prop} {Q : Exit → Act → World → Prop} {E : Prop} (w : World) (hgd : o.guard = none) (s x : Operand)
    (ho : o.op = .call { callee := .builtin .append, args := #[s, x], argTypes := #[44, 44] })
    (B : Nat) (v : Value) (l : List Int) (y : Int) (W : World) (g0 : Nat) (hs : a.eval s = v) (hx : a.eval x = .slice (some ⟨g0, 0, none⟩) 1 1)
    (hown : Oz .u64 51 B w v l) (hnew : w.heap[g0]? = some (.cells #[.int .u64 y] 51)) (hbel : Below B W w) (hB : B ≤ w.heap.size) (hl : l.length ≤ 1000000)
    (h : ∀ v' w', Oz .u64 51 B w' v' (l ++ [y]) → Below B W w' → w.grownBy w' v.ownBlock → (∀ g, v'.ownBlock = some g → v.ownBlock = some g ∨ g = w.heap.size) → K (a.put o.dst v') w') :
    if Region.wanted o (yielded ops a.tmps) = true then Oper.wp Tryz.prog o a w K Q else E := by
  obtain ⟨i0, hi, hz0, hz1, hz2⟩ := info_parts info_u64
  refine step_append_lies w hgd s x 44 ho B 51 i0 (.int .u64 0) 1 8 Tryz.underlying44 hi hz0 hz1 hz2 rfl (by decide) v l.length (l.map (Value.int .u64)) hs hown ⟨g0, 0, none⟩ 1 1 [.int .u64 y] hx rfl (World.news_of_block (cs := #[.int .u64 y]) hnew) (by intro u hu; simp at hu; subst hu; rfl) (by omega) (by unfold maxLen; omega) (by omega) hB w.heap.size rfl ?_
  intro g cap w' h1 h2 h3 h4
  refine h _ w' ?_ ?_ h2 ?_
  · unfold Oz
    rw [List.map_append, List.length_append, List.length_singleton]
    exact h1
  · exact hbel.grown h2 hB (fun k hk => (World.ownsRow.lt hown k hk).1)
  · intro k hk
    have e : g = k := by simpa [Value.ownBlock] using hk
    subst e
    exact h3
/-- append of one number at a step of a region that draws its order -/
theorem st_app_int {ops : Array Oper} {o : Oper} {a : Act} {K : Act → World → Prop} {Q : Exit → Act → World → Prop} {E : Prop} (w : World) (hgd : o.guard = none) (s x : Operand)
    (ho : o.op = .call { callee := .builtin .append, args := #[s, x], argTypes := #[81, 81] })
    (B : Nat) (v : Value) (l : List Int) (y : Int) (W : World) (g0 : Nat) (hs : a.eval s = v) (hx : a.eval x = .slice (some ⟨g0, 0, none⟩) 1 1)
    (hown : Oz .i64 3 B w v l) (hnew : w.heap[g0]? = some (.cells #[.int .i64 y] 3)) (hbel : Below B W w) (hB : B ≤ w.heap.size) (hl : l.length ≤ 1000000)
    (h : ∀ v' w', Oz .i64 3 B w' v' (l ++ [y]) → Below B W w' → w.grownBy w' v.ownBlock → (∀ g, v'.ownBlock = some g → v.ownBlock = some g ∨ g = w.heap.size) → K (a.put o.dst v') w') :
    if Region.wanted o (yielded ops a.tmps) = true then Oper.wp Tryz.prog o a w K Q else E := by
  obtain ⟨i0, hi, hz0, hz1, hz2⟩ := info_parts info_int
  refine step_append_lies w hgd s x 81 ho B 3 i0 (.int .i64 0) 1 8 Tryz.underlying81 hi hz0 hz1 hz2 rfl (by decide) v l.length (l.map (Value.int .i64)) hs hown ⟨g0, 0, none⟩ 1 1 [.int .i64 y] hx rfl (World.news_of_block (cs := #[.int .i64 y]) hnew) (by intro u hu; simp at hu; subst hu; rfl) (by omega) (by unfold maxLen; omega) (by omega) hB w.heap.size rfl ?_
  intro g cap w' h1 h2 h3 h4
  refine h _ w' ?_ ?_ h2 ?_
  · unfold Oz
    rw [List.map_append, List.length_append, List.length_singleton]
    exact h1
  · exact hbel.grown h2 hB (fun k hk => (World.ownsRow.lt hown k hk).1)
  · intro k hk
    have e : g = k := by simpa [Value.ownBlock] using hk
    subst e
    exact h3
end Go.Proofs.YtdhmmllpldjkbaaGreatDoor.Gm
/- (Bl) -/
namespace Go.Proofs.YtdhmmllpldjkbaaGreatDoor.Gm
open Go.RowKit
/-- block g is just these cells -/
def Blk (w : World) (g : Nat) (t : TypeId) (cs : Array Value) : Prop := w.heap[g]? = some (.cells cs t (0, 0))
section
variable {w w' : World} {g : Nat} {t : TypeId} {cs : Array Value}
theorem Blk.lt (h : Blk w g t cs) : g < w.heap.size := (Array.getElem?_eq_some_iff.1 h).1
theorem Blk.cell (h : Blk w g t cs) (i : Nat) : w.cell? ⟨g, i, none⟩ = cs[i]? := cell_of_row w g i cs t (0, 0) h
theorem Blk.frozen (h : Blk w g t cs) (i : Nat) : w.frozen? ⟨g, i, none⟩ = false := by
  unfold Blk at h
  simp [World.frozen?, h]
theorem Blk.new (w : World) (t : TypeId) (cs : Array Value) : Blk (w.alloc (.cells cs t)) w.heap.size t cs := heap_alloc_new w _
theorem Blk.drew (h : Blk w g t cs) : Blk w.drew g t cs := h
theorem Blk.drewN (h : Blk w g t cs) (n : Nat) : Blk (w.drewN n) g t cs := h
theorem Blk.alloc (h : Blk w g t cs) (o : Obj) : Blk (w.alloc o) g t cs := (Below.heap_alloc w o g h.lt).trans h
theorem Blk.set_ (h : Blk w g t cs) (i : Nat) (u : Value) : Blk (w.setCell ⟨g, i, none⟩ u) g t (cs.setIfInBounds i u) := by
  unfold Blk at h ⊢
  simp [World.setCell, Array.getElem?_modify, h]
theorem Blk.far (h : Blk w g t cs) {p : Addr} (hp : g ≠ p.block) (u : Value) : Blk (w.setCell p u) g t cs := (Below.heap_setCell w p u g hp).trans h
theorem Blk.below {B : Nat} (h : Blk w g t cs) (hb : Below B w w') (hg : g < B) : Blk w' g t cs := (hb.block g hg).trans h
theorem Blk.grown {row : Option Nat} (h : Blk w g t cs) (hb : w.grownBy w' row) (hg : some g ≠ row) : Blk w' g t cs := (hb.block g h.lt hg).trans h
theorem Blk.ne_ {g' : Nat} {t' : TypeId} {cs' : Array Value} (h : Blk w g t cs) (h' : Blk w g' t' cs') (hne : t ≠ t') : g ≠ g' := by
  rintro rfl
  unfold Blk at h h'
  rw [h] at h'
  injection h' with h'
  injection h' with _ ht
  exact hne ht
theorem own_blk_ne {base : Nat} {e : TypeId} {size n : Nat} {v : Value} {xs : List Value} (h : w.ownsRow base e size v n xs) (hg : Blk w g t cs) (hne : e ≠ t) : v.ownBlock ≠ some g := by
  rcases h.2 with ⟨rfl, _⟩ | ⟨g', cap, cur, rfl, _, hh, _⟩
  · simp [Value.ownBlock]
  · intro he
    have : g' = g := by simpa [Value.ownBlock] using he
    subst this
    exact Blk.ne_ (t := e) hh hg hne rfl
end
/-- only the blocks of S, and what is new, have turned -/
structure Only (S : Nat → Prop) (w w' : World) : Prop where
  os : w'.os = w.os
  tape : w'.tape = w.tape
  output : w'.output = w.output
  size : w.heap.size ≤ w'.heap.size
  block : ∀ k, k < w.heap.size → ¬ S k → w'.heap[k]? = w.heap[k]?
section
variable {S T : Nat → Prop} {a w w' : World}
theorem Only.refl (S : Nat → Prop) (w : World) : Only S w w := ⟨rfl, rfl, rfl, Nat.le_refl _, fun _ _ _ => rfl⟩
theorem Only.trans (h : Only S a w) (k : Only S w w') : Only S a w' :=
  ⟨k.os.trans h.os, k.tape.trans h.tape, k.output.trans h.output, Nat.le_trans h.size k.size, fun i hi hs => (k.block i (Nat.lt_of_lt_of_le hi h.size) hs).trans (h.block i hi hs)⟩
theorem Only.trans2 (h : Only S a w) (k : Only T w w') (hT : ∀ k, k < a.heap.size → T k → S k) : Only S a w' :=
  ⟨k.os.trans h.os, k.tape.trans h.tape, k.output.trans h.output, Nat.le_trans h.size k.size, fun i hi hs => (k.block i (Nat.lt_of_lt_of_le hi h.size) (fun e => hs (hT i hi e))).trans (h.block i hi hs)⟩
theorem Only.mono (h : Only S a w) (hS : ∀ k, k < a.heap.size → S k → T k) : Only T a w := ⟨h.os, h.tape, h.output, h.size, fun k hk hs => h.block k hk (fun e => hs (hS k hk e))⟩
theorem Only.drew (h : Only S a w) : Only S a w.drew := ⟨h.os, h.tape, h.output, h.size, h.block⟩
theorem Only.drewN (h : Only S a w) (n : Nat) : Only S a (w.drewN n) := ⟨h.os, h.tape, h.output, h.size, h.block⟩
theorem Only.alloc (h : Only S a w) (o : Obj) : Only S a (w.alloc o) :=
  ⟨h.os, h.tape, h.output, Nat.le_trans h.size (by simp), fun i hi hs => (Below.heap_alloc w o i (Nat.lt_of_lt_of_le hi h.size)).trans (h.block i hi hs)⟩
theorem Only.setCell (h : Only S a w) {p : Addr} (hp : S p.block ∨ a.heap.size ≤ p.block) (u : Value) : Only S a (w.setCell p u) :=
  ⟨h.os, h.tape, h.output, by simpa [World.setCell] using h.size, fun i hi hs => (Below.heap_setCell w p u i (by
    rintro rfl
    rcases hp with hp | hp
    · exact hs hp
    · omega)).trans (h.block i hi hs)⟩
theorem Only.of_below {B : Nat} (h : Below B a w) (hB : ∀ k, k < a.heap.size → B ≤ k → S k) : Only S a w :=
  ⟨h.os, h.tape, h.output, h.size, fun k hk hs => h.block k (by
    rcases Nat.lt_or_ge k B with h1 | h1
    · exact h1
    · exact absurd (hB k hk h1) hs)⟩
theorem Only.of_grown {row : Option Nat} (h : a.grownBy w row) (hr : ∀ k, row = some k → S k) : Only S a w :=
  ⟨h.os, h.tape, h.output, h.size, fun k hk hs => h.block k hk (fun e => hs (hr k e.symm))⟩
theorem Only.below {B : Nat} (h : Only S a w) (hB : B ≤ a.heap.size) (hS : ∀ k, S k → B ≤ k) : Below B a w :=
  ⟨h.os, h.tape, h.output, h.size, fun k hk => h.block k (Nat.lt_of_lt_of_le hk hB) (fun e => by have := hS k e; omega)⟩
/-- a call behind -/
theorem Only.then (h : Only S a w) {B : Nat} (hb : Below B w w') (hB : a.heap.size ≤ B) : Only S a w' :=
  ⟨hb.os.trans h.os, hb.tape.trans h.tape, hb.output.trans h.output, Nat.le_trans h.size hb.size, fun k hk hs => (hb.block k (Nat.lt_of_lt_of_le hk hB)).trans (h.block k hk hs)⟩
theorem Blk.only {g : Nat} {t : TypeId} {cs : Array Value} (h : Blk w g t cs) (ho : Only S w w') (hs : ¬ S g) : Blk w' g t cs := (ho.block g h.lt hs).trans h
theorem own_only {B : Nat} {e : TypeId} {size n : Nat} {v : Value} {xs : List Value} (h : w.ownsRow B e size v n xs) (ho : Only S w w') (hs : ∀ k, v.ownBlock = some k → ¬ S k) : w'.ownsRow B e size v n xs := by
  refine ⟨h.1, ?_⟩
  rcases h.2 with h0 | ⟨g, cap, cur, rfl, hb, hg, rest⟩
  · exact .inl h0
  · exact .inr ⟨g, cap, cur, rfl, hb, (ho.block g (Array.getElem?_eq_some_iff.1 hg).1 (hs g (by simp [Value.ownBlock]))).trans hg, rest⟩
end
def setCs : Array Value → Nat → List Value → Array Value
  | cs, _, [] => cs
  | cs, o, v :: r => setCs (cs.setIfInBounds o v) (o + 1) r
theorem Blk.setCells {g : Nat} {t : TypeId} : ∀ (vs : List Value) (o : Nat) (w : World) (cs : Array Value), Blk w g t cs → Blk (w.setCells g o vs) g t (setCs cs o vs)
  | [], _, _, _, h => h
  | v :: r, o, _, _, h => Blk.setCells r (o + 1) _ _ (h.set_ o v)
theorem only_setCells {g : Nat} : ∀ (vs : List Value) (o : Nat) (a w : World), Only (fun k => k = g) a w → Only (fun k => k = g) a (w.setCells g o vs)
  | [], _, _, _, h => h
  | v :: r, o, a, _, h => only_setCells r (o + 1) a _ (h.setCell (.inl rfl) v)
theorem size_setCells {g : Nat} : ∀ (vs : List Value) (o : Nat) (w : World), (w.setCells g o vs).heap.size = w.heap.size
  | [], _, _ => rfl
  | _ :: r, o, _ => (size_setCells r (o + 1) _).trans (by simp [World.setCell])
/-- a store of some cells into a block known whole -/
theorem wl_storeBlk (ty : TypeId) (d : Nat) (hi : (Tryz.prog.info? ty).map (·.size) = some d) {ops : Array Oper} {rest : List Oper} {o : Oper} {a : Act} {Q : Exit → Act → World → Prop} (w : World) (hgd : o.guard = none) (p x : Operand)
    (ho : o.op = .store ty p x) (G off : Nat) (t : TypeId) (cs vs : Array Value) (hp : a.eval p = .pointer (some ⟨G, off, none⟩)) (hx : a.eval x = .agg vs)
    (hb : Blk w G t cs) (hd : vs.size = d) (hsz : off + d ≤ cs.size) (h1 : vs.all (·.oneCell') = true)
    (h : ∀ w', Blk w' G t (setCs cs off vs.toList) → Only (fun k => k = G) w w' → w'.heap.size = w.heap.size → wpList Tryz.prog ops Q rest (a.put o.dst undef) w') :
    wpList Tryz.prog ops Q (o :: rest) a w := by
  subst hd
  refine wpList_store_mid hgd ty p x ho G off vs hp hx ?_ hi h1 ?_
  · intro j hj
    refine ⟨?_, hb.frozen _⟩
    rw [hb.cell, Array.getElem?_eq_getElem (by omega)]
    rfl
  · exact h _ (hb.setCells _ _ _ _) (only_setCells _ _ _ _ (Only.refl _ _)) (size_setCells _ _ _)
/-- .. and of one cell -/
theorem wl_storeBlk1 (ty : TypeId) (hi : ∀ w : World, Sem.run Tryz.prog (Go.sizeOf ty) w = .ok 1 w) {ops : Array Oper} {rest : List Oper} {o : Oper} {a : Act} {Q : Exit → Act → World → Prop} (w : World) (hgd : o.guard = none) (p x : Operand)
    (ho : o.op = .store ty p x) (G off : Nat) (t : TypeId) (cs : Array Value) (k : IntKind) (v : Int) (hp : a.eval p = .pointer (some ⟨G, off, none⟩)) (hx : a.eval x = .int k v)
    (hb : Blk w G t cs) (hsz : off < cs.size)
    (h : ∀ w', Blk w' G t (cs.setIfInBounds off (.int k v)) → Only (fun k => k = G) w w' → w'.heap.size = w.heap.size → wpList Tryz.prog ops Q rest (a.put o.dst undef) w') :
    wpList Tryz.prog ops Q (o :: rest) a w := by
  have hc : w.cell? ⟨G, off, none⟩ = some cs[off] := (hb.cell _).trans (Array.getElem?_eq_getElem hsz)
  have hf := hb.frozen off
  refine wpList_plain hgd fun K hK' => ?_
  have hk := hK' _ _ (h (w.setCell ⟨G, off, none⟩ (.int k v)) (hb.set_ _ _) ((Only.refl (fun k => k = G) w).setCell (p := ⟨G, off, none⟩) (.inl rfl) _) (by simp [World.setCell]))
  unfold Oper.wp
  simp [execOp, ho, hp, hx, Result.andThen]
  go_simp
  exact hk
end Go.Proofs.YtdhmmllpldjkbaaGreatDoor.Gm
