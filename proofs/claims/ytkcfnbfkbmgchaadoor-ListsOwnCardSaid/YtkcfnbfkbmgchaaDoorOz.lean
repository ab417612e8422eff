/- Slices of the call's own, of whatever elements: rows of cells; lists of integers of one kind. -/
import Derived.Test.YtkcfnbfkbmgchaaDoorPa
import Derived.Deep.AppendLies
namespace Go.Proofs.YtkcfnbfkbmgchaaDoor.Gm
open Go.RowKit
/-- append of one element to a slice of the call's own (the element's block has just been laid) -/
theorem wl_appV (te ts : TypeId) (z : Value) (size by8 : Nat) (hu : Tryd.prog.underlying ts = some (.slice te)) (hinfo : (Tryd.prog.info? te).map (fun i => (i.zero, i.size, i.bytes)) = some (some z, size, by8))
    (hzs : z.cells.size = size) (hsz : 0 < size) (hby : by8 ≤ 64)
    {ops : Array Oper} {rest : List Oper} {o : Oper} {a : Act} {Q : Exit → Act → World → Prop} (w : World) (hgd : o.guard = none) (s x : Operand)
    (ho : o.op = .call { callee := .builtin .append, args := #[s, x], argTypes := #[ts, ts] })
    (B : Nat) (v : Value) (n : Nat) (xs : List Value) (cs : Array Value) (hcs : cs.size = size) (h1 : ∀ u ∈ cs.toList, u.oneCell' = true) (W : World) (hs : a.eval s = v) (hx : a.eval x = .slice (some ⟨w.heap.size, 0, none⟩) 1 1)
    (hown : w.ownsRow B te size v n xs) (hbel : Below B W w) (hB : B ≤ w.heap.size) (hl : n ≤ 1000000)
    (h : ∀ v' w', w'.ownsRow B te size v' (n + 1) (xs ++ cs.toList) → Below B W w' → wpList Tryd.prog ops Q rest (a.put o.dst v') w') :
    wpList Tryd.prog ops Q (o :: rest) a (w.alloc (.cells cs te)) := by
  obtain ⟨i0, hi, hz0, hz1, hz2⟩ := info_parts hinfo
  have hmx : n + 1 ≤ maxLen := by unfold maxLen; omega
  refine wpList_append_own _ hgd s x ts ho B te i0 z size by8 hu hi hz0 hz1 hz2 hzs hsz v n xs hs (World.ownsRow.alloc hown _) ⟨w.heap.size, 0, none⟩ 1 1 cs.toList hx (by rw [Array.length_toList, hcs, Nat.one_mul]) ?_ h1 hmx ?_ (by simp; omega) ?_
  · intro j u hj
    have e : (Addr.add ⟨w.heap.size, 0, none⟩ j : Addr) = ⟨w.heap.size, j, none⟩ := by unfold Addr.add; by_cases h0 : j = 0 <;> simp [h0]
    rw [e, World.cell?_alloc_at _ _ _ _ rfl]
    rw [Array.getElem?_toList] at hj
    exact hj
  · have := Nat.mul_le_mul (show n + 1 ≤ 1000001 by omega) hby
    omega
  · intro v' w' hown' hgrow _
    refine h v' w' hown' ?_
    have h1 : Below B W (w.alloc (.cells cs te)) := hbel.alloc hB _
    refine h1.grown hgrow (by simp; omega) (fun k hk => ?_)
    exact (World.ownsRow.lt hown k hk).1
/-- make of so many elements of one cell -/
theorem wl_makeV (te ts : TypeId) (z : Value) (by8 : Nat) (hu : Tryd.prog.underlying ts = some (.slice te)) (hinfo : (Tryd.prog.info? te).map (fun i => (i.zero, i.size, i.bytes)) = some (some z, 1, by8))
    (hzc : z.cells = #[z]) (hby : by8 ≤ 64)
    {ops : Array Oper} {rest : List Oper} {o : Oper} {a : Act} {Q : Exit → Act → World → Prop} (w : World) (hgd : o.guard = none) (l c : Operand)
    (ho : o.op = Op.makeSlice ts l c) (B : Nat) (L C : Int) (n : Nat) (W : World) (hl : a.eval l = .int .i64 L) (hc : a.eval c = .int .i64 C) (hL : L = (n : Int)) (hC : C = (n : Int))
    (hn : n ≤ 1000000) (hbel : Below B W w) (hB : B ≤ w.heap.size)
    (h : ∀ g w', Hid (g = w.heap.size) → w'.ownsRow B te 1 (.slice (some ⟨g, 0, none⟩) n n) n (List.replicate n z) → Below B W w' → wpList Tryd.prog ops Q rest (a.put o.dst (.slice (some ⟨g, 0, none⟩) n n)) w') :
    wpList Tryd.prog ops Q (o :: rest) a w := by
  obtain ⟨i0, hi, hz0, hz1, hz2⟩ := info_parts hinfo
  have hmx : n ≤ maxLen := by unfold maxLen; omega
  refine wpList_plain hgd fun K hK' => ?_
  subst hL
  subst hC
  have hmi : (n : Int) ≤ 9223372036854775807 := by omega
  have hm8 : (by8 : Int) * (n : Int) ≤ 281474976710656 := by
    have := Nat.mul_le_mul hby hn
    have h3 : by8 * n ≤ 281474976710656 := Nat.le_trans this (by omega)
    rw [← Int.natCast_mul]
    exact Int.ofNat_le.2 h3
  have hr := run_make (P := Tryd.prog) w ts te i0 z hu hi hz0 .i64 .i64 n n (by omega) (Int.le_refl _) (by rw [hz2]; exact hm8) hmi
  simp only [Int.toNat_natCast] at hr
  unfold Oper.wp
  simp [execOp, ho, hl, hc, hr, Result.andThen]
  refine hK' _ _ (h w.heap.size _ (Lib.hid rfl) ?_ ?_)
  · have := World.ownsRow_lit w (madeCells z.cells (n * i0.size)) (e := te) (size := 1) n hB hmx (by rw [size_madeCells, hz1])
    rw [hz1, Nat.mul_one] at this ⊢
    rw [hzc] at this ⊢
    rw [toList_madeCells_one] at this
    exact this
  · exact hbel.alloc hB _
/-- a slice of the call's own that holds a list of integers of one kind -/
def Oz (k : IntKind) (te : TypeId) (B : Nat) (w : World) (v : Value) (l : List Int) : Prop := w.ownsRow B te 1 v l.length (l.map (Value.int k))
theorem Oz.nil (k : IntKind) (te : TypeId) (B : Nat) (w : World) : Oz k te B w (.slice none 0 0) [] := World.ownsRow_nil _ _ _ _
theorem Oz.rd {k : IntKind} {te : TypeId} {B : Nat} {w : World} {v : Value} {l : List Int} (h : Oz k te B w v l) : Rd k w v l := by
  unfold Oz at h
  rcases h.2 with ⟨rfl, h0⟩ | ⟨g, cap, cur, rfl, hb, hg, hn, hm, hs, ht⟩
  · have : l = [] := List.length_eq_zero_iff.1 h0
    subst this; exact Rd.nil _ _
  · refine ⟨some ⟨g, 0, none⟩, cap, g, 0, by simp, by simpa using hn, by unfold maxLen at hm; omega, .inr rfl, fun i hi => ?_⟩
    have h1 := World.ownsRow.cellAt h i (by omega)
    rw [Nat.zero_add, h1, gd_eq]
    simp [List.getElem?_eq_getElem hi]
theorem Oz.of_heap {k : IntKind} {te : TypeId} {B : Nat} {w w' : World} {v : Value} {l : List Int} (h : Oz k te B w v l) (hh : ∀ k, k < w.heap.size → w'.heap[k]? = w.heap[k]?) : Oz k te B w' v l := by
  refine ⟨h.1, ?_⟩
  rcases h.2 with h0 | ⟨g, cap, cur, e, hb, hg, rest⟩
  · exact .inl h0
  · exact .inr ⟨g, cap, cur, e, hb, (hh g (Array.getElem?_eq_some_iff.1 hg).1).trans hg, rest⟩
theorem Oz.below {k : IntKind} {te : TypeId} {B : Nat} {w w' : World} {v : Value} {l : List Int} (h : Oz k te B w v l) (hb : Below w.heap.size w w') : Oz k te B w' v l :=
  h.of_heap (fun k hk => hb.block k hk)
theorem Oz.mono {k : IntKind} {te : TypeId} {B B' : Nat} {w : World} {v : Value} {l : List Int} (h : Oz k te B w v l) (hB : B' ≤ B) : Oz k te B' w v l := by
  refine ⟨h.1, ?_⟩
  rcases h.2 with h0 | ⟨g, cap, cur, e, hb, rest⟩
  · exact .inl h0
  · exact .inr ⟨g, cap, cur, e, by omega, rest⟩
theorem Oz.drewN {k : IntKind} {te : TypeId} {B : Nat} {w : World} {v : Value} {l : List Int} (h : Oz k te B w v l) (n : Nat) : Oz k te B (w.drewN n) v l := h.of_heap (fun _ _ => rfl)
theorem Oz.drew {k : IntKind} {te : TypeId} {B : Nat} {w : World} {v : Value} {l : List Int} (h : Oz k te B w v l) : Oz k te B w.drew v l := h.of_heap (fun _ _ => rfl)
theorem Oz.alloc {k : IntKind} {te : TypeId} {B : Nat} {w : World} {v : Value} {l : List Int} (h : Oz k te B w v l) (o : Obj) : Oz k te B (w.alloc o) v l := h.below ((Below.refl _ _).alloc (Nat.le_refl _) o)
theorem Oz.shape {k : IntKind} {te : TypeId} {B : Nat} {w : World} {v : Value} {l : List Int} (h : Oz k te B w v l) : ∃ a cap, v = .slice a l.length cap ∧ l.length ≤ cap ∧ cap ≤ 9223372036854775807 ∧ ∀ i, i < l.length → ∃ g, a = some ⟨g, 0, none⟩ ∧ B ≤ g ∧ g < w.heap.size := by
  rcases h.2 with ⟨rfl, h0⟩ | ⟨g, cap, cur, rfl, hb, hg, hn, hm, hs, ht⟩
  · rw [show l = [] from List.length_eq_zero_iff.1 h0]; exact ⟨none, 0, rfl, by simp, by omega, fun i hi => absurd hi (by simp)⟩
  · exact ⟨_, cap, rfl, hn, by unfold maxLen at hm; omega, fun i hi => ⟨g, rfl, hb, (Array.getElem?_eq_some_iff.1 hg).1⟩⟩
theorem Oz.cell {k : IntKind} {te : TypeId} {B g n cap : Nat} {w : World} {l : List Int} (h : Oz k te B w (.slice (some ⟨g, 0, none⟩) n cap) l) {i : Nat} (hi : i < l.length) : w.cell? ⟨g, i, none⟩ = some (.int k (gd l i)) := by
  have hn : n = l.length := by
    obtain ⟨a, c, e, _⟩ := Oz.shape h
    injection e
  subst hn
  rw [World.ownsRow.cellAt h i (by omega), gd_eq]
  simp [List.getElem?_eq_getElem hi]
theorem Oz.base {k : IntKind} {te : TypeId} {B g n cap : Nat} {w : World} {l : List Int} (h : Oz k te B w (.slice (some ⟨g, 0, none⟩) n cap) l) : B ≤ g ∧ g < w.heap.size := World.ownsRow.lt h g rfl
theorem gd_set (l : List Int) (i j : Nat) (y : Int) (hi : i < l.length) : gd (l.set i y) j = if i = j then y else gd l j := by
  rw [gd_eq, gd_eq, List.getElem?_set]
  split
  · rename_i h; subst h; simp
  · rfl
theorem gd_snoc_lt (l : List Int) (y : Int) (i : Nat) (h : i < l.length) : gd (l ++ [y]) i = gd l i := by
  rw [gd_eq, gd_eq, List.getElem?_append_left h]
theorem gd_replicate (n i : Nat) : gd (List.replicate n 0) i = 0 := by
  rw [gd_eq, List.getElem?_replicate]
  split <;> rfl
theorem info_int : (Tryd.prog.info? 3).map (fun i => (i.zero, i.size, i.bytes)) = some (some (.int .i64 0), 1, 8) := by kernel_rfl
/-- append of one number, raw -/
theorem wl_app_u64 {ops : Array Oper} {rest : List Oper} {o : Oper} {a : Act} {Q : Exit → Act → World → Prop} (w : World) (hgd : o.guard = none) (s x : Operand)
    (ho : o.op = .call { callee := .builtin .append, args := #[s, x], argTypes := #[22, 22] })
    (B : Nat) (v : Value) (l : List Int) (y : Int) (W : World) (hs : a.eval s = v) (hx : a.eval x = .slice (some ⟨w.heap.size, 0, none⟩) 1 1)
    (hown : Oz .u64 25 B w v l) (hbel : Below B W w) (hB : B ≤ w.heap.size) (hl : l.length ≤ 1000000)
    (h : ∀ v' w', Oz .u64 25 B w' v' (l ++ [y]) → Below B W w' → wpList Tryd.prog ops Q rest (a.put o.dst v') w') :
    wpList Tryd.prog ops Q (o :: rest) a (w.alloc (.cells #[.int .u64 y] 25)) := by
  refine wl_appV 25 22 (.int .u64 0) 1 8 Tryd.underlying22 info_u64 rfl (by decide) (by decide) w hgd s x ho B v l.length (l.map (Value.int .u64)) #[.int .u64 y] rfl (by intro u hu; simp at hu; subst hu; rfl) W hs hx hown hbel hB hl fun v' w' h1 h2 => h v' w' ?_ h2
  unfold Oz
  rw [List.map_append, List.length_append, List.length_singleton]
  exact h1
theorem wl_app_int {ops : Array Oper} {rest : List Oper} {o : Oper} {a : Act} {Q : Exit → Act → World → Prop} (w : World) (hgd : o.guard = none) (s x : Operand)
    (ho : o.op = .call { callee := .builtin .append, args := #[s, x], argTypes := #[34, 34] })
    (B : Nat) (v : Value) (l : List Int) (y : Int) (W : World) (hs : a.eval s = v) (hx : a.eval x = .slice (some ⟨w.heap.size, 0, none⟩) 1 1)
    (hown : Oz .i64 3 B w v l) (hbel : Below B W w) (hB : B ≤ w.heap.size) (hl : l.length ≤ 1000000)
    (h : ∀ v' w', Oz .i64 3 B w' v' (l ++ [y]) → Below B W w' → wpList Tryd.prog ops Q rest (a.put o.dst v') w') :
    wpList Tryd.prog ops Q (o :: rest) a (w.alloc (.cells #[.int .i64 y] 3)) := by
  refine wl_appV 3 34 (.int .i64 0) 1 8 Tryd.underlying34 info_int rfl (by decide) (by decide) w hgd s x ho B v l.length (l.map (Value.int .i64)) #[.int .i64 y] rfl (by intro u hu; simp at hu; subst hu; rfl) W hs hx hown hbel hB hl fun v' w' h1 h2 => h v' w' ?_ h2
  unfold Oz
  rw [List.map_append, List.length_append, List.length_singleton]
  exact h1
theorem wl_make_int {ops : Array Oper} {rest : List Oper} {o : Oper} {a : Act} {Q : Exit → Act → World → Prop} (w : World) (hgd : o.guard = none) (l c : Operand)
    (ho : o.op = Op.makeSlice 34 l c) (B : Nat) (L C : Int) (n : Nat) (W : World) (hl : a.eval l = .int .i64 L) (hc : a.eval c = .int .i64 C) (hL : L = (n : Int)) (hC : C = (n : Int))
    (hn : n ≤ 1000000) (hbel : Below B W w) (hB : B ≤ w.heap.size)
    (h : ∀ g w', Hid (g = w.heap.size) → Oz .i64 3 B w' (.slice (some ⟨g, 0, none⟩) n n) (List.replicate n 0) → Below B W w' → wpList Tryd.prog ops Q rest (a.put o.dst (.slice (some ⟨g, 0, none⟩) n n)) w') :
    wpList Tryd.prog ops Q (o :: rest) a w := by
  refine wl_makeV 3 34 (.int .i64 0) 8 Tryd.underlying34 info_int rfl (by decide) w hgd l c ho B L C n W hl hc hL hC hn hbel hB fun g w' h0 h1 h2 => h g w' h0 ?_ h2
  unfold Oz
  rw [List.length_replicate, List.map_replicate]
  exact h1
/-- a store into a list of the call's own -/
theorem wl_storeZ (k : IntKind) (te : TypeId) {ops : Array Oper} {rest : List Oper} {o : Oper} {a : Act} {Q : Exit → Act → World → Prop} (w : World) (hgd : o.guard = none) (p x : Operand)
    (hz : ∀ w : World, Sem.run Tryd.prog (Go.sizeOf te) w = .ok 1 w)
    (ho : o.op = .store te p x) (B g i n cap : Nat) (l : List Int) (y : Int) (W : World) (hp : a.eval p = .pointer (some ⟨g, i, none⟩)) (hx : a.eval x = .int k y)
    (hown : Oz k te B w (.slice (some ⟨g, 0, none⟩) n cap) l) (hn : l.length = n) (hi : i < n) (hbel : Below B W w)
    (h : ∀ w', Oz k te B w' (.slice (some ⟨g, 0, none⟩) n cap) (l.set i y) → Below B W w' → w'.heap.size = w.heap.size → wpList Tryd.prog ops Q rest (a.put o.dst undef) w') :
    wpList Tryd.prog ops Q (o :: rest) a w := by
  subst hn
  have hc := hown.cell hi
  have hf : w.frozen? ⟨g, i, none⟩ = false := World.ownsRow.frozenAt hown i
  refine wpList_plain hgd fun K hK' => ?_
  have hset : Oz k te B (w.setCell ⟨g, i, none⟩ (.int k y)) (.slice (some ⟨g, 0, none⟩) l.length cap) (l.set i y) := by
    have := (World.ownsRow.stored hown i (.int k y)).1
    unfold Oz
    rw [List.map_set, List.length_set]
    exact this
  have hk := hK' _ _ (h (w.setCell ⟨g, i, none⟩ (.int k y)) hset (hbel.setCell hown.base.1 _) (by simp [World.setCell]))
  unfold Oper.wp
  simp [execOp, ho, hp, hx, Result.andThen]
  go_simp
  exact hk
/-- two slices of the call's own do not lie over each other -/
def Ap (v v2 : Value) : Prop := v2.ownBlock = none ∨ v2.ownBlock ≠ v.ownBlock
theorem Oz.lt {k : IntKind} {te : TypeId} {B : Nat} {w : World} {v : Value} {l : List Int} (h : Oz k te B w v l) : ∀ g, v.ownBlock = some g → B ≤ g ∧ g < w.heap.size := World.ownsRow.lt h
theorem Oz.kept {k : IntKind} {te : TypeId} {B : Nat} {w w' : World} {v v2 : Value} {l : List Int} (h : Oz k te B w v2 l) (hg : w.grownBy w' v.ownBlock) (ha : Ap v v2) : Oz k te B w' v2 l := World.ownsRow.kept h hg ha
theorem Ap.next {k : IntKind} {te : TypeId} {B : Nat} {w : World} {v v' v2 : Value} {l : List Int} (ha : Ap v v2) (h : Oz k te B w v2 l) (hat : ∀ g, v'.ownBlock = some g → v.ownBlock = some g ∨ g = w.heap.size) : Ap v' v2 := by
  rcases ha with ha | ha
  · exact .inl ha
  · cases h2 : v2.ownBlock with
    | none => exact .inl h2
    | some c =>
      right
      intro e
      rw [h2] at e
      rcases hat c e.symm with h3 | h3
      · exact ha (h2.trans h3.symm)
      · have := h.lt c h2; omega
theorem Ap.symm {v v2 : Value} (h : Ap v v2) : Ap v2 v := by
  rcases h with h | h
  · cases hv : v.ownBlock with
    | none => exact .inl hv
    | some c => right; intro e; rw [h, hv] at e; cases e
  · exact .inr (Ne.symm h)
/-- append of one number at a step of a region that draws its order -/
theorem st_app_u64 {ops : Array Oper} {o : Oper} {a : Act} {K : Act → World → Prop} {Q : Exit → Act → World → Prop} {E : Prop} (w : World) (hgd : o.guard = none) (s x : Operand)
    (ho : o.op = .call { callee := .builtin .append, args := #[s, x], argTypes := #[22, 22] })
    (B : Nat) (v : Value) (l : List Int) (y : Int) (W : World) (g0 : Nat) (hs : a.eval s = v) (hx : a.eval x = .slice (some ⟨g0, 0, none⟩) 1 1)
    (hown : Oz .u64 25 B w v l) (hnew : w.heap[g0]? = some (.cells #[.int .u64 y] 25)) (hbel : Below B W w) (hB : B ≤ w.heap.size) (hl : l.length ≤ 1000000)
    (h : ∀ v' w', Oz .u64 25 B w' v' (l ++ [y]) → Below B W w' → w.grownBy w' v.ownBlock → (∀ g, v'.ownBlock = some g → v.ownBlock = some g ∨ g = w.heap.size) → K (a.put o.dst v') w') :
    if Region.wanted o (yielded ops a.tmps) = true then Oper.wp Tryd.prog o a w K Q else E := by
  obtain ⟨i0, hi, hz0, hz1, hz2⟩ := info_parts info_u64
  refine step_append_lies w hgd s x 22 ho B 25 i0 (.int .u64 0) 1 8 Tryd.underlying22 hi hz0 hz1 hz2 rfl (by decide) v l.length (l.map (Value.int .u64)) hs hown ⟨g0, 0, none⟩ 1 1 [.int .u64 y] hx rfl (World.news_of_block (cs := #[.int .u64 y]) hnew) (by intro u hu; simp at hu; subst hu; rfl) (by omega) (by unfold maxLen; omega) (by omega) hB w.heap.size rfl ?_
  intro g cap w' h1 h2 h3 h4
  refine h _ w' ?_ ?_ h2 ?_
  · unfold Oz
    rw [List.map_append, List.length_append, List.length_singleton]
    exact h1
  · exact hbel.grown h2 hB (fun k hk => (World.ownsRow.lt hown k hk).1)
  · intro k hk
    have e : g = k := by simpa [Value.ownBlock] using hk
    subst e
    exact h3
/-- append of one number at a step of a region that draws its order -/
theorem st_app_int {ops : Array Oper} {o : Oper} {a : Act} {K : Act → World → Prop} {Q : Exit → Act → World → Prop} {E : Prop} (w : World) (hgd : o.guard = none) (s x : Operand)
    (ho : o.op = .call { callee := .builtin .append, args := #[s, x], argTypes := #[34, 34] })
    (B : Nat) (v : Value) (l : List Int) (y : Int) (W : World) (g0 : Nat) (hs : a.eval s = v) (hx : a.eval x = .slice (some ⟨g0, 0, none⟩) 1 1)
    (hown : Oz .i64 3 B w v l) (hnew : w.heap[g0]? = some (.cells #[.int .i64 y] 3)) (hbel : Below B W w) (hB : B ≤ w.heap.size) (hl : l.length ≤ 1000000)
    (h : ∀ v' w', Oz .i64 3 B w' v' (l ++ [y]) → Below B W w' → w.grownBy w' v.ownBlock → (∀ g, v'.ownBlock = some g → v.ownBlock = some g ∨ g = w.heap.size) → K (a.put o.dst v') w') :
    if Region.wanted o (yielded ops a.tmps) = true then Oper.wp Tryd.prog o a w K Q else E := by
  obtain ⟨i0, hi, hz0, hz1, hz2⟩ := info_parts info_int
  refine step_append_lies w hgd s x 34 ho B 3 i0 (.int .i64 0) 1 8 Tryd.underlying34 hi hz0 hz1 hz2 rfl (by decide) v l.length (l.map (Value.int .i64)) hs hown ⟨g0, 0, none⟩ 1 1 [.int .i64 y] hx rfl (World.news_of_block (cs := #[.int .i64 y]) hnew) (by intro u hu; simp at hu; subst hu; rfl) (by omega) (by unfold maxLen; omega) (by omega) hB w.heap.size rfl ?_
  intro g cap w' h1 h2 h3 h4
  refine h _ w' ?_ ?_ h2 ?_
  · unfold Oz
    rw [List.map_append, List.length_append, List.length_singleton]
    exact h1
  · exact hbel.grown h2 hB (fun k hk => (World.ownsRow.lt hown k hk).1)
  · intro k hk
    have e : g = k := by simpa [Value.ownBlock] using hk
    subst e
    exact h3
end Go.Proofs.YtkcfnbfkbmgchaaDoor.Gm
