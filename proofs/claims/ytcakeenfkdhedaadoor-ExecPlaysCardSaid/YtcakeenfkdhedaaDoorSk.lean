/- Append at a step of a region that draws its order: whatever elements. -/
import Derived.Test.YtcakeenfkdhedaaDoorRg
import Derived.Test.YtcakeenfkdhedaaDoorGa
namespace Go.Proofs.YtcakeenfkdhedaaDoor.Gm
open Go.RowKit
/-- append of one element (its block has just been laid) -/
theorem st_appG (te ts : TypeId) (z : Value) (size by8 : Nat) (hu : Tryd.prog.underlying ts = some (.slice te)) (hinfo : (Tryd.prog.info? te).map (fun i => (i.zero, i.size, i.bytes)) = some (some z, size, by8))
    (hzs : z.cells.size = size) (hsz : 0 < size) (hby : by8 ≤ 64)
    {o : Oper} {a : Act} {K : Act → World → Prop} {Q : Exit → Act → World → Prop} (w : World) (s x : Operand)
    (ho : o.op = .call { callee := .builtin .append, args := #[s, x], argTypes := #[ts, ts] })
    (B g0 : Nat) (v : Value) (n : Nat) (xs : List Value) (cs : Array Value) (hcs : cs.size = size) (h1 : ∀ u ∈ cs.toList, u.oneCell' = true) (hs : a.eval s = v) (hx : a.eval x = .slice (some ⟨g0, 0, none⟩) 1 1)
    (hown : w.ownsRow B te size v n xs) (hnew : Blk w g0 te cs) (hB : B ≤ w.heap.size) (hl : n ≤ 1000000)
    (h : ∀ v' w', w'.ownsRow B te size v' (n + 1) (xs ++ cs.toList) → w.grownBy w' v.ownBlock → (∀ g, v'.ownBlock = some g → v.ownBlock = some g ∨ g = w.heap.size) → K (a.put o.dst v') w') :
    Oper.wp Tryd.prog o a w K Q := by
  obtain ⟨i0, hi, hz0, hz1, hz2⟩ := info_parts hinfo
  have hmx : n + 1 ≤ maxLen := by unfold maxLen; omega
  refine wp_append_lies w s x ts ho B te i0 z size by8 hu hi hz0 hz1 hz2 hzs hsz v n xs hs hown ⟨g0, 0, none⟩ 1 1 cs.toList hx (by rw [Array.length_toList, hcs, Nat.one_mul]) (World.news_of_block hnew) h1 (by omega) hmx ?_ hB w.heap.size rfl ?_
  · have := Nat.mul_le_mul (show n + 1 ≤ 1000001 by omega) hby
    omega
  · intro g cap w' h1 h2 h3 h4
    refine h _ w' h1 h2 ?_
    intro k hk
    have e : g = k := by simpa [Value.ownBlock] using hk
    subst e
    exact h3
/-- a store of a slice into a block known whole -/
theorem st_storeS (ty : TypeId) (hi : ∀ w : World, Sem.run Tryd.prog (Go.sizeOf ty) w = .ok 1 w) {o : Oper} {a : Act} {K : Act → World → Prop} {Q : Exit → Act → World → Prop} (w : World) (p x : Operand)
    (ho : o.op = .store ty p x) (G off : Nat) (t : TypeId) (cs : Array Value) (va : Option Addr) (n c : Nat) (hp : a.eval p = .pointer (some ⟨G, off, none⟩)) (hx : a.eval x = .slice va n c)
    (hb : Blk w G t cs) (hsz : off < cs.size)
    (h : ∀ w', Blk w' G t (cs.setIfInBounds off (.slice va n c)) → Only (fun k => k = G) w w' → w'.heap.size = w.heap.size → K (a.put o.dst undef) w') :
    Oper.wp Tryd.prog o a w K Q := by
  have hc : w.cell? ⟨G, off, none⟩ = some cs[off] := (hb.cell _).trans (Array.getElem?_eq_getElem hsz)
  have hf := hb.frozen off
  have hk := h (w.setCell ⟨G, off, none⟩ (.slice va n c)) (hb.set_ _ _) ((Only.refl (fun k => k = G) w).setCell (p := ⟨G, off, none⟩) (.inl rfl) _) (by simp [World.setCell])
  unfold Oper.wp
  simp [execOp, ho, hp, hx, Result.andThen]
  go_simp
  exact hk
/-- .. in a plain region -/
theorem wl_appG (te ts : TypeId) (z : Value) (size by8 : Nat) (hu : Tryd.prog.underlying ts = some (.slice te)) (hinfo : (Tryd.prog.info? te).map (fun i => (i.zero, i.size, i.bytes)) = some (some z, size, by8))
    (hzs : z.cells.size = size) (hsz : 0 < size) (hby : by8 ≤ 64)
    {ops : Array Oper} {rest : List Oper} {o : Oper} {a : Act} {Q : Exit → Act → World → Prop} (w : World) (hgd : o.guard = none) (s x : Operand)
    (ho : o.op = .call { callee := .builtin .append, args := #[s, x], argTypes := #[ts, ts] })
    (B : Nat) (v : Value) (n : Nat) (xs : List Value) (cs : Array Value) (hcs : cs.size = size) (h1 : ∀ u ∈ cs.toList, u.oneCell' = true) (hs : a.eval s = v) (hx : a.eval x = .slice (some ⟨w.heap.size, 0, none⟩) 1 1)
    (hown : w.ownsRow B te size v n xs) (hB : B ≤ w.heap.size) (hl : n ≤ 1000000)
    (h : ∀ v' w', w'.ownsRow B te size v' (n + 1) (xs ++ cs.toList) → (w.alloc (.cells cs te)).grownBy w' v.ownBlock → (∀ g, v'.ownBlock = some g → v.ownBlock = some g ∨ w.heap.size ≤ g) → wpList Tryd.prog ops Q rest (a.put o.dst v') w') :
    wpList Tryd.prog ops Q (o :: rest) a (w.alloc (.cells cs te)) := by
  refine wpList_plain hgd fun K hK' => ?_
  refine st_appG te ts z size by8 hu hinfo hzs hsz hby (w.alloc (.cells cs te)) s x ho B w.heap.size v n xs cs hcs h1 hs hx (World.ownsRow.alloc hown _) (Blk.new w te cs) (by simp; omega) hl ?_
  intro v' w' a1 a2 a3
  refine hK' _ _ (h v' w' a1 a2 fun g hg => ?_)
  rcases a3 g hg with e | e
  · exact .inl e
  · exact .inr (by rw [e]; simp)
theorem wl_storeS (ty : TypeId) (hi : ∀ w : World, Sem.run Tryd.prog (Go.sizeOf ty) w = .ok 1 w) {ops : Array Oper} {rest : List Oper} {o : Oper} {a : Act} {Q : Exit → Act → World → Prop} (w : World) (hgd : o.guard = none) (p x : Operand)
    (ho : o.op = .store ty p x) (G off : Nat) (t : TypeId) (cs : Array Value) (va : Option Addr) (n c : Nat) (hp : a.eval p = .pointer (some ⟨G, off, none⟩)) (hx : a.eval x = .slice va n c)
    (hb : Blk w G t cs) (hsz : off < cs.size)
    (h : ∀ w', Blk w' G t (cs.setIfInBounds off (.slice va n c)) → Only (fun k => k = G) w w' → w'.heap.size = w.heap.size → wpList Tryd.prog ops Q rest (a.put o.dst undef) w') :
    wpList Tryd.prog ops Q (o :: rest) a w :=
  wpList_plain hgd fun K hK' => st_storeS ty hi w p x ho G off t cs va n c hp hx hb hsz fun w' a1 a2 a3 => hK' _ _ (h w' a1 a2 a3)
end Go.Proofs.YtcakeenfkdhedaaDoor.Gm
