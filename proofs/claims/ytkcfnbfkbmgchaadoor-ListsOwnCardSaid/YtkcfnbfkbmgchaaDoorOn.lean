/- Own lists of integers, with the sharper word on what has turned; own lists of lists. -/
import Derived.Test.YtkcfnbfkbmgchaaDoorBl
namespace Go.Proofs.YtkcfnbfkbmgchaaDoor.Gm
open Go.RowKit
theorem Oz.only {S : Nat → Prop} {k : IntKind} {te : TypeId} {B : Nat} {w w' : World} {v : Value} {l : List Int} (h : Oz k te B w v l) (ho : Only S w w') (hs : ∀ g, v.ownBlock = some g → ¬ S g) : Oz k te B w' v l := own_only h ho hs
/-- append of a number -/
theorem wl_appI {ops : Array Oper} {rest : List Oper} {o : Oper} {a : Act} {Q : Exit → Act → World → Prop} (w : World) (hgd : o.guard = none) (s x : Operand)
    (ho : o.op = .call { callee := .builtin .append, args := #[s, x], argTypes := #[34, 34] })
    (B : Nat) (v : Value) (l : List Int) (y : Int) (hs : a.eval s = v) (hx : a.eval x = .slice (some ⟨w.heap.size, 0, none⟩) 1 1)
    (hown : Oz .i64 3 B w v l) (hB : B ≤ w.heap.size) (hl : l.length ≤ 1000000)
    (h : ∀ v' w', Oz .i64 3 B w' v' (l ++ [y]) → Only (fun k => v.ownBlock = some k) w w' → (v'.ownBlock = v.ownBlock ∨ ∃ g, v'.ownBlock = some g ∧ w.heap.size ≤ g) → wpList Tryd.prog ops Q rest (a.put o.dst v') w') :
    wpList Tryd.prog ops Q (o :: rest) a (w.alloc (.cells #[.int .i64 y] 3)) := by
  obtain ⟨i0, hi, hz0, hz1, hz2⟩ := info_parts info_int
  have hmx : l.length + 1 ≤ maxLen := by unfold maxLen; omega
  refine wpList_append_own_at _ hgd s x 34 ho B 3 i0 (.int .i64 0) 1 8 Tryd.underlying34 hi hz0 hz1 hz2 rfl (by decide) v l.length (l.map (Value.int .i64)) hs (World.ownsRow.alloc hown _) ⟨w.heap.size, 0, none⟩ 1 1 [.int .i64 y] hx rfl (cell_one_new _ _ _) (by intro u hu; simp at hu; subst hu; rfl) hmx (by omega) (by simp; omega) ?_
  intro v' w' hown' hgrow _ hat
  refine h v' w' ?_ ?_ ?_
  · unfold Oz
    rw [List.map_append, List.length_append, List.length_singleton]
    exact hown'
  · exact ((Only.refl _ w).alloc _).trans2 (Only.of_grown (S := fun k => v.ownBlock = some k) hgrow (fun _ e => e)) (fun _ _ e => e)
  · rcases hat with e | e
    · exact .inl e
    · exact .inr ⟨_, e, by simp⟩
/-- a store into an own list -/
theorem wl_storeI (k : IntKind) (te : TypeId) {ops : Array Oper} {rest : List Oper} {o : Oper} {a : Act} {Q : Exit → Act → World → Prop} (w : World) (hgd : o.guard = none) (p x : Operand)
    (hz : ∀ w : World, Sem.run Tryd.prog (Go.sizeOf te) w = .ok 1 w)
    (ho : o.op = .store te p x) (B g i n cap : Nat) (l : List Int) (y : Int) (hp : a.eval p = .pointer (some ⟨g, i, none⟩)) (hx : a.eval x = .int k y)
    (hown : Oz k te B w (.slice (some ⟨g, 0, none⟩) n cap) l) (hn : l.length = n) (hi : i < n)
    (h : ∀ w', Oz k te B w' (.slice (some ⟨g, 0, none⟩) n cap) (l.set i y) → Only (fun j => j = g) w w' → w'.heap.size = w.heap.size → wpList Tryd.prog ops Q rest (a.put o.dst undef) w') :
    wpList Tryd.prog ops Q (o :: rest) a w := by
  subst hn
  have hc := hown.cell hi
  have hf : w.frozen? ⟨g, i, none⟩ = false := World.ownsRow.frozenAt hown i
  refine wpList_plain hgd fun K hK' => ?_
  have hset : Oz k te B (w.setCell ⟨g, i, none⟩ (.int k y)) (.slice (some ⟨g, 0, none⟩) l.length cap) (l.set i y) := by
    have := (World.ownsRow.stored hown i (.int k y)).1
    unfold Oz
    rw [List.map_set, List.length_set]
    exact this
  have hk := hK' _ _ (h (w.setCell ⟨g, i, none⟩ (.int k y)) hset ((Only.refl (fun j => j = g) w).setCell (p := ⟨g, i, none⟩) (.inl rfl) _) (by simp [World.setCell]))
  unfold Oper.wp
  simp [execOp, ho, hp, hx, Result.andThen]
  go_simp
  exact hk
/-- list i of a list of lists -/
@[irreducible] def lg (l : List (List Int)) (i : Nat) : List Int := l.getD i []
theorem lg_eq (l : List (List Int)) (i : Nat) : lg l i = l[i]?.getD [] := by unfold lg; rw [List.getD_eq_getElem?_getD]
theorem lg_lt {l : List (List Int)} {i : Nat} (h : i < l.length) : lg l i = l[i] := by rw [lg_eq, List.getElem?_eq_getElem h]; rfl
/-- a list of lists of the call's own -/
def OL (B : Nat) (w : World) (v : Value) (ll : List (List Int)) : Prop :=
  ∃ vs : List Value, w.ownsRow B 34 1 v ll.length vs ∧ vs.length = ll.length ∧ ∀ i u, vs[i]? = some u → Oz .i64 3 B w u (lg ll i)
theorem OL.nil (B : Nat) (w : World) : OL B w (.slice none 0 0) [] := ⟨[], World.ownsRow_nil _ _ _ _, rfl, fun i u h => by simp at h⟩
theorem OL.only {S : Nat → Prop} {B : Nat} {w w' : World} {v : Value} {ll : List (List Int)} (h : OL B w v ll) (ho : Only S w w') (hs : ∀ g, B ≤ g → g < w.heap.size → ¬ S g) : OL B w' v ll := by
  obtain ⟨vs, h1, h2, h3⟩ := h
  exact ⟨vs, own_only h1 ho (fun g e => hs g (World.ownsRow.lt h1 g e).1 (World.ownsRow.lt h1 g e).2), h2, fun i u hu => (h3 i u hu).only ho (fun g e => hs g (Oz.lt (h3 i u hu) g e).1 (Oz.lt (h3 i u hu) g e).2)⟩
theorem OL.below {B : Nat} {w w' : World} {v : Value} {ll : List (List Int)} (h : OL B w v ll) (hb : Below w.heap.size w w') : OL B w' v ll :=
  h.only (Only.of_below (S := fun _ => False) hb (fun k hk hk' => by omega)) (fun _ _ _ e => e)
theorem OL.mono {B B' : Nat} {w : World} {v : Value} {ll : List (List Int)} (h : OL B w v ll) (hB : B' ≤ B) : OL B' w v ll := by
  obtain ⟨vs, h1, h2, h3⟩ := h
  refine ⟨vs, ⟨h1.1, ?_⟩, h2, fun i u hu => (h3 i u hu).mono hB⟩
  rcases h1.2 with h0 | ⟨g, cap, cur, e, hb, rest⟩
  · exact .inl h0
  · exact .inr ⟨g, cap, cur, e, by omega, rest⟩
theorem OL.shape {B : Nat} {w : World} {v : Value} {ll : List (List Int)} (h : OL B w v ll) : ∃ a cap, v = .slice a ll.length cap ∧ ll.length ≤ cap ∧ cap ≤ 9223372036854775807 := by
  obtain ⟨vs, h1, h2, h3⟩ := h
  rcases h1.2 with ⟨rfl, h0⟩ | ⟨g, cap, cur, rfl, hb, hg, hn, hm, hs, ht⟩
  · rw [h0]; exact ⟨none, 0, rfl, by simp, by omega⟩
  · exact ⟨_, cap, rfl, hn, by unfold maxLen at hm; omega⟩
theorem own_ne {w : World} {B B' : Nat} {e e' : TypeId} {s s' n n' : Nat} {v v' : Value} {xs xs' : List Value} (h : w.ownsRow B e s v n xs) (h' : w.ownsRow B' e' s' v' n' xs') (hne : e ≠ e') : v.ownBlock = none ∨ v.ownBlock ≠ v'.ownBlock := by
  rcases h.2 with ⟨rfl, _⟩ | ⟨g, cap, cur, rfl, _, hg, _⟩
  · exact .inl rfl
  · right
    rcases h'.2 with ⟨rfl, _⟩ | ⟨g', cap', cur', rfl, _, hg', _⟩
    · simp [Value.ownBlock]
    · intro e0
      have e1 : g = g' := by simpa [Value.ownBlock] using e0
      subst e1
      rw [hg] at hg'
      injection hg' with hg'
      injection hg' with _ h2
      exact hne h2
theorem info_ints : (Tryd.prog.info? 34).map (fun i => (i.zero, i.size, i.bytes)) = some (some (.slice none 0 0), 1, 24) := by kernel_rfl
/-- append of a list of one's own -/
theorem wl_appL {ops : Array Oper} {rest : List Oper} {o : Oper} {a : Act} {Q : Exit → Act → World → Prop} (w : World) (hgd : o.guard = none) (s x : Operand)
    (ho : o.op = .call { callee := .builtin .append, args := #[s, x], argTypes := #[84, 84] })
    (B : Nat) (v : Value) (ll : List (List Int)) (u : Value) (l : List Int) (W : World) (hs : a.eval s = v) (hx : a.eval x = .slice (some ⟨w.heap.size, 0, none⟩) 1 1)
    (hown : OL B w v ll) (hu : Oz .i64 3 B w u l) (hbel : Below B W w) (hB : B ≤ w.heap.size) (hl : ll.length ≤ 1000000)
    (h : ∀ v' w', OL B w' v' (ll ++ [l]) → Below B W w' → wpList Tryd.prog ops Q rest (a.put o.dst v') w') :
    wpList Tryd.prog ops Q (o :: rest) a (w.alloc (.cells #[u] 34)) := by
  obtain ⟨i0, hi, hz0, hz1, hz2⟩ := info_parts info_ints
  have hmx : ll.length + 1 ≤ maxLen := by unfold maxLen; omega
  obtain ⟨vs, h1, h2, h3⟩ := hown
  have hu1 : u.oneCell' = true := by
    obtain ⟨aa, cc, rfl, _⟩ := Oz.shape hu
    rfl
  refine wpList_append_own_at _ hgd s x 84 ho B 34 i0 (.slice none 0 0) 1 24 Tryd.underlying84 hi hz0 hz1 hz2 rfl (by decide) v ll.length vs hs (World.ownsRow.alloc h1 _) ⟨w.heap.size, 0, none⟩ 1 1 [u] hx rfl (cell_one_new _ _ _) (by intro y hy; simp at hy; subst hy; exact hu1) hmx (by omega) (by simp; omega) ?_
  intro v' w' hown' hgrow _ hat
  have hO : Only (fun k => v.ownBlock = some k) (w.alloc (.cells #[u] 34)) w' := Only.of_grown (S := fun k => v.ownBlock = some k) hgrow (fun _ e => e)
  have hal := (Only.refl (fun _ => False) w).alloc (.cells #[u] 34)
  have keep : ∀ {u' : Value} {l' : List Int}, Oz .i64 3 B w u' l' → Oz .i64 3 B w' u' l' := by
    intro u' l' hz
    have hz1 := hz.only hal (fun _ _ => id)
    refine hz1.only hO (fun g e e' => ?_)
    rcases own_ne hz1 (World.ownsRow.alloc h1 (.cells #[u] 34)) (by decide) with hh | hh
    · rw [e] at hh; cases hh
    · exact hh (by rw [e, e'])
  refine h v' w' ⟨vs ++ [u], ?_, ?_, ?_⟩ ?_
  · rw [List.length_append, List.length_singleton]; exact hown'
  · rw [List.length_append, List.length_append, h2]; rfl
  · intro i y hy
    rw [lg_eq]
    by_cases hil : i < vs.length
    · rw [List.getElem?_append_left hil] at hy
      rw [List.getElem?_append_left (by omega), ← lg_eq]
      exact keep (h3 i y hy)
    · have hi2 : i = vs.length := by
        have := (List.getElem?_eq_some_iff.1 hy).1
        rw [List.length_append, List.length_singleton] at this
        omega
      subst hi2
      rw [List.getElem?_append_right (Nat.le_refl _)] at hy
      simp at hy
      subst hy
      rw [h2, List.getElem?_append_right (Nat.le_refl _)]
      simpa using keep hu
  · exact (hbel.alloc hB _).grown hgrow (by simp; omega) (fun k hk => (World.ownsRow.lt h1 k hk).1)
/-- a slice of slices of integers reads as a list of lists -/
def Rl (w : World) (v : Value) (ll : List (List Int)) : Prop :=
  ∃ a cap b off, v = .slice a ll.length cap ∧ ll.length ≤ cap ∧ cap ≤ 9223372036854775807 ∧ (ll.length ≤ 0 ∨ a = some ⟨b, off, none⟩) ∧
    ∀ i, i < ll.length → ∃ u, w.cell? ⟨b, off + i, none⟩ = some u ∧ Rd .i64 w u (lg ll i)
theorem OL.rl {B : Nat} {w : World} {v : Value} {ll : List (List Int)} (h : OL B w v ll) : Rl w v ll := by
  obtain ⟨vs, h1, h2, h3⟩ := h
  have h1' := h1
  rcases h1.2 with ⟨rfl, h0⟩ | ⟨g, cap, cur, rfl, hb, hg, hn, hm, hs, ht⟩
  · exact ⟨none, 0, 0, 0, by rw [h0], by omega, by omega, .inl (by omega), fun i hi => absurd hi (by omega)⟩
  · refine ⟨some ⟨g, 0, none⟩, cap, g, 0, rfl, by simpa using hn, by unfold maxLen at hm; omega, .inr rfl, fun i hi => ?_⟩
    have hi2 : i < vs.length := by omega
    refine ⟨vs[i], ?_, (h3 i _ (List.getElem?_eq_getElem hi2)).rd⟩
    have := World.ownsRow.cellAt h1' i (by omega)
    rw [Nat.zero_add, this, List.getElem?_eq_getElem hi2]
theorem Rl.below {w w' : World} {v : Value} {ll : List (List Int)} (h : Rl w v ll) (hb : Below w.heap.size w w') : Rl w' v ll := by
  obtain ⟨a, cap, b, off, e, h1, h2, h3, hx⟩ := h
  refine ⟨a, cap, b, off, e, h1, h2, h3, fun i hi => ?_⟩
  obtain ⟨u, hc, hr⟩ := hx i hi
  exact ⟨u, (hb.cell (p := ⟨b, off + i, none⟩) (World.block_lt_of_cell? w _ hc)).trans hc, hr.below hb⟩
theorem Rl.nil (w : World) : Rl w (.slice none 0 0) [] := ⟨none, 0, 0, 0, rfl, by simp, by omega, .inl (Nat.le_refl _), fun i hi => absurd hi (by simp)⟩
theorem Rl.shape {w : World} {v : Value} {ll : List (List Int)} (h : Rl w v ll) : ∃ a cap, v = .slice a ll.length cap ∧ ll.length ≤ cap ∧ cap ≤ 9223372036854775807 := by
  obtain ⟨a, cap, b, off, e, h1, h2, h3, hx⟩ := h
  exact ⟨a, cap, e, h1, h2⟩
end Go.Proofs.YtkcfnbfkbmgchaaDoor.Gm
