/- A region that draws its order and ends with one operation that waits for all others: the others first. -/
import Derived.Test.YtdhmmllpldjkbaaGreatDoorGa
import Derived.StillTail
import Derived.Deep.RegionHeld3
namespace Go.Proofs.YtdhmmllpldjkbaaGreatDoor.Gm
open Go.RowKit
section
variable {P : Program} {pre : Array Oper} {oL : Oper} {Q : Exit → Act → World → Prop} {S : World → Prop}
/-- what is to be shown behind all but the last -/
def QL (P : Program) (oL : Oper) (Q : Exit → Act → World → Prop) : Exit → Act → World → Prop
  | .normal, a, w => oL.wp P a w (fun a' w' => Q .normal a' w') Q
  | e, a, w => Q e a w
/-- no guards, edges backward -/
def okOps (ops : Array Oper) : Bool := (List.range ops.size).all fun i => (ops[i]?).all fun o => o.guard.isNone && o.after.all fun e => decide (e.on < i)
theorem okOps_at {ops : Array Oper} (h : okOps ops = true) {i : Nat} {o : Oper} (hi : ops[i]? = some o) : o.guard = none ∧ ∀ e ∈ o.after, e.on < i := by
  have hlt := (Array.getElem?_eq_some_iff.1 hi).1
  have h1 := List.all_eq_true.1 h i (List.mem_range.2 hlt)
  rw [hi] at h1
  simp only [Option.all_some, Bool.and_eq_true, Option.isNone_iff_eq_none] at h1
  exact ⟨h1.1, fun e he => by simpa using (Array.all_eq_true'.1 h1.2) e he⟩
theorem getD_push {L : Array Bool} {j : Nat} {b : Bool} (hj : j ≠ L.size) (d : Bool) : (L.push b).getD j d = L.getD j d := by
  simp only [Array.getD_eq_getD_getElem?, Array.getElem?_push, if_neg hj]
theorem getD_pushN {L : Array Bool} {b : Bool} (d : Bool) : (L.push b).getD L.size d = b := by
  simp [Array.getD_eq_getD_getElem?]
theorem getD_pushF (L : Array Bool) (j : Nat) : (L.push false).getD j false = L.getD j false := by
  by_cases hj : j = L.size
  · subst hj; rw [getD_pushN]; simp [Array.getD_eq_getD_getElem?]
  · exact getD_push hj _
theorem set_push {L : Array Bool} {i : Nat} (hi : i < L.size) : (L.push false).setIfInBounds i true = (L.setIfInBounds i true).push false := by
  apply Array.ext (by simp)
  intro j h1 h2
  simp only [Array.size_setIfInBounds, Array.size_push] at h1
  rw [Array.getElem_setIfInBounds (by simp; omega), Array.getElem_push, Array.getElem_push]
  split
  · rename_i h; subst h
    rw [dif_pos (by simpa using hi)]
    simp
  · rename_i h
    simp only [Array.size_setIfInBounds]
    split
    · rw [Array.getElem_setIfInBounds, if_neg h]
    · rfl
theorem set_pushN (L : Array Bool) : (L.push false).setIfInBounds L.size true = L.push true := by
  apply Array.ext (by simp)
  intro j h1 h2
  simp only [Array.size_setIfInBounds, Array.size_push] at h1
  rw [Array.getElem_setIfInBounds (by simp; omega), Array.getElem_push, Array.getElem_push]
  split
  · rename_i h; subst h; simp
  · rename_i h
    rw [dif_pos (by omega), dif_pos (by omega)]
theorem upon_last {o : Oper} {a : Act} {K K' : Act → World → Prop} (h : ∀ a w, K a w → K' a w) {r : Result Next} (hh : o.upon P a K (QL P oL Q) r) : o.upon P a K' Q r := by
  cases r with
  | ok n w' =>
    cases n <;> simp only [Oper.upon] at hh ⊢
    case enter f args =>
      refine Calls.mono hh (fun e w'' he => ?_)
      cases e with
      | returned v => exact h _ _ he
      | panicked c => exact he
      | outgrown => exact he
    case row row args => exact Rows.mono hh (fun _ _ he => h _ _ he)
    all_goals exact h _ _ hh
  | halt x w' => cases x <;> simp only [Oper.upon] at hh ⊢ <;> exact hh
theorem wpOp_last {i : Nat} {o : Oper} {a : Act} {w : World} {K K' : Act → World → Prop} (hi : pre[i]? = some o) (hg : o.guard = none) (h : ∀ a w, K a w → K' a w) (hh : wpOp P pre (QL P oL Q) i K a w) : wpOp P (pre.push oL) Q i K' a w := by
  have hlt := (Array.getElem?_eq_some_iff.1 hi).1
  have hi' : (pre.push oL)[i]? = some o := by rw [Array.getElem?_push, if_neg (by omega)]; exact hi
  unfold wpOp at *
  simp only [hi, hi', Region.wanted, hg, if_true] at hh ⊢
  rcases hh with hh | ⟨h1, h2⟩
  · exact .inl (upon_last h hh)
  · exact .inr ⟨h1, h2⟩
theorem ready_pre {L : Array Bool} (hL : L.size = pre.size) {i : Nat} (hi : i < pre.size) : i ∈ Region.ready .any (pre.push oL) (L.push false) ↔ i ∈ Region.ready .any pre L := by
  rw [mem_ready, mem_ready, getD_push (by omega), Array.getElem?_push, if_neg (by omega)]
  simp only [getD_pushF]
theorem ready_some (hk : okOps pre = true) {L : Array Bool} (hL : L.size = pre.size) : ∀ n i, i ≤ n → i < pre.size → L.getD i true = false → Region.ready .any pre L ≠ [] := by
  intro n
  induction n with
  | zero =>
    intro i hin hi hu h0
    obtain rfl : i = 0 := by omega
    have : 0 ∈ Region.ready .any pre L := mem_ready.2 ⟨hu, pre[0], Array.getElem?_eq_getElem hi, fun e he _ => absurd ((okOps_at hk (Array.getElem?_eq_getElem hi)).2 e he) (by omega)⟩
    rw [h0] at this; exact absurd this (by simp)
  | succ n ih =>
    intro i hin hi hu h0
    by_cases hall : ∀ j, j < i → L.getD j true = true
    · have : i ∈ Region.ready .any pre L := mem_ready.2 ⟨hu, pre[i], Array.getElem?_eq_getElem hi, fun e he _ => by
        have h1 := (okOps_at hk (Array.getElem?_eq_getElem hi)).2 e he
        have h2 := hall _ h1
        have h3 : e.on < L.size := by omega
        simp [Array.getD_eq_getD_getElem?, h3] at h2 ⊢
        exact h2⟩
      rw [h0] at this; exact absurd this (by simp)
    · obtain ⟨j, hj⟩ := Classical.not_forall.1 hall
      have hji : j < i := Classical.byContradiction fun h => hj (fun h' => absurd h' h)
      have hju : L.getD j true = false := by
        cases hb : L.getD j true with
        | true => exact absurd (fun _ => hb) hj
        | false => rfl
      exact ih j (by omega) (by omega) hju h0
theorem ready_all {ops : Array Oper} {L : Array Bool} (h : ∀ j, j < ops.size → L.getD j true = true) : Region.ready .any ops L = [] := by
  rcases hr : Region.ready .any ops L with _ | ⟨i, r⟩
  · rfl
  · have hi : i ∈ Region.ready .any ops L := by rw [hr]; simp
    obtain ⟨h1, o, ho, _⟩ := mem_ready.1 hi
    rw [h i (Array.getElem?_eq_some_iff.1 ho).1] at h1
    cases h1
theorem wpAny_last (hk : okOps pre = true) (hg : oL.guard = none) (hb : (oL.after.all fun e => decide (e.on < pre.size)) = true) (hs : Region.sinkB .any (pre.push oL) pre.size = true) (hc : Region.chainB .any (pre.push oL) pre.size = true) :
    ∀ (fuel : Nat) (L : Array Bool) (a : Act) (w : World), L.size = pre.size → HeadInv .any (pre.push oL) pre.size (L.push false) → wpAnyH P .any pre (QL P oL Q) S fuel L a w → wpAny P .any (pre.push oL) Q (fuel + 1) (L.push false) a w := by
  have hN : pre.size < (pre.push oL).size := by simp
  have hNo : (pre.push oL)[pre.size]? = some oL := by simp
  -- all have come up but the last
  have fin : ∀ (fuel : Nat) (L : Array Bool) (a : Act) (w : World), L.size = pre.size → (∀ j, j < pre.size → L.getD j true = true) → QL P oL Q .normal a w → wpAny P .any (pre.push oL) Q (fuel + 1) (L.push false) a w := by
    intro fuel L a w hL hall hq
    have hrN : pre.size ∈ Region.ready .any (pre.push oL) (L.push false) := mem_ready.2 ⟨by rw [← hL, getD_pushN], oL, hNo, fun e he _ => by
      have h1 : e.on < pre.size := by simpa using (Array.all_eq_true'.1 hb) e he
      have h2 := hall _ h1
      have h3 : e.on < L.size := by omega
      rw [getD_pushF]
      simp [Array.getD_eq_getD_getElem?, h3] at h2 ⊢
      exact h2⟩
    refine ⟨fun h0 => (by rw [h0] at hrN; cases hrN), fun i hi => ?_⟩
    have hiN : i = pre.size := by
      obtain ⟨h1, o, ho, _⟩ := mem_ready.1 hi
      have hlt := (Array.getElem?_eq_some_iff.1 ho).1
      rw [Array.size_push] at hlt
      rcases Nat.lt_or_ge i pre.size with h | h
      · rw [getD_push (by omega), hall i h] at h1; cases h1
      · omega
    subst hiN
    unfold wpOp
    simp only [hNo, Region.wanted, hg, if_true]
    refine .inl (Oper.wp_mono (fun a' w' h => ?_) hq)
    rw [← hL, set_pushN]
    have hr0 : Region.ready .any (pre.push oL) (L.push true) = [] := ready_all fun j hj => by
      rw [Array.size_push] at hj
      by_cases hjN : j = L.size
      · rw [hjN, getD_pushN]
      · rw [getD_push hjN]; exact hall j (by omega)
    cases fuel with
    | zero => exact ⟨hr0, h⟩
    | succ fuel => exact ⟨fun _ => h, by rw [hr0]; simp⟩
  have allB : ∀ L : Array Bool, L.size = pre.size → Region.ready .any pre L = [] → ∀ j, j < pre.size → L.getD j true = true := by
    intro L hL h0 j hj
    cases hb : L.getD j true with
    | true => rfl
    | false => exact absurd h0 (ready_some hk hL j j (Nat.le_refl _) hj hb)
  intro fuel
  induction fuel with
  | zero =>
    intro L a w hL _ h
    exact fin 0 L a w hL (allB L hL h.1) h.2
  | succ fuel ih =>
    intro L a w hL inv h
    by_cases h0 : Region.ready .any pre L = []
    · exact fin _ L a w hL (allB L hL h0) (h.1 h0)
    · -- one at least is left
      obtain ⟨i0, hi0⟩ := List.exists_mem_of_ne_nil _ h0
      obtain ⟨hu0, o0, ho0, _⟩ := mem_ready.1 hi0
      have hlt0 := (Array.getElem?_eq_some_iff.1 ho0).1
      have hnot := tail_waits hs hc hN inv _ i0 rfl hlt0 (by rw [getD_push (by omega)]; exact hu0)
      refine ⟨fun h1 => ?_, fun i hi => ?_⟩
      · have := (ready_pre (oL := oL) hL hlt0).2 hi0
        rw [h1] at this; cases this
      · have hiN : i < pre.size := by
          rcases Nat.lt_or_ge i pre.size with h | h
          · exact h
          · exact absurd hi (hnot i h)
        have hip := (ready_pre hL hiN).1 hi
        obtain ⟨_, o, ho, _⟩ := mem_ready.1 hip
        have hgo := (okOps_at hk ho).1
        refine wpOp_last ho hgo (fun a' w' h' => ?_) (h.2 i hip)
        have := ih (L.setIfInBounds i true) a' w' (by simpa using hL) (by rw [← set_push (by omega)]; exact inv.set hi hiN) h'.2
        rw [← set_push (by omega)] at this
        exact this
/-- the beginning -/
theorem wp_region_last {ops : Array Oper} (pre : Array Oper) (oL : Oper) {id : Nat} {a : Act} {w : World} (S : World → Prop) (e : ops = pre.push oL) (hm : P.follows .mixedOrders = true) (hk : okOps pre = true) (hg : oL.guard = none) (hb : (oL.after.all fun e => decide (e.on < pre.size)) = true)
    (hs : Region.sinkB .any (pre.push oL) pre.size = true) (hc : Region.chainB .any (pre.push oL) pre.size = true)
    (h : wpAnyH P .any pre (QL P oL Q) S pre.size (Array.replicate pre.size false) a w.drew) : (Code.region id ops true).wp P Q a w := by
  subst e
  refine wp_region_any hm ?_
  have e1 : Array.replicate (pre.push oL).size false = (Array.replicate pre.size false).push false := by
    rw [Array.size_push]
    apply Array.ext (by simp)
    intro j h1 h2
    rw [Array.getElem_push]
    simp
  rw [e1, Array.size_push]
  refine wpAny_last hk hg hb hs hc _ _ _ _ (by simp) ⟨by simp, fun j oj hj hl => ?_, fun t ht ht' => ?_⟩ h
  · exfalso
    have hj2 := (Array.getElem?_eq_some_iff.1 hj).1
    rw [getD_pushF, getD_replicate_false] at hl
    cases hl
  · rw [Array.size_push] at ht'
    obtain rfl : t = pre.size := by omega
    have := getD_pushN (L := Array.replicate pre.size false) (b := false) true
    rwa [Array.size_replicate] at this
/-- .. by its number -/
theorem wp_region_lastL {l : List Oper} (n : Nat) {oL : Oper} {id : Nat} {a : Act} {w : World} (S : World → Prop) (hoL : l[n]? = some oL) (hn : l.length = n + 1) (hm : P.follows .mixedOrders = true) (hk : okOps (l.take n).toArray = true) (hg : oL.guard = none) (hb : (oL.after.all fun e => decide (e.on < n)) = true)
    (hs : Region.sinkB .any l.toArray n = true) (hc : Region.chainB .any l.toArray n = true)
    (h : wpAnyH P .any (l.take n).toArray (QL P oL Q) S n (Array.replicate n false) a w.drew) : (Code.region id l.toArray true).wp P Q a w := by
  have hlt : n < l.length := by omega
  have e1 : l[n] = oL := by
    rw [List.getElem?_eq_getElem hlt] at hoL
    injection hoL
  have e : l.toArray = (l.take n).toArray.push oL := by
    rw [List.push_toArray, ← e1, ← List.take_succ_eq_append_getElem hlt, List.take_of_length_le (by omega)]
  have hsz : (l.take n).toArray.size = n := by simp; omega
  refine wp_region_last (l.take n).toArray oL S e hm hk hg (by rw [hsz]; exact hb) (by rw [hsz, ← e]; exact hs) (by rw [hsz, ← e]; exact hc) ?_
  rw [hsz]
  exact h
end
end Go.Proofs.YtdhmmllpldjkbaaGreatDoor.Gm
