/- A region that draws its order: what reads may be taken first as long as no operation that waits for it has come up. -/
import Derived.Test.YtdhmmllpldjkbaaGreatDoorRg
namespace Go.Proofs.YtdhmmllpldjkbaaGreatDoor.Gm
open Go.RowKit
section
variable {P : Program} {md : Region.Mode} {ops : Array Oper} {Q : Exit → Act → World → Prop} {S : World → Prop} {rd ef : List Nat}
/-- does e wait for i, at however many removes? -/
def depB (md : Region.Mode) (ops : Array Oper) : Nat → Nat → Nat → Bool
  | 0, _, _ => false
  | n + 1, e, i => (ops[e]?).any fun o => o.after.any fun x => Region.binds md x && (x.on == i || depB md ops n x.on i)
/-- may a read still be pending, as far as the operations that change the world tell? -/
def needB (md : Region.Mode) (ops : Array Oper) (rd ef : List Nat) (listed : Array Bool) : Bool :=
  rd.any fun i => ef.all fun e => !(listed.getD e false) || !(depB md ops ops.size e i)
theorem dep_listed {listed : Array Bool} (inv : HeadInv md ops ops.size listed) {i : Nat} : ∀ n e, listed.getD e false = true → depB md ops n e i = true → listed.getD i false = true := by
  intro n
  induction n with
  | zero => intro e _ h; cases h
  | succ n ih =>
    intro e he h
    simp only [depB] at h
    rcases ho : ops[e]? with _ | o
    · rw [ho] at h; cases h
    · rw [ho] at h
      simp only [Option.any_some] at h
      obtain ⟨x, hx, hb⟩ := Array.any_eq_true'.1 h
      simp only [Bool.and_eq_true, Bool.or_eq_true, beq_iff_eq] at hb
      have h1 := inv.closed e o ho he x hx hb.1
      rcases hb.2 with h2 | h2
      · rw [← h2]; exact h1
      · exact ih x.on h1 h2
theorem need_of {listed : Array Bool} (inv : HeadInv md ops ops.size listed) {i : Nat} (hi : i ∈ rd) (hu : listed.getD i false = false) : needB md ops rd ef listed = true := by
  refine List.any_eq_true.2 ⟨i, hi, List.all_eq_true.2 fun e _ => ?_⟩
  cases he : listed.getD e false with
  | false => simp
  | true =>
    cases hd : depB md ops ops.size e i with
    | false => simp
    | true => rw [dep_listed inv _ _ he hd] at hu; cases hu
theorem need_set {listed : Array Bool} {i : Nat} (hi : ef.contains i = false) : needB md ops rd ef (listed.setIfInBounds i true) = needB md ops rd ef listed := by
  unfold needB
  congr 1
  funext k
  have key : ∀ e ∈ ef, (listed.setIfInBounds i true).getD e false = listed.getD e false := fun e he => by
    have hne : i ≠ e := fun h => by
      have : ef.contains i = true := by rw [h]; simpa using he
      rw [this] at hi; cases hi
    exact getD_set_ne false hne
  rw [Bool.eq_iff_iff, List.all_eq_true, List.all_eq_true]
  exact ⟨fun h e he => by rw [← key e he]; exact h e he, fun h e he => by rw [key e he]; exact h e he⟩
/-- whatever order is picked; S is asked only while a read may be pending -/
def wpAnyN (P : Program) (md : Region.Mode) (ops : Array Oper) (Q : Exit → Act → World → Prop) (S : World → Prop) (rd ef : List Nat) : Nat → Array Bool → Act → World → Prop
  | 0, listed, a, w => Region.ready md ops listed = [] ∧ Q .normal a w
  | n + 1, listed, a, w => (Region.ready md ops listed = [] → Q .normal a w) ∧
    ∀ i ∈ Region.ready md ops listed, wpOp P ops Q i (fun a' w' => (needB md ops rd ef (listed.setIfInBounds i true) = true → S w') ∧ wpAnyN P md ops Q S rd ef n (listed.setIfInBounds i true) a' w') a w
theorem wpAny_of_N : ∀ (n : Nat) (listed : Array Bool) (a : Act) (w : World), wpAnyN P md ops Q S rd ef n listed a w → wpAny P md ops Q n listed a w
  | 0, _, _, _, h => h
  | n + 1, _, _, _, h => ⟨h.1, fun i hi => wpOp_mono (fun a' w' h' => wpAny_of_N n _ a' w' h'.2) (h.2 i hi)⟩
/-- an operation that leaves the world as it is comes first -/
theorem wpAnyN_first {i : Nat} {oi : Oper} {v : Value} {T : World → Prop} (hi : ops[i]? = some oi) (hsel : ∀ (j : Nat) (o : Oper) cs b, ops[j]? = some o → o.op ≠ .select cs b)
    (hQ : ∀ c a w, Q (.panic c) (a.put oi.dst v) w → Q (.panic c) a w) (hef : ef.contains i = false) (hT : (i ∈ rd ∧ T = S) ∨ T = fun _ => True) :
    ∀ (n : Nat) (listed : Array Bool) (a : Act) (w : World), HeadInv md ops ops.size listed →
      (∀ j oj, ops[j]? = some oj → j ≠ i → listed.getD j true = false → (∀ e ∈ oj.after, Region.binds md e = true → e.on ≠ i) → oi.apart ops oj = true) →
      i ∈ Region.ready md ops listed → YieldsIf P ops T oi v a → (needB md ops rd ef listed = true → S w) →
      wpAnyN P md ops Q S rd ef n (listed.setIfInBounds i true) (a.put oi.dst v) w → wpAnyN P md ops Q S rd ef (n + 1) listed a w := by
  intro n
  have hTw : ∀ {listed : Array Bool} {w : World}, HeadInv md ops ops.size listed → i ∈ Region.ready md ops listed → (needB md ops rd ef listed = true → S w) → T w := by
    intro listed w inv hr hS
    rcases hT with ⟨h1, rfl⟩ | rfl
    · exact hS (need_of inv h1 (getD_both (mem_ready.1 hr).1))
    · trivial
  induction n with
  | zero =>
    intro listed a w inv _ hr hy hS H
    refine ⟨fun h0 => absurd hr (by rw [h0]; simp), fun j hj => ?_⟩
    by_cases e : j = i
    · subst e
      exact hy.wpOp hi (hTw inv hr hS) ⟨fun hn => hS (by rw [need_set hef] at hn; exact hn), H⟩
    · have h1 := ready_mono hj e
      rw [H.1] at h1
      cases h1
  | succ n ih =>
    intro listed a w inv hfree hr hy hS H
    refine ⟨fun h0 => absurd hr (by rw [h0]; simp), fun j hj => ?_⟩
    by_cases e : j = i
    · subst e
      exact hy.wpOp hi (hTw inv hr hS) ⟨fun hn => hS (by rw [need_set hef] at hn; exact hn), H⟩
    · obtain ⟨huj, oj, hoj, hall⟩ := mem_ready.1 hj
      have hui := getD_both (mem_ready.1 hr).1
      have hno : ∀ x ∈ oj.after, Region.binds md x = true → x.on ≠ i := fun x hx hb he => by
        have := hall x hx hb
        rw [he, hui] at this
        cases this
      refine wpOp_mono ?_ (wpOp_putIf hoj (hfree j oj hoj e huj hno) (fun cs b => hsel i oi cs b hi) (fun cs b => hsel j oj cs b hoj) hQ hy (H.2 j (ready_mono hj e)))
      rintro a' w' ⟨hy', hS', hN'⟩
      rw [Array.setIfInBounds_comm _ _ (Ne.symm e)] at hS' hN'
      rw [need_set hef] at hS'
      refine ⟨hS', ih (listed.setIfInBounds j true) a' w' (inv.set hj (Array.getElem?_eq_some_iff.1 hoj).1) ?_ (ready_mono hr (Ne.symm e)) hy' hS' hN'⟩
      intro k ok hk hki hu hw
      refine hfree k ok hk hki ?_ hw
      by_cases hjk : j = k
      · subst hjk; exact huj
      · rwa [getD_set_ne true hjk] at hu
theorem toL {i : Nat} {oi : Oper} (h : ops.toList[i]? = some oi) : ops[i]? = some oi := by rwa [Array.getElem?_toList] at h
/-- the walk's state: what has come up so far is closed -/
def wpN (P : Program) (md : Region.Mode) (ops : Array Oper) (Q : Exit → Act → World → Prop) (S : World → Prop) (rd ef : List Nat) (n : Nat) (listed : Array Bool) (a : Act) (w : World) : Prop :=
  HeadInv md ops ops.size listed → wpAnyN P md ops Q S rd ef n listed a w
theorem wpN_read {i : Nat} {oi : Oper} {v : Value} {n : Nat} {listed : Array Bool} {a : Act} {w : World} (hi : ops.toList[i]? = some oi) (hrd : rd.contains i = true) (hef : ef.contains i = false)
    (hs : Region.noSelect ops = true) (hf : Region.free md ops listed i = true) (hr : (Region.ready md ops listed).contains i = true)
    (hQ : ∀ c a w, Q (.panic c) (a.put oi.dst v) w → Q (.panic c) a w) (hy : YieldsIf P ops S oi v a) (hS : S w)
    (h : wpN P md ops Q S rd ef n (listed.setIfInBounds i true) (a.put oi.dst v) w) : wpN P md ops Q S rd ef (n + 1) listed a w := fun inv =>
  wpAnyN_first (toL hi) (Region.noSelect_spec hs) hQ hef (.inl ⟨by simpa using hrd, rfl⟩) n listed a w inv (Region.free_spec (toL hi) hf) (by simpa using hr) hy (fun _ => hS) (h (inv.set (by simpa using hr) (Array.getElem?_eq_some_iff.1 (toL hi)).1))
theorem wpN_pure {i : Nat} {oi : Oper} {v : Value} {n : Nat} {listed : Array Bool} {a : Act} {w : World} (hi : ops.toList[i]? = some oi) (hef : ef.contains i = false)
    (hs : Region.noSelect ops = true) (hf : Region.free md ops listed i = true) (hr : (Region.ready md ops listed).contains i = true)
    (hQ : ∀ c a w, Q (.panic c) (a.put oi.dst v) w → Q (.panic c) a w) (hy : YieldsIf P ops (fun _ => True) oi v a) (hS : needB md ops rd ef listed = true → S w)
    (h : wpN P md ops Q S rd ef n (listed.setIfInBounds i true) (a.put oi.dst v) w) : wpN P md ops Q S rd ef (n + 1) listed a w := fun inv =>
  wpAnyN_first (toL hi) (Region.noSelect_spec hs) hQ hef (.inr rfl) n listed a w inv (Region.free_spec (toL hi) hf) (by simpa using hr) hy hS (h (inv.set (by simpa using hr) (Array.getElem?_eq_some_iff.1 (toL hi)).1))
/-- the only one that may come up, S no longer asked -/
theorem wpN_one {i : Nat} {oi : Oper} {n : Nat} {listed : Array Bool} {a : Act} {w : World} (hi : ops.toList[i]? = some oi) (hg : oi.guard = none) (hr : Region.ready md ops listed = [i]) (hn : needB md ops rd ef (listed.setIfInBounds i true) = false)
    (h : ∀ K : Act → World → Prop, Shut (∀ a w, wpN P md ops Q S rd ef n (listed.setIfInBounds i true) a w → K a w) → oi.wp P a w K Q) : wpN P md ops Q S rd ef (n + 1) listed a w := fun inv => by
  have hi := toL hi
  have hm : i ∈ Region.ready md ops listed := by rw [hr]; simp
  refine ⟨fun h0 => (by rw [hr] at h0; cases h0), fun j hj => ?_⟩
  rw [hr, List.mem_singleton] at hj
  subst hj
  unfold wpOp
  simp only [hi, Region.wanted, hg, if_true]
  exact .inl (h _ fun a w hN => ⟨fun h1 => (by rw [hn] at h1; cases h1), hN (inv.set hm (Array.getElem?_eq_some_iff.1 hi).1)⟩)
/-- .. S asked -/
theorem wpN_oneS {i : Nat} {oi : Oper} {n : Nat} {listed : Array Bool} {a : Act} {w : World} (hi : ops.toList[i]? = some oi) (hg : oi.guard = none) (hr : Region.ready md ops listed = [i])
    (h : ∀ K : Act → World → Prop, Shut (∀ a w, S w → wpN P md ops Q S rd ef n (listed.setIfInBounds i true) a w → K a w) → oi.wp P a w (fun a w => S w ∧ K a w) Q) : wpN P md ops Q S rd ef (n + 1) listed a w := fun inv => by
  have hi := toL hi
  have hm : i ∈ Region.ready md ops listed := by rw [hr]; simp
  refine ⟨fun h0 => (by rw [hr] at h0; cases h0), fun j hj => ?_⟩
  rw [hr, List.mem_singleton] at hj
  subst hj
  unfold wpOp
  simp only [hi, Region.wanted, hg, if_true]
  refine .inl (Oper.wp_mono ?_ (h (fun a w => S w → wpAnyN P md ops Q S rd ef n (listed.setIfInBounds j true) a w) fun a w _ hN _ => hN (inv.set hm (Array.getElem?_eq_some_iff.1 hi).1)))
  exact fun a w ⟨h1, h2⟩ => ⟨fun _ => h1, h2 h1⟩
theorem wpN_done {n : Nat} {listed : Array Bool} {a : Act} {w : World} (hr : Region.ready md ops listed = []) (h : Q .normal a w) : wpN P md ops Q S rd ef n listed a w := fun _ => by
  cases n with
  | zero => exact ⟨hr, h⟩
  | succ n => exact ⟨fun _ => h, by rw [hr]; simp⟩
/-- the beginning -/
theorem wp_region_N {id : Nat} {a : Act} {w : World} (rd ef : List Nat) (S : World → Prop) (hm : P.follows .mixedOrders = true) (h : wpN P .any ops Q S rd ef ops.size (Array.replicate ops.size false) a w.drew) : (Code.region id ops true).wp P Q a w := by
  refine wp_region_any hm (wpAny_of_N _ _ _ _ (h ⟨by simp, fun j oj hj hl => ?_, fun t ht ht' => absurd ht' (by omega)⟩))
  rw [getD_replicate_false] at hl
  cases hl
end
end Go.Proofs.YtdhmmllpldjkbaaGreatDoor.Gm
