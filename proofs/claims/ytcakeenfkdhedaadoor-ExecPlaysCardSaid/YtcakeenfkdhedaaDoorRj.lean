/- A region that draws its order, guarded operations. -/
import Derived.Test.YtcakeenfkdhedaaDoorRh
namespace Go.Proofs.YtcakeenfkdhedaaDoor.Gm
open Go.RowKit
section
variable {P : Program} {md : Region.Mode} {ops : Array Oper} {Q : Exit → Act → World → Prop} {S : World → Prop} {rd ef : List Nat}
/-- .. guarded, and wanted -/
theorem wpN_oneG {i : Nat} {oi : Oper} {n : Nat} {listed : Array Bool} {a : Act} {w : World} (hi : ops.toList[i]? = some oi) (hg : Region.wanted oi (yielded ops a.tmps) = true) (hr : Region.ready md ops listed = [i]) (hn : needB md ops rd ef (listed.setIfInBounds i true) = false)
    (h : ∀ K : Act → World → Prop, Shut (∀ a w, wpN P md ops Q S rd ef n (listed.setIfInBounds i true) a w → K a w) → oi.wp P a w K Q) : wpN P md ops Q S rd ef (n + 1) listed a w := fun inv => by
  have hi := toL hi
  have hm : i ∈ Region.ready md ops listed := by rw [hr]; simp
  refine ⟨fun h0 => (by rw [hr] at h0; cases h0), fun j hj => ?_⟩
  rw [hr, List.mem_singleton] at hj
  subst hj
  unfold wpOp
  simp only [hi, hg, if_true]
  exact .inl (h _ fun a w hN => ⟨fun h1 => (by rw [hn] at h1; cases h1), hN (inv.set hm (Array.getElem?_eq_some_iff.1 hi).1)⟩)
theorem wpN_oneSG {i : Nat} {oi : Oper} {n : Nat} {listed : Array Bool} {a : Act} {w : World} (hi : ops.toList[i]? = some oi) (hg : Region.wanted oi (yielded ops a.tmps) = true) (hr : Region.ready md ops listed = [i])
    (h : ∀ K : Act → World → Prop, Shut (∀ a w, S w → wpN P md ops Q S rd ef n (listed.setIfInBounds i true) a w → K a w) → oi.wp P a w (fun a w => S w ∧ K a w) Q) : wpN P md ops Q S rd ef (n + 1) listed a w := fun inv => by
  have hi := toL hi
  have hm : i ∈ Region.ready md ops listed := by rw [hr]; simp
  refine ⟨fun h0 => (by rw [hr] at h0; cases h0), fun j hj => ?_⟩
  rw [hr, List.mem_singleton] at hj
  subst hj
  unfold wpOp
  simp only [hi, hg, if_true]
  refine .inl (Oper.wp_mono ?_ (h (fun a w => S w → wpAnyN P md ops Q S rd ef n (listed.setIfInBounds j true) a w) fun a w _ hN _ => hN (inv.set hm (Array.getElem?_eq_some_iff.1 hi).1)))
  exact fun a w ⟨h1, h2⟩ => ⟨fun _ => h1, h2 h1⟩
end
end Go.Proofs.YtcakeenfkdhedaaDoor.Gm
