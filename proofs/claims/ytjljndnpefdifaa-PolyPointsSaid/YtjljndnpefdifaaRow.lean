/- From a slice that came in (as the law's frame reads it) to the walk's word. -/
import Derived.OpenShut
import Derived.Test.YtjljndnpefdifaaRd
namespace Go.Proofs.Ytjljndnpefdifaa.Gm
open Go.RowKit
theorem ofRow {k : IntKind} {w : World} {a : Option Addr} {len cap : Nat} {zs : List Int}
    (h : (a = none ∧ len = 0 ∧ cap = 0 ∧ zs = []) ∨ ∃ x, a = some x ∧ len ≤ cap ∧ cap ≤ maxLen ∧ zs.length = cap ∧ (∀ i, i < zs.length → w.cell? (x.add i) = some (.int k (zs.getD i 0))) ∧ ∀ n ∈ zs, (Lit.int k n).wf = true) :
    ∃ l : List Int, l.length = len ∧ Rd k w (.slice a len cap) l ∧ ∀ n ∈ l, (Lit.int k n).wf = true := by
  rcases h with ⟨rfl, rfl, rfl, rfl⟩ | ⟨x, rfl, h1, h2, h3, h4, h5⟩
  · exact ⟨[], rfl, Rd.nil _ _, by simp⟩
  · have hl : (zs.take len).length = len := by rw [List.length_take]; omega
    refine ⟨zs.take len, hl, ?_, fun n hn => h5 n (List.mem_of_mem_take hn)⟩
    by_cases h0 : 0 < zs.length
    · obtain ⟨b, off, rfl, hc⟩ := ints_at h4 h0
      refine ⟨_, cap, b, off, by rw [hl], by rw [hl]; exact h1, by unfold maxLen at h2; omega, .inr rfl, fun i hi => ?_⟩
      rw [hl] at hi
      have e : gd (zs.take len) i = zs.getD i 0 := by
        rw [gd_eq, List.getElem?_take_of_lt hi, List.getD_eq_getElem?_getD]
      rw [e]
      exact hc i (by omega)
    · have hz : len = 0 := by omega
      subst hz
      exact ⟨some x, cap, 0, 0, by simp, by simp, by unfold maxLen at h2; omega, .inl (by simp), by simp⟩
theorem B64.ofWf {l : List Int} (h : ∀ n ∈ l, (Lit.int .u64 n).wf = true) : B64 l := by
  intro z hz
  have : 0 ≤ z ∧ z ≤ 18446744073709551615 := by simpa [Lit.wf, IntKind.min, IntKind.max, IntKind.signed, IntKind.bits] using h z hz
  omega
end Go.Proofs.Ytjljndnpefdifaa.Gm
