/- From what came in (as the law's frame reads it) to the walk's words. -/
import Derived.OpenShut
import Derived.ShutString
import Derived.Deep.Slices
import Derived.SizedLaws
import Derived.Test.YtdhmmllpldjkbaaGreatDoorGa
namespace Go.Proofs.YtdhmmllpldjkbaaGreatDoor.Gm
open Go.RowKit Go.ChangeShapes Go.WideShapes Go.Deep
theorem addr_none {w : World} {a : Addr} {v : Value} (h : w.cell? (a.add 0) = some v) : ∃ b off, a = ⟨b, off, none⟩ := by
  obtain ⟨b, off, spot⟩ := a
  have hspot : spot = none := by simpa [Addr.add] using World.cell?_spot h
  subst hspot
  exact ⟨b, off, rfl⟩
/-- how long the datum says that it is -/
def DLen {H : Type} (d : DataW H) (l : List Int) : Prop := (∃ xs ys, d = .slice xs ys ∧ xs.length = l.length) ∨ l = []
/-- a slice of integers that came in -/
theorem in_intsP {P : Program} {H : Type} {enc : TypeId × Value → H} {W : World} {base : Nat} {sp : Nat → Bool} {held : Bool} {t e : TypeId} {k : IntKind} {r : Reach} {b0 : Nat} {v : Value} {d : DataW H} {ps : List MemPlace}
    (ht : P.underlying t = some (.slice e)) (he : P.underlying e = some (.int k)) (hc : P.cellsOf e = 1)
    (hval : Value.okWide P W r b0 t v) (h : DataW.Trod enc P W base sp held t v d ps) :
    ∃ l : List Int, Rd k W v l ∧ (∀ n ∈ l, (Lit.int k n).wf = true) ∧ DLen d l := by
  obtain ⟨a, len, cap, rfl⟩ := okWide_slice ht hval
  obtain ⟨fuel, hfu⟩ := h
  rcases open_slice1 ht hc hfu with ⟨hcs, _⟩ | ⟨x, l, c, m, n, V, D, Pl, hcs, _, hl, hm, hmm, hdd, hx⟩
  · simp [Value.cells] at hcs
    obtain ⟨rfl, rfl, rfl⟩ := hcs
    exact ⟨[], Rd.nil _ _, by simp, .inr rfl⟩
  · simp [Value.cells] at hcs
    obtain ⟨rfl, rfl, rfl⟩ := hcs
    have hlm : len ≤ m := by rw [hmm]; split <;> omega
    unfold maxLen at hm
    have each : ∀ i, i < len → ∃ z : Int, V i = .int k z ∧ (Lit.int k z).wf = true := by
      intro i hi
      obtain ⟨z, hz, _, hw⟩ := DataW.trod_int he (hx i (by omega)).2
      exact ⟨z, by simpa using hz, hw⟩
    obtain ⟨f, hf⟩ := Go.Deep.choose_lt each
    have hlen : ((List.range len).map f).length = len := by simp
    have hg : ∀ i, i < len → gd ((List.range len).map f) i = f i := by
      intro i hi
      rw [gd_eq, List.getElem?_map, List.getElem?_range hi]; rfl
    refine ⟨(List.range len).map f, ?_, ?_, .inl ⟨_, _, (Prod.mk.inj hdd).1, by simp⟩⟩
    · by_cases h0 : 0 < len
      · obtain ⟨b, off, rfl⟩ := addr_none (hx 0 (by omega)).1
        refine ⟨_, cap, b, off, by rw [hlen], by rw [hlen]; exact hl, by omega, .inr rfl, fun i hi => ?_⟩
        rw [hlen] at hi
        rw [hg i hi, ← (hf i hi).1, ← (hx i (by omega)).1, add_plain]
      · have hz : len = 0 := by omega
        subst hz
        exact ⟨_, cap, 0, 0, rfl, Nat.zero_le _, by omega, .inl rfl, by simp⟩
    · intro z hz
      obtain ⟨i, hi, rfl⟩ := List.mem_map.1 hz
      exact (hf i (List.mem_range.1 hi)).2
set_option maxRecDepth 100000 in
theorem in_ints {H : Type} {enc : TypeId × Value → H} {W : World} {base : Nat} {sp : Nat → Bool} {held : Bool} {t e : TypeId} {k : IntKind} {r : Reach} {b0 : Nat} {v : Value} {d : DataW H} {ps : List MemPlace}
    (ht : Tryz.prog.underlying t = some (.slice e)) (he : Tryz.prog.underlying e = some (.int k)) (hc : Tryz.prog.cellsOf e = 1)
    (hval : Value.okWide Tryz.prog W r b0 t v) (h : DataW.Trod enc Tryz.prog W base sp held t v d ps) :
    ∃ l : List Int, Rd k W v l ∧ ∀ n ∈ l, (Lit.int k n).wf = true := by
  obtain ⟨l, h1, h2, _⟩ := in_intsP (P := Tryz.prog) ht he hc hval h
  exact ⟨l, h1, h2⟩
set_option maxRecDepth 100000 in
theorem in_intsD {H : Type} {enc : TypeId × Value → H} {W : World} {base : Nat} {sp : Nat → Bool} {held : Bool} {t e : TypeId} {k : IntKind} {r : Reach} {b0 : Nat} {v : Value} {d : DataW H} {ps : List MemPlace}
    (ht : Tryz.prog.underlying t = some (.slice e)) (he : Tryz.prog.underlying e = some (.int k)) (hc : Tryz.prog.cellsOf e = 1)
    (hval : Value.okWide Tryz.prog W r b0 t v) (h : DataW.Trod enc Tryz.prog W base sp held t v d ps) :
    ∃ l : List Int, Rd k W v l ∧ (∀ n ∈ l, (Lit.int k n).wf = true) ∧ DLen d l := in_intsP (P := Tryz.prog) ht he hc hval h
/-- .. and what the reach says of it (elements of eight bytes) -/
theorem len_reach {P : Program} {H : Type} {ts : List TypeId} {ds : List (DataW H)} (h : (DataW.weightsEach P ts ds).all (· ≤ reachBytes) = true) {j : Nat} {t e : TypeId} {d : DataW H} {l : List Int}
    (ht : ts[j]? = some t) (hd : ds[j]? = some d) (hu : P.underlying t = some (.slice e)) (hb : P.bytesOf e = 8) (hl : DLen d l) : l.length ≤ 17592186044416 := by
  rcases hl with ⟨xs, ys, rfl, hx⟩ | rfl
  · have := sized_slice h ht hd hu
    rw [hb] at this
    simp only [reachBytes] at this
    omega
  · simp
theorem B64.ofWf {l : List Int} (h : ∀ n ∈ l, (Lit.int .u64 n).wf = true) : B64 l := by
  intro z hz
  have : 0 ≤ z ∧ z ≤ 18446744073709551615 := by simpa [Lit.wf, IntKind.min, IntKind.max, IntKind.signed, IntKind.bits] using h z hz
  omega
theorem u64_wf {z : Int} (h : (Lit.int .u64 z).wf = true) : 0 ≤ z ∧ z < 18446744073709551616 := by
  have : 0 ≤ z ∧ z ≤ 18446744073709551615 := by simpa [Lit.wf, IntKind.min, IntKind.max, IntKind.signed, IntKind.bits] using h
  omega
theorem i64_wf {z : Int} (h : (Lit.int .i64 z).wf = true) : -9223372036854775808 ≤ z ∧ z ≤ 9223372036854775807 := by
  simpa [Lit.wf, IntKind.min, IntKind.max, IntKind.signed, IntKind.bits] using h
end Go.Proofs.YtdhmmllpldjkbaaGreatDoor.Gm
