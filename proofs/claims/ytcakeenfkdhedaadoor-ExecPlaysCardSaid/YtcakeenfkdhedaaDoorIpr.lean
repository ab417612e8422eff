/- A slice of phases that came in: how long its phases can be, from what the reach says. -/
import Derived.Test.YtcakeenfkdhedaaDoorIph
import Derived.SizedLaws
namespace Go.Proofs.YtcakeenfkdhedaaDoor.Gm
open Go.RowKit Go.ChangeShapes Go.WideShapes Go.Deep
set_option maxRecDepth 100000 in
theorem in_tasksR {H : Type} {enc : TypeId × Value → H} {W : World} {base : Nat} {sp : Nat → Bool} {held : Bool} {ts : TypeId} {fuel : Nat} {cs : List Value} {x : DataW H × List MemPlace}
    (ht : Tryd.prog.underlying ts = some (.slice 56)) (h : DataW.trod enc Tryd.prog W base sp held fuel ts cs = some x) (hr : ∀ y ∈ DataW.weights Tryd.prog ts x.1, y ≤ reachBytes) :
    ∃ (v : Value) (l : List T3), cs = [v] ∧ Rk W v l ∧ W3 l ∧ l.length ≤ 5864062014634 ∧ ∀ c, v = .slice none l.length c → l.length = 0 := by
  rcases open_slice ht h with ⟨hcs, hx⟩ | ⟨a, len, cap, m, n, D, Pl, hcs, _, hl, hm, hmm, hxe, hx⟩
  · subst hcs
    exact ⟨_, [], rfl, Rk.nil _, by unfold W3; simp, Nat.zero_le _, fun _ _ => rfl⟩
  · subst hcs
    obtain ⟨l, hrk, hw⟩ := in_tasks ht h
    have hll : len = l.length := by
      obtain ⟨_, _, e, _⟩ := hrk.shape
      injection e
    subst hll
    refine ⟨_, l, rfl, hrk, hw, ?_, fun c e => by injection e with e; cases e⟩
    have hb : Tryd.prog.bytesOf 56 = 24 := by kernel_rfl
    have h1 := hr ((((List.range l.length).map D).length + ((List.range (m - l.length)).map fun j => D (l.length + j)).length) * Tryd.prog.bytesOf 56) (by rw [hxe]; simp only [DataW.weights, ht]; exact List.mem_cons_self ..)
    rw [hb, List.length_map, List.length_range] at h1
    simp only [reachBytes] at h1
    omega
theorem weights_all {H : Type} {P : Program} {e : TypeId} {l : List (DataW H)} {d : DataW H} (h : d ∈ l) : ∀ y ∈ d.weights P e, y ∈ DataW.weightsAll P e l := by
  induction l with
  | nil => cases h
  | cons x r ih =>
    intro y hy
    simp only [DataW.weightsAll, List.mem_append]
    cases List.mem_cons.1 h with
    | inl e => subst e; exact .inl hy
    | inr e => exact .inr (ih e y hy)
set_option maxRecDepth 100000 in
theorem in_phasesR {H : Type} {enc : TypeId × Value → H} {W : World} {base : Nat} {sp : Nat → Bool} {held : Bool} {r : Reach} {b0 : Nat} {v : Value} {d : DataW H} {ps : List MemPlace}
    (hval : Value.okWide Tryd.prog W r b0 23 v) (h : DataW.Trod enc Tryd.prog W base sp held 23 v d ps) (hr : ∀ y ∈ DataW.weights Tryd.prog 23 d, y ≤ reachBytes) :
    ∃ ll : List (List T3), RPs W v ll ∧ ∀ i, i < ll.length → W3 (pg ll i) ∧ (pg ll i).length ≤ 5864062014634 := by
  obtain ⟨a, len, cap, rfl⟩ := okWide_slice Tryd.underlying23 hval
  obtain ⟨fuel, hfu⟩ := h
  rcases open_slice Tryd.underlying23 hfu with ⟨hcs, _⟩ | ⟨x, l, c, m, n, D, Pl, hcs, _, hl, hm, hmm, hxe, hx⟩
  · simp [Value.cells] at hcs
    obtain ⟨rfl, rfl, rfl⟩ := hcs
    exact ⟨[], ⟨none, 0, 0, 0, rfl, by simp, by omega, .inl (Nat.le_refl _), by simp⟩, by simp⟩
  · simp [Value.cells] at hcs
    obtain ⟨rfl, rfl, rfl⟩ := hcs
    have hlm : len ≤ m := by rw [hmm]; split <;> omega
    unfold maxLen at hm
    have hcells : Tryd.prog.cellsOf 63 = 1 := by kernel_rfl
    have hd : d = .slice ((List.range len).map D) ((List.range (m - len)).map fun j => D (len + j)) := by
      have := (Prod.mk.inj hxe).1
      exact this
    have hrD : ∀ i, i < len → ∀ y ∈ DataW.weights Tryd.prog 63 (D i), y ≤ reachBytes := by
      intro i hi y hy
      refine hr y ?_
      rw [hd]
      simp only [DataW.weights, Tryd.underlying23]
      exact List.mem_cons_of_mem _ (List.mem_append_left _ (weights_all (List.mem_map.2 ⟨i, List.mem_range.2 hi, rfl⟩) y hy))
    have each : ∀ i, i < len → ∃ vl : Value × List T3, W.cells? base (x.add (i * 1)) 1 = some [vl.1] ∧ Rk W vl.1 vl.2 ∧ W3 vl.2 ∧ vl.2.length ≤ 5864062014634 ∧ ∀ c, vl.1 = .slice none vl.2.length c → vl.2.length = 0 := by
      intro i hi
      obtain ⟨cs', h1, h2⟩ := hx i (by omega)
      rw [hcells] at h1
      obtain ⟨v, l, rfl, h3, h4, h5, h6⟩ := in_tasksR Tryd.underlying63 h2 (hrD i hi)
      exact ⟨(v, l), h1, h3, h4, h5, h6⟩
    obtain ⟨f, hf⟩ := choose_lt each
    have hlen : ((List.range len).map fun i => (f i).2).length = len := by simp
    have hg : ∀ i, i < len → pg ((List.range len).map fun i => (f i).2) i = (f i).2 := by
      intro i hi
      rw [pg_eq, List.getElem?_map, List.getElem?_range hi]; rfl
    refine ⟨(List.range len).map fun i => (f i).2, ?_, fun i hi => ?_⟩
    · by_cases h0 : 0 < len
      · have h00 := (hf 0 h0).1
        rw [Nat.zero_mul] at h00
        obtain ⟨_, _, hat⟩ := World.cells?_some h00
        have e0 := hat 0 (by omega)
        rw [add_add] at e0
        obtain ⟨b, off, rfl⟩ := addr_none (v := (f 0).1) (by simpa using e0)
        refine ⟨_, cap, b, off, by rw [hlen], by rw [hlen]; exact hl, by omega, .inr rfl, fun i hi => ?_⟩
        rw [hlen] at hi
        rw [hg i hi]
        obtain ⟨h1, h2, h3, h4, h5⟩ := hf i hi
        refine ⟨(f i).1, ?_, h2, h5⟩
        rw [add_plain, Nat.mul_one] at h1
        obtain ⟨_, _, hat⟩ := World.cells?_some h1
        have e0 := hat 0 (by omega)
        simp only [add_plain] at e0
        simpa using e0
      · have hz : len = 0 := by omega
        subst hz
        exact ⟨_, cap, 0, 0, rfl, Nat.zero_le _, by omega, .inl (by simp), fun i hi => absurd hi (by simp)⟩
    · rw [hlen] at hi
      rw [hg i hi]
      obtain ⟨h1, h2, h3, h4, h5⟩ := hf i hi
      exact ⟨h3, h4⟩
/-- what an argument's data weighs -/
theorem weights_arg {P : Program} {H : Type} {ts : List TypeId} {ds : List (DataW H)} (h : (DataW.weightsEach P ts ds).all (· ≤ reachBytes) = true) {j : Nat} {t : TypeId} {d : DataW H}
    (ht : ts[j]? = some t) (hd : ds[j]? = some d) : ∀ y ∈ d.weights P t, y ≤ reachBytes := by
  intro y hy
  simpa using List.all_eq_true.1 h _ (DataW.weights_mem_each ht hd y hy)
end Go.Proofs.YtcakeenfkdhedaaDoor.Gm
