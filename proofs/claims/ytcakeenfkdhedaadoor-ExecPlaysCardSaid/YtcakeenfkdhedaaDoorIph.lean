/- Slices of phases that came in; what a bound on the bulk gives; the table of powers. -/
import Derived.Test.YtcakeenfkdhedaaDoorOp
import Derived.Test.YtcakeenfkdhedaaDoorRc
import Derived.Test.YtcakeenfkdhedaaDoorIt
import Derived.Test.YtcakeenfkdhedaaDoorDr
import Derived.Lib.LaidTab
namespace Go.Proofs.YtcakeenfkdhedaaDoor.Gm
open Go.RowKit Go.ChangeShapes Go.WideShapes Go.Deep Go.ChangeAt
set_option linter.unusedVariables false
theorem bulk_one {H : Type} (d : DataW H) : 1 ≤ Rows.uptoBulk d := by
  cases d with
  | lit l => cases l <;> simp [Rows.uptoBulk]
  | nil => simp [Rows.uptoBulk]
  | ptr d => simp [Rows.uptoBulk]
  | slice elems spare => simp [Rows.uptoBulk]
  | agg parts => simp [Rows.uptoBulk]
  | iface t d => simp [Rows.uptoBulk]
  | map entries => simp [Rows.uptoBulk]
  | held h => simp [Rows.uptoBulk]
theorem bulk_part {H : Type} {d : DataW H} {l : List (DataW H)} (h : d ∈ l) : Rows.uptoBulk d ≤ Rows.uptoBulkAll l := by
  induction l with
  | nil => cases h
  | cons x r ih =>
    simp only [Rows.uptoBulkAll]
    cases List.mem_cons.1 h with
    | inl e => subst e; omega
    | inr e => have := ih e; omega
theorem bulk_len {H : Type} (l : List (DataW H)) : l.length ≤ Rows.uptoBulkAll l := by
  induction l with
  | nil => simp [Rows.uptoBulkAll]
  | cons x r ih => have := bulk_one x; simp only [Rows.uptoBulkAll, List.length_cons]; omega
theorem bulk_slice {H : Type} (elems spare : List (DataW H)) : Rows.uptoBulkAll elems ≤ Rows.uptoBulk (.slice elems spare) := by
  simp only [Rows.uptoBulk]
  omega
/-- a task takes five -/
theorem bulk_task {H : Type} {enc : TypeId × Value → H} {W : World} {base : Nat} {sp : Nat → Bool} {held : Bool} {n : Nat} {cs : List Value} {x : DataW H × List MemPlace}
    (h : DataW.trod enc Tryd.prog W base sp held n 56 cs = some x) : 4 ≤ Rows.uptoBulk x.1 := by
  obtain ⟨xs, m, _, hx, hl, hxl, hf⟩ := DataW.trod_struct Tryd.underlying56 h
  match xs, hxl with
  | [y0, y1, y2], _ =>
    rw [hx]
    have h0 := bulk_one y0.1
    have h1 := bulk_one y1.1
    have h2 := bulk_one y2.1
    simp only [List.map_cons, List.map_nil, Rows.uptoBulk, Rows.uptoBulkAll]
    omega
theorem bulk_four {H : Type} (D : Nat → DataW H) (n : Nat) (h : ∀ i, i < n → 4 ≤ Rows.uptoBulk (D i)) : 4 * n ≤ Rows.uptoBulkAll ((List.range n).map D) := by
  have key : ∀ l : List (DataW H), (∀ d ∈ l, 4 ≤ Rows.uptoBulk d) → 4 * l.length ≤ Rows.uptoBulkAll l := by
    intro l
    induction l with
    | nil => intro _; simp [Rows.uptoBulkAll]
    | cons x r ih =>
      intro hx
      have h1 := hx x (by simp)
      have h2 := ih (fun d hd => hx d (by simp [hd]))
      simp only [Rows.uptoBulkAll, List.length_cons]
      omega
  have := key ((List.range n).map D) (fun d hd => by
    obtain ⟨i, hi, rfl⟩ := List.mem_map.1 hd
    exact h i (List.mem_range.1 hi))
  rwa [List.length_map, List.length_range] at this
theorem w3_i3 {l : List T3} (h : W3 l) {j : Nat} (hj : j < l.length) : I3 (tg l j) := by
  have := h (tg l j) (by rw [tg_lt hj]; exact List.getElem_mem hj)
  have w : ∀ z : Int, (Lit.int .i64 z).wf = true → -9223372036854775808 ≤ z ∧ z ≤ 9223372036854775807 := fun z h => by
    simpa [Lit.wf, IntKind.min, IntKind.max, IntKind.signed, IntKind.bits] using h
  exact ⟨w _ this.1, w _ this.2.1, w _ this.2.2⟩
set_option maxRecDepth 100000 in
theorem in_tasksD {H : Type} {enc : TypeId × Value → H} {W : World} {base : Nat} {sp : Nat → Bool} {held : Bool} {ts : TypeId} {fuel : Nat} {cs : List Value} {x : DataW H × List MemPlace}
    (ht : Tryd.prog.underlying ts = some (.slice 56)) (h : DataW.trod enc Tryd.prog W base sp held fuel ts cs = some x) :
    ∃ (v : Value) (l : List T3), cs = [v] ∧ Rk W v l ∧ W3 l ∧ 4 * l.length ≤ Rows.uptoBulk x.1 ∧ ∀ c, v = .slice none l.length c → l.length = 0 := by
  rcases open_slice ht h with ⟨hcs, hx⟩ | ⟨a, len, cap, m, n, D, Pl, hcs, _, hl, hm, hmm, hxe, hx⟩
  · subst hcs
    exact ⟨_, [], rfl, Rk.nil _, by unfold W3; simp, Nat.zero_le _, fun _ _ => rfl⟩
  · subst hcs
    obtain ⟨l, hr, hw⟩ := in_tasks ht h
    have hll : len = l.length := by
      obtain ⟨_, _, e, _⟩ := hr.shape
      injection e
    subst hll
    refine ⟨_, l, rfl, hr, hw, ?_, fun c e => by injection e with e; cases e⟩
    rw [hxe]
    have hlm : l.length ≤ m := by rw [hmm]; split <;> omega
    have h1 := bulk_four D l.length (fun i hi => by
      obtain ⟨cs', _, h2⟩ := hx i (by omega)
      exact bulk_task h2)
    have h2 := bulk_slice ((List.range l.length).map D) ((List.range (m - l.length)).map fun j => D (l.length + j))
    exact Nat.le_trans h1 h2
set_option maxRecDepth 100000 in
theorem in_phases {H : Type} {enc : TypeId × Value → H} {W : World} {base : Nat} {sp : Nat → Bool} {held : Bool} {r : Reach} {b0 : Nat} {v : Value} {d : DataW H} {ps : List MemPlace}
    (hval : Value.okWide Tryd.prog W r b0 23 v) (h : DataW.Trod enc Tryd.prog W base sp held 23 v d ps) :
    ∃ ll : List (List T3), RPs W v ll ∧ (∀ i, i < ll.length → W3 (pg ll i) ∧ 4 * (pg ll i).length ≤ Rows.uptoBulk d) ∧ ll.length ≤ Rows.uptoBulk d := by
  obtain ⟨a, len, cap, rfl⟩ := okWide_slice Tryd.underlying23 hval
  obtain ⟨fuel, hfu⟩ := h
  rcases open_slice Tryd.underlying23 hfu with ⟨hcs, _⟩ | ⟨x, l, c, m, n, D, Pl, hcs, _, hl, hm, hmm, hxe, hx⟩
  · simp [Value.cells] at hcs
    obtain ⟨rfl, rfl, rfl⟩ := hcs
    exact ⟨[], ⟨none, 0, 0, 0, rfl, by simp, by omega, .inl (Nat.le_refl _), by simp⟩, by simp, Nat.zero_le _⟩
  · simp [Value.cells] at hcs
    obtain ⟨rfl, rfl, rfl⟩ := hcs
    have hlm : len ≤ m := by rw [hmm]; split <;> omega
    unfold maxLen at hm
    have hcells : Tryd.prog.cellsOf 63 = 1 := by kernel_rfl
    have hd : d = .slice ((List.range len).map D) ((List.range (m - len)).map fun j => D (len + j)) := by
      have := (Prod.mk.inj hxe).1
      exact this
    have each : ∀ i, i < len → ∃ vl : Value × List T3, W.cells? base (x.add (i * 1)) 1 = some [vl.1] ∧ Rk W vl.1 vl.2 ∧ W3 vl.2 ∧ 4 * vl.2.length ≤ Rows.uptoBulk (D i) ∧ ∀ c, vl.1 = .slice none vl.2.length c → vl.2.length = 0 := by
      intro i hi
      obtain ⟨cs', h1, h2⟩ := hx i (by omega)
      rw [hcells] at h1
      obtain ⟨v, l, rfl, h3, h4, h5, h6⟩ := in_tasksD Tryd.underlying63 h2
      exact ⟨(v, l), h1, h3, h4, h5, h6⟩
    obtain ⟨f, hf⟩ := choose_lt each
    have hlen : ((List.range len).map fun i => (f i).2).length = len := by simp
    have hg : ∀ i, i < len → pg ((List.range len).map fun i => (f i).2) i = (f i).2 := by
      intro i hi
      rw [pg_eq, List.getElem?_map, List.getElem?_range hi]; rfl
    have hbk : ∀ i, i < len → Rows.uptoBulk (D i) ≤ Rows.uptoBulk d := fun i hi => by
      rw [hd]
      exact Nat.le_trans (bulk_part (List.mem_map.2 ⟨i, List.mem_range.2 hi, rfl⟩)) (bulk_slice _ _)
    refine ⟨(List.range len).map fun i => (f i).2, ?_, fun i hi => ?_, ?_⟩
    · by_cases h0 : 0 < len
      · have h00 := (hf 0 h0).1
        rw [Nat.zero_mul] at h00
        obtain ⟨_, _, hat⟩ := World.cells?_some h00
        have e0 := hat 0 (by omega)
        rw [add_add] at e0
        obtain ⟨b, off, rfl⟩ := addr_none (v := (f 0).1) (by simpa using e0)
        refine ⟨_, cap, b, off, by rw [hlen], by rw [hlen]; exact hl, by omega, .inr rfl, fun i hi => ?_⟩
        rw [hlen] at hi
        rw [hg i hi]
        obtain ⟨h1, h2, h3, h4, h5⟩ := hf i hi
        refine ⟨(f i).1, ?_, h2, h5⟩
        rw [add_plain, Nat.mul_one] at h1
        obtain ⟨_, _, hat⟩ := World.cells?_some h1
        have e0 := hat 0 (by omega)
        simp only [add_plain] at e0
        simpa using e0
      · have hz : len = 0 := by omega
        subst hz
        exact ⟨_, cap, 0, 0, rfl, Nat.zero_le _, by omega, .inl (by simp), fun i hi => absurd hi (by simp)⟩
    · rw [hlen] at hi
      rw [hg i hi]
      obtain ⟨h1, h2, h3, h4, h5⟩ := hf i hi
      exact ⟨h3, Nat.le_trans h4 (hbk i hi)⟩
    · rw [hlen, hd]
      have h1 := bulk_len ((List.range len).map D)
      rw [List.length_map, List.length_range] at h1
      exact Nat.le_trans h1 (bulk_slice _ _)
theorem powG : Tryd.prog.globalNamed "internal/strconv.uint64pow10" = some 0 := by kernel_rfl
theorem powT : (Tryd.prog.globals[0]?).map (·.type) = some 181 := by kernel_rfl
theorem cells_u64 : Tryd.prog.cellsOf 52 = 1 := by kernel_rfl
theorem cells_pow : Tryd.prog.cellsOf 181 = 20 := by kernel_rfl
theorem tp_of {l : List (String × DataW Unit)} {W : World} (h : laidMet Tryd.prog l W) (hx : ("internal/strconv.uint64pow10", Rows.laid_internal_strconv_uint64pow10) ∈ l) : Tp W := by
  obtain ⟨ps, hv, _⟩ := h
  obtain ⟨g, t, cs, fuel, p, hg, ht, hvar, hd⟩ := laid_at hv hx
  obtain rfl := Option.some.inj (powG.symm.trans hg)
  obtain rfl := Option.some.inj (powT.symm.trans ht)
  rw [show (Rows.laid_internal_strconv_uint64pow10 : DataW Unit) = Lib.tabData .u64 Lib.pow10Tab from rfl] at hd
  have hc := Lib.cells_of_tab Tryd.underlying181 Tryd.underlying52 cells_u64 cells_pow hd
  unfold Tp Lib.TabIs
  rw [hvar, ← hc]
end Go.Proofs.YtcakeenfkdhedaaDoor.Gm
