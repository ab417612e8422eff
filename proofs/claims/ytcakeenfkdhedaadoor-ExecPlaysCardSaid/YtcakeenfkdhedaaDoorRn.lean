/- A run in memory. -/
import Derived.Test.YtcakeenfkdhedaaDoorEx
import Derived.Test.YtcakeenfkdhedaaDoorDq
import Derived.Test.YtcakeenfkdhedaaDoorGe
namespace Go.Proofs.YtcakeenfkdhedaaDoor.Gm
open Go.RowKit
set_option linter.unusedVariables false
/-- what stays of a run -/
structure Rn where
  R : Nat
  vsh : Value
  vph : Value
  vdq : Value
  D : Nat → Nat
  G : Nat → Nat
  W : Nat
  back : Bool
  ks : List Nat
  ll : List (List T3)
/-- the run's own block -/
def rcs (r : Rn) (var : Value) (ph left : Int) (vlog : Value) : Array Value := #[r.vsh, var, r.vph, .bool r.back, r.vdq, .int .i64 ph, .int .i64 left, vlog]
/-- a run, as it lies: the blocks C stay, the blocks M turn -/
structure RunV (w : World) (C M : Nat → Prop) (r : Rn) (var vlog : Value) (s : RS) : Prop where
  run : Blk w r.R 92 (rcs r var s.ph s.left vlog)
  mR : M r.R
  sh : Oz .i64 3 0 w r.vsh (zi (szs r.ks))
  shC : ∀ g, r.vsh.ownBlock = some g → C g
  ph : ∃ vs : List Value, w.ownsRow 0 63 1 r.vph r.ll.length vs ∧ vs.length = r.ll.length ∧ ∀ i u, vs[i]? = some u → Ot 0 w u (pg r.ll i) ∧ ∀ g, u.ownBlock = some g → C g
  phC : ∀ g, r.vph.ownBlock = some g → C g
  dq : w.ownsRow 0 93 1 r.vdq r.W ((List.range r.W).map fun i => .pointer (some ⟨r.D i, 0, none⟩))
  dqC : ∀ g, r.vdq.ownBlock = some g → C g
  ds : ∀ i, i < r.W → DqAt w (r.D i) (r.G i) 64 (pg s.qs i)
  dsM : ∀ i, i < r.W → M (r.D i) ∧ M (r.G i)
  inj : ∀ i j, i < r.W → j < r.W → i ≠ j → r.D i ≠ r.D j ∧ r.G i ≠ r.G j
  ar : Oz .u64 52 0 w var s.ar
  arM : ∀ g, var.ownBlock = some g → M g
  log : Ot 0 w vlog s.log
  logM : ∀ g, vlog.ownBlock = some g → M g ∧ ∀ i, i < r.W → g ≠ r.G i
  apart : ∀ k, M k → ¬ C k
  lt : ∀ k, C k ∨ M k → k < w.heap.size
section
variable {w w' : World} {C M S : Nat → Prop} {r : Rn} {var vlog : Value} {s : RS}
theorem DqAt.blk {D G n : Nat} {l : List T3} (h : DqAt w D G n l) : (∃ cs, Blk w D 124 cs) ∧ ∃ cs, Blk w G 56 cs := by
  obtain ⟨top, cs, h1, h2, _⟩ := h
  exact ⟨⟨_, h1⟩, _, h2⟩
theorem ph_only (hh : ∃ vs : List Value, w.ownsRow 0 63 1 r.vph r.ll.length vs ∧ vs.length = r.ll.length ∧ ∀ i u, vs[i]? = some u → Ot 0 w u (pg r.ll i) ∧ ∀ g, u.ownBlock = some g → C g)
    (hC : ∀ g, r.vph.ownBlock = some g → C g) (ho : Only S w w') (hS : ∀ k, S k → ¬ C k) :
    ∃ vs : List Value, w'.ownsRow 0 63 1 r.vph r.ll.length vs ∧ vs.length = r.ll.length ∧ ∀ i u, vs[i]? = some u → Ot 0 w' u (pg r.ll i) ∧ ∀ g, u.ownBlock = some g → C g := by
  obtain ⟨vs, h1, h2, h3⟩ := hh
  exact ⟨vs, own_only h1 ho (fun k hk hs => hS k hs (hC k hk)), h2, fun i u hu => ⟨(h3 i u hu).1.only ho (fun k hk hs => hS k hs ((h3 i u hu).2 k hk)), (h3 i u hu).2⟩⟩
theorem RunV.only (h : RunV w C M r var vlog s) (ho : Only S w w') (hS : ∀ k, S k → ¬ C k ∧ ¬ M k) : RunV w' C M r var vlog s where
  run := h.run.only ho (fun hs => (hS _ hs).2 h.mR)
  mR := h.mR
  sh := own_only h.sh ho (fun k hk hs => (hS _ hs).1 (h.shC k hk))
  shC := h.shC
  ph := ph_only h.ph h.phC ho (fun k hs => (hS k hs).1)
  phC := h.phC
  dq := own_only h.dq ho (fun k hk hs => (hS _ hs).1 (h.dqC k hk))
  dqC := h.dqC
  ds := fun i hi => (h.ds i hi).only ho (fun hs => (hS _ hs).2 (h.dsM i hi).1) (fun hs => (hS _ hs).2 (h.dsM i hi).2)
  dsM := h.dsM
  inj := h.inj
  ar := own_only h.ar ho (fun k hk hs => (hS _ hs).2 (h.arM k hk))
  arM := h.arM
  log := h.log.only ho (fun k hk hs => (hS _ hs).2 (h.logM k hk).1)
  logM := h.logM
  apart := h.apart
  lt := fun k hk => Nat.lt_of_lt_of_le (h.lt k hk) ho.size
/-- nothing of old has turned -/
theorem RunV.bel (h : RunV w C M r var vlog s) (hb : Below w.heap.size w w') : RunV w' C M r var vlog s :=
  h.only (Only.of_below (S := fun _ => False) hb (fun k hk hk' => by omega)) (fun _ e => e.elim)
/-- one queue has turned -/
theorem RunV.queue (h : RunV w C M r var vlog s) {a : Nat} {q : List T3} (ha : a < r.W) (hw : s.qs.length = r.W) (ho : Only (fun k => k = r.D a ∨ k = r.G a) w w') (hd : DqAt w' (r.D a) (r.G a) 64 q) :
    RunV w' C M r var vlog { s with qs := s.qs.set a q } where
  run := h.run.only ho (fun hs => by
    obtain ⟨⟨c1, hd1⟩, ⟨c2, hd2⟩⟩ := (h.ds a ha).blk
    rcases hs with hs | hs
    · exact Blk.ne_ h.run hd1 (by decide) hs
    · exact Blk.ne_ h.run hd2 (by decide) hs)
  mR := h.mR
  sh := own_only h.sh ho (fun k hk hs => by
    have h1 := h.shC k hk
    rcases hs with hs | hs
    · exact h.apart _ (h.dsM a ha).1 (hs ▸ h1)
    · exact h.apart _ (h.dsM a ha).2 (hs ▸ h1))
  shC := h.shC
  ph := ph_only h.ph h.phC ho (fun k hs h1 => by
    rcases hs with hs | hs
    · exact h.apart _ (h.dsM a ha).1 (hs ▸ h1)
    · exact h.apart _ (h.dsM a ha).2 (hs ▸ h1))
  phC := h.phC
  dq := own_only h.dq ho (fun k hk hs => by
    have h1 := h.dqC k hk
    rcases hs with hs | hs
    · exact h.apart _ (h.dsM a ha).1 (hs ▸ h1)
    · exact h.apart _ (h.dsM a ha).2 (hs ▸ h1))
  dqC := h.dqC
  ds := fun i hi => by
    show DqAt w' (r.D i) (r.G i) 64 (pg (s.qs.set a q) i)
    rw [pg_set _ _ _ _ (by rw [hw]; exact ha)]
    split
    · rename_i e; subst e; exact hd
    · rename_i hne
      obtain ⟨⟨c1, hd1⟩, ⟨c2, hd2⟩⟩ := (h.ds a ha).blk
      obtain ⟨⟨c3, hd3⟩, ⟨c4, hd4⟩⟩ := (h.ds i hi).blk
      have hj := h.inj i a hi ha (fun e => hne e.symm)
      refine (h.ds i hi).only ho (fun hs => ?_) (fun hs => ?_)
      · rcases hs with hs | hs
        · exact hj.1 hs
        · exact Blk.ne_ hd3 hd2 (by decide) hs
      · rcases hs with hs | hs
        · exact Blk.ne_ hd4 hd1 (by decide) hs
        · exact hj.2 hs
  dsM := h.dsM
  inj := h.inj
  ar := own_only h.ar ho (fun k hk hs => by
    obtain ⟨⟨c1, hd1⟩, ⟨c2, hd2⟩⟩ := (h.ds a ha).blk
    rcases hs with hs | hs
    · exact own_blk_ne h.ar hd1 (by decide) (hs ▸ hk)
    · exact own_blk_ne h.ar hd2 (by decide) (hs ▸ hk))
  arM := h.arM
  log := h.log.only ho (fun k hk hs => by
    obtain ⟨⟨c1, hd1⟩, ⟨c2, hd2⟩⟩ := (h.ds a ha).blk
    rcases hs with hs | hs
    · exact own_blk_ne h.log hd1 (by decide) (hs ▸ hk)
    · exact (h.logM k hk).2 a ha hs)
  logM := h.logM
  apart := h.apart
  lt := fun k hk => Nat.lt_of_lt_of_le (h.lt k hk) ho.size
/-- the run's block, its log have turned -/
theorem RunV.put (h : RunV w C M r var vlog s) {var' vlog' : Value} {ar' : List Int} {ph' left' : Nat} {log' : List T3} (ho : Only (fun k => k = r.R ∨ vlog.ownBlock = some k) w w') (hb : Blk w' r.R 92 (rcs r var' ph' left' vlog'))
    (har : Oz .u64 52 0 w' var' ar') (hlog : Ot 0 w' vlog' log') (hv : ∀ g, var'.ownBlock = some g → M g ∨ w.heap.size ≤ g) (hl : ∀ g, vlog'.ownBlock = some g → vlog.ownBlock = some g ∨ w.heap.size ≤ g) :
    RunV w' C (fun k => M k ∨ (w.heap.size ≤ k ∧ k < w'.heap.size)) r var' vlog' ⟨ar', s.qs, ph', left', log'⟩ where
  run := hb
  mR := .inl h.mR
  sh := own_only h.sh ho (fun k hk hs => by
    have h1 := h.shC k hk
    rcases hs with hs | hs
    · exact h.apart _ h.mR (hs ▸ h1)
    · exact h.apart _ (h.logM k hs).1 h1)
  shC := h.shC
  ph := ph_only h.ph h.phC ho (fun k hs h1 => by
    rcases hs with hs | hs
    · exact h.apart _ h.mR (hs ▸ h1)
    · exact h.apart _ (h.logM k hs).1 h1)
  phC := h.phC
  dq := own_only h.dq ho (fun k hk hs => by
    have h1 := h.dqC k hk
    rcases hs with hs | hs
    · exact h.apart _ h.mR (hs ▸ h1)
    · exact h.apart _ (h.logM k hs).1 h1)
  dqC := h.dqC
  ds := fun i hi => by
    obtain ⟨⟨c1, hd1⟩, ⟨c2, hd2⟩⟩ := (h.ds i hi).blk
    refine (h.ds i hi).only ho (fun hs => ?_) (fun hs => ?_)
    · rcases hs with hs | hs
      · exact Blk.ne_ hd1 h.run (by decide) hs
      · exact own_blk_ne h.log hd1 (by decide) hs
    · rcases hs with hs | hs
      · exact Blk.ne_ hd2 h.run (by decide) hs
      · exact (h.logM _ hs).2 i hi rfl
  dsM := fun i hi => ⟨.inl (h.dsM i hi).1, .inl (h.dsM i hi).2⟩
  inj := h.inj
  ar := har
  arM := fun g hg => by
    rcases hv g hg with h1 | h1
    · exact .inl h1
    · exact .inr ⟨h1, (World.ownsRow.lt har g hg).2⟩
  log := hlog
  logM := fun g hg => by
    rcases hl g hg with h1 | h1
    · exact ⟨.inl (h.logM g h1).1, (h.logM g h1).2⟩
    · refine ⟨.inr ⟨h1, (Ot.lt hlog g hg).2⟩, fun i hi e => ?_⟩
      have := h.lt _ (.inr (h.dsM i hi).2)
      omega
  apart := fun k hk hc => by
    rcases hk with hk | hk
    · exact h.apart k hk hc
    · have := h.lt k (.inl hc); omega
  lt := fun k hk => by
    rcases hk with hk | hk | hk
    · exact Nat.lt_of_lt_of_le (h.lt k (.inl hk)) ho.size
    · exact Nat.lt_of_lt_of_le (h.lt k (.inr hk)) ho.size
    · exact hk.2
/-- what of the run's block's turning leaves the array, the log -/
theorem RunV.ar_put (h : RunV w C M r var vlog s) (ho : Only (fun k => k = r.R ∨ vlog.ownBlock = some k) w w') : Oz .u64 52 0 w' var s.ar :=
  own_only h.ar ho (fun k hk hs => by
    rcases hs with hs | hs
    · exact own_blk_ne h.ar h.run (by decide) (hs ▸ hk)
    · rcases own_ne h.ar h.log (by decide) with hh | hh
      · rw [hk] at hh; cases hh
      · exact hh (by rw [hk, hs]))
theorem RunV.log_put (h : RunV w C M r var vlog s) (ho : Only (fun k => k = r.R) w w') : Ot 0 w' vlog s.log :=
  h.log.only ho (fun k hk hs => own_blk_ne h.log h.run (by decide) (hs ▸ hk))
end
/-- a run: what is told of it -/
def RunAt (w : World) (C M : Nat → Prop) (r : Rn) (s : RS) : Prop := ∃ var vlog, RunV w C M r var vlog s
theorem RunAt.only {w w' : World} {C M S : Nat → Prop} {r : Rn} {s : RS} (h : RunAt w C M r s) (ho : Only S w w') (hS : ∀ k, S k → ¬ C k ∧ ¬ M k) : RunAt w' C M r s := by
  obtain ⟨var, vlog, h⟩ := h
  exact ⟨var, vlog, h.only ho hS⟩
theorem RunAt.bel {w w' : World} {C M : Nat → Prop} {r : Rn} {s : RS} (h : RunAt w C M r s) (hb : Below w.heap.size w w') : RunAt w' C M r s := by
  obtain ⟨var, vlog, h⟩ := h
  exact ⟨var, vlog, h.bel hb⟩
theorem RunAt.lt {w : World} {C M : Nat → Prop} {r : Rn} {s : RS} (h : RunAt w C M r s) : ∀ k, C k ∨ M k → k < w.heap.size := by
  obtain ⟨var, vlog, h⟩ := h
  exact h.lt
/-- what a step leaves -/
def RunTo (C M : Nat → Prop) (r : Rn) (s' : RS) (w w' : World) : Prop := ∃ M' : Nat → Prop, RunAt w' C M' r s' ∧ Only M w w' ∧ ∀ k, M' k → M k ∨ w.heap.size ≤ k
end Go.Proofs.YtcakeenfkdhedaaDoor.Gm
