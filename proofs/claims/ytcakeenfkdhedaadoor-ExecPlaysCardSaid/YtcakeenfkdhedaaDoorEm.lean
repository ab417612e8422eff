/- A run's small methods: Done, Left, Array, Log. -/
import Derived.Test.YtcakeenfkdhedaaDoorRn
import Derived.Test.YtcakeenfkdhedaaDoorCt
import Derived.Test.YtcakeenfkdhedaaDoorGd
import Derived.Deep.QuietTactic
import Derived.BigQuiet
namespace Go.Proofs.YtcakeenfkdhedaaDoor.Gm
open Go.RowKit
set_option linter.unusedVariables false
theorem own_shape {B : Nat} {e : TypeId} {size n : Nat} {w : World} {v : Value} {xs : List Value} (h : w.ownsRow B e size v n xs) : ∃ a cap, v = .slice a n cap ∧ n ≤ cap ∧ cap ≤ 9223372036854775807 ∧ (0 < n → ∃ g, a = some ⟨g, 0, none⟩) := by
  rcases h.2 with ⟨rfl, h0⟩ | ⟨g, cap, cur, rfl, hb, hg, hn, hm, hs, ht⟩
  · rw [h0]; exact ⟨none, 0, rfl, by omega, by omega, fun h => absurd h (by omega)⟩
  · exact ⟨_, cap, rfl, hn, by unfold maxLen at hm; omega, fun _ => ⟨g, rfl⟩⟩
theorem xdone_any (r : Rn) (s : RS) (C M : Nat → Prop) (w : World) (h : RunAt w C M r s) :
    Calls Tryd.prog 23 #[.pointer (some ⟨r.R, 0, none⟩)] w fun e w' => e = .returned (.bool (decide (s.ph = r.ll.length))) ∧ Below w.heap.size w w' := by
  obtain ⟨var, vlog, h⟩ := h
  obtain ⟨vs, hp, hl, hx⟩ := h.ph
  obtain ⟨a, cap, e, _⟩ := own_shape hp
  have c5 : w.cell? ⟨r.R, 5, none⟩ = some (.int .i64 s.ph) := h.run.cell 5
  have c2 : w.cell? ⟨r.R, 2, none⟩ = some r.vph := h.run.cell 2
  rw [e] at c2
  clear hp hl hx h e
  generalize r.R = R at *
  generalize r.ll.length = N at *
  generalize s.ph = x at *
  go_enter Tryd.func23, Tryd.ntmps23
  go_wp2
  go_quiet (fail)
  go_wp2
  go_ret
  refine ⟨?_, below_drewN (Below.refl _ _) _⟩
  show Ending.returned (.bool ((x : Int) == (N : Int))) = _
  rw [show ((x : Int) == (N : Int)) = decide (x = N) by rw [Bool.eq_iff_iff]; simp; omega]
theorem xleft_any (r : Rn) (s : RS) (C M : Nat → Prop) (w : World) (h : RunAt w C M r s) :
    Calls Tryd.prog 22 #[.pointer (some ⟨r.R, 0, none⟩)] w fun e w' => e = .returned (.tuple #[.int .i64 s.ph, .int .i64 s.left]) ∧ Below w.heap.size w w' := by
  obtain ⟨var, vlog, h⟩ := h
  have c5 : w.cell? ⟨r.R, 5, none⟩ = some (.int .i64 s.ph) := h.run.cell 5
  have c6 : w.cell? ⟨r.R, 6, none⟩ = some (.int .i64 s.left) := h.run.cell 6
  clear h
  generalize r.R = R at *
  go_enter Tryd.func22, Tryd.ntmps22
  go_wp2
  go_quiet (fail)
  go_wp2
  go_ret2
  exact ⟨rfl, below_drewN (Below.refl _ _) _⟩
theorem xarray_any (r : Rn) (s : RS) (C M : Nat → Prop) (w : World) (h : RunAt w C M r s) (hl : s.ar.length ≤ 1000000) :
    Calls Tryd.prog 25 #[.pointer (some ⟨r.R, 0, none⟩)] w fun e w' => ∃ v, e = .returned v ∧ Oz .u64 52 w.heap.size w' v s.ar ∧ Below w.heap.size w w' := by
  obtain ⟨var, vlog, h⟩ := h
  have c1 : w.cell? ⟨r.R, 1, none⟩ = some var := h.run.cell 1
  have CC := Lib.hid (cloneU_any s.ar var w h.ar.rd hl)
  obtain ⟨a, cap, rfl, _⟩ := own_shape h.ar
  clear h
  generalize r.R = R at *
  go_enter Tryd.func25, Tryd.ntmps25
  go_wp2_with fail
  refine CC.out.mono ?_
  rintro e w' ⟨v, rfl, ho, hb⟩
  obtain ⟨a2, cap2, rfl, _⟩ := own_shape ho
  have HO := Lib.hid ho
  have HB := Lib.hid hb
  clear ho hb
  go_wp2
  go_ret
  exact ⟨_, rfl, HO.out, HB.out⟩
theorem xlog_any (r : Rn) (s : RS) (C M : Nat → Prop) (w : World) (h : RunAt w C M r s) (hl : s.log.length ≤ 1000000) :
    Calls Tryd.prog 27 #[.pointer (some ⟨r.R, 0, none⟩)] w fun e w' => ∃ v, e = .returned v ∧ Ot w.heap.size w' v s.log ∧ Below w.heap.size w w' := by
  obtain ⟨var, vlog, h⟩ := h
  have c1 : w.cell? ⟨r.R, 7, none⟩ = some vlog := h.run.cell 7
  have CC := Lib.hid (cloneT_any s.log vlog w h.log.rk (fun c e => by
    obtain ⟨a, cap, e2, _, _, hg⟩ := own_shape h.log
    rw [e] at e2
    injection e2 with e3 _ _
    rcases Nat.eq_zero_or_pos s.log.length with h0 | h0
    · exact h0
    · obtain ⟨g, hg⟩ := hg h0
      rw [hg] at e3; cases e3) hl)
  obtain ⟨a, cap, rfl, _⟩ := own_shape h.log
  clear h
  generalize r.R = R at *
  go_enter Tryd.func27, Tryd.ntmps27
  go_wp2_with fail
  refine CC.out.mono ?_
  rintro e w' ⟨v, rfl, ho, hb⟩
  obtain ⟨a2, cap2, rfl, _⟩ := own_shape ho
  have HO := Lib.hid ho
  have HB := Lib.hid hb
  clear ho hb
  go_wp2
  go_ret
  exact ⟨_, rfl, HO.out, HB.out⟩
end Go.Proofs.YtcakeenfkdhedaaDoor.Gm
