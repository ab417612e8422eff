/- The walks of goldkeep.short and one; lists of literals. -/
import Derived.Test.YtolkcaelmipkeaaPu
namespace Go.Proofs.Ytolkcaelmipkeaa.Gm
open Go.RowKit
theorem short_any (zs : List Int) (n : Nat) (v : Value) (w : World) (h : Rd .u64 w v zs) (hn : n ≤ 1000000) :
    Calls Try.prog 55 #[v, .int .i64 n] w fun e w' => (∃ v', e = .returned v' ∧ Rd .u64 w v' (zs.take n)) ∧ w = w' := by
  obtain ⟨a, cap, b, off, rfl, hcap, hm, hx, hc⟩ := h
  have Hx := Lib.hid hx
  have Hc := Lib.hid hc
  clear hx hc
  rcases (show zs.length < n ∨ n ≤ zs.length by omega) with hlt | hlt
  · go_enter Try.func55, Try.ntmps55
    go_wp2
    go_ret
    exact ⟨⟨_, rfl, by rw [List.take_of_length_le (by omega)]; exact ⟨a, cap, b, off, rfl, hcap, hm, Hx.out, Hc.out⟩⟩, rfl⟩
  · have hl : (zs.take n).length = n := by rw [List.length_take]; omega
    have HL := Lib.hid hl
    clear hl
    go_enter Try.func55, Try.ntmps55
    go_wp2
    go_ret
    refine ⟨⟨_, rfl, ⟨a, cap, b, off, by rw [HL.out]; rfl, by rw [HL.out]; omega, hm, ?_, fun i hi => ?_⟩⟩, rfl⟩
    · rcases Hx.out with h | h
      · left; rw [h]; simp
      · exact .inr h
    · rw [HL.out] at hi
      have e : gd (zs.take n) i = gd zs i := by rw [gd_eq, gd_eq, List.getElem?_take_of_lt hi]
      rw [e]
      exact Hc.out i (by omega)
theorem short_z (zs : List Int) (n : Nat) (z : Int) (v : Value) (w : World) (h : Rd .u64 w v zs) (hn : n ≤ 1000000) (hz : z = n) :
    Calls Try.prog 55 #[v, .int .i64 z] w fun e w' => (∃ v', e = .returned v' ∧ Rd .u64 w v' (zs.take n)) ∧ w = w' := by
  subst hz; exact short_any zs n v w h hn
theorem one_yes (w : World) : Calls Try.prog 56 #[.bool true] w fun e w' => e = .returned (.int .i64 1) ∧ w = w' := by
  go_enter Try.func56, Try.ntmps56
  go_wp2
  go_ret
  exact ⟨rfl, rfl⟩
theorem one_no (w : World) : Calls Try.prog 56 #[.bool false] w fun e w' => e = .returned (.int .i64 0) ∧ w = w' := by
  go_enter Try.func56, Try.ntmps56
  go_wp2
  go_ret
  exact ⟨rfl, rfl⟩
/-- a list of literals, just laid -/
theorem Rd.lit (k : IntKind) (w : World) (zs : List Int) (t : TypeId) (n : Nat) (hn : n = zs.length) (hl : zs.length ≤ 1000000) :
    Rd k (w.alloc (.cells (zs.map (Value.int k)).toArray t)) (.slice (some ⟨w.heap.size, 0, none⟩) n n) zs := by
  subst hn
  refine ⟨_, _, w.heap.size, 0, rfl, Nat.le_refl _, by omega, .inr rfl, fun i hi => ?_⟩
  rw [World.cell?_alloc_at _ _ _ _ rfl, Nat.zero_add, gd_eq]
  simp [List.getElem?_eq_getElem hi]
end Go.Proofs.Ytolkcaelmipkeaa.Gm
