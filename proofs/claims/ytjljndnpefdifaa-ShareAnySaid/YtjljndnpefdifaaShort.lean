/- The walk of goldkeep.short. -/
import Derived.Test.YtjljndnpefdifaaRd
namespace Go.Proofs.Ytjljndnpefdifaa.Gm
open Go.RowKit
theorem short_any (zs : List Int) (n : Nat) (v : Value) (w : World) (h : Rd .u64 w v zs) (hn : n ≤ 1000000) :
    Calls Try.prog 14 #[v, .int .i64 n] w fun e w' => (∃ v', e = .returned v' ∧ Rd .u64 w v' (zs.take n)) ∧ w = w' := by
  obtain ⟨a, cap, b, off, rfl, hcap, hm, hx, hc⟩ := h
  have Hx := Lib.hid hx
  have Hc := Lib.hid hc
  clear hx hc
  rcases (show zs.length < n ∨ n ≤ zs.length by omega) with hlt | hlt
  · go_enter Try.func14, Try.ntmps14
    go_wp2
    go_ret
    exact ⟨⟨_, rfl, by rw [List.take_of_length_le (by omega)]; exact ⟨a, cap, b, off, rfl, hcap, hm, Hx.out, Hc.out⟩⟩, rfl⟩
  · have hl : (zs.take n).length = n := by rw [List.length_take]; omega
    have HL := Lib.hid hl
    clear hl
    go_enter Try.func14, Try.ntmps14
    go_wp2
    go_ret
    refine ⟨⟨_, rfl, ⟨a, cap, b, off, by rw [HL.out]; rfl, by rw [HL.out]; omega, hm, ?_, fun i hi => ?_⟩⟩, rfl⟩
    · rcases Hx.out with h | h
      · left; rw [h]; simp
      · exact .inr h
    · rw [HL.out] at hi
      have e : gd (zs.take n) i = gd zs i := by rw [gd_eq, gd_eq, List.getElem?_take_of_lt hi]
      rw [e]
      exact Hc.out i (by omega)
theorem short_z (zs : List Int) (n : Nat) (z : Int) (v : Value) (w : World) (h : Rd .u64 w v zs) (hn : n ≤ 1000000) (hz : z = n) :
    Calls Try.prog 14 #[v, .int .i64 z] w fun e w' => (∃ v', e = .returned v' ∧ Rd .u64 w v' (zs.take n)) ∧ w = w' := by
  subst hz; exact short_any zs n v w h hn
end Go.Proofs.Ytjljndnpefdifaa.Gm
