/- The walk of the law Names. -/
import Derived.Test.YtolkcaelmipkeaaLg
namespace Go.Proofs.Ytolkcaelmipkeaa.Gm
open Go.RowKit
def UpTo (m : Nat) (i : Value) : Prop := ∃ k : Nat, k ≤ m ∧ i = .int .i64 k
theorem wNames (w : World) :
    Calls Try.prog 3 #[] w fun e w' => e = .returned (.bool true) ∧ Grown w w' := by
  go_enter Try.func3, Try.ntmps3
  go_wp2
  go_loop [2, 6] (fun _ i => UpTo 7 i) (fun _ i => 7 - (intOf i).toNat)
  case atStart => exact ⟨0, by omega, rfl⟩
  case round =>
    obtain ⟨k, hk, rfl⟩ := hrel
    have hk' : k = 0 ∨ k = 1 ∨ k = 2 ∨ k = 3 ∨ k = 4 ∨ k = 5 ∨ k = 6 ∨ k = 7 := by omega
    rcases hk' with rfl | rfl | rfl | rfl | rfl | rfl | rfl | rfl
    all_goals go_wp2
    · exact ⟨⟨1, by omega, rfl⟩, by decide⟩
    · exact ⟨⟨2, by omega, rfl⟩, by decide⟩
    · exact ⟨⟨3, by omega, rfl⟩, by decide⟩
    · exact ⟨⟨4, by omega, rfl⟩, by decide⟩
    · exact ⟨⟨5, by omega, rfl⟩, by decide⟩
    · exact ⟨⟨6, by omega, rfl⟩, by decide⟩
    · exact ⟨⟨7, by omega, rfl⟩, by decide⟩
    · go_ret
      exact ⟨rfl, by repeat (first | exact Grown.refl _ | apply Grown.alloc)⟩
end Go.Proofs.Ytolkcaelmipkeaa.Gm
