/- plan.Make and the reference's Plan answer the same. -/
import Derived.Test.YtdhmmllpldjkbaaGreatDoorRple
import Derived.Test.YtdhmmllpldjkbaaGreatDoorPrte
namespace Go.Proofs.YtdhmmllpldjkbaaGreatDoor.Gm
open Go.RowKit
set_option linter.unusedVariables false
/-- the two makers answer the same -/
theorem makers (zs : List Int) (cut : Int) (hw : W64 zs) (hc2 : cut ≤ 9223372036854775807) : ∃ (L : List (List T3)) (n : Int),
    (∀ v w, Rd .i64 w v zs → Calls Tryz.prog 99 #[v, .int .i64 cut] w (RetPE w L n)) ∧ (∀ v w, Rd .i64 w v zs → Calls Tryz.prog 82 #[v, .int .i64 cut] w (RetPE w L n)) := by
  rcases shape_cases zs with hb | hb | ⟨ds, rfl, hs⟩
  · exact ⟨[], 1, fun v w h => make_bad zs cut v w 1 h hw (.inl ⟨rfl, hb⟩), fun v w h => rplan_bad zs cut v w 1 h hw (.inl ⟨rfl, hb⟩)⟩
  · exact ⟨[], 2, fun v w h => make_bad zs cut v w 2 h hw (.inr ⟨rfl, hb⟩), fun v w h => rplan_bad zs cut v w 2 h hw (.inr ⟨rfl, hb⟩)⟩
  · by_cases hz : cut < 1
    · exact ⟨[], 1, fun v w h => make_cut ds cut v w h hw hs hz, fun v w h => rplan_cut ds cut v w h hw hs hz⟩
    · by_cases hx : ∀ x, x < ds.length → cntT (lnX ds x) (cutX ds cut x) ≤ 64
      · refine ⟨phs ds cut ds.length, 0, fun v w h => (make_any ds cut v w h hw hs (by omega) hc2).mono ?_, fun v w h => (rplan_any ds cut v w h hw hs (by omega) hc2).mono ?_⟩
        · rintro e w' (⟨_, he⟩ | ⟨⟨x, h1, h2⟩, _⟩)
          · exact he
          · have := hx x h1; omega
        · rintro e w' (⟨_, he⟩ | ⟨⟨x, h1, h2⟩, _⟩)
          · exact he
          · have := hx x h1; omega
      · refine ⟨[], 2, fun v w h => (make_any ds cut v w h hw hs (by omega) hc2).mono ?_, fun v w h => (rplan_any ds cut v w h hw hs (by omega) hc2).mono ?_⟩
        · rintro e w' (⟨h1, _⟩ | ⟨_, he⟩)
          · exact absurd h1 hx
          · exact he
        · rintro e w' (⟨h1, _⟩ | ⟨_, he⟩)
          · exact absurd h1 hx
          · exact he
end Go.Proofs.YtdhmmllpldjkbaaGreatDoor.Gm
