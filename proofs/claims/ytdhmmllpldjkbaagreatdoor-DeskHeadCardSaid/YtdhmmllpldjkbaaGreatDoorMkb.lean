/- The plans of the two makers are short. -/
import Derived.Test.YtdhmmllpldjkbaaGreatDoorMke
namespace Go.Proofs.YtdhmmllpldjkbaaGreatDoor.Gm
open Go.RowKit
set_option linter.unusedVariables false
/-- plans that may be printed -/
def PrO (L : List (List T3)) : Prop := L.length ≤ 1000 ∧ ∀ i, i < L.length → (∀ j, j < (pg L i).length → I3 (tg (pg L i) j)) ∧ (pg L i).length ≤ 64
theorem pro_nil : PrO [] := ⟨by simp, fun i hi => absurd hi (by simp)⟩
theorem pro_phs (ds : List Nat) (cut : Int) (hs : Shp ds) (hc : 1 ≤ cut) (h3 : ds.length ≤ 3) (hx : ∀ x, x < ds.length → cntT (lnX ds x) (cutX ds cut x) ≤ 64) : PrO (phs ds cut ds.length) := by
  refine ⟨by rw [phs_len]; omega, fun i hi => ?_⟩
  rw [phs_len] at hi
  rw [pg_phs ds cut hi, phT_len]
  refine ⟨fun j hj => ?_, hx i hi⟩
  have h1 := (lt_cntT (lnX_pos hs hi) (cutX_pos hs hc hi)).1 hj
  have h2 := lnX_le hs i
  unfold phT
  rw [tg_mkT _ _ _ hj]
  unfold I3
  generalize lnX ds i = a at *
  generalize cutX ds cut i = c at *
  generalize j * c = p at *
  generalize (j + 1) * c = q at *
  dsimp only
  omega
theorem PrO.size {L : List (List T3)} (h : PrO L) : (pI L L.length).size ≤ 10000000 := by
  have h1 := pI_le L 64 h.2 L.length (Nat.le_refl _)
  have h2 : L.length * (66 * 64 + 1) ≤ 1000 * (66 * 64 + 1) := Nat.mul_le_mul_right _ h.1
  omega
theorem PrO.weak {L : List (List T3)} (h : PrO L) : ∀ i, i < L.length → (∀ j, j < (pg L i).length → I3 (tg (pg L i) j)) ∧ (pg L i).length ≤ 300000 := fun i hi => ⟨(h.2 i hi).1, Nat.le_trans (h.2 i hi).2 (by omega)⟩
/-- the two makers answer the same, and shortly -/
theorem makersB (zs : List Int) (cut : Int) (hw : W64 zs) (hc2 : cut ≤ 9223372036854775807) : ∃ (L : List (List T3)) (n : Int), PrO L ∧ 0 ≤ n ∧ n < 10 ∧
    (∀ v w, Rd .i64 w v zs → Calls Tryz.prog 99 #[v, .int .i64 cut] w (RetPE w L n)) ∧ (∀ v w, Rd .i64 w v zs → Calls Tryz.prog 82 #[v, .int .i64 cut] w (RetPE w L n)) := by
  rcases shape_cases zs with hb | hb | ⟨ds, rfl, hs⟩
  · exact ⟨[], 1, pro_nil, by omega, by omega, fun v w h => make_bad zs cut v w 1 h hw (.inl ⟨rfl, hb⟩), fun v w h => rplan_bad zs cut v w 1 h hw (.inl ⟨rfl, hb⟩)⟩
  · exact ⟨[], 2, pro_nil, by omega, by omega, fun v w h => make_bad zs cut v w 2 h hw (.inr ⟨rfl, hb⟩), fun v w h => rplan_bad zs cut v w 2 h hw (.inr ⟨rfl, hb⟩)⟩
  · by_cases hz : cut < 1
    · exact ⟨[], 1, pro_nil, by omega, by omega, fun v w h => make_cut ds cut v w h hw hs hz, fun v w h => rplan_cut ds cut v w h hw hs hz⟩
    · by_cases hx : ∀ x, x < ds.length → cntT (lnX ds x) (cutX ds cut x) ≤ 64
      · refine ⟨phs ds cut ds.length, 0, pro_phs ds cut hs (by omega) hs.len3 hx, by omega, by omega, fun v w h => (make_any ds cut v w h hw hs (by omega) hc2).mono ?_, fun v w h => (rplan_any ds cut v w h hw hs (by omega) hc2).mono ?_⟩
        · rintro e w' (⟨_, he⟩ | ⟨⟨x, h1, h2⟩, _⟩)
          · exact he
          · have := hx x h1; omega
        · rintro e w' (⟨_, he⟩ | ⟨⟨x, h1, h2⟩, _⟩)
          · exact he
          · have := hx x h1; omega
      · refine ⟨[], 2, pro_nil, by omega, by omega, fun v w h => (make_any ds cut v w h hw hs (by omega) hc2).mono ?_, fun v w h => (rplan_any ds cut v w h hw hs (by omega) hc2).mono ?_⟩
        · rintro e w' (⟨h1, _⟩ | ⟨_, he⟩)
          · exact absurd h1 hx
          · exact he
        · rintro e w' (⟨h1, _⟩ | ⟨_, he⟩)
          · exact absurd h1 hx
          · exact he
end Go.Proofs.YtdhmmllpldjkbaaGreatDoor.Gm
