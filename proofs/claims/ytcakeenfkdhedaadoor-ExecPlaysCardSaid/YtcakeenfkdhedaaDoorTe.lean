/- slices.Equal over tasks: the same. -/
import Derived.Test.YtcakeenfkdhedaaDoorGd
namespace Go.Proofs.YtcakeenfkdhedaaDoor.Gm
open Go.RowKit
set_option linter.unusedVariables false
set_option maxHeartbeats 1000000 in
theorem equalT_yes (l : List T3) (v1 v2 : Value) (w : World) (h1 : Rk w v1 l) (h2 : Rk w v2 l) :
    Calls Tryd.prog 26 #[v1, v2] w (RetV w (.bool true)) := by
  obtain ⟨a, cap, b, off, rfl, hcap, hm, hx, hc⟩ := h1
  obtain ⟨a', cap', b', off', rfl, hcap', hm', hx', hc'⟩ := h2
  obtain ⟨n, hnl⟩ : ∃ n, n = l.length := ⟨_, rfl⟩
  have HL := Lib.hid hnl
  have Hc := Lib.hid hc
  have Hc' := Lib.hid hc'
  rw [← hnl] at hcap hx hcap' hx' ⊢
  clear hc hc' hnl
  go_enter Tryd.func26, Tryd.ntmps26
  go_wp2
  go_loopw [5, 13] (fun _ i wr => CntB n w i wr) (fun _ i _ => n - (intOf i).toNat)
  case atStart => exact ⟨0, by omega, rfl, Below.refl _ _⟩
  case round =>
    obtain ⟨k, hk, rfl, hbel⟩ := hrel
    by_cases hlt : k < n
    · obtain rfl := hx.resolve_left (by omega)
      obtain rfl := hx'.resolve_left (by omega)
      obtain ⟨c0, c1, c2⟩ := Hc.out k (by rw [← HL.out]; exact hlt)
      obtain ⟨d0, d1, d2⟩ := Hc'.out k (by rw [← HL.out]; exact hlt)
      have c0 := (hbel.cell (World.block_lt_of_cell? _ _ c0)).trans c0
      have c1 := (hbel.cell (World.block_lt_of_cell? _ _ c1)).trans c1
      have c2 := (hbel.cell (World.block_lt_of_cell? _ _ c2)).trans c2
      have d0 := (hbel.cell (World.block_lt_of_cell? _ _ d0)).trans d0
      have d1 := (hbel.cell (World.block_lt_of_cell? _ _ d1)).trans d1
      have d2 := (hbel.cell (World.block_lt_of_cell? _ _ d2)).trans d2
      have Hb := Lib.hid hbel
      generalize (tg l k).1 = y0 at *
      generalize (tg l k).2.1 = y1 at *
      generalize (tg l k).2.2 = y2 at *
      clear hbel
      go_wp2
      go_quiet (fail)
      go_wp2
      go_roundw
      case rel => exact ⟨k + 1, by omega, by go_num, below_drewN Hb.out _⟩
      case measure => simp [intOf] <;> omega
    · obtain rfl : k = n := by omega
      go_wp2
      go_ret
      exact ⟨rfl, hbel⟩
end Go.Proofs.YtcakeenfkdhedaaDoor.Gm
