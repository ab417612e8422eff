/- slices.Equal of ints; slices.EqualFunc of lists of ints. -/
import Derived.Test.YtcakeenfkdhedaaDoorGd
import Derived.Test.YtcakeenfkdhedaaDoorGb
namespace Go.Proofs.YtcakeenfkdhedaaDoor.Gm
open Go.RowKit
set_option maxHeartbeats 1000000 in
theorem equalI_yes (zs : List Int) (v1 v2 : Value) (w : World) (h1 : Rd .i64 w v1 zs) (h2 : Rd .i64 w v2 zs) :
    Calls Tryd.prog 33 #[v1, v2] w (RetV w (.bool true)) := by
  obtain ⟨a, cap, b, off, rfl, hcap, hm, hx, hc⟩ := h1.opened
  obtain ⟨a', cap', b', off', rfl, hcap', hm', hx', hc'⟩ := h2.opened
  have Hc := Lib.hid hc
  have Hc' := Lib.hid hc'
  clear hc hc' h1 h2
  by_cases h0 : zs.length = 0
  · have e : zs = [] := List.length_eq_zero_iff.1 h0
    subst e
    clear Hc Hc' hx hx' h0
    go_enter Tryd.func33, Tryd.ntmps33
    go_wp2
    refine wp_loop_rounds 1 ?_
    rw [rounds_succ]
    go_wp2
    go_ret
    exact ⟨rfl, Below.refl _ _⟩
  · rcases hx with hx | rfl
    · exfalso; omega
    rcases hx' with hx' | rfl
    · exfalso; omega
    go_enter Tryd.func33, Tryd.ntmps33
    go_wp2
    go_loopw [5, 13] (fun _ i wr => CntB zs.length w i wr) (fun _ i _ => zs.length - (intOf i).toNat)
    case atStart => exact ⟨0, by omega, rfl, Below.refl _ _⟩
    case round =>
      obtain ⟨k, hk, rfl, hbel⟩ := hrel
      by_cases hlt : k < zs.length
      · have hcw := Hc.out k hlt
        have hck : wr.cell? ⟨b, off + k, none⟩ = some (.int .i64 (gd zs k)) := (hbel.cell (World.block_lt_of_cell? _ _ hcw)).trans hcw
        have hcw' := Hc'.out k hlt
        have hck' : wr.cell? ⟨b', off' + k, none⟩ = some (.int .i64 (gd zs k)) := (hbel.cell (World.block_lt_of_cell? _ _ hcw')).trans hcw'
        have Hb := Lib.hid hbel
        clear hcw hcw' hbel
        go_wp2
        go_quiet (fail)
        go_wp2
        go_roundw
        case rel => exact ⟨k + 1, by omega, by go_num, below_drewN Hb.out _⟩
        case measure => simp [intOf] <;> omega
      · obtain rfl : k = zs.length := by omega
        have Hb := Lib.hid hbel
        clear hbel
        go_wp2
        go_ret
        exact ⟨rfl, Hb.out⟩
end Go.Proofs.YtcakeenfkdhedaaDoor.Gm
