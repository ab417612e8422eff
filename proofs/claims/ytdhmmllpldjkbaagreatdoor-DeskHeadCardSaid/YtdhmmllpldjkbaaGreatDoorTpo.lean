/- From the door's condition to the table of powers (seats without phases). -/
import Derived.Test.YtdhmmllpldjkbaaGreatDoorDr
import Derived.Test.YtdhmmllpldjkbaaGreatDoorBt
import Derived.Lib.LaidTab
namespace Go.Proofs.YtdhmmllpldjkbaaGreatDoor.Gm
open Go.ChangeShapes Go.WideShapes Go.ChangeAt Go.RowKit
theorem powG : Tryz.prog.globalNamed "internal/strconv.uint64pow10" = some 3 := by kernel_rfl
theorem powT : (Tryz.prog.globals[3]?).map (·.type) = some 139 := by kernel_rfl
theorem cells_u64 : Tryz.prog.cellsOf 51 = 1 := by kernel_rfl
theorem cells_pow : Tryz.prog.cellsOf 139 = 20 := by kernel_rfl
theorem tp_of {l : List (String × DataW Unit)} {W : World} (h : laidMet Tryz.prog l W) (hx : ("internal/strconv.uint64pow10", Rows.laid_internal_strconv_uint64pow10) ∈ l) : Tp W := by
  obtain ⟨ps, hv, _⟩ := h
  obtain ⟨g, t, cs, fuel, p, hg, ht, hvar, hd⟩ := laid_at hv hx
  obtain rfl := Option.some.inj (powG.symm.trans hg)
  obtain rfl := Option.some.inj (powT.symm.trans ht)
  rw [show (Rows.laid_internal_strconv_uint64pow10 : DataW Unit) = Lib.tabData .u64 Lib.pow10Tab from rfl] at hd
  have hc := Lib.cells_of_tab Tryz.underlying139 Tryz.underlying51 cells_u64 cells_pow hd
  unfold Tp Lib.TabIs
  rw [hvar, ← hc]
end Go.Proofs.YtdhmmllpldjkbaaGreatDoor.Gm
