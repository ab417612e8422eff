/- From the door's condition to the table of powers (seats without phases). -/
import Derived.Test.YtoekgcgglkphgaaDoorDr
import Derived.Test.YtoekgcgglkphgaaDoorBt
import Derived.Lib.LaidTab
namespace Go.Proofs.YtoekgcgglkphgaaDoor.Gm
open Go.ChangeShapes Go.WideShapes Go.ChangeAt Go.RowKit
theorem powG : Tryd.prog.globalNamed "internal/strconv.uint64pow10" = some 3 := by kernel_rfl
theorem powT : (Tryd.prog.globals[3]?).map (·.type) = some 103 := by kernel_rfl
theorem cells_u64 : Tryd.prog.cellsOf 37 = 1 := by kernel_rfl
theorem cells_pow : Tryd.prog.cellsOf 103 = 20 := by kernel_rfl
theorem tp_of {l : List (String × DataW Unit)} {W : World} (h : laidMet Tryd.prog l W) (hx : ("internal/strconv.uint64pow10", Rows.laid_internal_strconv_uint64pow10) ∈ l) : Tp W := by
  obtain ⟨ps, hv, _⟩ := h
  obtain ⟨g, t, cs, fuel, p, hg, ht, hvar, hd⟩ := laid_at hv hx
  obtain rfl := Option.some.inj (powG.symm.trans hg)
  obtain rfl := Option.some.inj (powT.symm.trans ht)
  rw [show (Rows.laid_internal_strconv_uint64pow10 : DataW Unit) = Lib.tabData .u64 Lib.pow10Tab from rfl] at hd
  have hc := Lib.cells_of_tab Tryd.underlying103 Tryd.underlying37 cells_u64 cells_pow hd
  unfold Tp Lib.TabIs
  rw [hvar, ← hc]
end Go.Proofs.YtoekgcgglkphgaaDoor.Gm
