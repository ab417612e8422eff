/-
  NARROWER THAN 'FOR EVERY INPUT', by the rows' own cells (each row's printed sentence says how): NttShifts: laid · NttSays: laid · NttBack: laid · ConvSays: laid · ConvTheorem: laid · ManyTurns: laid · ManyOrder: laid · ManyProducts: laid · PlanDoes: laid · ListsOwn: laid.
  DERIVED. THE GIVEN ROWS OF THIS SEAT. 10 by the template 'for every input the law returns true; each argument reads behind the call as it read before'; 0 by the template 'total and deterministic' (their statements: YtkcfnbfkbmgchaaDoorTotals.lean).
  GIVEN WITH THE SEED: the statements are not yours to turn. If you find one false, say at which input.
  Laid BY PROGRAM, IN A SANDBOX (cutbox-rows.mjs): the forced cells as the released guide's own fill.sh prints them over the translation dbf552f0f5a68b87… (all of the seat's roots in one cut). By AI agents, Wed Nov 11 2026. No macro, syntax, notation, axiom, sorry.
-/
import Derived.Test.YtkcfnbfkbmgchaaDoorChecked
import GoSem.Claim
import GoSem.ClaimJoined
import GoSem.ClaimMapViews
import Derived.JoinedTies
import Derived.KernelRfl
namespace Go.Proofs.YtkcfnbfkbmgchaaDoor
/- THE CELL 'sum', in the pinned program and in every row, IS THE sha256 OF THE DUMP (.gsa) THAT YtkcfnbfkbmgchaaDoorProg.lean LOADS. Nothing in Lean hashes anything: it is a label: what it is worth is what the hold of that sum in a sandbox is worth. -/
noncomputable def Tryd.pinned : Pinned := { name := "ytkcfnbfkbmgchaadoor", sum := "dbf552f0f5a68b87b7b3d2737810e9f8929856ae2fe8437b7b8bf83987d639bd", checked := Tryd.checked }
namespace Rows
def none {H : Type} : Left H := { results := [], args := [] }

/- WHAT THE LISTED PACKAGE-LEVEL VARIABLES READ AS WHEN THE CALL BEGINS. Each datum BY PROGRAM (the guide's laid-datum.mjs) off the statement by which the dump's own 'gosem.cut.vars' lays the variable. In a bare row this is a premise. The card (YtkcfnbfkbmgchaaDoorCards.lean) ties it to the program's text. -/
def laid_math_bits_deBruijn32tab {H : Type} : DataW H := .agg [.lit (.int .u8 0), .lit (.int .u8 1), .lit (.int .u8 28), .lit (.int .u8 2), .lit (.int .u8 29), .lit (.int .u8 14), .lit (.int .u8 24), .lit (.int .u8 3), .lit (.int .u8 30), .lit (.int .u8 22), .lit (.int .u8 20), .lit (.int .u8 15), .lit (.int .u8 25), .lit (.int .u8 17), .lit (.int .u8 4), .lit (.int .u8 8), .lit (.int .u8 31), .lit (.int .u8 27), .lit (.int .u8 13), .lit (.int .u8 23), .lit (.int .u8 21), .lit (.int .u8 19), .lit (.int .u8 16), .lit (.int .u8 7), .lit (.int .u8 26), .lit (.int .u8 12), .lit (.int .u8 18), .lit (.int .u8 6), .lit (.int .u8 11), .lit (.int .u8 5), .lit (.int .u8 10), .lit (.int .u8 9)]
def laid_math_bits_deBruijn64tab {H : Type} : DataW H := .agg [.lit (.int .u8 0), .lit (.int .u8 1), .lit (.int .u8 56), .lit (.int .u8 2), .lit (.int .u8 57), .lit (.int .u8 49), .lit (.int .u8 28), .lit (.int .u8 3), .lit (.int .u8 61), .lit (.int .u8 58), .lit (.int .u8 42), .lit (.int .u8 50), .lit (.int .u8 38), .lit (.int .u8 29), .lit (.int .u8 17), .lit (.int .u8 4), .lit (.int .u8 62), .lit (.int .u8 47), .lit (.int .u8 59), .lit (.int .u8 36), .lit (.int .u8 45), .lit (.int .u8 43), .lit (.int .u8 51), .lit (.int .u8 22), .lit (.int .u8 53), .lit (.int .u8 39), .lit (.int .u8 33), .lit (.int .u8 30), .lit (.int .u8 24), .lit (.int .u8 18), .lit (.int .u8 12), .lit (.int .u8 5), .lit (.int .u8 63), .lit (.int .u8 55), .lit (.int .u8 48), .lit (.int .u8 27), .lit (.int .u8 60), .lit (.int .u8 41), .lit (.int .u8 37), .lit (.int .u8 16), .lit (.int .u8 46), .lit (.int .u8 35), .lit (.int .u8 44), .lit (.int .u8 21), .lit (.int .u8 52), .lit (.int .u8 32), .lit (.int .u8 23), .lit (.int .u8 11), .lit (.int .u8 54), .lit (.int .u8 26), .lit (.int .u8 40), .lit (.int .u8 15), .lit (.int .u8 34), .lit (.int .u8 20), .lit (.int .u8 31), .lit (.int .u8 10), .lit (.int .u8 25), .lit (.int .u8 14), .lit (.int .u8 19), .lit (.int .u8 9), .lit (.int .u8 13), .lit (.int .u8 8), .lit (.int .u8 7), .lit (.int .u8 6)]

/-- 'goldkeep.NttShifts': WHATEVER THE INPUT: true; the input reads as it did. -/
def nttShiftsSpec : ChangeSpec := { name := "nttShifts", fn := fun _ => fun
  | [d1, d2, d3] => { results := [.lit (.bool true)], args := [d1, d2, d3] }
  | _ => none }
def nttShiftsRow : OpenClaim := { program := "ytkcfnbfkbmgchaadoor", sum := "dbf552f0f5a68b87b7b3d2737810e9f8929856ae2fe8437b7b8bf83987d639bd", func := "goldmill/goldkeep.NttShifts", spec := "nttShifts", named := ["math/bits.deBruijn32tab", "math/bits.deBruijn64tab"], apart := false, laid := [("math/bits.deBruijn32tab", laid_math_bits_deBruijn32tab), ("math/bits.deBruijn64tab", laid_math_bits_deBruijn64tab)] }
def NttShiftsSaid : Prop := nttShiftsRow.holds Tryd.pinned (OpenSpec.ofChange nttShiftsSpec)

/-- ITS FALSE NEIGHBOUR: 'it returns false'. Refute it at one input. -/
def nttShiftsWrong : ChangeSpec := { name := "nttShifts", fn := fun _ => fun
  | [d1, d2, d3] => { results := [.lit (.bool false)], args := [d1, d2, d3] }
  | _ => none }
def NttShiftsWrongFalsely : Prop := nttShiftsRow.holds Tryd.pinned (OpenSpec.ofChange nttShiftsWrong)

/-- 'goldlaw.NttSays': WHATEVER THE INPUT: true; the input reads as it did. -/
def nttSaysSpec : ChangeSpec := { name := "nttSays", fn := fun _ => fun
  | [d1, d2] => { results := [.lit (.bool true)], args := [d1, d2] }
  | _ => none }
def nttSaysRow : OpenClaim := { program := "ytkcfnbfkbmgchaadoor", sum := "dbf552f0f5a68b87b7b3d2737810e9f8929856ae2fe8437b7b8bf83987d639bd", func := "goldmill/goldlaw.NttSays", spec := "nttSays", named := ["math/bits.deBruijn32tab", "math/bits.deBruijn64tab"], apart := false, laid := [("math/bits.deBruijn32tab", laid_math_bits_deBruijn32tab), ("math/bits.deBruijn64tab", laid_math_bits_deBruijn64tab)] }
def NttSaysSaid : Prop := nttSaysRow.holds Tryd.pinned (OpenSpec.ofChange nttSaysSpec)

/-- ITS FALSE NEIGHBOUR: 'it returns false'. Refute it at one input. -/
def nttSaysWrong : ChangeSpec := { name := "nttSays", fn := fun _ => fun
  | [d1, d2] => { results := [.lit (.bool false)], args := [d1, d2] }
  | _ => none }
def NttSaysWrongFalsely : Prop := nttSaysRow.holds Tryd.pinned (OpenSpec.ofChange nttSaysWrong)

/-- 'goldkeep.NttBack': WHATEVER THE INPUT: true; the input reads as it did. -/
def nttBackSpec : ChangeSpec := { name := "nttBack", fn := fun _ => fun
  | [d1, d2, d3, d4] => { results := [.lit (.bool true)], args := [d1, d2, d3, d4] }
  | _ => none }
def nttBackRow : OpenClaim := { program := "ytkcfnbfkbmgchaadoor", sum := "dbf552f0f5a68b87b7b3d2737810e9f8929856ae2fe8437b7b8bf83987d639bd", func := "goldmill/goldkeep.NttBack", spec := "nttBack", named := ["math/bits.deBruijn32tab", "math/bits.deBruijn64tab"], apart := false, laid := [("math/bits.deBruijn32tab", laid_math_bits_deBruijn32tab), ("math/bits.deBruijn64tab", laid_math_bits_deBruijn64tab)] }
def NttBackSaid : Prop := nttBackRow.holds Tryd.pinned (OpenSpec.ofChange nttBackSpec)

/-- ITS FALSE NEIGHBOUR: 'it returns false'. Refute it at one input. -/
def nttBackWrong : ChangeSpec := { name := "nttBack", fn := fun _ => fun
  | [d1, d2, d3, d4] => { results := [.lit (.bool false)], args := [d1, d2, d3, d4] }
  | _ => none }
def NttBackWrongFalsely : Prop := nttBackRow.holds Tryd.pinned (OpenSpec.ofChange nttBackWrong)

/-- 'goldlaw.ConvSays': WHATEVER THE INPUT: true; the input reads as it did. -/
def convSaysSpec : ChangeSpec := { name := "convSays", fn := fun _ => fun
  | [d1, d2] => { results := [.lit (.bool true)], args := [d1, d2] }
  | _ => none }
def convSaysRow : OpenClaim := { program := "ytkcfnbfkbmgchaadoor", sum := "dbf552f0f5a68b87b7b3d2737810e9f8929856ae2fe8437b7b8bf83987d639bd", func := "goldmill/goldlaw.ConvSays", spec := "convSays", named := ["math/bits.deBruijn32tab", "math/bits.deBruijn64tab"], apart := false, laid := [("math/bits.deBruijn32tab", laid_math_bits_deBruijn32tab), ("math/bits.deBruijn64tab", laid_math_bits_deBruijn64tab)] }
def ConvSaysSaid : Prop := convSaysRow.holds Tryd.pinned (OpenSpec.ofChange convSaysSpec)

/-- ITS FALSE NEIGHBOUR: 'it returns false'. Refute it at one input. -/
def convSaysWrong : ChangeSpec := { name := "convSays", fn := fun _ => fun
  | [d1, d2] => { results := [.lit (.bool false)], args := [d1, d2] }
  | _ => none }
def ConvSaysWrongFalsely : Prop := convSaysRow.holds Tryd.pinned (OpenSpec.ofChange convSaysWrong)

/-- 'goldkeep.ConvTheorem': WHATEVER THE INPUT: true; the input reads as it did. -/
def convTheoremSpec : ChangeSpec := { name := "convTheorem", fn := fun _ => fun
  | [d1, d2, d3] => { results := [.lit (.bool true)], args := [d1, d2, d3] }
  | _ => none }
def convTheoremRow : OpenClaim := { program := "ytkcfnbfkbmgchaadoor", sum := "dbf552f0f5a68b87b7b3d2737810e9f8929856ae2fe8437b7b8bf83987d639bd", func := "goldmill/goldkeep.ConvTheorem", spec := "convTheorem", named := ["math/bits.deBruijn32tab", "math/bits.deBruijn64tab"], apart := false, laid := [("math/bits.deBruijn32tab", laid_math_bits_deBruijn32tab), ("math/bits.deBruijn64tab", laid_math_bits_deBruijn64tab)] }
def ConvTheoremSaid : Prop := convTheoremRow.holds Tryd.pinned (OpenSpec.ofChange convTheoremSpec)

/-- ITS FALSE NEIGHBOUR: 'it returns false'. Refute it at one input. -/
def convTheoremWrong : ChangeSpec := { name := "convTheorem", fn := fun _ => fun
  | [d1, d2, d3] => { results := [.lit (.bool false)], args := [d1, d2, d3] }
  | _ => none }
def ConvTheoremWrongFalsely : Prop := convTheoremRow.holds Tryd.pinned (OpenSpec.ofChange convTheoremWrong)

/-- 'goldlaw.ManyTurns': WHATEVER THE INPUT: true; the input reads as it did. -/
def manyTurnsSpec : ChangeSpec := { name := "manyTurns", fn := fun _ => fun
  | [d1, d2, d3, d4, d5] => { results := [.lit (.bool true)], args := [d1, d2, d3, d4, d5] }
  | _ => none }
def manyTurnsRow : OpenClaim := { program := "ytkcfnbfkbmgchaadoor", sum := "dbf552f0f5a68b87b7b3d2737810e9f8929856ae2fe8437b7b8bf83987d639bd", func := "goldmill/goldlaw.ManyTurns", spec := "manyTurns", unfollowed := true, recurses := true, named := ["math/bits.deBruijn32tab", "math/bits.deBruijn64tab"], apart := false, laid := [("math/bits.deBruijn32tab", laid_math_bits_deBruijn32tab), ("math/bits.deBruijn64tab", laid_math_bits_deBruijn64tab)] }
def ManyTurnsSaid : Prop := manyTurnsRow.holds Tryd.pinned (OpenSpec.ofChange manyTurnsSpec)

/-- ITS FALSE NEIGHBOUR: 'it returns false'. Refute it at one input. -/
def manyTurnsWrong : ChangeSpec := { name := "manyTurns", fn := fun _ => fun
  | [d1, d2, d3, d4, d5] => { results := [.lit (.bool false)], args := [d1, d2, d3, d4, d5] }
  | _ => none }
def ManyTurnsWrongFalsely : Prop := manyTurnsRow.holds Tryd.pinned (OpenSpec.ofChange manyTurnsWrong)

/-- 'goldkeep.ManyOrder': WHATEVER THE INPUT: true; the input reads as it did. -/
def manyOrderSpec : ChangeSpec := { name := "manyOrder", fn := fun _ => fun
  | [d1, d2] => { results := [.lit (.bool true)], args := [d1, d2] }
  | _ => none }
def manyOrderRow : OpenClaim := { program := "ytkcfnbfkbmgchaadoor", sum := "dbf552f0f5a68b87b7b3d2737810e9f8929856ae2fe8437b7b8bf83987d639bd", func := "goldmill/goldkeep.ManyOrder", spec := "manyOrder", unfollowed := true, recurses := true, named := ["math/bits.deBruijn32tab", "math/bits.deBruijn64tab"], apart := false, laid := [("math/bits.deBruijn32tab", laid_math_bits_deBruijn32tab), ("math/bits.deBruijn64tab", laid_math_bits_deBruijn64tab)] }
def ManyOrderSaid : Prop := manyOrderRow.holds Tryd.pinned (OpenSpec.ofChange manyOrderSpec)

/-- ITS FALSE NEIGHBOUR: 'it returns false'. Refute it at one input. -/
def manyOrderWrong : ChangeSpec := { name := "manyOrder", fn := fun _ => fun
  | [d1, d2] => { results := [.lit (.bool false)], args := [d1, d2] }
  | _ => none }
def ManyOrderWrongFalsely : Prop := manyOrderRow.holds Tryd.pinned (OpenSpec.ofChange manyOrderWrong)

/-- 'goldkeep.ManyProducts': WHATEVER THE INPUT: true; the input reads as it did. -/
def manyProductsSpec : ChangeSpec := { name := "manyProducts", fn := fun _ => fun
  | [d1, d2, d3, d4, d5] => { results := [.lit (.bool true)], args := [d1, d2, d3, d4, d5] }
  | _ => none }
def manyProductsRow : OpenClaim := { program := "ytkcfnbfkbmgchaadoor", sum := "dbf552f0f5a68b87b7b3d2737810e9f8929856ae2fe8437b7b8bf83987d639bd", func := "goldmill/goldkeep.ManyProducts", spec := "manyProducts", unfollowed := true, recurses := true, named := ["math/bits.deBruijn32tab", "math/bits.deBruijn64tab"], apart := false, laid := [("math/bits.deBruijn32tab", laid_math_bits_deBruijn32tab), ("math/bits.deBruijn64tab", laid_math_bits_deBruijn64tab)] }
def ManyProductsSaid : Prop := manyProductsRow.holds Tryd.pinned (OpenSpec.ofChange manyProductsSpec)

/-- ITS FALSE NEIGHBOUR: 'it returns false'. Refute it at one input. -/
def manyProductsWrong : ChangeSpec := { name := "manyProducts", fn := fun _ => fun
  | [d1, d2, d3, d4, d5] => { results := [.lit (.bool false)], args := [d1, d2, d3, d4, d5] }
  | _ => none }
def ManyProductsWrongFalsely : Prop := manyProductsRow.holds Tryd.pinned (OpenSpec.ofChange manyProductsWrong)

/-- 'goldlaw.PlanDoes': WHATEVER THE INPUT: true; the input reads as it did. -/
def planDoesSpec : ChangeSpec := { name := "planDoes", fn := fun _ => fun
  | [d1, d2, d3, d4] => { results := [.lit (.bool true)], args := [d1, d2, d3, d4] }
  | _ => none }
def planDoesRow : OpenClaim := { program := "ytkcfnbfkbmgchaadoor", sum := "dbf552f0f5a68b87b7b3d2737810e9f8929856ae2fe8437b7b8bf83987d639bd", func := "goldmill/goldlaw.PlanDoes", spec := "planDoes", unfollowed := true, recurses := true, named := ["math/bits.deBruijn32tab", "math/bits.deBruijn64tab"], apart := false, laid := [("math/bits.deBruijn32tab", laid_math_bits_deBruijn32tab), ("math/bits.deBruijn64tab", laid_math_bits_deBruijn64tab)] }
def PlanDoesSaid : Prop := planDoesRow.holds Tryd.pinned (OpenSpec.ofChange planDoesSpec)

/-- ITS FALSE NEIGHBOUR: 'it returns false'. Refute it at one input. -/
def planDoesWrong : ChangeSpec := { name := "planDoes", fn := fun _ => fun
  | [d1, d2, d3, d4] => { results := [.lit (.bool false)], args := [d1, d2, d3, d4] }
  | _ => none }
def PlanDoesWrongFalsely : Prop := planDoesRow.holds Tryd.pinned (OpenSpec.ofChange planDoesWrong)

/-- 'goldkeep.ListsOwn': WHATEVER THE INPUT: true; the input reads as it did. -/
def listsOwnSpec : ChangeSpec := { name := "listsOwn", fn := fun _ => fun
  | [d1, d2, d3] => { results := [.lit (.bool true)], args := [d1, d2, d3] }
  | _ => none }
def listsOwnRow : OpenClaim := { program := "ytkcfnbfkbmgchaadoor", sum := "dbf552f0f5a68b87b7b3d2737810e9f8929856ae2fe8437b7b8bf83987d639bd", func := "goldmill/goldkeep.ListsOwn", spec := "listsOwn", unfollowed := true, recurses := true, named := ["math/bits.deBruijn32tab", "math/bits.deBruijn64tab"], apart := false, laid := [("math/bits.deBruijn32tab", laid_math_bits_deBruijn32tab), ("math/bits.deBruijn64tab", laid_math_bits_deBruijn64tab)] }
def ListsOwnSaid : Prop := listsOwnRow.holds Tryd.pinned (OpenSpec.ofChange listsOwnSpec)

/-- ITS FALSE NEIGHBOUR: 'it returns false'. Refute it at one input. -/
def listsOwnWrong : ChangeSpec := { name := "listsOwn", fn := fun _ => fun
  | [d1, d2, d3] => { results := [.lit (.bool false)], args := [d1, d2, d3] }
  | _ => none }
def ListsOwnWrongFalsely : Prop := listsOwnRow.holds Tryd.pinned (OpenSpec.ofChange listsOwnWrong)

/- THE SECOND FORM. 'bulk': how many values and letters a reading holds, each counted each time it is reached (what is shared counts as often as it is met; a slice's spare places count too). A statement '..UptoSaid' is the law's where the arguments, and the package variables that the reading takes, are together of bulk at most 1048576: NARROWER than '..Said'. Prove '..Said' where nothing that the law and all that it calls make is longer than what came in: it says more and counts as full. Else prove '..UptoSaid'. A law counts once. -/
mutual
def uptoBulk {H : Type} : DataW H → Nat
  | .lit (.string bytes) => bytes.length + 1
  | .lit _ => 1
  | .nil => 1
  | .ptr d => uptoBulk d + 1
  | .slice elems spare => uptoBulkAll elems + uptoBulkAll spare + 1
  | .agg parts => uptoBulkAll parts + 1
  | .iface _ d => uptoBulk d + 1
  | .map entries => uptoBulkEntries entries + 1
  | .held _ => 1
def uptoBulkAll {H : Type} : List (DataW H) → Nat
  | [] => 0
  | d :: r => uptoBulk d + uptoBulkAll r
def uptoBulkEntries {H : Type} : List (Lit × DataW H) → Nat
  | [] => 0
  | x :: r => uptoBulkEntry x + uptoBulkEntries r
def uptoBulkEntry {H : Type} : Lit × DataW H → Nat
  | (.string bytes, d) => bytes.length + uptoBulk d + 1
  | (_, d) => uptoBulk d + 1
 end
def uptoSmall : (H : Type) → List (DataW H) → Bool := fun _ ds => decide (uptoBulkAll ds ≤ 1048576)
def OpenSpec.upto (s : _root_.Go.ChangeSpec) : _root_.Go.OpenSpec := { _root_.Go.OpenSpec.ofChange s with cond := some uptoSmall }

/-- 'goldkeep.NttShifts', WHERE WHAT IT READS IS OF BULK AT MOST 1048576: true; the input reads as it did. -/
def nttShiftsUptoRow : OpenClaim := { program := "ytkcfnbfkbmgchaadoor", sum := "dbf552f0f5a68b87b7b3d2737810e9f8929856ae2fe8437b7b8bf83987d639bd", func := "goldmill/goldkeep.NttShifts", spec := "nttShifts", named := ["math/bits.deBruijn32tab", "math/bits.deBruijn64tab"], apart := false, laid := [("math/bits.deBruijn32tab", laid_math_bits_deBruijn32tab), ("math/bits.deBruijn64tab", laid_math_bits_deBruijn64tab)], narrowed := true }
def NttShiftsUptoSaid : Prop := nttShiftsUptoRow.holds Tryd.pinned (OpenSpec.upto nttShiftsSpec)

/-- 'goldlaw.NttSays', WHERE WHAT IT READS IS OF BULK AT MOST 1048576: true; the input reads as it did. -/
def nttSaysUptoRow : OpenClaim := { program := "ytkcfnbfkbmgchaadoor", sum := "dbf552f0f5a68b87b7b3d2737810e9f8929856ae2fe8437b7b8bf83987d639bd", func := "goldmill/goldlaw.NttSays", spec := "nttSays", named := ["math/bits.deBruijn32tab", "math/bits.deBruijn64tab"], apart := false, laid := [("math/bits.deBruijn32tab", laid_math_bits_deBruijn32tab), ("math/bits.deBruijn64tab", laid_math_bits_deBruijn64tab)], narrowed := true }
def NttSaysUptoSaid : Prop := nttSaysUptoRow.holds Tryd.pinned (OpenSpec.upto nttSaysSpec)

/-- 'goldkeep.NttBack', WHERE WHAT IT READS IS OF BULK AT MOST 1048576: true; the input reads as it did. -/
def nttBackUptoRow : OpenClaim := { program := "ytkcfnbfkbmgchaadoor", sum := "dbf552f0f5a68b87b7b3d2737810e9f8929856ae2fe8437b7b8bf83987d639bd", func := "goldmill/goldkeep.NttBack", spec := "nttBack", named := ["math/bits.deBruijn32tab", "math/bits.deBruijn64tab"], apart := false, laid := [("math/bits.deBruijn32tab", laid_math_bits_deBruijn32tab), ("math/bits.deBruijn64tab", laid_math_bits_deBruijn64tab)], narrowed := true }
def NttBackUptoSaid : Prop := nttBackUptoRow.holds Tryd.pinned (OpenSpec.upto nttBackSpec)

/-- 'goldlaw.ConvSays', WHERE WHAT IT READS IS OF BULK AT MOST 1048576: true; the input reads as it did. -/
def convSaysUptoRow : OpenClaim := { program := "ytkcfnbfkbmgchaadoor", sum := "dbf552f0f5a68b87b7b3d2737810e9f8929856ae2fe8437b7b8bf83987d639bd", func := "goldmill/goldlaw.ConvSays", spec := "convSays", named := ["math/bits.deBruijn32tab", "math/bits.deBruijn64tab"], apart := false, laid := [("math/bits.deBruijn32tab", laid_math_bits_deBruijn32tab), ("math/bits.deBruijn64tab", laid_math_bits_deBruijn64tab)], narrowed := true }
def ConvSaysUptoSaid : Prop := convSaysUptoRow.holds Tryd.pinned (OpenSpec.upto convSaysSpec)

/-- 'goldkeep.ConvTheorem', WHERE WHAT IT READS IS OF BULK AT MOST 1048576: true; the input reads as it did. -/
def convTheoremUptoRow : OpenClaim := { program := "ytkcfnbfkbmgchaadoor", sum := "dbf552f0f5a68b87b7b3d2737810e9f8929856ae2fe8437b7b8bf83987d639bd", func := "goldmill/goldkeep.ConvTheorem", spec := "convTheorem", named := ["math/bits.deBruijn32tab", "math/bits.deBruijn64tab"], apart := false, laid := [("math/bits.deBruijn32tab", laid_math_bits_deBruijn32tab), ("math/bits.deBruijn64tab", laid_math_bits_deBruijn64tab)], narrowed := true }
def ConvTheoremUptoSaid : Prop := convTheoremUptoRow.holds Tryd.pinned (OpenSpec.upto convTheoremSpec)

/-- 'goldlaw.ManyTurns', WHERE WHAT IT READS IS OF BULK AT MOST 1048576: true; the input reads as it did. -/
def manyTurnsUptoRow : OpenClaim := { program := "ytkcfnbfkbmgchaadoor", sum := "dbf552f0f5a68b87b7b3d2737810e9f8929856ae2fe8437b7b8bf83987d639bd", func := "goldmill/goldlaw.ManyTurns", spec := "manyTurns", unfollowed := true, recurses := true, named := ["math/bits.deBruijn32tab", "math/bits.deBruijn64tab"], apart := false, laid := [("math/bits.deBruijn32tab", laid_math_bits_deBruijn32tab), ("math/bits.deBruijn64tab", laid_math_bits_deBruijn64tab)], narrowed := true }
def ManyTurnsUptoSaid : Prop := manyTurnsUptoRow.holds Tryd.pinned (OpenSpec.upto manyTurnsSpec)

/-- 'goldkeep.ManyOrder', WHERE WHAT IT READS IS OF BULK AT MOST 1048576: true; the input reads as it did. -/
def manyOrderUptoRow : OpenClaim := { program := "ytkcfnbfkbmgchaadoor", sum := "dbf552f0f5a68b87b7b3d2737810e9f8929856ae2fe8437b7b8bf83987d639bd", func := "goldmill/goldkeep.ManyOrder", spec := "manyOrder", unfollowed := true, recurses := true, named := ["math/bits.deBruijn32tab", "math/bits.deBruijn64tab"], apart := false, laid := [("math/bits.deBruijn32tab", laid_math_bits_deBruijn32tab), ("math/bits.deBruijn64tab", laid_math_bits_deBruijn64tab)], narrowed := true }
def ManyOrderUptoSaid : Prop := manyOrderUptoRow.holds Tryd.pinned (OpenSpec.upto manyOrderSpec)

/-- 'goldkeep.ManyProducts', WHERE WHAT IT READS IS OF BULK AT MOST 1048576: true; the input reads as it did. -/
def manyProductsUptoRow : OpenClaim := { program := "ytkcfnbfkbmgchaadoor", sum := "dbf552f0f5a68b87b7b3d2737810e9f8929856ae2fe8437b7b8bf83987d639bd", func := "goldmill/goldkeep.ManyProducts", spec := "manyProducts", unfollowed := true, recurses := true, named := ["math/bits.deBruijn32tab", "math/bits.deBruijn64tab"], apart := false, laid := [("math/bits.deBruijn32tab", laid_math_bits_deBruijn32tab), ("math/bits.deBruijn64tab", laid_math_bits_deBruijn64tab)], narrowed := true }
def ManyProductsUptoSaid : Prop := manyProductsUptoRow.holds Tryd.pinned (OpenSpec.upto manyProductsSpec)

/-- 'goldlaw.PlanDoes', WHERE WHAT IT READS IS OF BULK AT MOST 1048576: true; the input reads as it did. -/
def planDoesUptoRow : OpenClaim := { program := "ytkcfnbfkbmgchaadoor", sum := "dbf552f0f5a68b87b7b3d2737810e9f8929856ae2fe8437b7b8bf83987d639bd", func := "goldmill/goldlaw.PlanDoes", spec := "planDoes", unfollowed := true, recurses := true, named := ["math/bits.deBruijn32tab", "math/bits.deBruijn64tab"], apart := false, laid := [("math/bits.deBruijn32tab", laid_math_bits_deBruijn32tab), ("math/bits.deBruijn64tab", laid_math_bits_deBruijn64tab)], narrowed := true }
def PlanDoesUptoSaid : Prop := planDoesUptoRow.holds Tryd.pinned (OpenSpec.upto planDoesSpec)

/-- 'goldkeep.ListsOwn', WHERE WHAT IT READS IS OF BULK AT MOST 1048576: true; the input reads as it did. -/
def listsOwnUptoRow : OpenClaim := { program := "ytkcfnbfkbmgchaadoor", sum := "dbf552f0f5a68b87b7b3d2737810e9f8929856ae2fe8437b7b8bf83987d639bd", func := "goldmill/goldkeep.ListsOwn", spec := "listsOwn", unfollowed := true, recurses := true, named := ["math/bits.deBruijn32tab", "math/bits.deBruijn64tab"], apart := false, laid := [("math/bits.deBruijn32tab", laid_math_bits_deBruijn32tab), ("math/bits.deBruijn64tab", laid_math_bits_deBruijn64tab)], narrowed := true }
def ListsOwnUptoSaid : Prop := listsOwnUptoRow.holds Tryd.pinned (OpenSpec.upto listsOwnSpec)

end Rows
end Go.Proofs.YtkcfnbfkbmgchaaDoor
