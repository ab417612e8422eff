/-
  DERIVED. GIVEN WITH THE SEED: THE CARDS: each row of YtkcfnbfkbmgchaaDoorRows.lean that lists a variable, with what it lists TIED to the program's text (the seventh form; the later family's looks); each row that meets fmt, with fmt's text TOLD by the authors' own Lean function (tested against real Go, not proved from fmt's source: count such statements apart). THE CARD IS WHAT COUNTS. Prove the row's statement (the work); the ties are given (YtkcfnbfkbmgchaaDoorTie.lean); close each card by the builder's one call (the guide's Derived/Test/ToyasCard.lean, 'card_holds'). Laid BY PROGRAM, IN A SANDBOX (cutbox-door.mjs). By AI agents, Wed Nov 11 2026. No macro, syntax, notation, axiom, sorry.
-/
import Derived.Test.YtkcfnbfkbmgchaaDoorRows
import GoSem.ClaimSeven
namespace Go.Proofs.YtkcfnbfkbmgchaaDoor
namespace Rows

/-- THE TIED CARD OF 'goldkeep.NttShifts'. -/
def nttShiftsCard : Claim7 := { stood := { row := nttShiftsRow, standIns := [], harness := (true, "a3a98883e4dbf6075a3b3433a2b686fbb1621833b58f8368bc332a43278559ec"), looks := false }, kinds := [], alts := [], laidByText := true, laidKinds := [.data, .data], laidTests := true, laidLooks := .later }
def NttShiftsCardSaid : Prop := Claim7.holds Tryd.pinned (.plain (OpenSpec.ofChange nttShiftsSpec)) nttShiftsCard

/-- THE TIED CARD OF 'goldlaw.NttSays'. -/
def nttSaysCard : Claim7 := { stood := { row := nttSaysRow, standIns := [], harness := (true, "a3a98883e4dbf6075a3b3433a2b686fbb1621833b58f8368bc332a43278559ec"), looks := false }, kinds := [], alts := [], laidByText := true, laidKinds := [.data, .data], laidTests := true, laidLooks := .later }
def NttSaysCardSaid : Prop := Claim7.holds Tryd.pinned (.plain (OpenSpec.ofChange nttSaysSpec)) nttSaysCard

/-- THE TIED CARD OF 'goldkeep.NttBack'. -/
def nttBackCard : Claim7 := { stood := { row := nttBackRow, standIns := [], harness := (true, "a3a98883e4dbf6075a3b3433a2b686fbb1621833b58f8368bc332a43278559ec"), looks := false }, kinds := [], alts := [], laidByText := true, laidKinds := [.data, .data], laidTests := true, laidLooks := .later }
def NttBackCardSaid : Prop := Claim7.holds Tryd.pinned (.plain (OpenSpec.ofChange nttBackSpec)) nttBackCard

/-- THE TIED CARD OF 'goldlaw.ConvSays'. -/
def convSaysCard : Claim7 := { stood := { row := convSaysRow, standIns := [], harness := (true, "a3a98883e4dbf6075a3b3433a2b686fbb1621833b58f8368bc332a43278559ec"), looks := false }, kinds := [], alts := [], laidByText := true, laidKinds := [.data, .data], laidTests := true, laidLooks := .later }
def ConvSaysCardSaid : Prop := Claim7.holds Tryd.pinned (.plain (OpenSpec.ofChange convSaysSpec)) convSaysCard

/-- THE TIED CARD OF 'goldkeep.ConvTheorem'. -/
def convTheoremCard : Claim7 := { stood := { row := convTheoremRow, standIns := [], harness := (true, "a3a98883e4dbf6075a3b3433a2b686fbb1621833b58f8368bc332a43278559ec"), looks := false }, kinds := [], alts := [], laidByText := true, laidKinds := [.data, .data], laidTests := true, laidLooks := .later }
def ConvTheoremCardSaid : Prop := Claim7.holds Tryd.pinned (.plain (OpenSpec.ofChange convTheoremSpec)) convTheoremCard

/-- THE TIED CARD OF 'goldlaw.ManyTurns'. -/
def manyTurnsCard : Claim7 := { stood := { row := manyTurnsRow, standIns := [], harness := (true, "a3a98883e4dbf6075a3b3433a2b686fbb1621833b58f8368bc332a43278559ec"), looks := false }, kinds := [], alts := [], laidByText := true, laidKinds := [.data, .data], laidTests := true, laidLooks := .later }
def ManyTurnsCardSaid : Prop := Claim7.holds Tryd.pinned (.plain (OpenSpec.ofChange manyTurnsSpec)) manyTurnsCard

/-- THE TIED CARD OF 'goldkeep.ManyOrder'. -/
def manyOrderCard : Claim7 := { stood := { row := manyOrderRow, standIns := [], harness := (true, "a3a98883e4dbf6075a3b3433a2b686fbb1621833b58f8368bc332a43278559ec"), looks := false }, kinds := [], alts := [], laidByText := true, laidKinds := [.data, .data], laidTests := true, laidLooks := .later }
def ManyOrderCardSaid : Prop := Claim7.holds Tryd.pinned (.plain (OpenSpec.ofChange manyOrderSpec)) manyOrderCard

/-- THE TIED CARD OF 'goldkeep.ManyProducts'. -/
def manyProductsCard : Claim7 := { stood := { row := manyProductsRow, standIns := [], harness := (true, "a3a98883e4dbf6075a3b3433a2b686fbb1621833b58f8368bc332a43278559ec"), looks := false }, kinds := [], alts := [], laidByText := true, laidKinds := [.data, .data], laidTests := true, laidLooks := .later }
def ManyProductsCardSaid : Prop := Claim7.holds Tryd.pinned (.plain (OpenSpec.ofChange manyProductsSpec)) manyProductsCard

/-- THE TIED CARD OF 'goldlaw.PlanDoes'. -/
def planDoesCard : Claim7 := { stood := { row := planDoesRow, standIns := [], harness := (true, "a3a98883e4dbf6075a3b3433a2b686fbb1621833b58f8368bc332a43278559ec"), looks := false }, kinds := [], alts := [], laidByText := true, laidKinds := [.data, .data], laidTests := true, laidLooks := .later }
def PlanDoesCardSaid : Prop := Claim7.holds Tryd.pinned (.plain (OpenSpec.ofChange planDoesSpec)) planDoesCard

/-- THE TIED CARD OF 'goldkeep.ListsOwn'. -/
def listsOwnCard : Claim7 := { stood := { row := listsOwnRow, standIns := [], harness := (true, "a3a98883e4dbf6075a3b3433a2b686fbb1621833b58f8368bc332a43278559ec"), looks := false }, kinds := [], alts := [], laidByText := true, laidKinds := [.data, .data], laidTests := true, laidLooks := .later }
def ListsOwnCardSaid : Prop := Claim7.holds Tryd.pinned (.plain (OpenSpec.ofChange listsOwnSpec)) listsOwnCard

/-- THE SECOND FORM's CARD OF 'goldkeep.NttShifts'. -/
def nttShiftsUptoCard : Claim7 := { stood := { row := nttShiftsUptoRow, standIns := [], harness := (true, "a3a98883e4dbf6075a3b3433a2b686fbb1621833b58f8368bc332a43278559ec"), looks := false }, kinds := [], alts := [], laidByText := true, laidKinds := [.data, .data], laidTests := true, laidLooks := .later }
def NttShiftsUptoCardSaid : Prop := Claim7.holds Tryd.pinned (.plain (OpenSpec.upto nttShiftsSpec)) nttShiftsUptoCard

/-- THE SECOND FORM's CARD OF 'goldlaw.NttSays'. -/
def nttSaysUptoCard : Claim7 := { stood := { row := nttSaysUptoRow, standIns := [], harness := (true, "a3a98883e4dbf6075a3b3433a2b686fbb1621833b58f8368bc332a43278559ec"), looks := false }, kinds := [], alts := [], laidByText := true, laidKinds := [.data, .data], laidTests := true, laidLooks := .later }
def NttSaysUptoCardSaid : Prop := Claim7.holds Tryd.pinned (.plain (OpenSpec.upto nttSaysSpec)) nttSaysUptoCard

/-- THE SECOND FORM's CARD OF 'goldkeep.NttBack'. -/
def nttBackUptoCard : Claim7 := { stood := { row := nttBackUptoRow, standIns := [], harness := (true, "a3a98883e4dbf6075a3b3433a2b686fbb1621833b58f8368bc332a43278559ec"), looks := false }, kinds := [], alts := [], laidByText := true, laidKinds := [.data, .data], laidTests := true, laidLooks := .later }
def NttBackUptoCardSaid : Prop := Claim7.holds Tryd.pinned (.plain (OpenSpec.upto nttBackSpec)) nttBackUptoCard

/-- THE SECOND FORM's CARD OF 'goldlaw.ConvSays'. -/
def convSaysUptoCard : Claim7 := { stood := { row := convSaysUptoRow, standIns := [], harness := (true, "a3a98883e4dbf6075a3b3433a2b686fbb1621833b58f8368bc332a43278559ec"), looks := false }, kinds := [], alts := [], laidByText := true, laidKinds := [.data, .data], laidTests := true, laidLooks := .later }
def ConvSaysUptoCardSaid : Prop := Claim7.holds Tryd.pinned (.plain (OpenSpec.upto convSaysSpec)) convSaysUptoCard

/-- THE SECOND FORM's CARD OF 'goldkeep.ConvTheorem'. -/
def convTheoremUptoCard : Claim7 := { stood := { row := convTheoremUptoRow, standIns := [], harness := (true, "a3a98883e4dbf6075a3b3433a2b686fbb1621833b58f8368bc332a43278559ec"), looks := false }, kinds := [], alts := [], laidByText := true, laidKinds := [.data, .data], laidTests := true, laidLooks := .later }
def ConvTheoremUptoCardSaid : Prop := Claim7.holds Tryd.pinned (.plain (OpenSpec.upto convTheoremSpec)) convTheoremUptoCard

/-- THE SECOND FORM's CARD OF 'goldlaw.ManyTurns'. -/
def manyTurnsUptoCard : Claim7 := { stood := { row := manyTurnsUptoRow, standIns := [], harness := (true, "a3a98883e4dbf6075a3b3433a2b686fbb1621833b58f8368bc332a43278559ec"), looks := false }, kinds := [], alts := [], laidByText := true, laidKinds := [.data, .data], laidTests := true, laidLooks := .later }
def ManyTurnsUptoCardSaid : Prop := Claim7.holds Tryd.pinned (.plain (OpenSpec.upto manyTurnsSpec)) manyTurnsUptoCard

/-- THE SECOND FORM's CARD OF 'goldkeep.ManyOrder'. -/
def manyOrderUptoCard : Claim7 := { stood := { row := manyOrderUptoRow, standIns := [], harness := (true, "a3a98883e4dbf6075a3b3433a2b686fbb1621833b58f8368bc332a43278559ec"), looks := false }, kinds := [], alts := [], laidByText := true, laidKinds := [.data, .data], laidTests := true, laidLooks := .later }
def ManyOrderUptoCardSaid : Prop := Claim7.holds Tryd.pinned (.plain (OpenSpec.upto manyOrderSpec)) manyOrderUptoCard

/-- THE SECOND FORM's CARD OF 'goldkeep.ManyProducts'. -/
def manyProductsUptoCard : Claim7 := { stood := { row := manyProductsUptoRow, standIns := [], harness := (true, "a3a98883e4dbf6075a3b3433a2b686fbb1621833b58f8368bc332a43278559ec"), looks := false }, kinds := [], alts := [], laidByText := true, laidKinds := [.data, .data], laidTests := true, laidLooks := .later }
def ManyProductsUptoCardSaid : Prop := Claim7.holds Tryd.pinned (.plain (OpenSpec.upto manyProductsSpec)) manyProductsUptoCard

/-- THE SECOND FORM's CARD OF 'goldlaw.PlanDoes'. -/
def planDoesUptoCard : Claim7 := { stood := { row := planDoesUptoRow, standIns := [], harness := (true, "a3a98883e4dbf6075a3b3433a2b686fbb1621833b58f8368bc332a43278559ec"), looks := false }, kinds := [], alts := [], laidByText := true, laidKinds := [.data, .data], laidTests := true, laidLooks := .later }
def PlanDoesUptoCardSaid : Prop := Claim7.holds Tryd.pinned (.plain (OpenSpec.upto planDoesSpec)) planDoesUptoCard

/-- THE SECOND FORM's CARD OF 'goldkeep.ListsOwn'. -/
def listsOwnUptoCard : Claim7 := { stood := { row := listsOwnUptoRow, standIns := [], harness := (true, "a3a98883e4dbf6075a3b3433a2b686fbb1621833b58f8368bc332a43278559ec"), looks := false }, kinds := [], alts := [], laidByText := true, laidKinds := [.data, .data], laidTests := true, laidLooks := .later }
def ListsOwnUptoCardSaid : Prop := Claim7.holds Tryd.pinned (.plain (OpenSpec.upto listsOwnSpec)) listsOwnUptoCard
end Rows
end Go.Proofs.YtkcfnbfkbmgchaaDoor
