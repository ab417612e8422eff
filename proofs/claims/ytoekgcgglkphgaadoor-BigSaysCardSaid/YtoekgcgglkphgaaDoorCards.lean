/-
  DERIVED. GIVEN WITH THE SEED: THE CARDS: each row of YtoekgcgglkphgaaDoorRows.lean that lists a variable, with what it lists TIED to the program's text (the seventh form; the later family's looks); each row that meets fmt, with fmt's text TOLD by the authors' own Lean function (tested against real Go, not proved from fmt's source: count such statements apart). THE CARD IS WHAT COUNTS. Prove the row's statement (the work); the ties are given (YtoekgcgglkphgaaDoorTie.lean); close each card by the builder's one call (the guide's Derived/Test/ToyasCard.lean, 'card_holds'). Laid BY PROGRAM, IN A SANDBOX (cutbox-door.mjs). By AI agents, Wed Nov 11 2026. No macro, syntax, notation, axiom, sorry.
-/
import Derived.Test.YtoekgcgglkphgaaDoorRows
import GoSem.ClaimSeven
namespace Go.Proofs.YtoekgcgglkphgaaDoor
namespace Rows

/-- THE TIED CARD OF 'goldkeep.BigOrder'. -/
def bigOrderCard : Claim7 := { stood := { row := bigOrderRow, standIns := [], harness := (true, "527bda1136ae1b4b9cb21129325fedb64ecc200ac9cccef5673388aa30e8f414"), looks := true }, kinds := [], alts := [], laidByText := true, laidKinds := [.data, .data, .data, .data, .sentinel, .sentinel, .pinned], laidTests := true, laidLooks := .later }
def BigOrderCardSaid : Prop := Claim7.holds Tryd.pinned (.plain (OpenSpec.ofChange bigOrderSpec)) bigOrderCard

/-- THE TIED CARD OF 'goldkeep.BigLaws'. -/
def bigLawsCard : Claim7 := { stood := { row := bigLawsRow, standIns := [], harness := (true, "527bda1136ae1b4b9cb21129325fedb64ecc200ac9cccef5673388aa30e8f414"), looks := true }, kinds := [], alts := [], laidByText := true, laidKinds := [.data, .data, .data, .data, .sentinel, .sentinel, .pinned], laidTests := true, laidLooks := .later }
def BigLawsCardSaid : Prop := Claim7.holds Tryd.pinned (.plain (OpenSpec.ofChange bigLawsSpec)) bigLawsCard

/-- THE TIED CARD OF 'goldlaw.BigSays'. -/
def bigSaysCard : Claim7 := { stood := { row := bigSaysRow, standIns := [], harness := (true, "527bda1136ae1b4b9cb21129325fedb64ecc200ac9cccef5673388aa30e8f414"), looks := true }, kinds := [], alts := [], laidByText := true, laidKinds := [.data, .data, .data, .data, .sentinel, .sentinel, .pinned], laidTests := true, laidLooks := .later }
def BigSaysCardSaid : Prop := Claim7.holds Tryd.pinned (.plain (OpenSpec.ofChange bigSaysSpec)) bigSaysCard

/-- THE SECOND FORM's CARD OF 'goldkeep.BigOrder'. -/
def bigOrderUptoCard : Claim7 := { stood := { row := bigOrderUptoRow, standIns := [], harness := (true, "527bda1136ae1b4b9cb21129325fedb64ecc200ac9cccef5673388aa30e8f414"), looks := true }, kinds := [], alts := [], laidByText := true, laidKinds := [.data, .data, .data, .data, .sentinel, .sentinel, .pinned], laidTests := true, laidLooks := .later }
def BigOrderUptoCardSaid : Prop := Claim7.holds Tryd.pinned (.plain (OpenSpec.upto bigOrderSpec)) bigOrderUptoCard

/-- THE SECOND FORM's CARD OF 'goldkeep.BigLaws'. -/
def bigLawsUptoCard : Claim7 := { stood := { row := bigLawsUptoRow, standIns := [], harness := (true, "527bda1136ae1b4b9cb21129325fedb64ecc200ac9cccef5673388aa30e8f414"), looks := true }, kinds := [], alts := [], laidByText := true, laidKinds := [.data, .data, .data, .data, .sentinel, .sentinel, .pinned], laidTests := true, laidLooks := .later }
def BigLawsUptoCardSaid : Prop := Claim7.holds Tryd.pinned (.plain (OpenSpec.upto bigLawsSpec)) bigLawsUptoCard

/-- THE SECOND FORM's CARD OF 'goldlaw.BigSays'. -/
def bigSaysUptoCard : Claim7 := { stood := { row := bigSaysUptoRow, standIns := [], harness := (true, "527bda1136ae1b4b9cb21129325fedb64ecc200ac9cccef5673388aa30e8f414"), looks := true }, kinds := [], alts := [], laidByText := true, laidKinds := [.data, .data, .data, .data, .sentinel, .sentinel, .pinned], laidTests := true, laidLooks := .later }
def BigSaysUptoCardSaid : Prop := Claim7.holds Tryd.pinned (.plain (OpenSpec.upto bigSaysSpec)) bigSaysUptoCard
end Rows
end Go.Proofs.YtoekgcgglkphgaaDoor
