/-
  DERIVED. GIVEN WITH THE SEED: THE CARDS: each row of YtcakeenfkdhedaaDoorRows.lean that lists a variable, with what it lists TIED to the program's text (the seventh form; the later family's looks); each row that meets fmt, with fmt's text TOLD by the authors' own Lean function (tested against real Go, not proved from fmt's source: count such statements apart). THE CARD IS WHAT COUNTS. Prove the row's statement (the work); the ties are given (YtcakeenfkdhedaaDoorTie.lean); close each card by the builder's one call (the guide's Derived/Test/ToyasCard.lean, 'card_holds'). Laid BY PROGRAM, IN A SANDBOX (cutbox-door.mjs). By AI agents, Wed Nov 11 2026. No macro, syntax, notation, axiom, sorry.
-/
import Derived.Test.YtcakeenfkdhedaaDoorRows
import GoSem.ClaimSeven
namespace Go.Proofs.YtcakeenfkdhedaaDoor
namespace Rows

/-- THE TIED CARD OF 'goldlaw.PlanSays'. -/
def planSaysCard : Claim7 := { stood := { row := planSaysRow, standIns := [], harness := (true, "c4467f1d3e857c6051abe1c0a3cbb193471769c2bf319ed7891181479d902c85"), looks := false }, kinds := [], alts := [], laidByText := true, laidKinds := [.data, .data, .data], laidTests := true, laidLooks := .later }
def PlanSaysCardSaid : Prop := Claim7.holds Tryd.pinned (.plain (OpenSpec.ofChange planSaysSpec)) planSaysCard

/-- THE TIED CARD OF 'goldlaw.ExecPlays'. -/
def execPlaysCard : Claim7 := { stood := { row := execPlaysRow, standIns := [], harness := (true, "c4467f1d3e857c6051abe1c0a3cbb193471769c2bf319ed7891181479d902c85"), looks := false }, kinds := [], alts := [], laidByText := true, laidKinds := [.data, .data], laidTests := true, laidLooks := .later }
def ExecPlaysCardSaid : Prop := Claim7.holds Tryd.pinned (.plain (OpenSpec.ofChange execPlaysSpec)) execPlaysCard

/-- THE TIED CARD OF 'goldkeep.RunsOwn'. -/
def runsOwnCard : Claim7 := { stood := { row := runsOwnRow, standIns := [], harness := (true, "c4467f1d3e857c6051abe1c0a3cbb193471769c2bf319ed7891181479d902c85"), looks := false }, kinds := [], alts := [], laidByText := true, laidKinds := [.data, .data], laidTests := true, laidLooks := .later }
def RunsOwnCardSaid : Prop := Claim7.holds Tryd.pinned (.plain (OpenSpec.ofChange runsOwnSpec)) runsOwnCard

/-- THE TIED CARD OF 'goldkeep.ExecOnce'. -/
def execOnceCard : Claim7 := { stood := { row := execOnceRow, standIns := [], harness := (true, "c4467f1d3e857c6051abe1c0a3cbb193471769c2bf319ed7891181479d902c85"), looks := false }, kinds := [], alts := [], laidByText := true, laidKinds := [.data, .data], laidTests := true, laidLooks := .later }
def ExecOnceCardSaid : Prop := Claim7.holds Tryd.pinned (.plain (OpenSpec.ofChange execOnceSpec)) execOnceCard

/-- THE TIED CARD OF 'goldkeep.ExecEnds'. -/
def execEndsCard : Claim7 := { stood := { row := execEndsRow, standIns := [], harness := (true, "c4467f1d3e857c6051abe1c0a3cbb193471769c2bf319ed7891181479d902c85"), looks := false }, kinds := [], alts := [], laidByText := true, laidKinds := [.data, .data], laidTests := true, laidLooks := .later }
def ExecEndsCardSaid : Prop := Claim7.holds Tryd.pinned (.plain (OpenSpec.ofChange execEndsSpec)) execEndsCard

/-- THE TIED CARD OF 'goldkeep.PlanWhole'. -/
def planWholeCard : Claim7 := { stood := { row := planWholeRow, standIns := [], harness := (true, "c4467f1d3e857c6051abe1c0a3cbb193471769c2bf319ed7891181479d902c85"), looks := false }, kinds := [], alts := [], laidByText := true, laidKinds := [.data, .data, .data], laidTests := true, laidLooks := .later }
def PlanWholeCardSaid : Prop := Claim7.holds Tryd.pinned (.plain (OpenSpec.ofChange planWholeSpec)) planWholeCard

/-- THE SECOND FORM's CARD OF 'goldlaw.PlanSays'. -/
def planSaysUptoCard : Claim7 := { stood := { row := planSaysUptoRow, standIns := [], harness := (true, "c4467f1d3e857c6051abe1c0a3cbb193471769c2bf319ed7891181479d902c85"), looks := false }, kinds := [], alts := [], laidByText := true, laidKinds := [.data, .data, .data], laidTests := true, laidLooks := .later }
def PlanSaysUptoCardSaid : Prop := Claim7.holds Tryd.pinned (.plain (OpenSpec.upto planSaysSpec)) planSaysUptoCard

/-- THE SECOND FORM's CARD OF 'goldlaw.ExecPlays'. -/
def execPlaysUptoCard : Claim7 := { stood := { row := execPlaysUptoRow, standIns := [], harness := (true, "c4467f1d3e857c6051abe1c0a3cbb193471769c2bf319ed7891181479d902c85"), looks := false }, kinds := [], alts := [], laidByText := true, laidKinds := [.data, .data], laidTests := true, laidLooks := .later }
def ExecPlaysUptoCardSaid : Prop := Claim7.holds Tryd.pinned (.plain (OpenSpec.upto execPlaysSpec)) execPlaysUptoCard

/-- THE SECOND FORM's CARD OF 'goldkeep.RunsOwn'. -/
def runsOwnUptoCard : Claim7 := { stood := { row := runsOwnUptoRow, standIns := [], harness := (true, "c4467f1d3e857c6051abe1c0a3cbb193471769c2bf319ed7891181479d902c85"), looks := false }, kinds := [], alts := [], laidByText := true, laidKinds := [.data, .data], laidTests := true, laidLooks := .later }
def RunsOwnUptoCardSaid : Prop := Claim7.holds Tryd.pinned (.plain (OpenSpec.upto runsOwnSpec)) runsOwnUptoCard

/-- THE SECOND FORM's CARD OF 'goldkeep.ExecOnce'. -/
def execOnceUptoCard : Claim7 := { stood := { row := execOnceUptoRow, standIns := [], harness := (true, "c4467f1d3e857c6051abe1c0a3cbb193471769c2bf319ed7891181479d902c85"), looks := false }, kinds := [], alts := [], laidByText := true, laidKinds := [.data, .data], laidTests := true, laidLooks := .later }
def ExecOnceUptoCardSaid : Prop := Claim7.holds Tryd.pinned (.plain (OpenSpec.upto execOnceSpec)) execOnceUptoCard

/-- THE SECOND FORM's CARD OF 'goldkeep.ExecEnds'. -/
def execEndsUptoCard : Claim7 := { stood := { row := execEndsUptoRow, standIns := [], harness := (true, "c4467f1d3e857c6051abe1c0a3cbb193471769c2bf319ed7891181479d902c85"), looks := false }, kinds := [], alts := [], laidByText := true, laidKinds := [.data, .data], laidTests := true, laidLooks := .later }
def ExecEndsUptoCardSaid : Prop := Claim7.holds Tryd.pinned (.plain (OpenSpec.upto execEndsSpec)) execEndsUptoCard

/-- THE SECOND FORM's CARD OF 'goldkeep.PlanWhole'. -/
def planWholeUptoCard : Claim7 := { stood := { row := planWholeUptoRow, standIns := [], harness := (true, "c4467f1d3e857c6051abe1c0a3cbb193471769c2bf319ed7891181479d902c85"), looks := false }, kinds := [], alts := [], laidByText := true, laidKinds := [.data, .data, .data], laidTests := true, laidLooks := .later }
def PlanWholeUptoCardSaid : Prop := Claim7.holds Tryd.pinned (.plain (OpenSpec.upto planWholeSpec)) planWholeUptoCard
end Rows
end Go.Proofs.YtcakeenfkdhedaaDoor
