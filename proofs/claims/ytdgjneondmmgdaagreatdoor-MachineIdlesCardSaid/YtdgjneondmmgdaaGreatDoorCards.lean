/-
  DERIVED. GIVEN WITH THE SEED: THE CARDS: each row of YtdgjneondmmgdaaGreatDoorRows.lean that lists a variable, with what it lists TIED to the program's text (the seventh form; the later family's looks); each row that meets fmt, with fmt's text TOLD by the authors' own Lean function (tested against real Go, not proved from fmt's source: count such statements apart). THE CARD IS WHAT COUNTS. Prove the row's statement (the work); the ties are given (YtdgjneondmmgdaaGreatDoorTie.lean); close each card by the builder's one call (the guide's Derived/Test/ToyasCard.lean, 'card_holds'). Laid BY PROGRAM, IN A SANDBOX (cutbox-door.mjs). By AI agents, Wed Nov 11 2026. No macro, syntax, notation, axiom, sorry.
-/
import Derived.Test.YtdgjneondmmgdaaGreatDoorRows
import GoSem.ClaimSeven
namespace Go.Proofs.YtdgjneondmmgdaaGreatDoor
namespace Rows

/-- THE TIED CARD OF 'mainsheetlaw27.MachineIdles'. -/
def machineIdlesCard : Claim7 := { stood := { row := machineIdlesRow, standIns := [], harness := (true, "33f19a3490f85ca57efd21e95374b805821829351eb0bb78ba9255e8ad43989b"), looks := false }, kinds := [], alts := [], laidByText := true, laidKinds := [.data], laidTests := true, laidLooks := .later }
def MachineIdlesCardSaid : Prop := Claim7.holds Tryz.pinned (.plain (OpenSpec.ofChange machineIdlesSpec)) machineIdlesCard

/-- THE SECOND FORM's CARD OF 'mainsheetlaw27.MachineIdles'. -/
def machineIdlesUptoCard : Claim7 := { stood := { row := machineIdlesUptoRow, standIns := [], harness := (true, "33f19a3490f85ca57efd21e95374b805821829351eb0bb78ba9255e8ad43989b"), looks := false }, kinds := [], alts := [], laidByText := true, laidKinds := [.data], laidTests := true, laidLooks := .later }
def MachineIdlesUptoCardSaid : Prop := Claim7.holds Tryz.pinned (.plain (OpenSpec.upto machineIdlesSpec)) machineIdlesUptoCard
end Rows
end Go.Proofs.YtdgjneondmmgdaaGreatDoor
