/-
  DERIVED. GIVEN WITH THE SEED: THE CARDS: each row of YtkkojdcchnailaaGreatDoorRows.lean that lists a variable, with what it lists TIED to the program's text (the seventh form; the later family's looks); each row that meets fmt, with fmt's text TOLD by the authors' own Lean function (tested against real Go, not proved from fmt's source: count such statements apart). THE CARD IS WHAT COUNTS. Prove the row's statement (the work); the ties are given (YtkkojdcchnailaaGreatDoorTie.lean); close each card by the builder's one call (the guide's Derived/Test/ToyasCard.lean, 'card_holds'). Laid BY PROGRAM, IN A SANDBOX (cutbox-door.mjs). By AI agents, Wed Nov 11 2026. No macro, syntax, notation, axiom, sorry.
-/
import Derived.Test.YtkkojdcchnailaaGreatDoorRows
import GoSem.ClaimSeven
namespace Go.Proofs.YtkkojdcchnailaaGreatDoor
namespace Rows

/-- THE TIED CARD OF 'mainsheetlaw24.LiveNames'. -/
def liveNamesCard : Claim7 := { stood := { row := liveNamesRow, standIns := [], harness := (true, "3dda697fd5afe8216d9b21b8e1e5714400f6f49ef5f24aab273c0e7359c04196"), looks := false }, kinds := [], alts := [], laidByText := true, laidKinds := [.data, .widerDeep], laidTests := true, laidLooks := .later }
def LiveNamesCardSaid : Prop := Claim7.holds Tryz.pinned (.plain (OpenSpec.ofChange liveNamesSpec)) liveNamesCard

/-- THE TIED CARD OF 'mainsheetlaw21.CallNames'. -/
def callNamesCard : Claim7 := { stood := { row := callNamesRow, standIns := [], harness := (true, "3dda697fd5afe8216d9b21b8e1e5714400f6f49ef5f24aab273c0e7359c04196"), looks := false }, kinds := [], alts := [], laidByText := true, laidKinds := [.data, .widerDeep], laidTests := true, laidLooks := .later }
def CallNamesCardSaid : Prop := Claim7.holds Tryz.pinned (.plain (OpenSpec.ofChange callNamesSpec)) callNamesCard

/-- THE SECOND FORM's CARD OF 'mainsheetlaw24.LiveNames'. -/
def liveNamesUptoCard : Claim7 := { stood := { row := liveNamesUptoRow, standIns := [], harness := (true, "3dda697fd5afe8216d9b21b8e1e5714400f6f49ef5f24aab273c0e7359c04196"), looks := false }, kinds := [], alts := [], laidByText := true, laidKinds := [.data, .widerDeep], laidTests := true, laidLooks := .later }
def LiveNamesUptoCardSaid : Prop := Claim7.holds Tryz.pinned (.plain (OpenSpec.upto liveNamesSpec)) liveNamesUptoCard

/-- THE SECOND FORM's CARD OF 'mainsheetlaw21.CallNames'. -/
def callNamesUptoCard : Claim7 := { stood := { row := callNamesUptoRow, standIns := [], harness := (true, "3dda697fd5afe8216d9b21b8e1e5714400f6f49ef5f24aab273c0e7359c04196"), looks := false }, kinds := [], alts := [], laidByText := true, laidKinds := [.data, .widerDeep], laidTests := true, laidLooks := .later }
def CallNamesUptoCardSaid : Prop := Claim7.holds Tryz.pinned (.plain (OpenSpec.upto callNamesSpec)) callNamesUptoCard
end Rows
end Go.Proofs.YtkkojdcchnailaaGreatDoor
