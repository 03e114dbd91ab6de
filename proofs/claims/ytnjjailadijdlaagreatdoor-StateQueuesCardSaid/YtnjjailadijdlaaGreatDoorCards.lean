/-
  DERIVED. GIVEN WITH THE SEED: THE CARDS: each row of YtnjjailadijdlaaGreatDoorRows.lean that lists a variable, with what it lists TIED to the program's text (the seventh form; the later family's looks); each row that meets fmt, with fmt's text TOLD by the authors' own Lean function (tested against real Go, not proved from fmt's source: count such statements apart). THE CARD IS WHAT COUNTS. Prove the row's statement (the work); the ties are given (YtnjjailadijdlaaGreatDoorTie.lean); close each card by the builder's one call (the guide's Derived/Test/ToyasCard.lean, 'card_holds'). Laid BY PROGRAM, IN A SANDBOX (cutbox-door.mjs). By AI agents, Wed Nov 11 2026. No macro, syntax, notation, axiom, sorry.
-/
import Derived.Test.YtnjjailadijdlaaGreatDoorRows
import GoSem.ClaimSeven
namespace Go.Proofs.YtnjjailadijdlaaGreatDoor
namespace Rows

/-- THE TIED CARD OF 'mainsheetlaw20.StateNews'. -/
def stateNewsCard : Claim7 := { stood := { row := stateNewsRow, standIns := [], harness := (true, "61fb5b12dc8f0af1adb30342621242e883a2d8376440bbf0aae89587c7d2baca"), looks := false }, kinds := [], alts := [], laidByText := true, laidKinds := [.data], laidTests := true, laidLooks := .later }
def StateNewsCardSaid : Prop := Claim7.holds Tryz.pinned (.plain (OpenSpec.ofChange stateNewsSpec)) stateNewsCard

/-- THE TIED CARD OF 'mainsheetlaw20.StateChecks'. -/
def stateChecksCard : Claim7 := { stood := { row := stateChecksRow, standIns := [], harness := (true, "61fb5b12dc8f0af1adb30342621242e883a2d8376440bbf0aae89587c7d2baca"), looks := false }, kinds := [], alts := [], laidByText := true, laidKinds := [.data], laidTests := true, laidLooks := .later }
def StateChecksCardSaid : Prop := Claim7.holds Tryz.pinned (.plain (OpenSpec.ofChange stateChecksSpec)) stateChecksCard

/-- THE TIED CARD OF 'mainsheetlaw20.StateTells'. -/
def stateTellsCard : Claim7 := { stood := { row := stateTellsRow, standIns := [], harness := (true, "61fb5b12dc8f0af1adb30342621242e883a2d8376440bbf0aae89587c7d2baca"), looks := false }, kinds := [], alts := [], laidByText := true, laidKinds := [.data], laidTests := true, laidLooks := .later }
def StateTellsCardSaid : Prop := Claim7.holds Tryz.pinned (.plain (OpenSpec.ofChange stateTellsSpec)) stateTellsCard

/-- THE TIED CARD OF 'mainsheetlaw20.StateQueues'. -/
def stateQueuesCard : Claim7 := { stood := { row := stateQueuesRow, standIns := [], harness := (true, "61fb5b12dc8f0af1adb30342621242e883a2d8376440bbf0aae89587c7d2baca"), looks := false }, kinds := [], alts := [], laidByText := true, laidKinds := [.data], laidTests := true, laidLooks := .later }
def StateQueuesCardSaid : Prop := Claim7.holds Tryz.pinned (.plain (OpenSpec.ofChange stateQueuesSpec)) stateQueuesCard

/-- THE TIED CARD OF 'mainsheetlaw20.StateStays'. -/
def stateStaysCard : Claim7 := { stood := { row := stateStaysRow, standIns := [], harness := (true, "61fb5b12dc8f0af1adb30342621242e883a2d8376440bbf0aae89587c7d2baca"), looks := false }, kinds := [], alts := [], laidByText := true, laidKinds := [.data], laidTests := true, laidLooks := .later }
def StateStaysCardSaid : Prop := Claim7.holds Tryz.pinned (.plain (OpenSpec.ofChange stateStaysSpec)) stateStaysCard

/-- THE TIED CARD OF 'mainsheetlaw20.StateWhole'. -/
def stateWholeCard : Claim7 := { stood := { row := stateWholeRow, standIns := [], harness := (true, "61fb5b12dc8f0af1adb30342621242e883a2d8376440bbf0aae89587c7d2baca"), looks := false }, kinds := [], alts := [], laidByText := true, laidKinds := [.data], laidTests := true, laidLooks := .later }
def StateWholeCardSaid : Prop := Claim7.holds Tryz.pinned (.plain (OpenSpec.ofChange stateWholeSpec)) stateWholeCard

/-- THE TIED CARD OF 'mainsheetlaw20.StateWakes'. -/
def stateWakesCard : Claim7 := { stood := { row := stateWakesRow, standIns := [], harness := (true, "61fb5b12dc8f0af1adb30342621242e883a2d8376440bbf0aae89587c7d2baca"), looks := false }, kinds := [], alts := [], laidByText := true, laidKinds := [.data], laidTests := true, laidLooks := .later }
def StateWakesCardSaid : Prop := Claim7.holds Tryz.pinned (.plain (OpenSpec.ofChange stateWakesSpec)) stateWakesCard

/-- THE SECOND FORM's CARD OF 'mainsheetlaw20.StateNews'. -/
def stateNewsUptoCard : Claim7 := { stood := { row := stateNewsUptoRow, standIns := [], harness := (true, "61fb5b12dc8f0af1adb30342621242e883a2d8376440bbf0aae89587c7d2baca"), looks := false }, kinds := [], alts := [], laidByText := true, laidKinds := [.data], laidTests := true, laidLooks := .later }
def StateNewsUptoCardSaid : Prop := Claim7.holds Tryz.pinned (.plain (OpenSpec.upto stateNewsSpec)) stateNewsUptoCard

/-- THE SECOND FORM's CARD OF 'mainsheetlaw20.StateChecks'. -/
def stateChecksUptoCard : Claim7 := { stood := { row := stateChecksUptoRow, standIns := [], harness := (true, "61fb5b12dc8f0af1adb30342621242e883a2d8376440bbf0aae89587c7d2baca"), looks := false }, kinds := [], alts := [], laidByText := true, laidKinds := [.data], laidTests := true, laidLooks := .later }
def StateChecksUptoCardSaid : Prop := Claim7.holds Tryz.pinned (.plain (OpenSpec.upto stateChecksSpec)) stateChecksUptoCard

/-- THE SECOND FORM's CARD OF 'mainsheetlaw20.StateTells'. -/
def stateTellsUptoCard : Claim7 := { stood := { row := stateTellsUptoRow, standIns := [], harness := (true, "61fb5b12dc8f0af1adb30342621242e883a2d8376440bbf0aae89587c7d2baca"), looks := false }, kinds := [], alts := [], laidByText := true, laidKinds := [.data], laidTests := true, laidLooks := .later }
def StateTellsUptoCardSaid : Prop := Claim7.holds Tryz.pinned (.plain (OpenSpec.upto stateTellsSpec)) stateTellsUptoCard

/-- THE SECOND FORM's CARD OF 'mainsheetlaw20.StateQueues'. -/
def stateQueuesUptoCard : Claim7 := { stood := { row := stateQueuesUptoRow, standIns := [], harness := (true, "61fb5b12dc8f0af1adb30342621242e883a2d8376440bbf0aae89587c7d2baca"), looks := false }, kinds := [], alts := [], laidByText := true, laidKinds := [.data], laidTests := true, laidLooks := .later }
def StateQueuesUptoCardSaid : Prop := Claim7.holds Tryz.pinned (.plain (OpenSpec.upto stateQueuesSpec)) stateQueuesUptoCard

/-- THE SECOND FORM's CARD OF 'mainsheetlaw20.StateStays'. -/
def stateStaysUptoCard : Claim7 := { stood := { row := stateStaysUptoRow, standIns := [], harness := (true, "61fb5b12dc8f0af1adb30342621242e883a2d8376440bbf0aae89587c7d2baca"), looks := false }, kinds := [], alts := [], laidByText := true, laidKinds := [.data], laidTests := true, laidLooks := .later }
def StateStaysUptoCardSaid : Prop := Claim7.holds Tryz.pinned (.plain (OpenSpec.upto stateStaysSpec)) stateStaysUptoCard

/-- THE SECOND FORM's CARD OF 'mainsheetlaw20.StateWhole'. -/
def stateWholeUptoCard : Claim7 := { stood := { row := stateWholeUptoRow, standIns := [], harness := (true, "61fb5b12dc8f0af1adb30342621242e883a2d8376440bbf0aae89587c7d2baca"), looks := false }, kinds := [], alts := [], laidByText := true, laidKinds := [.data], laidTests := true, laidLooks := .later }
def StateWholeUptoCardSaid : Prop := Claim7.holds Tryz.pinned (.plain (OpenSpec.upto stateWholeSpec)) stateWholeUptoCard

/-- THE SECOND FORM's CARD OF 'mainsheetlaw20.StateWakes'. -/
def stateWakesUptoCard : Claim7 := { stood := { row := stateWakesUptoRow, standIns := [], harness := (true, "61fb5b12dc8f0af1adb30342621242e883a2d8376440bbf0aae89587c7d2baca"), looks := false }, kinds := [], alts := [], laidByText := true, laidKinds := [.data], laidTests := true, laidLooks := .later }
def StateWakesUptoCardSaid : Prop := Claim7.holds Tryz.pinned (.plain (OpenSpec.upto stateWakesSpec)) stateWakesUptoCard
end Rows
end Go.Proofs.YtnjjailadijdlaaGreatDoor
