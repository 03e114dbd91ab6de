/-
  DERIVED. GIVEN WITH THE SEED: THE CARDS: each row of YtpeekgekmjldlaaDoorRows.lean that lists a variable, with what it lists TIED to the program's text (the seventh form; the later family's looks); each row that meets fmt, with fmt's text TOLD by the authors' own Lean function (tested against real Go, not proved from fmt's source: count such statements apart). THE CARD IS WHAT COUNTS. Prove the row's statement (the work); the ties are given (YtpeekgekmjldlaaDoorTie.lean); close each card by the builder's one call (the guide's Derived/Test/ToyasCard.lean, 'card_holds'). Laid BY PROGRAM, IN A SANDBOX (cutbox-door.mjs). By AI agents, Wed Nov 11 2026. No macro, syntax, notation, axiom, sorry.
-/
import Derived.Test.YtpeekgekmjldlaaDoorRows
import GoSem.ClaimSeven
namespace Go.Proofs.YtpeekgekmjldlaaDoor
namespace Rows

/-- THE TIED CARD OF 'mainsheetlaw02.ClockAdds'. -/
def clockAddsCard : Claim7 := { stood := { row := clockAddsRow, standIns := [], harness := (true, "830965a2c2084d7bf68e810bdb2f04e4840b9f7f0e0391f649d75d6548120833"), looks := true }, kinds := [], alts := [], laidByText := true, laidKinds := [.data, .data, .data, .data, .pinned], laidTests := true, laidLooks := .later }
def ClockAddsCardSaid : Prop := Claim7.holds Tryd.pinned (.plain (OpenSpec.ofChange clockAddsSpec)) clockAddsCard

/-- THE TIED CARD OF 'mainsheetlaw02.ClockBack'. -/
def clockBackCard : Claim7 := { stood := { row := clockBackRow, standIns := [], harness := (true, "830965a2c2084d7bf68e810bdb2f04e4840b9f7f0e0391f649d75d6548120833"), looks := true }, kinds := [], alts := [], laidByText := true, laidKinds := [.data, .data, .data, .data, .pinned], laidTests := true, laidLooks := .later }
def ClockBackCardSaid : Prop := Claim7.holds Tryd.pinned (.plain (OpenSpec.ofChange clockBackSpec)) clockBackCard

/-- THE TIED CARD OF 'mainsheetlaw02.ClockTimes'. -/
def clockTimesCard : Claim7 := { stood := { row := clockTimesRow, standIns := [], harness := (true, "830965a2c2084d7bf68e810bdb2f04e4840b9f7f0e0391f649d75d6548120833"), looks := true }, kinds := [], alts := [], laidByText := true, laidKinds := [.data, .data, .data, .data, .pinned], laidTests := true, laidLooks := .later }
def ClockTimesCardSaid : Prop := Claim7.holds Tryd.pinned (.plain (OpenSpec.ofChange clockTimesSpec)) clockTimesCard

/-- THE TIED CARD OF 'mainsheetlaw02.ClockSteps'. -/
def clockStepsCard : Claim7 := { stood := { row := clockStepsRow, standIns := [], harness := (true, "830965a2c2084d7bf68e810bdb2f04e4840b9f7f0e0391f649d75d6548120833"), looks := true }, kinds := [], alts := [], laidByText := true, laidKinds := [.data, .data, .data, .data, .pinned], laidTests := true, laidLooks := .later }
def ClockStepsCardSaid : Prop := Claim7.holds Tryd.pinned (.plain (OpenSpec.ofChange clockStepsSpec)) clockStepsCard

/-- THE TIED CARD OF 'mainsheetlaw02.ClockNear'. -/
def clockNearCard : Claim7 := { stood := { row := clockNearRow, standIns := [], harness := (true, "830965a2c2084d7bf68e810bdb2f04e4840b9f7f0e0391f649d75d6548120833"), looks := true }, kinds := [], alts := [], laidByText := true, laidKinds := [.data, .data, .data, .data, .pinned], laidTests := true, laidLooks := .later }
def ClockNearCardSaid : Prop := Claim7.holds Tryd.pinned (.plain (OpenSpec.ofChange clockNearSpec)) clockNearCard

/-- THE TIED CARD OF 'mainsheetlaw04.CpusetTexts'. -/
def cpusetTextsCard : Claim7 := { stood := { row := cpusetTextsRow, standIns := [], harness := (true, "830965a2c2084d7bf68e810bdb2f04e4840b9f7f0e0391f649d75d6548120833"), looks := true }, kinds := [], alts := [], laidByText := true, laidKinds := [.data, .data, .data, .data, .sentinel, .sentinel, .pinned], laidTests := true, laidLooks := .later }
def CpusetTextsCardSaid : Prop := Claim7.holds Tryd.pinned (.plain (OpenSpec.ofChange cpusetTextsSpec)) cpusetTextsCard

/-- THE TIED CARD OF 'mainsheetlaw04.CpusetRead'. -/
def cpusetReadCard : Claim7 := { stood := { row := cpusetReadRow, standIns := [], harness := (true, "830965a2c2084d7bf68e810bdb2f04e4840b9f7f0e0391f649d75d6548120833"), looks := true }, kinds := [], alts := [], laidByText := true, laidKinds := [.data, .data, .data, .data, .sentinel, .sentinel, .pinned], laidTests := true, laidLooks := .later }
def CpusetReadCardSaid : Prop := Claim7.holds Tryd.pinned (.plain (OpenSpec.ofChange cpusetReadSpec)) cpusetReadCard

/-- THE TIED CARD OF 'mainsheetlaw04.CpusetOf'. -/
def cpusetOfCard : Claim7 := { stood := { row := cpusetOfRow, standIns := [], harness := (true, "830965a2c2084d7bf68e810bdb2f04e4840b9f7f0e0391f649d75d6548120833"), looks := true }, kinds := [], alts := [], laidByText := true, laidKinds := [.data, .data, .data, .data, .sentinel, .sentinel, .pinned], laidTests := true, laidLooks := .later }
def CpusetOfCardSaid : Prop := Claim7.holds Tryd.pinned (.plain (OpenSpec.ofChange cpusetOfSpec)) cpusetOfCard

/-- THE TIED CARD OF 'mainsheetlaw02.ClockTexts'. -/
def clockTextsCard : Claim7 := { stood := { row := clockTextsRow, standIns := [], harness := (true, "830965a2c2084d7bf68e810bdb2f04e4840b9f7f0e0391f649d75d6548120833"), looks := true }, kinds := [], alts := [], laidByText := true, laidKinds := [.data, .data, .data, .data, .sentinel, .sentinel, .pinned], laidTests := true, laidLooks := .later }
def ClockTextsCardSaid : Prop := Claim7.holds Tryd.pinned (.plain (OpenSpec.ofChange clockTextsSpec)) clockTextsCard

/-- THE TIED CARD OF 'mainsheetlaw02.ClockRead'. -/
def clockReadCard : Claim7 := { stood := { row := clockReadRow, standIns := [], harness := (true, "830965a2c2084d7bf68e810bdb2f04e4840b9f7f0e0391f649d75d6548120833"), looks := true }, kinds := [], alts := [], laidByText := true, laidKinds := [.data, .data, .data, .data, .sentinel, .sentinel, .pinned], laidTests := true, laidLooks := .later }
def ClockReadCardSaid : Prop := Claim7.holds Tryd.pinned (.plain (OpenSpec.ofChange clockReadSpec)) clockReadCard

/-- THE TIED CARD OF 'mainsheetlaw04.CpusetTurns'. -/
def cpusetTurnsCard : Claim7 := { stood := { row := cpusetTurnsRow, standIns := [], harness := (true, "830965a2c2084d7bf68e810bdb2f04e4840b9f7f0e0391f649d75d6548120833"), looks := true }, kinds := [], alts := [], laidByText := true, laidKinds := [.data, .data, .data, .data, .sentinel, .sentinel, .pinned], laidTests := true, laidLooks := .later }
def CpusetTurnsCardSaid : Prop := Claim7.holds Tryd.pinned (.plain (OpenSpec.ofChange cpusetTurnsSpec)) cpusetTurnsCard

/-- THE TIED CARD OF 'mainsheetlaw04.CpusetTells'. -/
def cpusetTellsCard : Claim7 := { stood := { row := cpusetTellsRow, standIns := [], harness := (true, "830965a2c2084d7bf68e810bdb2f04e4840b9f7f0e0391f649d75d6548120833"), looks := true }, kinds := [], alts := [], laidByText := true, laidKinds := [.data, .data, .data, .data, .sentinel, .sentinel, .pinned], laidTests := true, laidLooks := .later }
def CpusetTellsCardSaid : Prop := Claim7.holds Tryd.pinned (.plain (OpenSpec.ofChange cpusetTellsSpec)) cpusetTellsCard

/-- THE TIED CARD OF 'mainsheetlaw04.CpusetBack'. -/
def cpusetBackCard : Claim7 := { stood := { row := cpusetBackRow, standIns := [], harness := (true, "830965a2c2084d7bf68e810bdb2f04e4840b9f7f0e0391f649d75d6548120833"), looks := true }, kinds := [], alts := [], laidByText := true, laidKinds := [.data, .data, .data, .data, .sentinel, .sentinel, .pinned], laidTests := true, laidLooks := .later }
def CpusetBackCardSaid : Prop := Claim7.holds Tryd.pinned (.plain (OpenSpec.ofChange cpusetBackSpec)) cpusetBackCard

/-- THE TIED CARD OF 'mainsheetlaw04.CpusetLists'. -/
def cpusetListsCard : Claim7 := { stood := { row := cpusetListsRow, standIns := [], harness := (true, "830965a2c2084d7bf68e810bdb2f04e4840b9f7f0e0391f649d75d6548120833"), looks := true }, kinds := [], alts := [], laidByText := true, laidKinds := [.data, .data, .data, .data, .sentinel, .sentinel, .pinned], laidTests := true, laidLooks := .later }
def CpusetListsCardSaid : Prop := Claim7.holds Tryd.pinned (.plain (OpenSpec.ofChange cpusetListsSpec)) cpusetListsCard

/-- THE SECOND FORM's CARD OF 'mainsheetlaw02.ClockAdds'. -/
def clockAddsUptoCard : Claim7 := { stood := { row := clockAddsUptoRow, standIns := [], harness := (true, "830965a2c2084d7bf68e810bdb2f04e4840b9f7f0e0391f649d75d6548120833"), looks := true }, kinds := [], alts := [], laidByText := true, laidKinds := [.data, .data, .data, .data, .pinned], laidTests := true, laidLooks := .later }
def ClockAddsUptoCardSaid : Prop := Claim7.holds Tryd.pinned (.plain (OpenSpec.upto clockAddsSpec)) clockAddsUptoCard

/-- THE SECOND FORM's CARD OF 'mainsheetlaw02.ClockBack'. -/
def clockBackUptoCard : Claim7 := { stood := { row := clockBackUptoRow, standIns := [], harness := (true, "830965a2c2084d7bf68e810bdb2f04e4840b9f7f0e0391f649d75d6548120833"), looks := true }, kinds := [], alts := [], laidByText := true, laidKinds := [.data, .data, .data, .data, .pinned], laidTests := true, laidLooks := .later }
def ClockBackUptoCardSaid : Prop := Claim7.holds Tryd.pinned (.plain (OpenSpec.upto clockBackSpec)) clockBackUptoCard

/-- THE SECOND FORM's CARD OF 'mainsheetlaw02.ClockTimes'. -/
def clockTimesUptoCard : Claim7 := { stood := { row := clockTimesUptoRow, standIns := [], harness := (true, "830965a2c2084d7bf68e810bdb2f04e4840b9f7f0e0391f649d75d6548120833"), looks := true }, kinds := [], alts := [], laidByText := true, laidKinds := [.data, .data, .data, .data, .pinned], laidTests := true, laidLooks := .later }
def ClockTimesUptoCardSaid : Prop := Claim7.holds Tryd.pinned (.plain (OpenSpec.upto clockTimesSpec)) clockTimesUptoCard

/-- THE SECOND FORM's CARD OF 'mainsheetlaw02.ClockSteps'. -/
def clockStepsUptoCard : Claim7 := { stood := { row := clockStepsUptoRow, standIns := [], harness := (true, "830965a2c2084d7bf68e810bdb2f04e4840b9f7f0e0391f649d75d6548120833"), looks := true }, kinds := [], alts := [], laidByText := true, laidKinds := [.data, .data, .data, .data, .pinned], laidTests := true, laidLooks := .later }
def ClockStepsUptoCardSaid : Prop := Claim7.holds Tryd.pinned (.plain (OpenSpec.upto clockStepsSpec)) clockStepsUptoCard

/-- THE SECOND FORM's CARD OF 'mainsheetlaw02.ClockNear'. -/
def clockNearUptoCard : Claim7 := { stood := { row := clockNearUptoRow, standIns := [], harness := (true, "830965a2c2084d7bf68e810bdb2f04e4840b9f7f0e0391f649d75d6548120833"), looks := true }, kinds := [], alts := [], laidByText := true, laidKinds := [.data, .data, .data, .data, .pinned], laidTests := true, laidLooks := .later }
def ClockNearUptoCardSaid : Prop := Claim7.holds Tryd.pinned (.plain (OpenSpec.upto clockNearSpec)) clockNearUptoCard

/-- THE SECOND FORM's CARD OF 'mainsheetlaw04.CpusetTexts'. -/
def cpusetTextsUptoCard : Claim7 := { stood := { row := cpusetTextsUptoRow, standIns := [], harness := (true, "830965a2c2084d7bf68e810bdb2f04e4840b9f7f0e0391f649d75d6548120833"), looks := true }, kinds := [], alts := [], laidByText := true, laidKinds := [.data, .data, .data, .data, .sentinel, .sentinel, .pinned], laidTests := true, laidLooks := .later }
def CpusetTextsUptoCardSaid : Prop := Claim7.holds Tryd.pinned (.plain (OpenSpec.upto cpusetTextsSpec)) cpusetTextsUptoCard

/-- THE SECOND FORM's CARD OF 'mainsheetlaw04.CpusetRead'. -/
def cpusetReadUptoCard : Claim7 := { stood := { row := cpusetReadUptoRow, standIns := [], harness := (true, "830965a2c2084d7bf68e810bdb2f04e4840b9f7f0e0391f649d75d6548120833"), looks := true }, kinds := [], alts := [], laidByText := true, laidKinds := [.data, .data, .data, .data, .sentinel, .sentinel, .pinned], laidTests := true, laidLooks := .later }
def CpusetReadUptoCardSaid : Prop := Claim7.holds Tryd.pinned (.plain (OpenSpec.upto cpusetReadSpec)) cpusetReadUptoCard

/-- THE SECOND FORM's CARD OF 'mainsheetlaw04.CpusetOf'. -/
def cpusetOfUptoCard : Claim7 := { stood := { row := cpusetOfUptoRow, standIns := [], harness := (true, "830965a2c2084d7bf68e810bdb2f04e4840b9f7f0e0391f649d75d6548120833"), looks := true }, kinds := [], alts := [], laidByText := true, laidKinds := [.data, .data, .data, .data, .sentinel, .sentinel, .pinned], laidTests := true, laidLooks := .later }
def CpusetOfUptoCardSaid : Prop := Claim7.holds Tryd.pinned (.plain (OpenSpec.upto cpusetOfSpec)) cpusetOfUptoCard

/-- THE SECOND FORM's CARD OF 'mainsheetlaw02.ClockTexts'. -/
def clockTextsUptoCard : Claim7 := { stood := { row := clockTextsUptoRow, standIns := [], harness := (true, "830965a2c2084d7bf68e810bdb2f04e4840b9f7f0e0391f649d75d6548120833"), looks := true }, kinds := [], alts := [], laidByText := true, laidKinds := [.data, .data, .data, .data, .sentinel, .sentinel, .pinned], laidTests := true, laidLooks := .later }
def ClockTextsUptoCardSaid : Prop := Claim7.holds Tryd.pinned (.plain (OpenSpec.upto clockTextsSpec)) clockTextsUptoCard

/-- THE SECOND FORM's CARD OF 'mainsheetlaw02.ClockRead'. -/
def clockReadUptoCard : Claim7 := { stood := { row := clockReadUptoRow, standIns := [], harness := (true, "830965a2c2084d7bf68e810bdb2f04e4840b9f7f0e0391f649d75d6548120833"), looks := true }, kinds := [], alts := [], laidByText := true, laidKinds := [.data, .data, .data, .data, .sentinel, .sentinel, .pinned], laidTests := true, laidLooks := .later }
def ClockReadUptoCardSaid : Prop := Claim7.holds Tryd.pinned (.plain (OpenSpec.upto clockReadSpec)) clockReadUptoCard

/-- THE SECOND FORM's CARD OF 'mainsheetlaw04.CpusetTurns'. -/
def cpusetTurnsUptoCard : Claim7 := { stood := { row := cpusetTurnsUptoRow, standIns := [], harness := (true, "830965a2c2084d7bf68e810bdb2f04e4840b9f7f0e0391f649d75d6548120833"), looks := true }, kinds := [], alts := [], laidByText := true, laidKinds := [.data, .data, .data, .data, .sentinel, .sentinel, .pinned], laidTests := true, laidLooks := .later }
def CpusetTurnsUptoCardSaid : Prop := Claim7.holds Tryd.pinned (.plain (OpenSpec.upto cpusetTurnsSpec)) cpusetTurnsUptoCard

/-- THE SECOND FORM's CARD OF 'mainsheetlaw04.CpusetTells'. -/
def cpusetTellsUptoCard : Claim7 := { stood := { row := cpusetTellsUptoRow, standIns := [], harness := (true, "830965a2c2084d7bf68e810bdb2f04e4840b9f7f0e0391f649d75d6548120833"), looks := true }, kinds := [], alts := [], laidByText := true, laidKinds := [.data, .data, .data, .data, .sentinel, .sentinel, .pinned], laidTests := true, laidLooks := .later }
def CpusetTellsUptoCardSaid : Prop := Claim7.holds Tryd.pinned (.plain (OpenSpec.upto cpusetTellsSpec)) cpusetTellsUptoCard

/-- THE SECOND FORM's CARD OF 'mainsheetlaw04.CpusetBack'. -/
def cpusetBackUptoCard : Claim7 := { stood := { row := cpusetBackUptoRow, standIns := [], harness := (true, "830965a2c2084d7bf68e810bdb2f04e4840b9f7f0e0391f649d75d6548120833"), looks := true }, kinds := [], alts := [], laidByText := true, laidKinds := [.data, .data, .data, .data, .sentinel, .sentinel, .pinned], laidTests := true, laidLooks := .later }
def CpusetBackUptoCardSaid : Prop := Claim7.holds Tryd.pinned (.plain (OpenSpec.upto cpusetBackSpec)) cpusetBackUptoCard

/-- THE SECOND FORM's CARD OF 'mainsheetlaw04.CpusetLists'. -/
def cpusetListsUptoCard : Claim7 := { stood := { row := cpusetListsUptoRow, standIns := [], harness := (true, "830965a2c2084d7bf68e810bdb2f04e4840b9f7f0e0391f649d75d6548120833"), looks := true }, kinds := [], alts := [], laidByText := true, laidKinds := [.data, .data, .data, .data, .sentinel, .sentinel, .pinned], laidTests := true, laidLooks := .later }
def CpusetListsUptoCardSaid : Prop := Claim7.holds Tryd.pinned (.plain (OpenSpec.upto cpusetListsSpec)) cpusetListsUptoCard
end Rows
end Go.Proofs.YtpeekgekmjldlaaDoor
