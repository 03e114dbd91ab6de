/-
  DERIVED. GIVEN WITH THE SEED: THE CARDS: each row of YthhbdbeglmkijaaGreatDoorRows.lean that lists a variable, with what it lists TIED to the program's text (the seventh form; the later family's looks); each row that meets fmt, with fmt's text TOLD by the authors' own Lean function (tested against real Go, not proved from fmt's source: count such statements apart). THE CARD IS WHAT COUNTS. Prove the row's statement (the work); the ties are given (YthhbdbeglmkijaaGreatDoorTie.lean); close each card by the builder's one call (the guide's Derived/Test/ToyasCard.lean, 'card_holds'). Laid BY PROGRAM, IN A SANDBOX (cutbox-door.mjs). By AI agents, Wed Nov 11 2026. No macro, syntax, notation, axiom, sorry.
-/
import Derived.Test.YthhbdbeglmkijaaGreatDoorRows
import GoSem.ClaimSeven
namespace Go.Proofs.YthhbdbeglmkijaaGreatDoor
namespace Rows

/-- THE TIED CARD OF 'mainsheetlaw24.LiveStays'. -/
def liveStaysCard : Claim7 := { stood := { row := liveStaysRow, standIns := [], harness := (true, "a2370be312af6a977d0fbf92b977490a3ca17cde488074efb6cc373a8fd84295"), looks := false }, kinds := [], alts := [], laidByText := true, laidKinds := [.data], laidTests := true, laidLooks := .later }
def LiveStaysCardSaid : Prop := Claim7.holds Tryz.pinned (.plain (OpenSpec.ofChange liveStaysSpec)) liveStaysCard

/-- THE TIED CARD OF 'mainsheetlaw24.LiveTimes'. -/
def liveTimesCard : Claim7 := { stood := { row := liveTimesRow, standIns := [], harness := (true, "a2370be312af6a977d0fbf92b977490a3ca17cde488074efb6cc373a8fd84295"), looks := false }, kinds := [], alts := [], laidByText := true, laidKinds := [.data], laidTests := true, laidLooks := .later }
def LiveTimesCardSaid : Prop := Claim7.holds Tryz.pinned (.plain (OpenSpec.ofChange liveTimesSpec)) liveTimesCard

/-- THE TIED CARD OF 'mainsheetlaw24.LiveGangs'. -/
def liveGangsCard : Claim7 := { stood := { row := liveGangsRow, standIns := [], harness := (true, "a2370be312af6a977d0fbf92b977490a3ca17cde488074efb6cc373a8fd84295"), looks := false }, kinds := [], alts := [], laidByText := true, laidKinds := [.data], laidTests := true, laidLooks := .later }
def LiveGangsCardSaid : Prop := Claim7.holds Tryz.pinned (.plain (OpenSpec.ofChange liveGangsSpec)) liveGangsCard

/-- THE TIED CARD OF 'mainsheetlaw24.LivePools'. -/
def livePoolsCard : Claim7 := { stood := { row := livePoolsRow, standIns := [], harness := (true, "a2370be312af6a977d0fbf92b977490a3ca17cde488074efb6cc373a8fd84295"), looks := false }, kinds := [], alts := [], laidByText := true, laidKinds := [.data], laidTests := true, laidLooks := .later }
def LivePoolsCardSaid : Prop := Claim7.holds Tryz.pinned (.plain (OpenSpec.ofChange livePoolsSpec)) livePoolsCard

/-- THE SECOND FORM's CARD OF 'mainsheetlaw24.LiveStays'. -/
def liveStaysUptoCard : Claim7 := { stood := { row := liveStaysUptoRow, standIns := [], harness := (true, "a2370be312af6a977d0fbf92b977490a3ca17cde488074efb6cc373a8fd84295"), looks := false }, kinds := [], alts := [], laidByText := true, laidKinds := [.data], laidTests := true, laidLooks := .later }
def LiveStaysUptoCardSaid : Prop := Claim7.holds Tryz.pinned (.plain (OpenSpec.upto liveStaysSpec)) liveStaysUptoCard

/-- THE SECOND FORM's CARD OF 'mainsheetlaw24.LiveTimes'. -/
def liveTimesUptoCard : Claim7 := { stood := { row := liveTimesUptoRow, standIns := [], harness := (true, "a2370be312af6a977d0fbf92b977490a3ca17cde488074efb6cc373a8fd84295"), looks := false }, kinds := [], alts := [], laidByText := true, laidKinds := [.data], laidTests := true, laidLooks := .later }
def LiveTimesUptoCardSaid : Prop := Claim7.holds Tryz.pinned (.plain (OpenSpec.upto liveTimesSpec)) liveTimesUptoCard

/-- THE SECOND FORM's CARD OF 'mainsheetlaw24.LiveGangs'. -/
def liveGangsUptoCard : Claim7 := { stood := { row := liveGangsUptoRow, standIns := [], harness := (true, "a2370be312af6a977d0fbf92b977490a3ca17cde488074efb6cc373a8fd84295"), looks := false }, kinds := [], alts := [], laidByText := true, laidKinds := [.data], laidTests := true, laidLooks := .later }
def LiveGangsUptoCardSaid : Prop := Claim7.holds Tryz.pinned (.plain (OpenSpec.upto liveGangsSpec)) liveGangsUptoCard

/-- THE SECOND FORM's CARD OF 'mainsheetlaw24.LivePools'. -/
def livePoolsUptoCard : Claim7 := { stood := { row := livePoolsUptoRow, standIns := [], harness := (true, "a2370be312af6a977d0fbf92b977490a3ca17cde488074efb6cc373a8fd84295"), looks := false }, kinds := [], alts := [], laidByText := true, laidKinds := [.data], laidTests := true, laidLooks := .later }
def LivePoolsUptoCardSaid : Prop := Claim7.holds Tryz.pinned (.plain (OpenSpec.upto livePoolsSpec)) livePoolsUptoCard
end Rows
end Go.Proofs.YthhbdbeglmkijaaGreatDoor
