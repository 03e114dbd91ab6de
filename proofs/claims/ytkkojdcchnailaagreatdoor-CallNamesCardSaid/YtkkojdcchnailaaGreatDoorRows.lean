/-
  NARROWER THAN 'FOR EVERY INPUT', by the rows' own cells (each row's printed sentence says how): LiveNames: laid · CallNames: laid.
  DERIVED. THE GIVEN ROWS OF THIS SEAT. 2 by the template 'for every input the law returns true; each argument reads behind the call as it read before'; 0 by the template 'total and deterministic' (their statements: YtkkojdcchnailaaGreatDoorTotals.lean).
  GIVEN WITH THE SEED: the statements are not yours to turn. If you find one false, say at which input.
  Laid BY PROGRAM, IN A SANDBOX (cutbox-rows.mjs): the forced cells as the released guide's own fill.sh prints them over the translation 1be973d4b175b5d3… (all of the seat's roots in one cut). By AI agents, Wed Nov 11 2026. No macro, syntax, notation, axiom, sorry.
-/
import Derived.Test.YtkkojdcchnailaaGreatDoorChecked
import GoSem.Claim
import GoSem.ClaimJoined
import GoSem.ClaimMapViews
import Derived.JoinedTies
import Derived.KernelRfl
namespace Go.Proofs.YtkkojdcchnailaaGreatDoor
/- THE CELL 'sum', in the pinned program and in every row, IS THE sha256 OF THE DUMP (.gsa) THAT YtkkojdcchnailaaGreatDoorProg.lean LOADS. Nothing in Lean hashes anything: it is a label: what it is worth is what the hold of that sum in a sandbox is worth. -/
noncomputable def Tryz.pinned : Pinned := { name := "ytkkojdcchnailaagreatdoor", sum := "1be973d4b175b5d3c26d74a0538a654c34838a9373f94cd5f73482f1d96c42d7", checked := Tryz.checked }
namespace Rows
def none {H : Type} : Left H := { results := [], args := [] }

/- WHAT THE LISTED PACKAGE-LEVEL VARIABLES READ AS WHEN THE CALL BEGINS. Each datum BY PROGRAM (the guide's laid-datum.mjs) off the statement by which the dump's own 'gosem.cut.vars' lays the variable. In a bare row this is a premise. The card (YtkkojdcchnailaaGreatDoorCards.lean) ties it to the program's text. -/
def laid_math_bits_deBruijn32tab {H : Type} : DataW H := .agg [.lit (.int .u8 0), .lit (.int .u8 1), .lit (.int .u8 28), .lit (.int .u8 2), .lit (.int .u8 29), .lit (.int .u8 14), .lit (.int .u8 24), .lit (.int .u8 3), .lit (.int .u8 30), .lit (.int .u8 22), .lit (.int .u8 20), .lit (.int .u8 15), .lit (.int .u8 25), .lit (.int .u8 17), .lit (.int .u8 4), .lit (.int .u8 8), .lit (.int .u8 31), .lit (.int .u8 27), .lit (.int .u8 13), .lit (.int .u8 23), .lit (.int .u8 21), .lit (.int .u8 19), .lit (.int .u8 16), .lit (.int .u8 7), .lit (.int .u8 26), .lit (.int .u8 12), .lit (.int .u8 18), .lit (.int .u8 6), .lit (.int .u8 11), .lit (.int .u8 5), .lit (.int .u8 10), .lit (.int .u8 9)]
def laid_mainsheet_live_names {H : Type} : DataW H := .agg [.lit (.string []), .lit (.string [119, 101, 105, 103, 104, 116]), .lit (.string [99, 97, 112]), .lit (.string [112, 111, 111, 108]), .lit (.string [114, 101, 109, 97, 115, 107]), .lit (.string [102, 111, 114, 109]), .lit (.string [112, 97, 114, 116]), .lit (.string [108, 101, 97, 118, 101]), .lit (.string [115, 112, 108, 105, 116]), .lit (.string [106, 111, 105, 110]), .lit (.string [109, 111, 118, 101])]
def laid_mainsheet_call_names {H : Type} : DataW H := .agg [.lit (.string [99, 114, 101, 97, 116, 101]), .lit (.string [100, 101, 115, 116, 114, 111, 121]), .lit (.string [97, 100, 100]), .lit (.string [100, 114, 111, 112]), .lit (.string [117, 112]), .lit (.string [100, 111, 119, 110]), .lit (.string [112, 97, 117, 115, 101]), .lit (.string [117, 110, 112, 97, 117, 115, 101]), .lit (.string [98, 108, 111, 99, 107]), .lit (.string [112, 111, 108, 108]), .lit (.string [121, 105, 101, 108, 100]), .lit (.string [111, 112, 101, 110]), .lit (.string [108, 105, 110, 107]), .lit (.string [99, 108, 111, 115, 101]), .lit (.string [115, 101, 110, 100]), .lit (.string [109, 97, 115, 107]), .lit (.string [99, 108, 101, 97, 114]), .lit (.string [98, 105, 110, 100]), .lit (.string [115, 116, 97, 114, 116]), .lit (.string [115, 116, 111, 112])]

/-- 'mainsheetlaw24.LiveNames': WHATEVER THE INPUT: true; the input reads as it did. -/
def liveNamesSpec : ChangeSpec := { name := "liveNames", fn := fun _ => fun
  | [d1, d2] => { results := [.lit (.bool true)], args := [d1, d2] }
  | _ => none }
def liveNamesRow : OpenClaim := { program := "ytkkojdcchnailaagreatdoor", sum := "1be973d4b175b5d3c26d74a0538a654c34838a9373f94cd5f73482f1d96c42d7", func := "mainsheet/mainsheetlaw24.LiveNames", spec := "liveNames", inPlace := ["slices.overlaps[mainsheet/api.Runner]", "slices.overlaps[mainsheet/api.Gang]"], unfollowed := true, recurses := true, named := ["math/bits.deBruijn32tab", "mainsheet/live.names"], apart := false, laid := [("math/bits.deBruijn32tab", laid_math_bits_deBruijn32tab), ("mainsheet/live.names", laid_mainsheet_live_names)] }
def LiveNamesSaid : Prop := liveNamesRow.holds Tryz.pinned (OpenSpec.ofChange liveNamesSpec)

/-- ITS FALSE NEIGHBOUR: 'it returns false'. Refute it at one input. -/
def liveNamesWrong : ChangeSpec := { name := "liveNames", fn := fun _ => fun
  | [d1, d2] => { results := [.lit (.bool false)], args := [d1, d2] }
  | _ => none }
def LiveNamesWrongFalsely : Prop := liveNamesRow.holds Tryz.pinned (OpenSpec.ofChange liveNamesWrong)

/-- 'mainsheetlaw21.CallNames': WHATEVER THE INPUT: true; the input reads as it did. -/
def callNamesSpec : ChangeSpec := { name := "callNames", fn := fun _ => fun
  | [d1, d2] => { results := [.lit (.bool true)], args := [d1, d2] }
  | _ => none }
def callNamesRow : OpenClaim := { program := "ytkkojdcchnailaagreatdoor", sum := "1be973d4b175b5d3c26d74a0538a654c34838a9373f94cd5f73482f1d96c42d7", func := "mainsheet/mainsheetlaw21.CallNames", spec := "callNames", inPlace := ["slices.overlaps[mainsheet/api.Domain]", "slices.overlaps[mainsheet/api.Bucket]", "slices.overlaps[mainsheet/api.Vcpu]", "slices.overlaps[mainsheet/api.Own]", "slices.overlaps[mainsheet/api.Timer]", "slices.overlaps[mainsheet/api.Runner]", "slices.overlaps[mainsheet/api.Port]", "slices.overlaps[mainsheet/api.Alarm]"], unfollowed := true, recurses := true, named := ["math/bits.deBruijn32tab", "mainsheet/call.names"], apart := false, laid := [("math/bits.deBruijn32tab", laid_math_bits_deBruijn32tab), ("mainsheet/call.names", laid_mainsheet_call_names)] }
def CallNamesSaid : Prop := callNamesRow.holds Tryz.pinned (OpenSpec.ofChange callNamesSpec)

/-- ITS FALSE NEIGHBOUR: 'it returns false'. Refute it at one input. -/
def callNamesWrong : ChangeSpec := { name := "callNames", fn := fun _ => fun
  | [d1, d2] => { results := [.lit (.bool false)], args := [d1, d2] }
  | _ => none }
def CallNamesWrongFalsely : Prop := callNamesRow.holds Tryz.pinned (OpenSpec.ofChange callNamesWrong)

/- THE SECOND FORM. 'bulk': how many values and letters a reading holds, each counted each time it is reached (what is shared counts as often as it is met; a slice's spare places count too). A statement '..UptoSaid' is the law's where the arguments, and the package variables that the reading takes, are together of bulk at most 1048576: NARROWER than '..Said'. Prove '..Said' where nothing that the law and all that it calls make is longer than what came in: it says more and counts as full. Else prove '..UptoSaid'. A law counts once. -/
mutual
def uptoBulk {H : Type} : DataW H → Nat
  | .lit (.string bytes) => bytes.length + 1
  | .lit _ => 1
  | .nil => 1
  | .ptr d => uptoBulk d + 1
  | .slice elems spare => uptoBulkAll elems + uptoBulkAll spare + 1
  | .agg parts => uptoBulkAll parts + 1
  | .iface _ d => uptoBulk d + 1
  | .map entries => uptoBulkEntries entries + 1
  | .held _ => 1
def uptoBulkAll {H : Type} : List (DataW H) → Nat
  | [] => 0
  | d :: r => uptoBulk d + uptoBulkAll r
def uptoBulkEntries {H : Type} : List (Lit × DataW H) → Nat
  | [] => 0
  | x :: r => uptoBulkEntry x + uptoBulkEntries r
def uptoBulkEntry {H : Type} : Lit × DataW H → Nat
  | (.string bytes, d) => bytes.length + uptoBulk d + 1
  | (_, d) => uptoBulk d + 1
 end
def uptoSmall : (H : Type) → List (DataW H) → Bool := fun _ ds => decide (uptoBulkAll ds ≤ 1048576)
def OpenSpec.upto (s : _root_.Go.ChangeSpec) : _root_.Go.OpenSpec := { _root_.Go.OpenSpec.ofChange s with cond := some uptoSmall }

/-- 'mainsheetlaw24.LiveNames', WHERE WHAT IT READS IS OF BULK AT MOST 1048576: true; the input reads as it did. -/
def liveNamesUptoRow : OpenClaim := { program := "ytkkojdcchnailaagreatdoor", sum := "1be973d4b175b5d3c26d74a0538a654c34838a9373f94cd5f73482f1d96c42d7", func := "mainsheet/mainsheetlaw24.LiveNames", spec := "liveNames", inPlace := ["slices.overlaps[mainsheet/api.Runner]", "slices.overlaps[mainsheet/api.Gang]"], unfollowed := true, recurses := true, named := ["math/bits.deBruijn32tab", "mainsheet/live.names"], apart := false, laid := [("math/bits.deBruijn32tab", laid_math_bits_deBruijn32tab), ("mainsheet/live.names", laid_mainsheet_live_names)], narrowed := true }
def LiveNamesUptoSaid : Prop := liveNamesUptoRow.holds Tryz.pinned (OpenSpec.upto liveNamesSpec)

/-- 'mainsheetlaw21.CallNames', WHERE WHAT IT READS IS OF BULK AT MOST 1048576: true; the input reads as it did. -/
def callNamesUptoRow : OpenClaim := { program := "ytkkojdcchnailaagreatdoor", sum := "1be973d4b175b5d3c26d74a0538a654c34838a9373f94cd5f73482f1d96c42d7", func := "mainsheet/mainsheetlaw21.CallNames", spec := "callNames", inPlace := ["slices.overlaps[mainsheet/api.Domain]", "slices.overlaps[mainsheet/api.Bucket]", "slices.overlaps[mainsheet/api.Vcpu]", "slices.overlaps[mainsheet/api.Own]", "slices.overlaps[mainsheet/api.Timer]", "slices.overlaps[mainsheet/api.Runner]", "slices.overlaps[mainsheet/api.Port]", "slices.overlaps[mainsheet/api.Alarm]"], unfollowed := true, recurses := true, named := ["math/bits.deBruijn32tab", "mainsheet/call.names"], apart := false, laid := [("math/bits.deBruijn32tab", laid_math_bits_deBruijn32tab), ("mainsheet/call.names", laid_mainsheet_call_names)], narrowed := true }
def CallNamesUptoSaid : Prop := callNamesUptoRow.holds Tryz.pinned (OpenSpec.upto callNamesSpec)

end Rows
end Go.Proofs.YtkkojdcchnailaaGreatDoor
