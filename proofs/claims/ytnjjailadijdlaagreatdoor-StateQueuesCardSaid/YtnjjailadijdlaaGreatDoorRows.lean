/-
  NARROWER THAN 'FOR EVERY INPUT', by the rows' own cells (each row's printed sentence says how): StateNews: laid · StateChecks: laid · StateTells: laid · StateQueues: laid · StateStays: laid · StateWhole: laid · StateWakes: laid.
  DERIVED. THE GIVEN ROWS OF THIS SEAT. 7 by the template 'for every input the law returns true; each argument reads behind the call as it read before'; 0 by the template 'total and deterministic' (their statements: YtnjjailadijdlaaGreatDoorTotals.lean).
  GIVEN WITH THE SEED: the statements are not yours to turn. If you find one false, say at which input.
  Laid BY PROGRAM, IN A SANDBOX (cutbox-rows.mjs): the forced cells as the released guide's own fill.sh prints them over the translation 65b33bf5af65a2d6… (all of the seat's roots in one cut). By AI agents, Wed Nov 11 2026. No macro, syntax, notation, axiom, sorry.
-/
import Derived.Test.YtnjjailadijdlaaGreatDoorChecked
import GoSem.Claim
import GoSem.ClaimJoined
import GoSem.ClaimMapViews
import Derived.JoinedTies
import Derived.KernelRfl
namespace Go.Proofs.YtnjjailadijdlaaGreatDoor
/- THE CELL 'sum', in the pinned program and in every row, IS THE sha256 OF THE DUMP (.gsa) THAT YtnjjailadijdlaaGreatDoorProg.lean LOADS. Nothing in Lean hashes anything: it is a label: what it is worth is what the hold of that sum in a sandbox is worth. -/
noncomputable def Tryz.pinned : Pinned := { name := "ytnjjailadijdlaagreatdoor", sum := "65b33bf5af65a2d6ec91414d44680ceafd035ded1ac8c287362d76eba71bf29e", checked := Tryz.checked }
namespace Rows
def none {H : Type} : Left H := { results := [], args := [] }

/- WHAT THE LISTED PACKAGE-LEVEL VARIABLES READ AS WHEN THE CALL BEGINS. Each datum BY PROGRAM (the guide's laid-datum.mjs) off the statement by which the dump's own 'gosem.cut.vars' lays the variable. In a bare row this is a premise. The card (YtnjjailadijdlaaGreatDoorCards.lean) ties it to the program's text. -/
def laid_math_bits_deBruijn32tab {H : Type} : DataW H := .agg [.lit (.int .u8 0), .lit (.int .u8 1), .lit (.int .u8 28), .lit (.int .u8 2), .lit (.int .u8 29), .lit (.int .u8 14), .lit (.int .u8 24), .lit (.int .u8 3), .lit (.int .u8 30), .lit (.int .u8 22), .lit (.int .u8 20), .lit (.int .u8 15), .lit (.int .u8 25), .lit (.int .u8 17), .lit (.int .u8 4), .lit (.int .u8 8), .lit (.int .u8 31), .lit (.int .u8 27), .lit (.int .u8 13), .lit (.int .u8 23), .lit (.int .u8 21), .lit (.int .u8 19), .lit (.int .u8 16), .lit (.int .u8 7), .lit (.int .u8 26), .lit (.int .u8 12), .lit (.int .u8 18), .lit (.int .u8 6), .lit (.int .u8 11), .lit (.int .u8 5), .lit (.int .u8 10), .lit (.int .u8 9)]

/-- 'mainsheetlaw20.StateNews': WHATEVER THE INPUT: true; the input reads as it did. -/
def stateNewsSpec : ChangeSpec := { name := "stateNews", fn := fun _ => fun
  | [d] => { results := [.lit (.bool true)], args := [d] }
  | _ => none }
def stateNewsRow : OpenClaim := { program := "ytnjjailadijdlaagreatdoor", sum := "65b33bf5af65a2d6ec91414d44680ceafd035ded1ac8c287362d76eba71bf29e", func := "mainsheet/mainsheetlaw20.StateNews", spec := "stateNews", inPlace := ["slices.overlaps[mainsheet/api.Timer]", "slices.overlaps[mainsheet/api.Runner]"], unfollowed := true, recurses := true, named := ["math/bits.deBruijn32tab"], apart := false, laid := [("math/bits.deBruijn32tab", laid_math_bits_deBruijn32tab)] }
def StateNewsSaid : Prop := stateNewsRow.holds Tryz.pinned (OpenSpec.ofChange stateNewsSpec)

/-- ITS FALSE NEIGHBOUR: 'it returns false'. Refute it at one input. -/
def stateNewsWrong : ChangeSpec := { name := "stateNews", fn := fun _ => fun
  | [d] => { results := [.lit (.bool false)], args := [d] }
  | _ => none }
def StateNewsWrongFalsely : Prop := stateNewsRow.holds Tryz.pinned (OpenSpec.ofChange stateNewsWrong)

/-- 'mainsheetlaw20.StateChecks': WHATEVER THE INPUT: true; the input reads as it did. -/
def stateChecksSpec : ChangeSpec := { name := "stateChecks", fn := fun _ => fun
  | [d1, d2, d3] => { results := [.lit (.bool true)], args := [d1, d2, d3] }
  | _ => none }
def stateChecksRow : OpenClaim := { program := "ytnjjailadijdlaagreatdoor", sum := "65b33bf5af65a2d6ec91414d44680ceafd035ded1ac8c287362d76eba71bf29e", func := "mainsheet/mainsheetlaw20.StateChecks", spec := "stateChecks", inPlace := ["slices.overlaps[mainsheet/api.Timer]", "slices.overlaps[mainsheet/api.Runner]"], unfollowed := true, recurses := true, named := ["math/bits.deBruijn32tab"], apart := false, laid := [("math/bits.deBruijn32tab", laid_math_bits_deBruijn32tab)] }
def StateChecksSaid : Prop := stateChecksRow.holds Tryz.pinned (OpenSpec.ofChange stateChecksSpec)

/-- ITS FALSE NEIGHBOUR: 'it returns false'. Refute it at one input. -/
def stateChecksWrong : ChangeSpec := { name := "stateChecks", fn := fun _ => fun
  | [d1, d2, d3] => { results := [.lit (.bool false)], args := [d1, d2, d3] }
  | _ => none }
def StateChecksWrongFalsely : Prop := stateChecksRow.holds Tryz.pinned (OpenSpec.ofChange stateChecksWrong)

/-- 'mainsheetlaw20.StateTells': WHATEVER THE INPUT: true; the input reads as it did. -/
def stateTellsSpec : ChangeSpec := { name := "stateTells", fn := fun _ => fun
  | [d] => { results := [.lit (.bool true)], args := [d] }
  | _ => none }
def stateTellsRow : OpenClaim := { program := "ytnjjailadijdlaagreatdoor", sum := "65b33bf5af65a2d6ec91414d44680ceafd035ded1ac8c287362d76eba71bf29e", func := "mainsheet/mainsheetlaw20.StateTells", spec := "stateTells", inPlace := ["slices.overlaps[mainsheet/api.Timer]", "slices.overlaps[mainsheet/api.Runner]"], unfollowed := true, recurses := true, named := ["math/bits.deBruijn32tab"], apart := false, laid := [("math/bits.deBruijn32tab", laid_math_bits_deBruijn32tab)] }
def StateTellsSaid : Prop := stateTellsRow.holds Tryz.pinned (OpenSpec.ofChange stateTellsSpec)

/-- ITS FALSE NEIGHBOUR: 'it returns false'. Refute it at one input. -/
def stateTellsWrong : ChangeSpec := { name := "stateTells", fn := fun _ => fun
  | [d] => { results := [.lit (.bool false)], args := [d] }
  | _ => none }
def StateTellsWrongFalsely : Prop := stateTellsRow.holds Tryz.pinned (OpenSpec.ofChange stateTellsWrong)

/-- 'mainsheetlaw20.StateQueues': WHATEVER THE INPUT: true; the input reads as it did. -/
def stateQueuesSpec : ChangeSpec := { name := "stateQueues", fn := fun _ => fun
  | [d] => { results := [.lit (.bool true)], args := [d] }
  | _ => none }
def stateQueuesRow : OpenClaim := { program := "ytnjjailadijdlaagreatdoor", sum := "65b33bf5af65a2d6ec91414d44680ceafd035ded1ac8c287362d76eba71bf29e", func := "mainsheet/mainsheetlaw20.StateQueues", spec := "stateQueues", inPlace := ["slices.overlaps[mainsheet/api.Timer]", "slices.overlaps[mainsheet/api.Runner]"], unfollowed := true, recurses := true, named := ["math/bits.deBruijn32tab"], apart := false, laid := [("math/bits.deBruijn32tab", laid_math_bits_deBruijn32tab)] }
def StateQueuesSaid : Prop := stateQueuesRow.holds Tryz.pinned (OpenSpec.ofChange stateQueuesSpec)

/-- ITS FALSE NEIGHBOUR: 'it returns false'. Refute it at one input. -/
def stateQueuesWrong : ChangeSpec := { name := "stateQueues", fn := fun _ => fun
  | [d] => { results := [.lit (.bool false)], args := [d] }
  | _ => none }
def StateQueuesWrongFalsely : Prop := stateQueuesRow.holds Tryz.pinned (OpenSpec.ofChange stateQueuesWrong)

/-- 'mainsheetlaw20.StateStays': WHATEVER THE INPUT: true; the input reads as it did. -/
def stateStaysSpec : ChangeSpec := { name := "stateStays", fn := fun _ => fun
  | [d1, d2] => { results := [.lit (.bool true)], args := [d1, d2] }
  | _ => none }
def stateStaysRow : OpenClaim := { program := "ytnjjailadijdlaagreatdoor", sum := "65b33bf5af65a2d6ec91414d44680ceafd035ded1ac8c287362d76eba71bf29e", func := "mainsheet/mainsheetlaw20.StateStays", spec := "stateStays", inPlace := ["slices.overlaps[mainsheet/api.Timer]", "slices.overlaps[mainsheet/api.Runner]"], unfollowed := true, recurses := true, named := ["math/bits.deBruijn32tab"], apart := false, laid := [("math/bits.deBruijn32tab", laid_math_bits_deBruijn32tab)] }
def StateStaysSaid : Prop := stateStaysRow.holds Tryz.pinned (OpenSpec.ofChange stateStaysSpec)

/-- ITS FALSE NEIGHBOUR: 'it returns false'. Refute it at one input. -/
def stateStaysWrong : ChangeSpec := { name := "stateStays", fn := fun _ => fun
  | [d1, d2] => { results := [.lit (.bool false)], args := [d1, d2] }
  | _ => none }
def StateStaysWrongFalsely : Prop := stateStaysRow.holds Tryz.pinned (OpenSpec.ofChange stateStaysWrong)

/-- 'mainsheetlaw20.StateWhole': WHATEVER THE INPUT: true; the input reads as it did. -/
def stateWholeSpec : ChangeSpec := { name := "stateWhole", fn := fun _ => fun
  | [d1, d2] => { results := [.lit (.bool true)], args := [d1, d2] }
  | _ => none }
def stateWholeRow : OpenClaim := { program := "ytnjjailadijdlaagreatdoor", sum := "65b33bf5af65a2d6ec91414d44680ceafd035ded1ac8c287362d76eba71bf29e", func := "mainsheet/mainsheetlaw20.StateWhole", spec := "stateWhole", inPlace := ["slices.overlaps[mainsheet/api.Timer]", "slices.overlaps[mainsheet/api.Runner]"], unfollowed := true, recurses := true, named := ["math/bits.deBruijn32tab"], apart := false, laid := [("math/bits.deBruijn32tab", laid_math_bits_deBruijn32tab)] }
def StateWholeSaid : Prop := stateWholeRow.holds Tryz.pinned (OpenSpec.ofChange stateWholeSpec)

/-- ITS FALSE NEIGHBOUR: 'it returns false'. Refute it at one input. -/
def stateWholeWrong : ChangeSpec := { name := "stateWhole", fn := fun _ => fun
  | [d1, d2] => { results := [.lit (.bool false)], args := [d1, d2] }
  | _ => none }
def StateWholeWrongFalsely : Prop := stateWholeRow.holds Tryz.pinned (OpenSpec.ofChange stateWholeWrong)

/-- 'mainsheetlaw20.StateWakes': WHATEVER THE INPUT: true; the input reads as it did. -/
def stateWakesSpec : ChangeSpec := { name := "stateWakes", fn := fun _ => fun
  | [d1, d2] => { results := [.lit (.bool true)], args := [d1, d2] }
  | _ => none }
def stateWakesRow : OpenClaim := { program := "ytnjjailadijdlaagreatdoor", sum := "65b33bf5af65a2d6ec91414d44680ceafd035ded1ac8c287362d76eba71bf29e", func := "mainsheet/mainsheetlaw20.StateWakes", spec := "stateWakes", inPlace := ["slices.overlaps[mainsheet/api.Timer]", "slices.overlaps[mainsheet/api.Runner]"], unfollowed := true, recurses := true, named := ["math/bits.deBruijn32tab"], apart := false, laid := [("math/bits.deBruijn32tab", laid_math_bits_deBruijn32tab)] }
def StateWakesSaid : Prop := stateWakesRow.holds Tryz.pinned (OpenSpec.ofChange stateWakesSpec)

/-- ITS FALSE NEIGHBOUR: 'it returns false'. Refute it at one input. -/
def stateWakesWrong : ChangeSpec := { name := "stateWakes", fn := fun _ => fun
  | [d1, d2] => { results := [.lit (.bool false)], args := [d1, d2] }
  | _ => none }
def StateWakesWrongFalsely : Prop := stateWakesRow.holds Tryz.pinned (OpenSpec.ofChange stateWakesWrong)

/- THE SECOND FORM. 'bulk': how many values and letters a reading holds, each counted each time it is reached (what is shared counts as often as it is met; a slice's spare places count too). A statement '..UptoSaid' is the law's where the arguments, and the package variables that the reading takes, are together of bulk at most 1048576: NARROWER than '..Said'. Prove '..Said' where nothing that the law and all that it calls make is longer than what came in: it says more and counts as full. Else prove '..UptoSaid'. A law counts once. -/
mutual
def uptoBulk {H : Type} : DataW H → Nat
  | .lit (.string bytes) => bytes.length + 1
  | .lit _ => 1
  | .nil => 1
  | .ptr d => uptoBulk d + 1
  | .slice elems spare => uptoBulkAll elems + uptoBulkAll spare + 1
  | .agg parts => uptoBulkAll parts + 1
  | .iface _ d => uptoBulk d + 1
  | .map entries => uptoBulkEntries entries + 1
  | .held _ => 1
def uptoBulkAll {H : Type} : List (DataW H) → Nat
  | [] => 0
  | d :: r => uptoBulk d + uptoBulkAll r
def uptoBulkEntries {H : Type} : List (Lit × DataW H) → Nat
  | [] => 0
  | x :: r => uptoBulkEntry x + uptoBulkEntries r
def uptoBulkEntry {H : Type} : Lit × DataW H → Nat
  | (.string bytes, d) => bytes.length + uptoBulk d + 1
  | (_, d) => uptoBulk d + 1
 end
def uptoSmall : (H : Type) → List (DataW H) → Bool := fun _ ds => decide (uptoBulkAll ds ≤ 1048576)
def OpenSpec.upto (s : _root_.Go.ChangeSpec) : _root_.Go.OpenSpec := { _root_.Go.OpenSpec.ofChange s with cond := some uptoSmall }

/-- 'mainsheetlaw20.StateNews', WHERE WHAT IT READS IS OF BULK AT MOST 1048576: true; the input reads as it did. -/
def stateNewsUptoRow : OpenClaim := { program := "ytnjjailadijdlaagreatdoor", sum := "65b33bf5af65a2d6ec91414d44680ceafd035ded1ac8c287362d76eba71bf29e", func := "mainsheet/mainsheetlaw20.StateNews", spec := "stateNews", inPlace := ["slices.overlaps[mainsheet/api.Timer]", "slices.overlaps[mainsheet/api.Runner]"], unfollowed := true, recurses := true, named := ["math/bits.deBruijn32tab"], apart := false, laid := [("math/bits.deBruijn32tab", laid_math_bits_deBruijn32tab)], narrowed := true }
def StateNewsUptoSaid : Prop := stateNewsUptoRow.holds Tryz.pinned (OpenSpec.upto stateNewsSpec)

/-- 'mainsheetlaw20.StateChecks', WHERE WHAT IT READS IS OF BULK AT MOST 1048576: true; the input reads as it did. -/
def stateChecksUptoRow : OpenClaim := { program := "ytnjjailadijdlaagreatdoor", sum := "65b33bf5af65a2d6ec91414d44680ceafd035ded1ac8c287362d76eba71bf29e", func := "mainsheet/mainsheetlaw20.StateChecks", spec := "stateChecks", inPlace := ["slices.overlaps[mainsheet/api.Timer]", "slices.overlaps[mainsheet/api.Runner]"], unfollowed := true, recurses := true, named := ["math/bits.deBruijn32tab"], apart := false, laid := [("math/bits.deBruijn32tab", laid_math_bits_deBruijn32tab)], narrowed := true }
def StateChecksUptoSaid : Prop := stateChecksUptoRow.holds Tryz.pinned (OpenSpec.upto stateChecksSpec)

/-- 'mainsheetlaw20.StateTells', WHERE WHAT IT READS IS OF BULK AT MOST 1048576: true; the input reads as it did. -/
def stateTellsUptoRow : OpenClaim := { program := "ytnjjailadijdlaagreatdoor", sum := "65b33bf5af65a2d6ec91414d44680ceafd035ded1ac8c287362d76eba71bf29e", func := "mainsheet/mainsheetlaw20.StateTells", spec := "stateTells", inPlace := ["slices.overlaps[mainsheet/api.Timer]", "slices.overlaps[mainsheet/api.Runner]"], unfollowed := true, recurses := true, named := ["math/bits.deBruijn32tab"], apart := false, laid := [("math/bits.deBruijn32tab", laid_math_bits_deBruijn32tab)], narrowed := true }
def StateTellsUptoSaid : Prop := stateTellsUptoRow.holds Tryz.pinned (OpenSpec.upto stateTellsSpec)

/-- 'mainsheetlaw20.StateQueues', WHERE WHAT IT READS IS OF BULK AT MOST 1048576: true; the input reads as it did. -/
def stateQueuesUptoRow : OpenClaim := { program := "ytnjjailadijdlaagreatdoor", sum := "65b33bf5af65a2d6ec91414d44680ceafd035ded1ac8c287362d76eba71bf29e", func := "mainsheet/mainsheetlaw20.StateQueues", spec := "stateQueues", inPlace := ["slices.overlaps[mainsheet/api.Timer]", "slices.overlaps[mainsheet/api.Runner]"], unfollowed := true, recurses := true, named := ["math/bits.deBruijn32tab"], apart := false, laid := [("math/bits.deBruijn32tab", laid_math_bits_deBruijn32tab)], narrowed := true }
def StateQueuesUptoSaid : Prop := stateQueuesUptoRow.holds Tryz.pinned (OpenSpec.upto stateQueuesSpec)

/-- 'mainsheetlaw20.StateStays', WHERE WHAT IT READS IS OF BULK AT MOST 1048576: true; the input reads as it did. -/
def stateStaysUptoRow : OpenClaim := { program := "ytnjjailadijdlaagreatdoor", sum := "65b33bf5af65a2d6ec91414d44680ceafd035ded1ac8c287362d76eba71bf29e", func := "mainsheet/mainsheetlaw20.StateStays", spec := "stateStays", inPlace := ["slices.overlaps[mainsheet/api.Timer]", "slices.overlaps[mainsheet/api.Runner]"], unfollowed := true, recurses := true, named := ["math/bits.deBruijn32tab"], apart := false, laid := [("math/bits.deBruijn32tab", laid_math_bits_deBruijn32tab)], narrowed := true }
def StateStaysUptoSaid : Prop := stateStaysUptoRow.holds Tryz.pinned (OpenSpec.upto stateStaysSpec)

/-- 'mainsheetlaw20.StateWhole', WHERE WHAT IT READS IS OF BULK AT MOST 1048576: true; the input reads as it did. -/
def stateWholeUptoRow : OpenClaim := { program := "ytnjjailadijdlaagreatdoor", sum := "65b33bf5af65a2d6ec91414d44680ceafd035ded1ac8c287362d76eba71bf29e", func := "mainsheet/mainsheetlaw20.StateWhole", spec := "stateWhole", inPlace := ["slices.overlaps[mainsheet/api.Timer]", "slices.overlaps[mainsheet/api.Runner]"], unfollowed := true, recurses := true, named := ["math/bits.deBruijn32tab"], apart := false, laid := [("math/bits.deBruijn32tab", laid_math_bits_deBruijn32tab)], narrowed := true }
def StateWholeUptoSaid : Prop := stateWholeUptoRow.holds Tryz.pinned (OpenSpec.upto stateWholeSpec)

/-- 'mainsheetlaw20.StateWakes', WHERE WHAT IT READS IS OF BULK AT MOST 1048576: true; the input reads as it did. -/
def stateWakesUptoRow : OpenClaim := { program := "ytnjjailadijdlaagreatdoor", sum := "65b33bf5af65a2d6ec91414d44680ceafd035ded1ac8c287362d76eba71bf29e", func := "mainsheet/mainsheetlaw20.StateWakes", spec := "stateWakes", inPlace := ["slices.overlaps[mainsheet/api.Timer]", "slices.overlaps[mainsheet/api.Runner]"], unfollowed := true, recurses := true, named := ["math/bits.deBruijn32tab"], apart := false, laid := [("math/bits.deBruijn32tab", laid_math_bits_deBruijn32tab)], narrowed := true }
def StateWakesUptoSaid : Prop := stateWakesUptoRow.holds Tryz.pinned (OpenSpec.upto stateWakesSpec)

end Rows
end Go.Proofs.YtnjjailadijdlaaGreatDoor
