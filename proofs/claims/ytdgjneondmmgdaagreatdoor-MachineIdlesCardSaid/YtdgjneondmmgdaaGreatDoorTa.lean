/- The program's tie: its closed facts on words and kinds. -/
import Derived.Test.YtdgjneondmmgdaaGreatDoorRows
import Derived.LaidByTextLater
import Derived.SevenTiedAt
namespace Go.Proofs.YtdgjneondmmgdaaGreatDoor
open Go
abbrev tkL : List (String × DataW Unit) := [("math/bits.deBruijn32tab", Rows.laid_math_bits_deBruijn32tab)]
theorem tk_unsafe : Tryz.pinned.checked.prog.headLifts.contains "ownunsafe" = false := by kernel_rfl
theorem tk_w : Tryz.prog.worded (varsWordLater true) = true := by kernel_rfl
theorem tk_w2 : Tryz.prog.worded (varsWordLater !true) = false := by kernel_rfl
theorem tk_root : Tryz.prog.worded rootWordLater = true := by kernel_rfl
theorem tk_k : tkL.map (fun x => Tryz.prog.kindOfLater x.1) = [LaidKind.data].map some := by kernel_rfl
theorem tk_g : (Tryz.prog.funcNamed "gosem.cut.vars").isSome = true := by kernel_rfl
end Go.Proofs.YtdgjneondmmgdaaGreatDoor
