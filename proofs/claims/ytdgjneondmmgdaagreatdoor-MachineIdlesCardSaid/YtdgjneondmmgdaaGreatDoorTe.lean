/- The program's tie, and the rows'. -/
import Derived.Test.YtdgjneondmmgdaaGreatDoorTb
import Derived.Test.YtdgjneondmmgdaaGreatDoorTc
import Derived.Test.YtdgjneondmmgdaaGreatDoorTd
set_option linter.unusedSimpArgs false
set_option linter.unusedVariables false
namespace Go.Proofs.YtdgjneondmmgdaaGreatDoor
open Go
theorem tieOwn : Tryz.prog.laidByTextLater [("math/bits.deBruijn32tab", Rows.laid_math_bits_deBruijn32tab)] [.data] true :=
  Program.laidByTextLater_by_run 400 8 tk_w tk_w2 tk_root tk_k tk_g tk_n tk_d tk_1 tk_2
theorem machineIdles_tieOwn : Rows.machineIdlesRow.laidByTextAt .later Tryz.pinned [.data] true :=
  OpenClaim.laidByTextAt_later rfl rfl tieOwn tk_unsafe
end Go.Proofs.YtdgjneondmmgdaaGreatDoor
