/- The program's tie: its closed facts on the run that lays it. -/
import Derived.Test.YtdgjneondmmgdaaGreatDoorTa
set_option linter.unusedSimpArgs false
set_option linter.unusedVariables false
namespace Go.Proofs.YtdgjneondmmgdaaGreatDoor
open Go
theorem tk_d (os : Os) (tape : Tape) : varsDone Tryz.prog 400 (varsId Tryz.prog) os tape = true := by kernel_rfl
theorem tk_1 (os : Os) (tape : Tape) : (DataW.laidRun Tryz.prog (varsWorld Tryz.prog 400 (varsId Tryz.prog) os tape).memory 8 (tkL.map (·.1))).map (·.1) = some tkL := by kernel_rfl
end Go.Proofs.YtdgjneondmmgdaaGreatDoor
