/- The program's tie: its closed facts on what is laid. -/
import Derived.Test.YtdgjneondmmgdaaGreatDoorTa
set_option linter.unusedSimpArgs false
set_option linter.unusedVariables false
namespace Go.Proofs.YtdgjneondmmgdaaGreatDoor
open Go
theorem tk_n : varsNamedLaterB Tryz.prog (varsId Tryz.prog) tkL = true := by kernel_rfl
end Go.Proofs.YtdgjneondmmgdaaGreatDoor
