/- MachineIdles: what its row says of the program, fact by fact. -/
import Derived.Test.YtdgjneondmmgdaaGreatDoorRows
import Derived.JoinedOf
import Derived.LaidLaws
import Derived.Test.YtdgjneondmmgdaaGreatDoorCz
namespace Go.Proofs.YtdgjneondmmgdaaGreatDoor.machineIdles
open Go
set_option maxRecDepth 100000
theorem fact9 : (Rows.machineIdlesRow.inPlace == Tryz.prog.inPlace 3) = true := by
  unfold Program.inPlace
  rw [closure_eq]
  kernel_rfl
theorem unf : Tryz.prog.unfollowed 3 = true := by
  unfold Program.unfollowed
  rw [closure_eq]
  kernel_rfl
theorem fact10 : (Rows.machineIdlesRow.unfollowed == Tryz.prog.unfollowed 3) = true := by
  rw [unf]
  rfl
theorem fact11 : (Rows.machineIdlesRow.recurses == Tryz.prog.recurses 3) = true := by
  unfold Program.recurses
  rw [unf, Bool.true_or]
  rfl
theorem fact12 : (Rows.machineIdlesRow.named == Tryz.prog.varsNamed 3) = true := by
  unfold Program.varsNamed
  rw [closure_eq]
  kernel_rfl
end Go.Proofs.YtdgjneondmmgdaaGreatDoor.machineIdles
