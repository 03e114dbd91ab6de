/- Equations of what the evaluator says of functions of the program; printed by a program of ours (wip/tools/Show.lean). -/
import Derived.Test.YtfealfofcjgihaaBcB
namespace Go.Proofs.Ytfealfofcjgihaa
open Go.Fw
set_option maxRecDepth 100000
set_option linter.unusedVariables false

theorem bWait_0_eq (a0 : Int) (a1 : Int) : bWait_0 a0 a1 = V.toInt
  (V.int false IntKind.i64
    (bif bCheck_0 a0 a1 != 0 then 0
    else
      bif !bDry_0 a0 a1 then 0
      else IntKind.wrap IntKind.i64 (IntKind.wrap IntKind.i64 (Int.tdiv (IntKind.wrap IntKind.i64 (0 - a1)) a0) + 1))) := by kernel_rfl

theorem bWait_1_eq (a0 : Int) (a1 : Int) : bWait_1 a0 a1 = V.toInt
  (V.int false IntKind.i64 (bif bCheck_0 a0 a1 != 0 then bCheck_0 a0 a1 else bif !bDry_0 a0 a1 then 0 else 0)) := by kernel_rfl

end Go.Proofs.Ytfealfofcjgihaa
