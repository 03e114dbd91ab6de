/- Equations of what the evaluator says of functions of the program; printed by a program of ours (wip/tools/Show.lean). -/
import Derived.Test.YtfealfofcjgihaaYcB
namespace Go.Proofs.Ytfealfofcjgihaa
open Go.Fw
set_option maxRecDepth 100000
set_option linter.unusedVariables false

theorem bWait_0_eq (a0 : Int) (a1 : Int) : bWait_0 a0 a1 = V.toInt (V.int false IntKind.i64 (bif bif bCheck_0 a0 a1 != (0 : Int) then true else false then (0 : Int) else bif bif
  !bDry_0 a0 a1 then true else false then (0 : Int) else IntKind.wrap IntKind.i64 (IntKind.wrap IntKind.i64 (Int.tdiv (IntKind.wrap IntKind.i64 ((0 : Int) - a1)) a0) + (1 : Int))))
  := by kernel_rfl
theorem bWait_1_eq (a0 : Int) (a1 : Int) : bWait_1 a0 a1 = V.toInt (V.int false IntKind.i64 (bif bif bCheck_0 a0 a1 != (0 : Int) then true else false then bCheck_0 a0 a1 else bif
  bif !bDry_0 a0 a1 then true else false then (0 : Int) else (0 : Int))) := by kernel_rfl
end Go.Proofs.Ytfealfofcjgihaa
