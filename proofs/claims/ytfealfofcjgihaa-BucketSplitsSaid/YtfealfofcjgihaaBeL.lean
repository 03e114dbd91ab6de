/- Equations of what the evaluator says of functions of the program; printed by a program of ours (wip/tools/Show.lean). -/
import Derived.Test.YtfealfofcjgihaaBcL
namespace Go.Proofs.Ytfealfofcjgihaa
open Go.Fw
set_option maxRecDepth 100000
set_option linter.unusedVariables false

theorem lPasses_0_eq (a0 : Int) (a1 : Int) (b : Int) (c : Int) : lPasses_0 a0 a1 b c = V.toBool
  (V.bool false
    (bif bPass_0 a0 a1 b c == rPass_0 a0 a1 b c && (bPass_1 a0 a1 b c == rPass_1 a0 a1 b c && true) then
      bPass_2 a0 a1 b c == rPass_2 a0 a1 b c
    else false)) := by kernel_rfl

end Go.Proofs.Ytfealfofcjgihaa
