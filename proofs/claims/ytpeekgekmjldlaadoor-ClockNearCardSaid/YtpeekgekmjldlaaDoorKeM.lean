/- Equations of what the evaluator says of functions of the program; printed by a program of ours (wip/tools/Show.lean). -/
import Derived.Test.YtpeekgekmjldlaaDoorKcM
namespace Go.Proofs.YtpeekgekmjldlaaDoor
open Go.Fw
set_option maxRecDepth 100000
set_option linter.unusedVariables false

theorem kDown_0_eq (a : Int) (b : Int) : kDown_0 a b = V.toInt (V.int false IntKind.i64 (bif decide (a < (0 : Int)) then (0 : Int) else bif decide (a > (1125899906842624 : Int))
  then (0 : Int) else bif decide (b < (0 : Int)) then (0 : Int) else bif decide (b > (1125899906842624 : Int)) then (0 : Int) else bif b == (0 : Int) then (0 : Int) else
  IntKind.wrap IntKind.i64 (a - Int.tmod a b))) := by kernel_rfl
theorem kDown_1_eq (a : Int) (b : Int) : kDown_1 a b = V.toInt (V.int false IntKind.i64 (bif decide (a < (0 : Int)) then (120 : Int) else bif decide (a > (1125899906842624 : Int))
  then (120 : Int) else bif decide (b < (0 : Int)) then (120 : Int) else bif decide (b > (1125899906842624 : Int)) then (120 : Int) else bif b == (0 : Int) then (2 : Int) else (0 :
  Int))) := by kernel_rfl
theorem kUp_0_eq (a : Int) (b : Int) : kUp_0 a b = V.toInt (V.int false IntKind.i64 (bif kDown_1 a b != (0 : Int) then kDown_0 a b else bif kDown_0 a b == a then kDown_0 a b else
  kAdd_0 (kDown_0 a b) b)) := by kernel_rfl
theorem kUp_1_eq (a : Int) (b : Int) : kUp_1 a b = V.toInt (V.int false IntKind.i64 (bif kDown_1 a b != (0 : Int) then kDown_1 a b else bif kDown_0 a b == a then kDown_1 a b else
  kAdd_1 (kDown_0 a b) b)) := by kernel_rfl
theorem kTimes_0_eq (a : Int) (b : Int) : kTimes_0 a b = V.toInt (V.int false IntKind.i64 (bif decide (a < (0 : Int)) then (0 : Int) else bif decide (a > (1125899906842624 : Int))
  then (0 : Int) else bif a == (0 : Int) then bif decide (b ≥ (0 : Int)) then (0 : Int) else bif decide (b < (0 : Int)) then (0 : Int) else bif decide (b > IntKind.wrap IntKind.i64
  (Int.tdiv (1125899906842624 : Int) a)) then (1125899906842624 : Int) else IntKind.wrap IntKind.i64 (b * a) else bif decide (b < (0 : Int)) then (0 : Int) else bif decide (b >
  IntKind.wrap IntKind.i64 (Int.tdiv (1125899906842624 : Int) a)) then (1125899906842624 : Int) else IntKind.wrap IntKind.i64 (b * a))) := by kernel_rfl
theorem kTimes_1_eq (a : Int) (b : Int) : kTimes_1 a b = V.toInt (V.int false IntKind.i64 (bif decide (a < (0 : Int)) then (120 : Int) else bif decide (a > (1125899906842624 :
  Int)) then (120 : Int) else bif a == (0 : Int) then bif decide (b ≥ (0 : Int)) then (0 : Int) else bif decide (b < (0 : Int)) then (2 : Int) else bif decide (b > IntKind.wrap
  IntKind.i64 (Int.tdiv (1125899906842624 : Int) a)) then (0 : Int) else (0 : Int) else bif decide (b < (0 : Int)) then (2 : Int) else bif decide (b > IntKind.wrap IntKind.i64
  (Int.tdiv (1125899906842624 : Int) a)) then (0 : Int) else (0 : Int))) := by kernel_rfl
end Go.Proofs.YtpeekgekmjldlaaDoor
