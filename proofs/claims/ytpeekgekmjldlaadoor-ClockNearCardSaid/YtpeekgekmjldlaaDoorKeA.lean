/- Equations of what the evaluator says of functions of the program; printed by a program of ours (wip/tools/Show.lean). -/
import Derived.Test.YtpeekgekmjldlaaDoorKcA
namespace Go.Proofs.YtpeekgekmjldlaaDoor
open Go.Fw
set_option maxRecDepth 100000
set_option linter.unusedVariables false

theorem kCheck_0_eq (a : Int) : kCheck_0 a = V.toInt (V.int false IntKind.i64 (bif bif bif decide (a < (0 : Int)) then true else decide (a > (1125899906842624 : Int)) then true
  else false then (120 : Int) else (0 : Int))) := by kernel_rfl
theorem kAdd_0_eq (a : Int) (b : Int) : kAdd_0 a b = V.toInt (V.int false IntKind.i64 (bif bif bif bif decide (a < (0 : Int)) then true else decide (a > (1125899906842624 : Int))
  then true else false then true else false then (0 : Int) else bif bif bif bif decide (b < (0 : Int)) then true else decide (b > (1125899906842624 : Int)) then true else false
  then true else false then (0 : Int) else bif (bif decide (IntKind.wrap IntKind.i64 (a + b) > (1125899906842624 : Int)) then (6 : Int) else (0 : Int)) != (0 : Int) then (0 : Int)
  else IntKind.wrap IntKind.i64 (a + b))) := by kernel_rfl
theorem kAdd_1_eq (a : Int) (b : Int) : kAdd_1 a b = V.toInt (V.int false IntKind.i64 (bif bif bif bif decide (a < (0 : Int)) then true else decide (a > (1125899906842624 : Int))
  then true else false then true else false then (120 : Int) else bif bif bif bif decide (b < (0 : Int)) then true else decide (b > (1125899906842624 : Int)) then true else false
  then true else false then (120 : Int) else bif decide (IntKind.wrap IntKind.i64 (a + b) > (1125899906842624 : Int)) then (6 : Int) else (0 : Int))) := by kernel_rfl
theorem kLess_0_eq (a : Int) (b : Int) : kLess_0 a b = V.toInt (V.int false IntKind.i64 (bif bif bif bif decide (a < (0 : Int)) then true else decide (a > (1125899906842624 : Int))
  then true else false then true else false then (0 : Int) else bif bif bif bif decide (b < (0 : Int)) then true else decide (b > (1125899906842624 : Int)) then true else false
  then true else false then (0 : Int) else bif (bif decide (b > a) then (2 : Int) else (0 : Int)) != (0 : Int) then (0 : Int) else IntKind.wrap IntKind.i64 (a - b))) := by
  kernel_rfl
theorem kLess_1_eq (a : Int) (b : Int) : kLess_1 a b = V.toInt (V.int false IntKind.i64 (bif bif bif bif decide (a < (0 : Int)) then true else decide (a > (1125899906842624 : Int))
  then true else false then true else false then (120 : Int) else bif bif bif bif decide (b < (0 : Int)) then true else decide (b > (1125899906842624 : Int)) then true else false
  then true else false then (120 : Int) else bif decide (b > a) then (2 : Int) else (0 : Int))) := by kernel_rfl
theorem kStop_0_eq (a : Int) (b : Int) : kStop_0 a b = V.toInt (V.int false IntKind.i64 (bif bif bif bif decide (a < (0 : Int)) then true else decide (a > (1125899906842624 : Int))
  then true else false then true else false then (0 : Int) else bif bif bif bif decide (b < (0 : Int)) then true else decide (b > (1125899906842624 : Int)) then true else false
  then true else false then (0 : Int) else if (1125899906842624 : Int) < IntKind.wrap IntKind.i64 (a + b) then (1125899906842624 : Int) else IntKind.wrap IntKind.i64 (a + b))) :=
  by kernel_rfl
theorem kStop_1_eq (a : Int) (b : Int) : kStop_1 a b = V.toInt (V.int false IntKind.i64 (bif bif bif bif decide (a < (0 : Int)) then true else decide (a > (1125899906842624 : Int))
  then true else false then true else false then (120 : Int) else bif bif bif bif decide (b < (0 : Int)) then true else decide (b > (1125899906842624 : Int)) then true else false
  then true else false then (120 : Int) else (0 : Int))) := by kernel_rfl
theorem kAgo_0_eq (a : Int) (b : Int) : kAgo_0 a b = V.toInt (V.int false IntKind.i64 (bif bif bif bif decide (a < (0 : Int)) then true else decide (a > (1125899906842624 : Int))
  then true else false then true else false then (0 : Int) else bif bif bif bif decide (b < (0 : Int)) then true else decide (b > (1125899906842624 : Int)) then true else false
  then true else false then (0 : Int) else if (0 : Int) > IntKind.wrap IntKind.i64 (a - b) then (0 : Int) else IntKind.wrap IntKind.i64 (a - b))) := by kernel_rfl
theorem kAgo_1_eq (a : Int) (b : Int) : kAgo_1 a b = V.toInt (V.int false IntKind.i64 (bif bif bif bif decide (a < (0 : Int)) then true else decide (a > (1125899906842624 : Int))
  then true else false then true else false then (120 : Int) else bif bif bif bif decide (b < (0 : Int)) then true else decide (b > (1125899906842624 : Int)) then true else false
  then true else false then (120 : Int) else (0 : Int))) := by kernel_rfl
theorem tRight_0_eq (a : Int) : tRight_0 a = V.toBool (V.bool false (bif decide (a ≥ (0 : Int)) then decide (a ≤ (1125899906842624 : Int)) else false)) := by kernel_rfl
theorem tAdd_0_eq (a : Int) (b : Int) : tAdd_0 a b = V.toInt (V.int false IntKind.i64 (bif bif decide (b > IntKind.wrap IntKind.i64 ((1125899906842624 : Int) - a)) then true else
  false then (0 : Int) else IntKind.wrap IntKind.i64 (a + b))) := by kernel_rfl
theorem tAdd_1_eq (a : Int) (b : Int) : tAdd_1 a b = V.toBool (V.bool false (bif bif decide (b > IntKind.wrap IntKind.i64 ((1125899906842624 : Int) - a)) then true else false then
  false else true)) := by kernel_rfl
theorem tStop_0_eq (a : Int) (b : Int) : tStop_0 a b = V.toInt (V.int false IntKind.i64 (bif bif tAdd_1 a b then true else false then tAdd_0 a b else (1125899906842624 : Int))) :=
  by kernel_rfl
end Go.Proofs.YtpeekgekmjldlaaDoor
