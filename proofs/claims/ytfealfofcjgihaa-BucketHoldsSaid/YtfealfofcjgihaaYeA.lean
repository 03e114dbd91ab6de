/- Equations of what the evaluator says of functions of the program; printed by a program of ours (wip/tools/Show.lean). -/
import Derived.Test.YtfealfofcjgihaaYcA
namespace Go.Proofs.Ytfealfofcjgihaa
open Go.Fw
set_option maxRecDepth 100000
set_option linter.unusedVariables false

theorem bCheck_0_eq (a0 : Int) (a1 : Int) : bCheck_0 a0 a1 = V.toInt (V.int false IntKind.i64 (bif bif bif bif bif bif bif decide (a0 < (0 : Int)) then true else decide (a0 > (800
  : Int)) then true else false then true else false then true else false then true else bif bif bif bif bif decide (a1 < (-8000000000 : Int)) then true else decide (a1 >
  IntKind.wrap IntKind.i64 (a0 * (100000000 : Int))) then true else false then true else false then true else false then true else bif a0 == (0 : Int) then !(a0 == (0 : Int) && (a1
  == (0 : Int) && true)) else false then true else false then (210 : Int) else (0 : Int))) := by kernel_rfl
theorem bDry_0_eq (a0 : Int) (a1 : Int) : bDry_0 a0 a1 = V.toBool (V.bool false (bif bCheck_0 a0 a1 == (0 : Int) then bif decide (a0 > (0 : Int)) then decide (a1 ≤ (0 : Int)) else
  false else false)) := by kernel_rfl
theorem bNew_0_eq (a : Int) : bNew_0 a = V.toInt (V.int false IntKind.i64 (bif bif bif bif bif decide (a < (0 : Int)) then true else decide (a > (800 : Int)) then true else false
  then true else false then true else false then (0 : Int) else a)) := by kernel_rfl
theorem bNew_1_eq (a : Int) : bNew_1 a = V.toInt (V.int false IntKind.i64 (bif bif bif bif bif decide (a < (0 : Int)) then true else decide (a > (800 : Int)) then true else false
  then true else false then true else false then (0 : Int) else IntKind.wrap IntKind.i64 (a * (100000000 : Int)))) := by kernel_rfl
theorem bNew_2_eq (a : Int) : bNew_2 a = V.toInt (V.int false IntKind.i64 (bif bif bif bif bif decide (a < (0 : Int)) then true else decide (a > (800 : Int)) then true else false
  then true else false then true else false then (2 : Int) else (0 : Int))) := by kernel_rfl
theorem bDepth_0_eq (a0 : Int) (a1 : Int) : bDepth_0 a0 a1 = V.toInt (V.int false IntKind.i64 (bif bif bCheck_0 a0 a1 != (0 : Int) then true else false then (0 : Int) else
  IntKind.wrap IntKind.i64 (a0 * (100000000 : Int)))) := by kernel_rfl
theorem bPass_0_eq (a0 : Int) (a1 : Int) (b : Int) (c : Int) : bPass_0 a0 a1 b c = V.toInt (V.int false IntKind.i64 (bif bif bif bCheck_0 a0 a1 != (0 : Int) then true else bif bif
  bif bif decide (b < (0 : Int)) then true else decide (b > (10000000 : Int)) then true else false then true else false then true else bif bif bif bif decide (c < (0 : Int)) then
  true else decide (c > (8 : Int)) then true else false then true else false then true else bif bif bif bDry_0 a0 a1 then bif decide (c > (0 : Int)) then decide (b > (0 : Int))
  else false else false then true else bif bif a0 == (0 : Int) then true else false then true else false then true else false then true else false then bif bCheck_0 a0 a1 != (0 :
  Int) then (0 : Int) else bif bif bif bif decide (b < (0 : Int)) then true else decide (b > (10000000 : Int)) then true else false then true else false then (0 : Int) else bif bif
  bif bif decide (c < (0 : Int)) then true else decide (c > (8 : Int)) then true else false then true else false then (0 : Int) else bif bif bDry_0 a0 a1 then bif decide (c > (0 :
  Int)) then decide (b > (0 : Int)) else false else false then (0 : Int) else a0 else a0)) := by kernel_rfl
theorem bPass_1_eq (a0 : Int) (a1 : Int) (b : Int) (c : Int) : bPass_1 a0 a1 b c = V.toInt (V.int false IntKind.i64 (bif bif bif bCheck_0 a0 a1 != (0 : Int) then true else bif bif
  bif bif decide (b < (0 : Int)) then true else decide (b > (10000000 : Int)) then true else false then true else false then true else bif bif bif bif decide (c < (0 : Int)) then
  true else decide (c > (8 : Int)) then true else false then true else false then true else bif bif bif bDry_0 a0 a1 then bif decide (c > (0 : Int)) then decide (b > (0 : Int))
  else false else false then true else bif bif a0 == (0 : Int) then true else false then true else false then true else false then true else false then bif bCheck_0 a0 a1 != (0 :
  Int) then (0 : Int) else bif bif bif bif decide (b < (0 : Int)) then true else decide (b > (10000000 : Int)) then true else false then true else false then (0 : Int) else bif bif
  bif bif decide (c < (0 : Int)) then true else decide (c > (8 : Int)) then true else false then true else false then (0 : Int) else bif bif bDry_0 a0 a1 then bif decide (c > (0 :
  Int)) then decide (b > (0 : Int)) else false else false then (0 : Int) else a1 else if IntKind.wrap IntKind.i64 (a0 * (100000000 : Int)) < IntKind.wrap IntKind.i64 (a1 +
  IntKind.wrap IntKind.i64 (IntKind.wrap IntKind.i64 (a0 - IntKind.wrap IntKind.i64 ((100 : Int) * c)) * b)) then IntKind.wrap IntKind.i64 (a0 * (100000000 : Int)) else
  IntKind.wrap IntKind.i64 (a1 + IntKind.wrap IntKind.i64 (IntKind.wrap IntKind.i64 (a0 - IntKind.wrap IntKind.i64 ((100 : Int) * c)) * b)))) := by kernel_rfl
theorem bPass_2_eq (a0 : Int) (a1 : Int) (b : Int) (c : Int) : bPass_2 a0 a1 b c = V.toInt (V.int false IntKind.i64 (bif bif bif bCheck_0 a0 a1 != (0 : Int) then true else bif bif
  bif bif decide (b < (0 : Int)) then true else decide (b > (10000000 : Int)) then true else false then true else false then true else bif bif bif bif decide (c < (0 : Int)) then
  true else decide (c > (8 : Int)) then true else false then true else false then true else bif bif bif bDry_0 a0 a1 then bif decide (c > (0 : Int)) then decide (b > (0 : Int))
  else false else false then true else bif bif a0 == (0 : Int) then true else false then true else false then true else false then true else false then bif bCheck_0 a0 a1 != (0 :
  Int) then (210 : Int) else bif bif bif bif decide (b < (0 : Int)) then true else decide (b > (10000000 : Int)) then true else false then true else false then (2 : Int) else bif
  bif bif bif decide (c < (0 : Int)) then true else decide (c > (8 : Int)) then true else false then true else false then (2 : Int) else bif bif bDry_0 a0 a1 then bif decide (c >
  (0 : Int)) then decide (b > (0 : Int)) else false else false then (211 : Int) else (0 : Int) else (0 : Int))) := by kernel_rfl
theorem bChange_0_eq (a0 : Int) (a1 : Int) (b : Int) : bChange_0 a0 a1 b = V.toInt (V.int false IntKind.i64 (bif bif bCheck_0 a0 a1 != (0 : Int) then true else false then (0 : Int)
  else bif bif bNew_2 b == (0 : Int) then bif decide (b > (0 : Int)) then decide (a0 > (0 : Int)) else false else false then bNew_0 b else bNew_0 b)) := by kernel_rfl
theorem bChange_1_eq (a0 : Int) (a1 : Int) (b : Int) : bChange_1 a0 a1 b = V.toInt (V.int false IntKind.i64 (bif bif bCheck_0 a0 a1 != (0 : Int) then true else false then (0 : Int)
  else bif bif bNew_2 b == (0 : Int) then bif decide (b > (0 : Int)) then decide (a0 > (0 : Int)) else false else false then if IntKind.wrap IntKind.i64 (b * (100000000 : Int)) <
  a1 then IntKind.wrap IntKind.i64 (b * (100000000 : Int)) else a1 else bNew_1 b)) := by kernel_rfl
theorem bChange_2_eq (a0 : Int) (a1 : Int) (b : Int) : bChange_2 a0 a1 b = V.toInt (V.int false IntKind.i64 (bif bif bCheck_0 a0 a1 != (0 : Int) then true else false then bCheck_0
  a0 a1 else bNew_2 b)) := by kernel_rfl
theorem bBound_0_eq (a : Int) (b : Int) (c : Int) (d : Int) : bBound_0 a b c d = V.toInt (V.int false IntKind.i64 (bif bif bif bif decide (a < (0 : Int)) then true else decide (a >
  (800 : Int)) then true else false then true else false then (0 : Int) else bif bif bif bif decide (a < (1 : Int)) then true else decide (a > (800 : Int)) then true else false
  then true else false then (0 : Int) else bif bif bif bif decide (b < (0 : Int)) then true else decide (b > (1125899906842624 : Int)) then true else false then true else false
  then (0 : Int) else bif bif bif bif decide (c < (0 : Int)) then true else decide (c > (10000000 : Int)) then true else false then true else false then (0 : Int) else bif bif bif
  bif decide (d < (0 : Int)) then true else decide (d > (8 : Int)) then true else false then true else false then (0 : Int) else IntKind.wrap IntKind.i64 (IntKind.wrap IntKind.i64
  (IntKind.wrap IntKind.i64 (a * (100000000 : Int)) + IntKind.wrap IntKind.i64 (a * b)) + IntKind.wrap IntKind.i64 (IntKind.wrap IntKind.i64 ((100 : Int) * d) * c)))) := by
  kernel_rfl
theorem bBound_1_eq (a : Int) (b : Int) (c : Int) (d : Int) : bBound_1 a b c d = V.toInt (V.int false IntKind.i64 (bif bif bif bif decide (a < (0 : Int)) then true else decide (a >
  (800 : Int)) then true else false then true else false then (2 : Int) else bif bif bif bif decide (a < (1 : Int)) then true else decide (a > (800 : Int)) then true else false
  then true else false then (2 : Int) else bif bif bif bif decide (b < (0 : Int)) then true else decide (b > (1125899906842624 : Int)) then true else false then true else false
  then (2 : Int) else bif bif bif bif decide (c < (0 : Int)) then true else decide (c > (10000000 : Int)) then true else false then true else false then (2 : Int) else bif bif bif
  bif decide (d < (0 : Int)) then true else decide (d > (8 : Int)) then true else false then true else false then (2 : Int) else (0 : Int))) := by kernel_rfl
end Go.Proofs.Ytfealfofcjgihaa
