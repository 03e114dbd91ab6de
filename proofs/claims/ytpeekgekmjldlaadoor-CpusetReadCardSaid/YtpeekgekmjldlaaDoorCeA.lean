/- Equations of what the evaluator says of functions of the program; printed by a program of ours (wip/tools/Show.lean). -/
import Derived.Test.YtpeekgekmjldlaaDoorCcA
namespace Go.Proofs.YtpeekgekmjldlaaDoor
open Go.Fw
set_option maxRecDepth 100000
set_option linter.unusedVariables false

theorem uCheck_0_eq (a : Int) : uCheck_0 a = V.toInt (V.int false IntKind.i64 (bif bif IntKind.wrap IntKind.u32 ↑(BitVec.toNat (BitVec.ofInt (IntKind.bits IntKind.u32) a &&&
  ~~~BitVec.ofInt (IntKind.bits IntKind.u32) (255 : Int))) != (0 : Int) then true else false then (140 : Int) else (0 : Int))) := by kernel_rfl
theorem uBit_0_eq (a : Int) : uBit_0 a = V.toInt (V.int false IntKind.u32 (bif bif bif decide (a < (0 : Int)) then true else decide (a ≥ (8 : Int)) then true else false then (0 :
  Int) else IntKind.wrap IntKind.u32 ((1 : Int) * (2 : Int) ^ min (Int.toNat a) (IntKind.bits IntKind.u32)))) := by kernel_rfl
theorem uHas_0_eq (a : Int) (b : Int) : uHas_0 a b = V.toBool (V.bool false (IntKind.wrap IntKind.u32 ↑(BitVec.toNat (BitVec.ofInt (IntKind.bits IntKind.u32) a &&& BitVec.ofInt
  (IntKind.bits IntKind.u32) (uBit_0 b))) != (0 : Int))) := by kernel_rfl
theorem uTurn_0_eq (a : Int) (b : Int) : uTurn_0 a b = V.toInt (V.int false IntKind.i64 (bif bif uCheck_0 a == (0 : Int) then uBit_0 b == (0 : Int) else false then (2 : Int) else
  uCheck_0 a)) := by kernel_rfl
theorem uWith_0_eq (a : Int) (b : Int) : uWith_0 a b = V.toInt (V.int false IntKind.u32 (bif bif bif uTurn_0 a b != (0 : Int) then true else bif bif uHas_0 a b then true else false
  then true else false then true else false then (0 : Int) else IntKind.wrap IntKind.u32 ↑(BitVec.toNat (BitVec.ofInt (IntKind.bits IntKind.u32) a ||| BitVec.ofInt (IntKind.bits
  IntKind.u32) (uBit_0 b))))) := by kernel_rfl
theorem uWith_1_eq (a : Int) (b : Int) : uWith_1 a b = V.toInt (V.int false IntKind.i64 (bif bif bif uTurn_0 a b != (0 : Int) then true else bif bif uHas_0 a b then true else false
  then true else false then true else false then bif uTurn_0 a b != (0 : Int) then uTurn_0 a b else (5 : Int) else (0 : Int))) := by kernel_rfl
theorem uWithout_0_eq (a : Int) (b : Int) : uWithout_0 a b = V.toInt (V.int false IntKind.u32 (bif bif bif uTurn_0 a b != (0 : Int) then true else bif bif !uHas_0 a b then true
  else false then true else false then true else false then (0 : Int) else IntKind.wrap IntKind.u32 ↑(BitVec.toNat (BitVec.ofInt (IntKind.bits IntKind.u32) a &&& ~~~BitVec.ofInt
  (IntKind.bits IntKind.u32) (uBit_0 b))))) := by kernel_rfl
theorem uWithout_1_eq (a : Int) (b : Int) : uWithout_1 a b = V.toInt (V.int false IntKind.i64 (bif bif bif uTurn_0 a b != (0 : Int) then true else bif bif !uHas_0 a b then true
  else false then true else false then true else false then bif uTurn_0 a b != (0 : Int) then uTurn_0 a b else (4 : Int) else (0 : Int))) := by kernel_rfl
theorem vRight_0_eq (a : Int) : vRight_0 a = V.toBool (V.bool false (decide (a < (256 : Int)))) := by kernel_rfl
theorem vCpu_0_eq (a : Int) : vCpu_0 a = V.toBool (V.bool false (bif decide (a ≥ (0 : Int)) then decide (a < (8 : Int)) else false)) := by kernel_rfl
theorem vHas_0_eq (a : Int) (b : Int) : vHas_0 a b = V.toBool (V.bool false (bif bif decide (b ≥ (0 : Int)) then decide (b < (8 : Int)) else false then Int.tmod (Int.fdiv a ((2 :
  Int) ^ min (Int.toNat b) (IntKind.bits IntKind.u32))) (2 : Int) == (1 : Int) else false)) := by kernel_rfl
end Go.Proofs.YtpeekgekmjldlaaDoor
