/- Equations of what the evaluator says of functions of the program; printed by a program of ours (wip/tools/Show.lean). -/
import Derived.Test.YtpeekgekmjldlaaDoorCcK
namespace Go.Proofs.YtpeekgekmjldlaaDoor
open Go.Fw
set_option maxRecDepth 100000
set_option linter.unusedVariables false

theorem uFirst_0_eq (a : Int) : uFirst_0 a = V.toInt (V.int false IntKind.u32 (bif bif bif decide (a < (0 : Int)) then true else decide (a > (8 : Int)) then true else false then (0
  : Int) else IntKind.wrap IntKind.u32 (IntKind.wrap IntKind.u32 ((1 : Int) * (2 : Int) ^ min (Int.toNat a) (IntKind.bits IntKind.u32)) - (1 : Int)))) := by kernel_rfl
theorem uFirst_1_eq (a : Int) : uFirst_1 a = V.toInt (V.int false IntKind.i64 (bif bif bif decide (a < (0 : Int)) then true else decide (a > (8 : Int)) then true else false then (2
  : Int) else (0 : Int))) := by kernel_rfl
theorem uCount_0_eq (a : Int) : uCount_0 a = V.toInt (V.int false IntKind.i64 (Int.ofNat (List.length (lst (Int.toNat (IntKind.wrap IntKind.u32 ↑(BitVec.toNat (BitVec.ofInt
  (IntKind.bits IntKind.u32) a &&& BitVec.ofInt (IntKind.bits IntKind.u32) (255 : Int))))))))) := by kernel_rfl
theorem uWithin_0_eq (a : Int) (b : Int) : uWithin_0 a b = V.toBool (V.bool false (IntKind.wrap IntKind.u32 ↑(BitVec.toNat (BitVec.ofInt (IntKind.bits IntKind.u32) (IntKind.wrap
  IntKind.u32 ↑(BitVec.toNat (BitVec.ofInt (IntKind.bits IntKind.u32) a &&& BitVec.ofInt (IntKind.bits IntKind.u32) (255 : Int)))) &&& ~~~BitVec.ofInt (IntKind.bits IntKind.u32)
  b)) == (0 : Int))) := by kernel_rfl
end Go.Proofs.YtpeekgekmjldlaaDoor
