/- Equations of what the evaluator says of functions of the program; printed by a program of ours (wip/tools/Show.lean). -/
import Derived.Test.YtfealfofcjgihaaXcD
namespace Go.Proofs.Ytfealfofcjgihaa
open Go.Fw
set_option maxRecDepth 100000
set_option linter.unusedVariables false

theorem wEvent_0_eq (a0 : Int) (a1 : Int) (a2 : Int) (a3 : Int) (b : Int) (c : Bool) : wEvent_0 a0 a1 a2 a3 b c = V.toInt (V.int false IntKind.i64 (bif bif wCheck_0 a0 a1 a2 a3 !=
  (0 : Int) then true else false then (0 : Int) else bif bif bif decide (b < (0 : Int)) then true else decide (b ≥ (32 : Int)) then true else false then (0 : Int) else bif bif bif
  bif bif a0 == (3 : Int) then true else false then false else bif bif a0 == (2 : Int) then true else false then false else true then true else false then false else bif bif bif
  bif a0 == (3 : Int) then true else false then false else bif bif a0 == (2 : Int) then true else false then true else false then false else IntKind.wrap IntKind.u32 ↑(BitVec.toNat
  (BitVec.ofInt (IntKind.bits IntKind.u32) (Int.fdiv a2 ((2 : Int) ^ min (Int.toNat b) (IntKind.bits IntKind.u32))) &&& BitVec.ofInt (IntKind.bits IntKind.u32) (1 : Int))) == (1 :
  Int) then true else !c then (1 : Int) else a0)) := by kernel_rfl
theorem wEvent_1_eq (a0 : Int) (a1 : Int) (a2 : Int) (a3 : Int) (b : Int) (c : Bool) : wEvent_1 a0 a1 a2 a3 b c = V.toInt (V.int false IntKind.i64 (bif bif wCheck_0 a0 a1 a2 a3 !=
  (0 : Int) then true else false then (0 : Int) else bif bif bif decide (b < (0 : Int)) then true else decide (b ≥ (32 : Int)) then true else false then (0 : Int) else bif bif bif
  bif bif a0 == (3 : Int) then true else false then false else bif bif a0 == (2 : Int) then true else false then false else true then true else false then false else bif bif bif
  bif a0 == (3 : Int) then true else false then false else bif bif a0 == (2 : Int) then true else false then true else false then false else IntKind.wrap IntKind.u32 ↑(BitVec.toNat
  (BitVec.ofInt (IntKind.bits IntKind.u32) (Int.fdiv a2 ((2 : Int) ^ min (Int.toNat b) (IntKind.bits IntKind.u32))) &&& BitVec.ofInt (IntKind.bits IntKind.u32) (1 : Int))) == (1 :
  Int) then true else !c then a1 else a1)) := by kernel_rfl
theorem wEvent_2_eq (a0 : Int) (a1 : Int) (a2 : Int) (a3 : Int) (b : Int) (c : Bool) : wEvent_2 a0 a1 a2 a3 b c = V.toInt (V.int false IntKind.u32 (bif bif wCheck_0 a0 a1 a2 a3 !=
  (0 : Int) then true else false then (0 : Int) else bif bif bif decide (b < (0 : Int)) then true else decide (b ≥ (32 : Int)) then true else false then (0 : Int) else bif bif bif
  bif bif a0 == (3 : Int) then true else false then false else bif bif a0 == (2 : Int) then true else false then false else true then true else false then false else bif bif bif
  bif a0 == (3 : Int) then true else false then false else bif bif a0 == (2 : Int) then true else false then true else false then false else IntKind.wrap IntKind.u32 ↑(BitVec.toNat
  (BitVec.ofInt (IntKind.bits IntKind.u32) (Int.fdiv a2 ((2 : Int) ^ min (Int.toNat b) (IntKind.bits IntKind.u32))) &&& BitVec.ofInt (IntKind.bits IntKind.u32) (1 : Int))) == (1 :
  Int) then true else !c then (0 : Int) else a2)) := by kernel_rfl
theorem wEvent_3_eq (a0 : Int) (a1 : Int) (a2 : Int) (a3 : Int) (b : Int) (c : Bool) : wEvent_3 a0 a1 a2 a3 b c = V.toInt (V.int false IntKind.i64 (bif bif wCheck_0 a0 a1 a2 a3 !=
  (0 : Int) then true else false then (0 : Int) else bif bif bif decide (b < (0 : Int)) then true else decide (b ≥ (32 : Int)) then true else false then (0 : Int) else bif bif bif
  bif bif a0 == (3 : Int) then true else false then false else bif bif a0 == (2 : Int) then true else false then false else true then true else false then false else bif bif bif
  bif a0 == (3 : Int) then true else false then false else bif bif a0 == (2 : Int) then true else false then true else false then false else IntKind.wrap IntKind.u32 ↑(BitVec.toNat
  (BitVec.ofInt (IntKind.bits IntKind.u32) (Int.fdiv a2 ((2 : Int) ^ min (Int.toNat b) (IntKind.bits IntKind.u32))) &&& BitVec.ofInt (IntKind.bits IntKind.u32) (1 : Int))) == (1 :
  Int) then true else !c then (0 : Int) else a3)) := by kernel_rfl
theorem wEvent_4_eq (a0 : Int) (a1 : Int) (a2 : Int) (a3 : Int) (b : Int) (c : Bool) : wEvent_4 a0 a1 a2 a3 b c = V.toBool (V.bool false (bif bif wCheck_0 a0 a1 a2 a3 != (0 : Int)
  then true else false then false else bif bif bif decide (b < (0 : Int)) then true else decide (b ≥ (32 : Int)) then true else false then false else !((bif bif bif bif bif a0 ==
  (3 : Int) then true else false then false else bif bif a0 == (2 : Int) then true else false then false else true then true else false then false else bif bif bif bif a0 == (3 :
  Int) then true else false then false else bif bif a0 == (2 : Int) then true else false then true else false then false else IntKind.wrap IntKind.u32 ↑(BitVec.toNat (BitVec.ofInt
  (IntKind.bits IntKind.u32) (Int.fdiv a2 ((2 : Int) ^ min (Int.toNat b) (IntKind.bits IntKind.u32))) &&& BitVec.ofInt (IntKind.bits IntKind.u32) (1 : Int))) == (1 : Int) then true
  else !c then (1 : Int) else a0) == a0 && ((bif bif bif bif bif a0 == (3 : Int) then true else false then false else bif bif a0 == (2 : Int) then true else false then false else
  true then true else false then false else bif bif bif bif a0 == (3 : Int) then true else false then false else bif bif a0 == (2 : Int) then true else false then true else false
  then false else IntKind.wrap IntKind.u32 ↑(BitVec.toNat (BitVec.ofInt (IntKind.bits IntKind.u32) (Int.fdiv a2 ((2 : Int) ^ min (Int.toNat b) (IntKind.bits IntKind.u32))) &&&
  BitVec.ofInt (IntKind.bits IntKind.u32) (1 : Int))) == (1 : Int) then true else !c then a1 else a1) == a1 && ((bif bif bif bif bif a0 == (3 : Int) then true else false then false
  else bif bif a0 == (2 : Int) then true else false then false else true then true else false then false else bif bif bif bif a0 == (3 : Int) then true else false then false else
  bif bif a0 == (2 : Int) then true else false then true else false then false else IntKind.wrap IntKind.u32 ↑(BitVec.toNat (BitVec.ofInt (IntKind.bits IntKind.u32) (Int.fdiv a2
  ((2 : Int) ^ min (Int.toNat b) (IntKind.bits IntKind.u32))) &&& BitVec.ofInt (IntKind.bits IntKind.u32) (1 : Int))) == (1 : Int) then true else !c then (0 : Int) else a2) == a2
  && ((bif bif bif bif bif a0 == (3 : Int) then true else false then false else bif bif a0 == (2 : Int) then true else false then false else true then true else false then false
  else bif bif bif bif a0 == (3 : Int) then true else false then false else bif bif a0 == (2 : Int) then true else false then true else false then false else IntKind.wrap
  IntKind.u32 ↑(BitVec.toNat (BitVec.ofInt (IntKind.bits IntKind.u32) (Int.fdiv a2 ((2 : Int) ^ min (Int.toNat b) (IntKind.bits IntKind.u32))) &&& BitVec.ofInt (IntKind.bits
  IntKind.u32) (1 : Int))) == (1 : Int) then true else !c then (0 : Int) else a3) == a3 && true)))))) := by kernel_rfl
theorem wEvent_5_eq (a0 : Int) (a1 : Int) (a2 : Int) (a3 : Int) (b : Int) (c : Bool) : wEvent_5 a0 a1 a2 a3 b c = V.toInt (V.int false IntKind.i64 (bif bif wCheck_0 a0 a1 a2 a3 !=
  (0 : Int) then true else false then wCheck_0 a0 a1 a2 a3 else bif bif bif decide (b < (0 : Int)) then true else decide (b ≥ (32 : Int)) then true else false then (2 : Int) else
  (0 : Int))) := by kernel_rfl
end Go.Proofs.Ytfealfofcjgihaa
