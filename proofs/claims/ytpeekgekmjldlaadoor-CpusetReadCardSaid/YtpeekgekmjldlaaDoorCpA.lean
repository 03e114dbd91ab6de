/- Cpuset: what its functions answer, in plain Lean. -/
import Derived.Test.YtpeekgekmjldlaaDoorCeA
namespace Go.Proofs.YtpeekgekmjldlaaDoor
open Go.Fw
set_option maxRecDepth 100000
set_option linter.unusedVariables false
def uCheck_0_p (a : Int) : Int := (bif bif IntKind.wrap IntKind.u32 ((BitVec.toNat (BitVec.ofInt (IntKind.bits IntKind.u32) a &&& ~~~BitVec.ofInt (IntKind.bits IntKind.u32) (255 : Int)) : Nat) : Int) != (0 : Int) then true else false then (140 : Int) else (0 : Int))
theorem uCheck_0_pe (a : Int) : uCheck_0 a = uCheck_0_p a := by
  rw [uCheck_0_eq]
  simp only [V.toInt]
  rfl
def uBit_0_p (a : Int) : Int := (bif bif bif decide (a < (0 : Int)) then true else decide (a ≥ (8 : Int)) then true else false then (0 : Int) else IntKind.wrap IntKind.u32 ((1 : Int) * (2 : Int) ^ min (Int.toNat a) (IntKind.bits IntKind.u32)))
theorem uBit_0_pe (a : Int) : uBit_0 a = uBit_0_p a := by
  rw [uBit_0_eq]
  simp only [V.toInt]
  rfl
def uHas_0_p (a : Int) (b : Int) : Bool := (IntKind.wrap IntKind.u32 ((BitVec.toNat (BitVec.ofInt (IntKind.bits IntKind.u32) a &&& BitVec.ofInt (IntKind.bits IntKind.u32) (uBit_0_p b)) : Nat) : Int) != (0 : Int))
theorem uHas_0_pe (a : Int) (b : Int) : uHas_0 a b = uHas_0_p a b := by
  rw [uHas_0_eq]
  simp only [V.toBool, uBit_0_pe]
  rfl
def uTurn_0_p (a : Int) (b : Int) : Int := (bif bif uCheck_0_p a == (0 : Int) then uBit_0_p b == (0 : Int) else false then (2 : Int) else uCheck_0_p a)
theorem uTurn_0_pe (a : Int) (b : Int) : uTurn_0 a b = uTurn_0_p a b := by
  rw [uTurn_0_eq]
  simp only [V.toInt, uCheck_0_pe, uBit_0_pe]
  rfl
def uWith_0_p (a : Int) (b : Int) : Int := (bif bif bif uTurn_0_p a b != (0 : Int) then true else bif bif uHas_0_p a b then true else false then true else false then true else false then (0 : Int) else IntKind.wrap IntKind.u32 ((BitVec.toNat (BitVec.ofInt (IntKind.bits IntKind.u32) a ||| BitVec.ofInt (IntKind.bits IntKind.u32) (uBit_0_p b)) : Nat) : Int))
theorem uWith_0_pe (a : Int) (b : Int) : uWith_0 a b = uWith_0_p a b := by
  rw [uWith_0_eq]
  simp only [V.toInt, uBit_0_pe, uHas_0_pe, uTurn_0_pe]
  rfl
def uWith_1_p (a : Int) (b : Int) : Int := (bif bif bif uTurn_0_p a b != (0 : Int) then true else bif bif uHas_0_p a b then true else false then true else false then true else false then bif uTurn_0_p a b != (0 : Int) then uTurn_0_p a b else (5 : Int) else (0 : Int))
theorem uWith_1_pe (a : Int) (b : Int) : uWith_1 a b = uWith_1_p a b := by
  rw [uWith_1_eq]
  simp only [V.toInt, uHas_0_pe, uTurn_0_pe]
  rfl
def uWithout_0_p (a : Int) (b : Int) : Int := (bif bif bif uTurn_0_p a b != (0 : Int) then true else bif bif !uHas_0_p a b then true else false then true else false then true else false then (0 : Int) else IntKind.wrap IntKind.u32 ((BitVec.toNat (BitVec.ofInt (IntKind.bits IntKind.u32) a &&& ~~~BitVec.ofInt (IntKind.bits IntKind.u32) (uBit_0_p b)) : Nat) : Int))
theorem uWithout_0_pe (a : Int) (b : Int) : uWithout_0 a b = uWithout_0_p a b := by
  rw [uWithout_0_eq]
  simp only [V.toInt, uBit_0_pe, uHas_0_pe, uTurn_0_pe]
  rfl
def uWithout_1_p (a : Int) (b : Int) : Int := (bif bif bif uTurn_0_p a b != (0 : Int) then true else bif bif !uHas_0_p a b then true else false then true else false then true else false then bif uTurn_0_p a b != (0 : Int) then uTurn_0_p a b else (4 : Int) else (0 : Int))
theorem uWithout_1_pe (a : Int) (b : Int) : uWithout_1 a b = uWithout_1_p a b := by
  rw [uWithout_1_eq]
  simp only [V.toInt, uHas_0_pe, uTurn_0_pe]
  rfl
def vRight_0_p (a : Int) : Bool := (decide (a < (256 : Int)))
theorem vRight_0_pe (a : Int) : vRight_0 a = vRight_0_p a := by
  rw [vRight_0_eq]
  simp only [V.toBool]
  rfl
def vCpu_0_p (a : Int) : Bool := (bif decide (a ≥ (0 : Int)) then decide (a < (8 : Int)) else false)
theorem vCpu_0_pe (a : Int) : vCpu_0 a = vCpu_0_p a := by
  rw [vCpu_0_eq]
  simp only [V.toBool]
  rfl
def vHas_0_p (a : Int) (b : Int) : Bool := (bif bif decide (b ≥ (0 : Int)) then decide (b < (8 : Int)) else false then Int.tmod (Int.fdiv a ((2 : Int) ^ min (Int.toNat b) (IntKind.bits IntKind.u32))) (2 : Int) == (1 : Int) else false)
theorem vHas_0_pe (a : Int) (b : Int) : vHas_0 a b = vHas_0_p a b := by
  rw [vHas_0_eq]
  simp only [V.toBool]
  rfl
end Go.Proofs.YtpeekgekmjldlaaDoor
