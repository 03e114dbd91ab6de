/- Cpuset: First, Count, Within as plain functions. -/
import Derived.Test.YtpeekgekmjldlaaDoorCeK
namespace Go.Proofs.YtpeekgekmjldlaaDoor
open Go.Fw
set_option maxRecDepth 100000
set_option linter.unusedVariables false
def uFirst_0_p (a : Int) : Int := (bif bif bif decide (a < (0 : Int)) then true else decide (a > (8 : Int)) then true else false then (0 : Int) else IntKind.wrap IntKind.u32 (IntKind.wrap IntKind.u32 ((1 : Int) * (2 : Int) ^ min (Int.toNat a) (IntKind.bits IntKind.u32)) - (1 : Int)))
theorem uFirst_0_pe (a : Int) : uFirst_0 a = uFirst_0_p a := by
  rw [uFirst_0_eq]
  simp only [V.toInt]
  rfl
def uFirst_1_p (a : Int) : Int := (bif bif bif decide (a < (0 : Int)) then true else decide (a > (8 : Int)) then true else false then (2 : Int) else (0 : Int))
theorem uFirst_1_pe (a : Int) : uFirst_1 a = uFirst_1_p a := by
  rw [uFirst_1_eq]
  simp only [V.toInt]
  rfl
def uCount_0_p (a : Int) : Int := (Int.ofNat (List.length (lst (Int.toNat (IntKind.wrap IntKind.u32 ((BitVec.toNat (BitVec.ofInt (IntKind.bits IntKind.u32) a &&& BitVec.ofInt (IntKind.bits IntKind.u32) (255 : Int)) : Nat) : Int))))))
theorem uCount_0_pe (a : Int) : uCount_0 a = uCount_0_p a := by
  rw [uCount_0_eq]
  simp only [V.toInt]
  rfl
def uWithin_0_p (a : Int) (b : Int) : Bool := (IntKind.wrap IntKind.u32 ((BitVec.toNat (BitVec.ofInt (IntKind.bits IntKind.u32) (IntKind.wrap IntKind.u32 ((BitVec.toNat (BitVec.ofInt (IntKind.bits IntKind.u32) a &&& BitVec.ofInt (IntKind.bits IntKind.u32) (255 : Int)) : Nat) : Int)) &&& ~~~BitVec.ofInt (IntKind.bits IntKind.u32) b) : Nat) : Int) == (0 : Int))
theorem uWithin_0_pe (a : Int) (b : Int) : uWithin_0 a b = uWithin_0_p a b := by
  rw [uWithin_0_eq]
  simp only [V.toBool]
  rfl
end Go.Proofs.YtpeekgekmjldlaaDoor
