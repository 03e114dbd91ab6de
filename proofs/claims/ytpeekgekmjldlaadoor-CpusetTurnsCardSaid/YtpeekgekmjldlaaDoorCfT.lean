/- CpusetTurns, within the numbers: a round of the loop, as the evaluator has it. -/
import Derived.Test.YtpeekgekmjldlaaDoorCcL
namespace Go.Proofs.YtpeekgekmjldlaaDoor
open Go.Fw
set_option maxRecDepth 100000
theorem turns_body (B : Base) (m : Nat) (f : Nat → Int) (n : Nat) (g : Nat → Int) (i a j : Int) : ((ev (en [c_uWith, c_uWithout, c_vRight, c_vCpu, c_vHas] []) 400 13 (loopAt P 13 8) B (canon 0 89 [1,6,19,20,21,28,29,30] [] (kI m f n g i a j) .nil)).bind fun x => Tree.leaf (x.1, vw 0 89 [1,6,19,20,21,28,29,30] [] x.2)) =
    Tree.node (bif decide (j < (n : Int)) then false else true) (Tree.leaf (Ex.exit (2 : Nat), true, V.cons (V.rsl false (1 : Nat) n fun a => V.cons (V.int false IntKind.i64 (g a))
    V.nil) (V.cons (V.int false IntKind.u32 a) (V.cons (V.rsl false (1 : Nat) m fun a => V.cons (V.int false IntKind.u32 (f a)) V.nil) (V.cons (V.int false IntKind.i64 (m : Int))
    (V.cons (V.int false IntKind.i64 i) (V.cons (V.rsl false (1 : Nat) n fun a => V.cons (V.int false IntKind.i64 (g a)) V.nil) (V.cons (V.int false IntKind.i64 (n : Int)) (V.cons
    (V.int false IntKind.i64 j) V.nil))))))), V.nil)) (Tree.need (((0 : Int) ≤ j ∧ j < (n : Int)) ∧ ((bif j == (12 : Int) then true else false) = false → (!vRight_0 a) = false →
    (!vCpu_0 (g (Int.toNat j))) = false → (vHas_0 a (g (Int.toNat j)) = true → (0 : Int) ≤ g (Int.toNat j)) ∧ (vHas_0 a (g (Int.toNat j)) = false → (0 : Int) ≤ g (Int.toNat j))))
    (Tree.node (bif bif j == (12 : Int) then true else false then false else bif bif bif uWith_1 a (g (Int.toNat j)) != bif !vRight_0 a then (140 : Int) else bif !vCpu_0 (g
    (Int.toNat j)) then (2 : Int) else bif vHas_0 a (g (Int.toNat j)) then (5 : Int) else (0 : Int) then true else bif uWithout_1 a (g (Int.toNat j)) != bif !vRight_0 a then (140 :
    Int) else bif !vCpu_0 (g (Int.toNat j)) then (2 : Int) else bif vHas_0 a (g (Int.toNat j)) then (0 : Int) else (4 : Int) then true else bif uWith_0 a (g (Int.toNat j)) != bif
    !vRight_0 a then (0 : Int) else bif !vCpu_0 (g (Int.toNat j)) then (0 : Int) else bif vHas_0 a (g (Int.toNat j)) then (0 : Int) else IntKind.wrap IntKind.u32 (a + IntKind.wrap
    IntKind.u32 ((1 : Int) * (2 : Int) ^ min (Int.toNat (g (Int.toNat j))) (IntKind.bits IntKind.u32))) then true else uWithout_0 a (g (Int.toNat j)) != bif !vRight_0 a then (0 :
    Int) else bif !vCpu_0 (g (Int.toNat j)) then (0 : Int) else bif vHas_0 a (g (Int.toNat j)) then IntKind.wrap IntKind.u32 (a - IntKind.wrap IntKind.u32 ((1 : Int) * (2 : Int) ^
    min (Int.toNat (g (Int.toNat j))) (IntKind.bits IntKind.u32))) else (0 : Int) then true else false then true else false) (Tree.leaf (Ex.ret, true, V.cons (V.rsl false (1 : Nat)
    n fun a => V.cons (V.int false IntKind.i64 (g a)) V.nil) (V.cons (V.int false IntKind.u32 a) (V.cons (V.rsl false (1 : Nat) m fun a => V.cons (V.int false IntKind.u32 (f a))
    V.nil) (V.cons (V.int false IntKind.i64 (m : Int)) (V.cons (V.int false IntKind.i64 i) (V.cons (V.rsl false (1 : Nat) n fun a => V.cons (V.int false IntKind.i64 (g a)) V.nil)
    (V.cons (V.int false IntKind.i64 (n : Int)) (V.cons (V.int false IntKind.i64 j) V.nil))))))), V.nil)) (Tree.node (bif bif j == (12 : Int) then true else false then true else
    false) (Tree.leaf (Ex.exit (2 : Nat), true, V.cons (V.rsl false (1 : Nat) n fun a => V.cons (V.int false IntKind.i64 (g a)) V.nil) (V.cons (V.int false IntKind.u32 a) (V.cons
    (V.rsl false (1 : Nat) m fun a => V.cons (V.int false IntKind.u32 (f a)) V.nil) (V.cons (V.int false IntKind.i64 (m : Int)) (V.cons (V.int false IntKind.i64 i) (V.cons (V.rsl
    false (1 : Nat) n fun a => V.cons (V.int false IntKind.i64 (g a)) V.nil) (V.cons (V.int false IntKind.i64 (n : Int)) (V.cons (V.int false IntKind.i64 j) V.nil))))))), V.nil))
    (Tree.leaf (Ex.normal, true, V.cons (V.rsl false (1 : Nat) n fun a => V.cons (V.int false IntKind.i64 (g a)) V.nil) (V.cons (V.int false IntKind.u32 a) (V.cons (V.rsl false (1
    : Nat) m fun a => V.cons (V.int false IntKind.u32 (f a)) V.nil) (V.cons (V.int false IntKind.i64 (m : Int)) (V.cons (V.int false IntKind.i64 i) (V.cons (V.rsl false (1 : Nat) n
    fun a => V.cons (V.int false IntKind.i64 (g a)) V.nil) (V.cons (V.int false IntKind.i64 (n : Int)) (V.cons (V.int false IntKind.i64 (IntKind.wrap IntKind.i64 (j + (1 : Int))))
    V.nil))))))), V.nil))))) := by kernel_rfl
end Go.Proofs.YtpeekgekmjldlaaDoor
