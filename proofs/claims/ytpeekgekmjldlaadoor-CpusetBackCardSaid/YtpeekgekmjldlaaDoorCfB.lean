/- CpusetBack: a round of the loop, as the evaluator has it. -/
import Derived.Test.YtpeekgekmjldlaaDoorCcM
namespace Go.Proofs.YtpeekgekmjldlaaDoor
open Go.Fw
set_option maxRecDepth 100000
set_option linter.unusedVariables false
theorem back2_body (B : Base) (m : Nat) (f : Nat → Int) (b i : Int) : ((ev (en [c_uCheck, c_uWith, c_uWithout, c_uHas, c_uCount, c_uWithin] []) 400 15 (loopAt P 15 4) B (canon 0 121 [1,17,18,19] [] (kB m f b i) .nil)).bind fun x => Tree.leaf (x.1, vw 0 121 [1,17,18,19] [] x.2)) =
    Tree.node (bif decide (i < (m : Int)) then false else true) (Tree.leaf (Ex.exit (0 : Nat), true, V.cons (V.int false IntKind.i64 b) (V.cons (V.rsl false (1 : Nat) m fun a =>
    V.cons (V.int false IntKind.u32 (f a)) V.nil) (V.cons (V.int false IntKind.i64 (m : Int)) (V.cons (V.int false IntKind.i64 i) V.nil))), V.nil)) (Tree.need ((0 : Int) ≤ i ∧ i <
    (m : Int)) (Tree.node (bif i == (20 : Int) then true else false) (Tree.leaf (Ex.exit (0 : Nat), true, V.cons (V.int false IntKind.i64 b) (V.cons (V.rsl false (1 : Nat) m fun a
    => V.cons (V.int false IntKind.u32 (f a)) V.nil) (V.cons (V.int false IntKind.i64 (m : Int)) (V.cons (V.int false IntKind.i64 i) V.nil))), V.nil)) (Tree.node (bif uCheck_0 (f
    (Int.toNat i)) != (0 : Int) then true else false) (Tree.leaf (Ex.normal, true, V.cons (V.int false IntKind.i64 b) (V.cons (V.rsl false (1 : Nat) m fun a => V.cons (V.int false
    IntKind.u32 (f a)) V.nil) (V.cons (V.int false IntKind.i64 (m : Int)) (V.cons (V.int false IntKind.i64 (IntKind.wrap IntKind.i64 (i + (1 : Int)))) V.nil))), V.nil)) (Tree.node
    (bif bif uWith_1 (f (Int.toNat i)) b == (0 : Int) then bif bif bif uWithout_1 (uWith_0 (f (Int.toNat i)) b) b != (0 : Int) then true else bif uWithout_0 (uWith_0 (f (Int.toNat
    i)) b) b != f (Int.toNat i) then true else bif !uHas_0 (uWith_0 (f (Int.toNat i)) b) b then true else bif uCount_0 (uWith_0 (f (Int.toNat i)) b) != IntKind.wrap IntKind.i64
    (uCount_0 (f (Int.toNat i)) + (1 : Int)) then true else bif uWithout_1 (f (Int.toNat i)) b != (4 : Int) then true else bif !uWithin_0 (f (Int.toNat i)) (uWith_0 (f (Int.toNat
    i)) b) then true else uWithin_0 (uWith_0 (f (Int.toNat i)) b) (f (Int.toNat i)) then true else false then true else false else bif bif uWithout_1 (f (Int.toNat i)) b == (0 :
    Int) then bif bif bif uWith_1 (uWithout_0 (f (Int.toNat i)) b) b != (0 : Int) then true else bif uWith_0 (uWithout_0 (f (Int.toNat i)) b) b != f (Int.toNat i) then true else
    bif uHas_0 (uWithout_0 (f (Int.toNat i)) b) b then true else !uWithin_0 (uWithout_0 (f (Int.toNat i)) b) (f (Int.toNat i)) then true else false then true else false else bif
    bif bif uWith_1 (f (Int.toNat i)) b != (2 : Int) then true else uWithout_1 (f (Int.toNat i)) b != (2 : Int) then true else false then true else false then true else false then
    true else false) (Tree.leaf (Ex.ret, true, V.cons (V.int false IntKind.i64 b) (V.cons (V.rsl false (1 : Nat) m fun a => V.cons (V.int false IntKind.u32 (f a)) V.nil) (V.cons
    (V.int false IntKind.i64 (m : Int)) (V.cons (V.int false IntKind.i64 i) V.nil))), V.nil)) (Tree.leaf (Ex.normal, true, V.cons (V.int false IntKind.i64 b) (V.cons (V.rsl false
    (1 : Nat) m fun a => V.cons (V.int false IntKind.u32 (f a)) V.nil) (V.cons (V.int false IntKind.i64 (m : Int)) (V.cons (V.int false IntKind.i64 (IntKind.wrap IntKind.i64 (i +
    (1 : Int)))) V.nil))), V.nil)))))) := by kernel_rfl
end Go.Proofs.YtpeekgekmjldlaaDoor
