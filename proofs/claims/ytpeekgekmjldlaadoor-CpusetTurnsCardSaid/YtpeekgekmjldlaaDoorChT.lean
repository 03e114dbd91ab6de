/- CpusetTurns, within the sets: a round of the loop, as the evaluator has it. -/
import Derived.Test.YtpeekgekmjldlaaDoorCgT
namespace Go.Proofs.YtpeekgekmjldlaaDoor
open Go.Fw
set_option maxRecDepth 100000
set_option linter.unusedVariables false
theorem turnsO_body (B : Base) (m : Nat) (f : Nat → Int) (n : Nat) (g : Nat → Int) (i : Int) : ((ev (en [] [turnsG m f n g]) 400 13 (loopAt P 13 4) B (canon 0 89 [1,19,20,21] [] (kO m f n g i) .nil)).bind fun x => Tree.leaf (x.1, vw 0 89 [1,19,20,21] [] x.2)) =
    Tree.node (bif decide (i < (m : Int)) then false else true) (Tree.leaf (Ex.exit (0 : Nat), true, V.cons (V.rsl false (1 : Nat) n fun a => V.cons (V.int false IntKind.i64 (g a))
    V.nil) (V.cons (V.rsl false (1 : Nat) m fun a => V.cons (V.int false IntKind.u32 (f a)) V.nil) (V.cons (V.int false IntKind.i64 (m : Int)) (V.cons (V.int false IntKind.i64 i)
    V.nil))), V.nil)) (Tree.need ((0 : Int) ≤ i ∧ i < (m : Int)) (Tree.node (bif i == (12 : Int) then true else false) (Tree.leaf (Ex.exit (0 : Nat), true, V.cons (V.rsl false (1 :
    Nat) n fun a => V.cons (V.int false IntKind.i64 (g a)) V.nil) (V.cons (V.rsl false (1 : Nat) m fun a => V.cons (V.int false IntKind.u32 (f a)) V.nil) (V.cons (V.int false
    IntKind.i64 (m : Int)) (V.cons (V.int false IntKind.i64 i) V.nil))), V.nil)) (Tree.need (((n = n ∧ rowN g = rowN g) ∧ (m = m ∧ rowS f = rowS f) ∧ (m : Int) = (m : Int)) ∧ ((n =
    n ∧ rowN g = rowN g) ∧ (n : Int) = (n : Int) ∧ (0 : Int) = (0 : Int)) ∧ (0 : Int) ≤ f (Int.toNat i) ∧ f (Int.toNat i) < (4294967296 : Int)) (Tree.all Int fun x => Tree.leaf
    (Ex.normal, true, V.cons (V.rsl false (1 : Nat) n fun a => V.cons (V.int false IntKind.i64 (g a)) V.nil) (V.cons (V.rsl false (1 : Nat) m fun a => V.cons (V.int false
    IntKind.u32 (f a)) V.nil) (V.cons (V.int false IntKind.i64 (m : Int)) (V.cons (V.int false IntKind.i64 (IntKind.wrap IntKind.i64 (i + (1 : Int)))) V.nil))), V.nil))))) := by kernel_rfl
end Go.Proofs.YtpeekgekmjldlaaDoor
