/- LiveNames: a round over the kinds, as the evaluator has it. -/
import Derived.Test.YtkkojdcchnailaaGreatDoorNb
namespace Go.Proofs.YtkkojdcchnailaaGreatDoor
open Go.Fw
set_option maxRecDepth 100000
set_option linter.unusedVariables false
theorem kinds_body (B : Base) (n : Nat) (f : Nat → Int) (m : Nat) (g : Nat → List UInt8) (i : Int) : ((ev (en [c_lname, c_rname] []) 400 3 (loopAt P 3 4) B (canon 0 70 [1,4,15,16,17] [] (kK n f m g i) .nil)).bind fun x => Tree.leaf (x.1, vw 0 70 [1,4,15,16,17] [] x.2)) =
    Tree.node (bif decide (i < (n : Int)) then false else true) (Tree.leaf (Ex.exit (0 : Nat), true, V.cons (V.rsl false (1 : Nat) m fun a => V.cons (V.str false (g a)) V.nil)
    (V.cons (V.bool true false) (V.cons (V.rsl false (1 : Nat) n fun a => V.cons (V.int false IntKind.i64 (f a)) V.nil) (V.cons (V.int false IntKind.i64 (n : Int)) (V.cons (V.int
    false IntKind.i64 i) V.nil)))), V.nil)) (Tree.need ((0 : Int) ≤ i ∧ i < (n : Int)) (Tree.node (bif bif bif decide (i < (20 : Int)) then !lname_0 (f (Int.toNat i)) == rname_0 (f
    (Int.toNat i)) else false then true else false then true else false) (Tree.leaf (Ex.ret, true, V.cons (V.rsl false (1 : Nat) m fun a => V.cons (V.str false (g a)) V.nil)
    (V.cons (V.bool true false) (V.cons (V.rsl false (1 : Nat) n fun a => V.cons (V.int false IntKind.i64 (f a)) V.nil) (V.cons (V.int false IntKind.i64 (n : Int)) (V.cons (V.int
    false IntKind.i64 i) V.nil)))), V.nil)) (Tree.leaf (Ex.normal, true, V.cons (V.rsl false (1 : Nat) m fun a => V.cons (V.str false (g a)) V.nil) (V.cons (V.bool true false)
    (V.cons (V.rsl false (1 : Nat) n fun a => V.cons (V.int false IntKind.i64 (f a)) V.nil) (V.cons (V.int false IntKind.i64 (n : Int)) (V.cons (V.int false IntKind.i64
    (IntKind.wrap IntKind.i64 (i + (1 : Int)))) V.nil)))), V.nil)))) := by kernel_rfl
end Go.Proofs.YtkkojdcchnailaaGreatDoor
