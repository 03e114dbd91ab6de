/- LiveNames: a round over the names, as the evaluator has it. -/
import Derived.Test.YtkkojdcchnailaaGreatDoorNb
namespace Go.Proofs.YtkkojdcchnailaaGreatDoor
open Go.Fw
set_option maxRecDepth 100000
set_option linter.unusedVariables false
def cut40 (s : List UInt8) : List UInt8 := List.take (Int.toNat (if (40 : Int) < ((List.length s : Nat) : Int) then (40 : Int) else ((List.length s : Nat) : Int)) - (0 : Nat)) (List.drop (0 : Nat) s)
def isK (t : List UInt8) : Int := bif [(109 : UInt8), (111 : UInt8), (118 : UInt8), (101 : UInt8)] == t then Int.ofNat ((10 : Nat)) else bif [(106 : UInt8), (111 : UInt8), (105 : UInt8), (110 : UInt8)] == t then Int.ofNat ((9 : Nat)) else bif [(115 : UInt8), (112 : UInt8), (108 : UInt8), (105 : UInt8), (116 : UInt8)] == t then Int.ofNat ((8 : Nat)) else bif [(108 : UInt8), (101 : UInt8), (97 : UInt8), (118 : UInt8), (101 : UInt8)] == t then Int.ofNat ((7 : Nat)) else bif [(112 : UInt8), (97 : UInt8), (114 : UInt8), (116 : UInt8)] == t then Int.ofNat ((6 : Nat)) else bif [(102 : UInt8), (111 : UInt8), (114 : UInt8), (109 : UInt8)] == t then Int.ofNat ((5 : Nat)) else bif [(114 : UInt8), (101 : UInt8), (109 : UInt8), (97 : UInt8), (115 : UInt8), (107 : UInt8)] == t then Int.ofNat ((4 : Nat)) else bif [(112 : UInt8), (111 : UInt8), (111 : UInt8), (108 : UInt8)] == t then Int.ofNat ((3 : Nat)) else bif [(99 : UInt8), (97 : UInt8), (112 : UInt8)] == t then Int.ofNat ((2 : Nat)) else bif [(119 : UInt8), (101 : UInt8), (105 : UInt8), (103 : UInt8), (104 : UInt8), (116 : UInt8)] == t then (1 : Int) else (0 : Int)
theorem names_body (B : Base) (m : Nat) (g : Nat → List UInt8) (r : Bool) (i : Int) : ((ev (en [c_lkind] []) 400 3 (loopAt P 3 10) B (canon 0 70 [4,32,33,34] [] (kT m g r i) .nil)).bind fun x => Tree.leaf (x.1, vw 0 70 [4,32,33,34] [] x.2)) =
    Tree.node (bif decide (i < (m : Int)) then false else true) (Tree.leaf (Ex.exit (2 : Nat), true, V.cons (V.bool false r) (V.cons (V.rsl false (1 : Nat) m fun a => V.cons (V.str
    false (g a)) V.nil) (V.cons (V.int false IntKind.i64 (m : Int)) (V.cons (V.int false IntKind.i64 i) V.nil))), V.nil)) (Tree.need (((0 : Int) ≤ i ∧ i < (m : Int)) ∧ ((bif i ==
    (20 : Int) then true else false) = false → ((0 : Int) ≤ if (40 : Int) < ((List.length (g (Int.toNat i)) : Nat) : Int) then (40 : Int) else ((List.length (g (Int.toNat i)) :
    Nat) : Int)) ∧ (if (40 : Int) < ((List.length (g (Int.toNat i)) : Nat) : Int) then (40 : Int) else ((List.length (g (Int.toNat i)) : Nat) : Int)) ≤ ((List.length (g (Int.toNat
    i)) : Nat) : Int))) (Tree.node (bif bif i == (20 : Int) then true else false then false else bif bif bif lkind_0 (cut40 (g (Int.toNat i))) != isK (cut40 (g (Int.toNat i))) then
    true else !lkind_1 (cut40 (g (Int.toNat i))) == decide (isK (cut40 (g (Int.toNat i))) > (0 : Int)) then true else false then true else false) (Tree.leaf (Ex.ret, true, V.cons
    (V.bool true false) (V.cons (V.rsl false (1 : Nat) m fun a => V.cons (V.str false (g a)) V.nil) (V.cons (V.int false IntKind.i64 (m : Int)) (V.cons (V.int false IntKind.i64 i)
    V.nil))), V.nil)) (Tree.node (bif bif i == (20 : Int) then true else false then true else false) (Tree.leaf (Ex.exit (2 : Nat), true, V.cons (V.bool false r) (V.cons (V.rsl
    false (1 : Nat) m fun a => V.cons (V.str false (g a)) V.nil) (V.cons (V.int false IntKind.i64 (m : Int)) (V.cons (V.int false IntKind.i64 i) V.nil))), V.nil)) (Tree.leaf
    (Ex.normal, true, V.cons (V.bool false r) (V.cons (V.rsl false (1 : Nat) m fun a => V.cons (V.str false (g a)) V.nil) (V.cons (V.int false IntKind.i64 (m : Int)) (V.cons (V.int
    false IntKind.i64 (IntKind.wrap IntKind.i64 (i + (1 : Int)))) V.nil))), V.nil))))) := by kernel_rfl
end Go.Proofs.YtkkojdcchnailaaGreatDoor
