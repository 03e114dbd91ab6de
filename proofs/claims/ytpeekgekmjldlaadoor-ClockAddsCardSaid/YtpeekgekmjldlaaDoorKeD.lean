/- ClockAdds: a round of the loop, as the evaluator has it. -/
import Derived.Test.YtpeekgekmjldlaaDoorKcL
namespace Go.Proofs.YtpeekgekmjldlaaDoor
open Go.Fw
set_option maxRecDepth 100000
theorem adds_body (B : Base) (r : Bool) (n : Nat) (f : Nat → Int × Int) (i : Int) : ((ev (en [c_kCheck, c_kAdd, c_kLess, c_kStop, c_kAgo, c_tRight, c_tAdd, c_tStop]) 400 3 (loopAt P 3 4) B (canon 1 152 [2,23,24,25] [] (kT r n f i) .nil)).bind fun x => Tree.leaf (x.1, vw 1 152 [2,23,24,25] [] x.2)) =
    Tree.node (bif decide (i < ↑n) then false else true) (Tree.leaf (Ex.exit (0 : Nat), true, V.cons (V.bool false r) (V.cons (V.rsl false (2 : Nat) n fun a => V.cons (V.int false
    IntKind.i64 (Prod.fst (f a))) (V.cons (V.int false IntKind.i64 (Prod.snd (f a))) V.nil)) (V.cons (V.int false IntKind.i64 ↑n) (V.cons (V.int false IntKind.i64 i) V.nil))),
    V.nil)) (Tree.need ((0 : Int) ≤ i ∧ i < ↑n) (Tree.node (bif i == (40 : Int) then true else false) (Tree.leaf (Ex.exit (0 : Nat), true, V.cons (V.bool false r) (V.cons (V.rsl
    false (2 : Nat) n fun a => V.cons (V.int false IntKind.i64 (Prod.fst (f a))) (V.cons (V.int false IntKind.i64 (Prod.snd (f a))) V.nil)) (V.cons (V.int false IntKind.i64 ↑n)
    (V.cons (V.int false IntKind.i64 i) V.nil))), V.nil)) (Tree.node (bif bif !(kCheck_0 (Prod.fst (f (Int.toNat i))) == (0 : Int)) == tRight_0 (Prod.fst (f (Int.toNat i))) then
    true else bif kCheck_0 (Prod.fst (f (Int.toNat i))) != (0 : Int) then kCheck_0 (Prod.fst (f (Int.toNat i))) != (120 : Int) else false then true else false) (Tree.leaf (Ex.ret,
    true, V.cons (V.bool true false) (V.cons (V.rsl false (2 : Nat) n fun a => V.cons (V.int false IntKind.i64 (Prod.fst (f a))) (V.cons (V.int false IntKind.i64 (Prod.snd (f a)))
    V.nil)) (V.cons (V.int false IntKind.i64 ↑n) (V.cons (V.int false IntKind.i64 i) V.nil))), V.nil)) (Tree.node (bif !bif tRight_0 (Prod.fst (f (Int.toNat i))) then tRight_0
    (Prod.snd (f (Int.toNat i))) else false then bif bif bif !bif kAdd_0 (Prod.fst (f (Int.toNat i))) (Prod.snd (f (Int.toNat i))) == (0 : Int) then kAdd_1 (Prod.fst (f (Int.toNat
    i))) (Prod.snd (f (Int.toNat i))) == (120 : Int) else false then true else bif !bif kLess_0 (Prod.fst (f (Int.toNat i))) (Prod.snd (f (Int.toNat i))) == (0 : Int) then kLess_1
    (Prod.fst (f (Int.toNat i))) (Prod.snd (f (Int.toNat i))) == (120 : Int) else false then true else bif !bif kStop_0 (Prod.fst (f (Int.toNat i))) (Prod.snd (f (Int.toNat i))) ==
    (0 : Int) then kStop_1 (Prod.fst (f (Int.toNat i))) (Prod.snd (f (Int.toNat i))) == (120 : Int) else false then true else !bif kAgo_0 (Prod.fst (f (Int.toNat i))) (Prod.snd (f
    (Int.toNat i))) == (0 : Int) then kAgo_1 (Prod.fst (f (Int.toNat i))) (Prod.snd (f (Int.toNat i))) == (120 : Int) else false then true else false then true else false else
    false) (Tree.leaf (Ex.ret, true, V.cons (V.bool true false) (V.cons (V.rsl false (2 : Nat) n fun a => V.cons (V.int false IntKind.i64 (Prod.fst (f a))) (V.cons (V.int false
    IntKind.i64 (Prod.snd (f a))) V.nil)) (V.cons (V.int false IntKind.i64 ↑n) (V.cons (V.int false IntKind.i64 i) V.nil))), V.nil)) (Tree.node (bif !bif tRight_0 (Prod.fst (f
    (Int.toNat i))) then tRight_0 (Prod.snd (f (Int.toNat i))) else false then bif bif bif !bif kAdd_0 (Prod.fst (f (Int.toNat i))) (Prod.snd (f (Int.toNat i))) == (0 : Int) then
    kAdd_1 (Prod.fst (f (Int.toNat i))) (Prod.snd (f (Int.toNat i))) == (120 : Int) else false then true else bif !bif kLess_0 (Prod.fst (f (Int.toNat i))) (Prod.snd (f (Int.toNat
    i))) == (0 : Int) then kLess_1 (Prod.fst (f (Int.toNat i))) (Prod.snd (f (Int.toNat i))) == (120 : Int) else false then true else bif !bif kStop_0 (Prod.fst (f (Int.toNat i)))
    (Prod.snd (f (Int.toNat i))) == (0 : Int) then kStop_1 (Prod.fst (f (Int.toNat i))) (Prod.snd (f (Int.toNat i))) == (120 : Int) else false then true else !bif kAgo_0 (Prod.fst
    (f (Int.toNat i))) (Prod.snd (f (Int.toNat i))) == (0 : Int) then kAgo_1 (Prod.fst (f (Int.toNat i))) (Prod.snd (f (Int.toNat i))) == (120 : Int) else false then true else
    false then false else true else false) (Tree.leaf (Ex.normal, true, V.cons (V.bool false r) (V.cons (V.rsl false (2 : Nat) n fun a => V.cons (V.int false IntKind.i64 (Prod.fst
    (f a))) (V.cons (V.int false IntKind.i64 (Prod.snd (f a))) V.nil)) (V.cons (V.int false IntKind.i64 ↑n) (V.cons (V.int false IntKind.i64 (IntKind.wrap IntKind.i64 (i + (1 :
    Int)))) V.nil))), V.nil)) (Tree.node (bif bif bif bif (bif !tAdd_1 (Prod.fst (f (Int.toNat i))) (Prod.snd (f (Int.toNat i))) then (6 : Int) else (0 : Int)) != (0 : Int) then
    true else false then true else false then bif !bif kAdd_0 (Prod.fst (f (Int.toNat i))) (Prod.snd (f (Int.toNat i))) == (0 : Int) then kAdd_1 (Prod.fst (f (Int.toNat i)))
    (Prod.snd (f (Int.toNat i))) == bif !tAdd_1 (Prod.fst (f (Int.toNat i))) (Prod.snd (f (Int.toNat i))) then (6 : Int) else (0 : Int) else false then true else bif bif bif (bif
    decide (Prod.snd (f (Int.toNat i)) > Prod.fst (f (Int.toNat i))) then (2 : Int) else (0 : Int)) != (0 : Int) then true else false then true else false then bif !bif kLess_0
    (Prod.fst (f (Int.toNat i))) (Prod.snd (f (Int.toNat i))) == (0 : Int) then kLess_1 (Prod.fst (f (Int.toNat i))) (Prod.snd (f (Int.toNat i))) == bif decide (Prod.snd (f
    (Int.toNat i)) > Prod.fst (f (Int.toNat i))) then (2 : Int) else (0 : Int) else false then true else bif !bif kStop_0 (Prod.fst (f (Int.toNat i))) (Prod.snd (f (Int.toNat i)))
    == tStop_0 (Prod.fst (f (Int.toNat i))) (Prod.snd (f (Int.toNat i))) then kStop_1 (Prod.fst (f (Int.toNat i))) (Prod.snd (f (Int.toNat i))) == (0 : Int) else false then true
    else !bif kAgo_0 (Prod.fst (f (Int.toNat i))) (Prod.snd (f (Int.toNat i))) == if (0 : Int) > IntKind.wrap IntKind.i64 (Prod.fst (f (Int.toNat i)) - Prod.snd (f (Int.toNat i)))
    then (0 : Int) else IntKind.wrap IntKind.i64 (Prod.fst (f (Int.toNat i)) - Prod.snd (f (Int.toNat i))) then kAgo_1 (Prod.fst (f (Int.toNat i))) (Prod.snd (f (Int.toNat i))) ==
    (0 : Int) else false else bif !bif kLess_0 (Prod.fst (f (Int.toNat i))) (Prod.snd (f (Int.toNat i))) == IntKind.wrap IntKind.i64 (Prod.fst (f (Int.toNat i)) - Prod.snd (f
    (Int.toNat i))) then kLess_1 (Prod.fst (f (Int.toNat i))) (Prod.snd (f (Int.toNat i))) == (0 : Int) else false then true else bif !bif kStop_0 (Prod.fst (f (Int.toNat i)))
    (Prod.snd (f (Int.toNat i))) == tStop_0 (Prod.fst (f (Int.toNat i))) (Prod.snd (f (Int.toNat i))) then kStop_1 (Prod.fst (f (Int.toNat i))) (Prod.snd (f (Int.toNat i))) == (0 :
    Int) else false then true else !bif kAgo_0 (Prod.fst (f (Int.toNat i))) (Prod.snd (f (Int.toNat i))) == if (0 : Int) > IntKind.wrap IntKind.i64 (Prod.fst (f (Int.toNat i)) -
    Prod.snd (f (Int.toNat i))) then (0 : Int) else IntKind.wrap IntKind.i64 (Prod.fst (f (Int.toNat i)) - Prod.snd (f (Int.toNat i))) then kAgo_1 (Prod.fst (f (Int.toNat i)))
    (Prod.snd (f (Int.toNat i))) == (0 : Int) else false else bif !bif kAdd_0 (Prod.fst (f (Int.toNat i))) (Prod.snd (f (Int.toNat i))) == tAdd_0 (Prod.fst (f (Int.toNat i)))
    (Prod.snd (f (Int.toNat i))) then kAdd_1 (Prod.fst (f (Int.toNat i))) (Prod.snd (f (Int.toNat i))) == (0 : Int) else false then true else bif bif bif (bif decide (Prod.snd (f
    (Int.toNat i)) > Prod.fst (f (Int.toNat i))) then (2 : Int) else (0 : Int)) != (0 : Int) then true else false then true else false then bif !bif kLess_0 (Prod.fst (f (Int.toNat
    i))) (Prod.snd (f (Int.toNat i))) == (0 : Int) then kLess_1 (Prod.fst (f (Int.toNat i))) (Prod.snd (f (Int.toNat i))) == bif decide (Prod.snd (f (Int.toNat i)) > Prod.fst (f
    (Int.toNat i))) then (2 : Int) else (0 : Int) else false then true else bif !bif kStop_0 (Prod.fst (f (Int.toNat i))) (Prod.snd (f (Int.toNat i))) == tStop_0 (Prod.fst (f
    (Int.toNat i))) (Prod.snd (f (Int.toNat i))) then kStop_1 (Prod.fst (f (Int.toNat i))) (Prod.snd (f (Int.toNat i))) == (0 : Int) else false then true else !bif kAgo_0 (Prod.fst
    (f (Int.toNat i))) (Prod.snd (f (Int.toNat i))) == if (0 : Int) > IntKind.wrap IntKind.i64 (Prod.fst (f (Int.toNat i)) - Prod.snd (f (Int.toNat i))) then (0 : Int) else
    IntKind.wrap IntKind.i64 (Prod.fst (f (Int.toNat i)) - Prod.snd (f (Int.toNat i))) then kAgo_1 (Prod.fst (f (Int.toNat i))) (Prod.snd (f (Int.toNat i))) == (0 : Int) else false
    else bif !bif kLess_0 (Prod.fst (f (Int.toNat i))) (Prod.snd (f (Int.toNat i))) == IntKind.wrap IntKind.i64 (Prod.fst (f (Int.toNat i)) - Prod.snd (f (Int.toNat i))) then
    kLess_1 (Prod.fst (f (Int.toNat i))) (Prod.snd (f (Int.toNat i))) == (0 : Int) else false then true else bif !bif kStop_0 (Prod.fst (f (Int.toNat i))) (Prod.snd (f (Int.toNat
    i))) == tStop_0 (Prod.fst (f (Int.toNat i))) (Prod.snd (f (Int.toNat i))) then kStop_1 (Prod.fst (f (Int.toNat i))) (Prod.snd (f (Int.toNat i))) == (0 : Int) else false then
    true else !bif kAgo_0 (Prod.fst (f (Int.toNat i))) (Prod.snd (f (Int.toNat i))) == if (0 : Int) > IntKind.wrap IntKind.i64 (Prod.fst (f (Int.toNat i)) - Prod.snd (f (Int.toNat
    i))) then (0 : Int) else IntKind.wrap IntKind.i64 (Prod.fst (f (Int.toNat i)) - Prod.snd (f (Int.toNat i))) then kAgo_1 (Prod.fst (f (Int.toNat i))) (Prod.snd (f (Int.toNat
    i))) == (0 : Int) else false then true else false) (Tree.leaf (Ex.ret, true, V.cons (V.bool true false) (V.cons (V.rsl false (2 : Nat) n fun a => V.cons (V.int false
    IntKind.i64 (Prod.fst (f a))) (V.cons (V.int false IntKind.i64 (Prod.snd (f a))) V.nil)) (V.cons (V.int false IntKind.i64 ↑n) (V.cons (V.int false IntKind.i64 i) V.nil))),
    V.nil)) (Tree.leaf (Ex.normal, true, V.cons (V.bool false r) (V.cons (V.rsl false (2 : Nat) n fun a => V.cons (V.int false IntKind.i64 (Prod.fst (f a))) (V.cons (V.int false
    IntKind.i64 (Prod.snd (f a))) V.nil)) (V.cons (V.int false IntKind.i64 ↑n) (V.cons (V.int false IntKind.i64 (IntKind.wrap IntKind.i64 (i + (1 : Int)))) V.nil))), V.nil)))))))) := by kernel_rfl
end Go.Proofs.YtpeekgekmjldlaaDoor
