/- ClockBack: a round of the loop, as the evaluator has it. -/
import Derived.Test.YtpeekgekmjldlaaDoorKcL
namespace Go.Proofs.YtpeekgekmjldlaaDoor
open Go.Fw
set_option maxRecDepth 100000
theorem back_body (B : Base) (r : Bool) (n : Nat) (f : Nat → Int × Int) (i : Int) : ((ev kE 400 4 (loopAt P 4 4) B (canon 1 97 [2,17,18,19] [] (kT r n f i) .nil)).bind fun x => Tree.leaf (x.1, vw 1 97 [2,17,18,19] [] x.2)) =
    Tree.node (bif decide (i < ↑n) then false else true) (Tree.leaf (Ex.exit (0 : Nat), true, V.cons (V.bool false r) (V.cons (V.rsl false (2 : Nat) n fun a => V.cons (V.int false
    IntKind.i64 (Prod.fst (f a))) (V.cons (V.int false IntKind.i64 (Prod.snd (f a))) V.nil)) (V.cons (V.int false IntKind.i64 ↑n) (V.cons (V.int false IntKind.i64 i) V.nil))),
    V.nil)) (Tree.need ((0 : Int) ≤ i ∧ i < ↑n) (Tree.node (bif i == (40 : Int) then true else false) (Tree.leaf (Ex.exit (0 : Nat), true, V.cons (V.bool false r) (V.cons (V.rsl
    false (2 : Nat) n fun a => V.cons (V.int false IntKind.i64 (Prod.fst (f a))) (V.cons (V.int false IntKind.i64 (Prod.snd (f a))) V.nil)) (V.cons (V.int false IntKind.i64 ↑n)
    (V.cons (V.int false IntKind.i64 i) V.nil))), V.nil)) (Tree.node (bif kAdd_1 (Prod.fst (f (Int.toNat i))) (Prod.snd (f (Int.toNat i))) != (0 : Int) then bif bif bif kAdd_1
    (Prod.fst (f (Int.toNat i))) (Prod.snd (f (Int.toNat i))) == (6 : Int) then bif kStop_1 (Prod.fst (f (Int.toNat i))) (Prod.snd (f (Int.toNat i))) != (0 : Int) then true else
    kStop_0 (Prod.fst (f (Int.toNat i))) (Prod.snd (f (Int.toNat i))) != (1125899906842624 : Int) else false then true else false then true else false else false) (Tree.leaf
    (Ex.ret, true, V.cons (V.bool true false) (V.cons (V.rsl false (2 : Nat) n fun a => V.cons (V.int false IntKind.i64 (Prod.fst (f a))) (V.cons (V.int false IntKind.i64 (Prod.snd
    (f a))) V.nil)) (V.cons (V.int false IntKind.i64 ↑n) (V.cons (V.int false IntKind.i64 i) V.nil))), V.nil)) (Tree.node (bif kAdd_1 (Prod.fst (f (Int.toNat i))) (Prod.snd (f
    (Int.toNat i))) != (0 : Int) then bif bif bif kAdd_1 (Prod.fst (f (Int.toNat i))) (Prod.snd (f (Int.toNat i))) == (6 : Int) then bif kStop_1 (Prod.fst (f (Int.toNat i)))
    (Prod.snd (f (Int.toNat i))) != (0 : Int) then true else kStop_0 (Prod.fst (f (Int.toNat i))) (Prod.snd (f (Int.toNat i))) != (1125899906842624 : Int) else false then true else
    false then false else true else false) (Tree.leaf (Ex.normal, true, V.cons (V.bool false r) (V.cons (V.rsl false (2 : Nat) n fun a => V.cons (V.int false IntKind.i64 (Prod.fst
    (f a))) (V.cons (V.int false IntKind.i64 (Prod.snd (f a))) V.nil)) (V.cons (V.int false IntKind.i64 ↑n) (V.cons (V.int false IntKind.i64 (IntKind.wrap IntKind.i64 (i + (1 :
    Int)))) V.nil))), V.nil)) (Tree.node (bif bif kStop_1 (Prod.fst (f (Int.toNat i))) (Prod.snd (f (Int.toNat i))) != (0 : Int) then true else bif kLess_1 (kAdd_0 (Prod.fst (f
    (Int.toNat i))) (Prod.snd (f (Int.toNat i)))) (Prod.snd (f (Int.toNat i))) != (0 : Int) then true else bif kAgo_1 (kAdd_0 (Prod.fst (f (Int.toNat i))) (Prod.snd (f (Int.toNat
    i)))) (Prod.fst (f (Int.toNat i))) != (0 : Int) then true else bif kLess_0 (kAdd_0 (Prod.fst (f (Int.toNat i))) (Prod.snd (f (Int.toNat i)))) (Prod.snd (f (Int.toNat i))) !=
    Prod.fst (f (Int.toNat i)) then true else bif kAgo_0 (kAdd_0 (Prod.fst (f (Int.toNat i))) (Prod.snd (f (Int.toNat i)))) (Prod.fst (f (Int.toNat i))) != Prod.snd (f (Int.toNat
    i)) then true else bif kStop_0 (Prod.fst (f (Int.toNat i))) (Prod.snd (f (Int.toNat i))) != kAdd_0 (Prod.fst (f (Int.toNat i))) (Prod.snd (f (Int.toNat i))) then true else
    kCheck_0 (kAdd_0 (Prod.fst (f (Int.toNat i))) (Prod.snd (f (Int.toNat i)))) != (0 : Int) then true else false) (Tree.leaf (Ex.ret, true, V.cons (V.bool true false) (V.cons
    (V.rsl false (2 : Nat) n fun a => V.cons (V.int false IntKind.i64 (Prod.fst (f a))) (V.cons (V.int false IntKind.i64 (Prod.snd (f a))) V.nil)) (V.cons (V.int false IntKind.i64
    ↑n) (V.cons (V.int false IntKind.i64 i) V.nil))), V.nil)) (Tree.leaf (Ex.normal, true, V.cons (V.bool false r) (V.cons (V.rsl false (2 : Nat) n fun a => V.cons (V.int false
    IntKind.i64 (Prod.fst (f a))) (V.cons (V.int false IntKind.i64 (Prod.snd (f a))) V.nil)) (V.cons (V.int false IntKind.i64 ↑n) (V.cons (V.int false IntKind.i64 (IntKind.wrap
    IntKind.i64 (i + (1 : Int)))) V.nil))), V.nil))))))) := by kernel_rfl
end Go.Proofs.YtpeekgekmjldlaaDoor
