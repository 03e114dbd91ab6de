/- ClockNear: a round of the loop, as the evaluator has it. -/
import Derived.Test.YtpeekgekmjldlaaDoorKn
namespace Go.Proofs.YtpeekgekmjldlaaDoor
open Go.Fw
set_option maxRecDepth 100000
theorem near_body (B : Base) (r : Bool) (n : Nat) (f : Nat → Int × Int) (i : Int) : ((ev (en [c_kUp, c_kDown]) 400 7 (loopAt P 7 4) B (canon 1 128 [2,16,17,18] [] (kT r n f i) .nil)).bind fun x => Tree.leaf (x.1, vw 1 128 [2,16,17,18] [] x.2)) =
    Tree.node (bif decide (i < ↑n) then false else true) (Tree.leaf (Ex.exit (0 : Nat), true, V.cons (V.bool false r) (V.cons (V.rsl false (2 : Nat) n fun a => V.cons (V.int false
    IntKind.i64 (Prod.fst (f a))) (V.cons (V.int false IntKind.i64 (Prod.snd (f a))) V.nil)) (V.cons (V.int false IntKind.i64 ↑n) (V.cons (V.int false IntKind.i64 i) V.nil))),
    V.nil)) (Tree.need ((0 : Int) ≤ i ∧ i < ↑n) (Tree.node (bif i == (40 : Int) then true else false) (Tree.leaf (Ex.exit (0 : Nat), true, V.cons (V.bool false r) (V.cons (V.rsl
    false (2 : Nat) n fun a => V.cons (V.int false IntKind.i64 (Prod.fst (f a))) (V.cons (V.int false IntKind.i64 (Prod.snd (f a))) V.nil)) (V.cons (V.int false IntKind.i64 ↑n)
    (V.cons (V.int false IntKind.i64 i) V.nil))), V.nil)) (Tree.node (bif kDown_1 (Prod.fst (f (Int.toNat i))) (Prod.snd (f (Int.toNat i))) != (0 : Int) then true else false)
    (Tree.leaf (Ex.normal, true, V.cons (V.bool false r) (V.cons (V.rsl false (2 : Nat) n fun a => V.cons (V.int false IntKind.i64 (Prod.fst (f a))) (V.cons (V.int false
    IntKind.i64 (Prod.snd (f a))) V.nil)) (V.cons (V.int false IntKind.i64 ↑n) (V.cons (V.int false IntKind.i64 (IntKind.wrap IntKind.i64 (i + (1 : Int)))) V.nil))), V.nil))
    (Tree.need ((kDown_1 (kDown_0 (Prod.fst (f (Int.toNat i))) (Prod.snd (f (Int.toNat i)))) (Prod.snd (f (Int.toNat i))) != (0 : Int)) = false → (kUp_1 (kDown_0 (Prod.fst (f
    (Int.toNat i))) (Prod.snd (f (Int.toNat i)))) (Prod.snd (f (Int.toNat i))) != (0 : Int)) = false → decide (kDown_0 (Prod.fst (f (Int.toNat i))) (Prod.snd (f (Int.toNat i))) >
    Prod.fst (f (Int.toNat i))) = false → decide (IntKind.wrap IntKind.i64 (Prod.fst (f (Int.toNat i)) - kDown_0 (Prod.fst (f (Int.toNat i))) (Prod.snd (f (Int.toNat i)))) ≥
    Prod.snd (f (Int.toNat i))) = false → Prod.snd (f (Int.toNat i)) ≠ (0 : Int)) (Tree.node (bif bif kDown_1 (kDown_0 (Prod.fst (f (Int.toNat i))) (Prod.snd (f (Int.toNat i))))
    (Prod.snd (f (Int.toNat i))) != (0 : Int) then true else bif kUp_1 (kDown_0 (Prod.fst (f (Int.toNat i))) (Prod.snd (f (Int.toNat i)))) (Prod.snd (f (Int.toNat i))) != (0 : Int)
    then true else bif decide (kDown_0 (Prod.fst (f (Int.toNat i))) (Prod.snd (f (Int.toNat i))) > Prod.fst (f (Int.toNat i))) then true else bif decide (IntKind.wrap IntKind.i64
    (Prod.fst (f (Int.toNat i)) - kDown_0 (Prod.fst (f (Int.toNat i))) (Prod.snd (f (Int.toNat i)))) ≥ Prod.snd (f (Int.toNat i))) then true else bif Int.tmod (kDown_0 (Prod.fst (f
    (Int.toNat i))) (Prod.snd (f (Int.toNat i)))) (Prod.snd (f (Int.toNat i))) != (0 : Int) then true else bif kDown_0 (kDown_0 (Prod.fst (f (Int.toNat i))) (Prod.snd (f (Int.toNat
    i)))) (Prod.snd (f (Int.toNat i))) != kDown_0 (Prod.fst (f (Int.toNat i))) (Prod.snd (f (Int.toNat i))) then true else kUp_0 (kDown_0 (Prod.fst (f (Int.toNat i))) (Prod.snd (f
    (Int.toNat i)))) (Prod.snd (f (Int.toNat i))) != kDown_0 (Prod.fst (f (Int.toNat i))) (Prod.snd (f (Int.toNat i))) then true else false) (Tree.leaf (Ex.ret, true, V.cons
    (V.bool true false) (V.cons (V.rsl false (2 : Nat) n fun a => V.cons (V.int false IntKind.i64 (Prod.fst (f a))) (V.cons (V.int false IntKind.i64 (Prod.snd (f a))) V.nil))
    (V.cons (V.int false IntKind.i64 ↑n) (V.cons (V.int false IntKind.i64 i) V.nil))), V.nil)) (Tree.need ((kUp_1 (Prod.fst (f (Int.toNat i))) (Prod.snd (f (Int.toNat i))) == (0 :
    Int)) = true → decide (kUp_0 (Prod.fst (f (Int.toNat i))) (Prod.snd (f (Int.toNat i))) < Prod.fst (f (Int.toNat i))) = false → decide (IntKind.wrap IntKind.i64 (kUp_0 (Prod.fst
    (f (Int.toNat i))) (Prod.snd (f (Int.toNat i))) - Prod.fst (f (Int.toNat i))) ≥ Prod.snd (f (Int.toNat i))) = false → Prod.snd (f (Int.toNat i)) ≠ (0 : Int)) (Tree.node (bif
    bif kUp_1 (Prod.fst (f (Int.toNat i))) (Prod.snd (f (Int.toNat i))) == (0 : Int) then bif decide (kUp_0 (Prod.fst (f (Int.toNat i))) (Prod.snd (f (Int.toNat i))) < Prod.fst (f
    (Int.toNat i))) then true else bif decide (IntKind.wrap IntKind.i64 (kUp_0 (Prod.fst (f (Int.toNat i))) (Prod.snd (f (Int.toNat i))) - Prod.fst (f (Int.toNat i))) ≥ Prod.snd (f
    (Int.toNat i))) then true else bif Int.tmod (kUp_0 (Prod.fst (f (Int.toNat i))) (Prod.snd (f (Int.toNat i)))) (Prod.snd (f (Int.toNat i))) != (0 : Int) then true else bif kUp_1
    (Prod.fst (f (Int.toNat i))) (Prod.snd (f (Int.toNat i))) != (0 : Int) then bif kUp_1 (Prod.fst (f (Int.toNat i))) (Prod.snd (f (Int.toNat i))) != (6 : Int) then true else bif
    kUp_1 (Prod.fst (f (Int.toNat i))) (Prod.snd (f (Int.toNat i))) == (6 : Int) then decide (IntKind.wrap IntKind.i64 ((1125899906842624 : Int) - kDown_0 (Prod.fst (f (Int.toNat
    i))) (Prod.snd (f (Int.toNat i)))) ≥ Prod.snd (f (Int.toNat i))) else false else bif kUp_1 (Prod.fst (f (Int.toNat i))) (Prod.snd (f (Int.toNat i))) == (6 : Int) then decide
    (IntKind.wrap IntKind.i64 ((1125899906842624 : Int) - kDown_0 (Prod.fst (f (Int.toNat i))) (Prod.snd (f (Int.toNat i)))) ≥ Prod.snd (f (Int.toNat i))) else false else bif kUp_1
    (Prod.fst (f (Int.toNat i))) (Prod.snd (f (Int.toNat i))) != (0 : Int) then bif kUp_1 (Prod.fst (f (Int.toNat i))) (Prod.snd (f (Int.toNat i))) != (6 : Int) then true else bif
    kUp_1 (Prod.fst (f (Int.toNat i))) (Prod.snd (f (Int.toNat i))) == (6 : Int) then decide (IntKind.wrap IntKind.i64 ((1125899906842624 : Int) - kDown_0 (Prod.fst (f (Int.toNat
    i))) (Prod.snd (f (Int.toNat i)))) ≥ Prod.snd (f (Int.toNat i))) else false else bif kUp_1 (Prod.fst (f (Int.toNat i))) (Prod.snd (f (Int.toNat i))) == (6 : Int) then decide
    (IntKind.wrap IntKind.i64 ((1125899906842624 : Int) - kDown_0 (Prod.fst (f (Int.toNat i))) (Prod.snd (f (Int.toNat i)))) ≥ Prod.snd (f (Int.toNat i))) else false then true else
    false) (Tree.leaf (Ex.ret, true, V.cons (V.bool true false) (V.cons (V.rsl false (2 : Nat) n fun a => V.cons (V.int false IntKind.i64 (Prod.fst (f a))) (V.cons (V.int false
    IntKind.i64 (Prod.snd (f a))) V.nil)) (V.cons (V.int false IntKind.i64 ↑n) (V.cons (V.int false IntKind.i64 i) V.nil))), V.nil)) (Tree.leaf (Ex.normal, true, V.cons (V.bool
    false r) (V.cons (V.rsl false (2 : Nat) n fun a => V.cons (V.int false IntKind.i64 (Prod.fst (f a))) (V.cons (V.int false IntKind.i64 (Prod.snd (f a))) V.nil)) (V.cons (V.int
    false IntKind.i64 ↑n) (V.cons (V.int false IntKind.i64 (IntKind.wrap IntKind.i64 (i + (1 : Int)))) V.nil))), V.nil))))))))) := by kernel_rfl
end Go.Proofs.YtpeekgekmjldlaaDoor
