/- ClockTimes: a round of the loop, as the evaluator has it. -/
import Derived.Test.YtpeekgekmjldlaaDoorKn
namespace Go.Proofs.YtpeekgekmjldlaaDoor
open Go.Fw
set_option maxRecDepth 100000
theorem times_body (B : Base) (r : Bool) (n : Nat) (f : Nat → Int × Int) (i : Int) : ((ev (en [c_kTimes, c_tRight]) 400 5 (loopAt P 5 4) B (canon 1 49 [2,11,12,13] [] (kT r n f i) .nil)).bind fun x => Tree.leaf (x.1, vw 1 49 [2,11,12,13] [] x.2)) =
    Tree.node (bif decide (i < ↑n) then false else true) (Tree.leaf (Ex.exit (0 : Nat), true, V.cons (V.bool false r) (V.cons (V.rsl false (2 : Nat) n fun a => V.cons (V.int false
    IntKind.i64 (Prod.fst (f a))) (V.cons (V.int false IntKind.i64 (Prod.snd (f a))) V.nil)) (V.cons (V.int false IntKind.i64 ↑n) (V.cons (V.int false IntKind.i64 i) V.nil))),
    V.nil)) (Tree.need ((0 : Int) ≤ i ∧ i < ↑n) (Tree.node (bif i == (40 : Int) then true else false) (Tree.leaf (Ex.exit (0 : Nat), true, V.cons (V.bool false r) (V.cons (V.rsl
    false (2 : Nat) n fun a => V.cons (V.int false IntKind.i64 (Prod.fst (f a))) (V.cons (V.int false IntKind.i64 (Prod.snd (f a))) V.nil)) (V.cons (V.int false IntKind.i64 ↑n)
    (V.cons (V.int false IntKind.i64 i) V.nil))), V.nil)) (Tree.need (decide (Prod.snd (f (Int.toNat i)) < (0 : Int)) = false → tRight_0 (Prod.fst (f (Int.toNat i))) = true →
    decide (Prod.fst (f (Int.toNat i)) > (0 : Int)) = true → Prod.fst (f (Int.toNat i)) ≠ (0 : Int)) (Tree.node (bif bif !tRight_0 (Prod.fst (f (Int.toNat i))) then true else bif
    bif (bif decide (Prod.snd (f (Int.toNat i)) < (0 : Int)) then (2 : Int) else (0 : Int)) != (0 : Int) then true else false then true else false then true else false) (Tree.node
    (bif !bif !tRight_0 (Prod.fst (f (Int.toNat i))) then bif kTimes_0 (Prod.fst (f (Int.toNat i))) (Prod.snd (f (Int.toNat i))) == (0 : Int) then kTimes_1 (Prod.fst (f (Int.toNat
    i))) (Prod.snd (f (Int.toNat i))) == (120 : Int) else false else bif kTimes_0 (Prod.fst (f (Int.toNat i))) (Prod.snd (f (Int.toNat i))) == (0 : Int) then kTimes_1 (Prod.fst (f
    (Int.toNat i))) (Prod.snd (f (Int.toNat i))) == bif decide (Prod.snd (f (Int.toNat i)) < (0 : Int)) then (2 : Int) else (0 : Int) else false then true else false) (Tree.leaf
    (Ex.ret, true, V.cons (V.bool true false) (V.cons (V.rsl false (2 : Nat) n fun a => V.cons (V.int false IntKind.i64 (Prod.fst (f a))) (V.cons (V.int false IntKind.i64 (Prod.snd
    (f a))) V.nil)) (V.cons (V.int false IntKind.i64 ↑n) (V.cons (V.int false IntKind.i64 i) V.nil))), V.nil)) (Tree.leaf (Ex.normal, true, V.cons (V.bool false r) (V.cons (V.rsl
    false (2 : Nat) n fun a => V.cons (V.int false IntKind.i64 (Prod.fst (f a))) (V.cons (V.int false IntKind.i64 (Prod.snd (f a))) V.nil)) (V.cons (V.int false IntKind.i64 ↑n)
    (V.cons (V.int false IntKind.i64 (IntKind.wrap IntKind.i64 (i + (1 : Int)))) V.nil))), V.nil))) (Tree.node (bif !bif kTimes_0 (Prod.fst (f (Int.toNat i))) (Prod.snd (f
    (Int.toNat i))) == bif decide (Prod.snd (f (Int.toNat i)) < (0 : Int)) then (0 : Int) else bif tRight_0 (Prod.fst (f (Int.toNat i))) then bif bif bif decide (Prod.fst (f
    (Int.toNat i)) > (0 : Int)) then decide (Prod.snd (f (Int.toNat i)) > IntKind.wrap IntKind.i64 (Int.tdiv (1125899906842624 : Int) (Prod.fst (f (Int.toNat i))))) else false then
    true else false then (1125899906842624 : Int) else IntKind.wrap IntKind.i64 (Prod.snd (f (Int.toNat i)) * Prod.fst (f (Int.toNat i))) else (0 : Int) then kTimes_1 (Prod.fst (f
    (Int.toNat i))) (Prod.snd (f (Int.toNat i))) == (0 : Int) else false then true else false) (Tree.leaf (Ex.ret, true, V.cons (V.bool true false) (V.cons (V.rsl false (2 : Nat) n
    fun a => V.cons (V.int false IntKind.i64 (Prod.fst (f a))) (V.cons (V.int false IntKind.i64 (Prod.snd (f a))) V.nil)) (V.cons (V.int false IntKind.i64 ↑n) (V.cons (V.int false
    IntKind.i64 i) V.nil))), V.nil)) (Tree.leaf (Ex.normal, true, V.cons (V.bool false r) (V.cons (V.rsl false (2 : Nat) n fun a => V.cons (V.int false IntKind.i64 (Prod.fst (f
    a))) (V.cons (V.int false IntKind.i64 (Prod.snd (f a))) V.nil)) (V.cons (V.int false IntKind.i64 ↑n) (V.cons (V.int false IntKind.i64 (IntKind.wrap IntKind.i64 (i + (1 :
    Int)))) V.nil))), V.nil))))))) := by kernel_rfl
end Go.Proofs.YtpeekgekmjldlaaDoor
