/- ClockSteps: a round of the loop, as the evaluator has it. -/
import Derived.Test.YtpeekgekmjldlaaDoorKn
namespace Go.Proofs.YtpeekgekmjldlaaDoor
open Go.Fw
set_option maxRecDepth 100000
theorem steps_body (B : Base) (r : Bool) (n : Nat) (f : Nat → Int × Int) (i : Int) : ((ev (en [c_kUp, c_kDown, c_kAdd, c_tRight, c_tAdd]) 400 6 (loopAt P 6 4) B (canon 1 94 [2,18,19,20] [] (kT r n f i) .nil)).bind fun x => Tree.leaf (x.1, vw 1 94 [2,18,19,20] [] x.2)) =
    Tree.node (bif decide (i < ↑n) then false else true) (Tree.leaf (Ex.exit (0 : Nat), true, V.cons (V.bool false r) (V.cons (V.rsl false (2 : Nat) n fun a => V.cons (V.int false
    IntKind.i64 (Prod.fst (f a))) (V.cons (V.int false IntKind.i64 (Prod.snd (f a))) V.nil)) (V.cons (V.int false IntKind.i64 ↑n) (V.cons (V.int false IntKind.i64 i) V.nil))),
    V.nil)) (Tree.need (((0 : Int) ≤ i ∧ i < ↑n) ∧ ((bif i == (40 : Int) then true else false) = false → (bif !bif tRight_0 (Prod.fst (f (Int.toNat i))) then tRight_0 (Prod.snd (f
    (Int.toNat i))) else false then true else Prod.snd (f (Int.toNat i)) == (0 : Int)) = false → Prod.snd (f (Int.toNat i)) ≠ (0 : Int) ∧ ((bif IntKind.wrap IntKind.i64
    (IntKind.wrap IntKind.i64 (Int.tdiv (Prod.fst (f (Int.toNat i))) (Prod.snd (f (Int.toNat i)))) * Prod.snd (f (Int.toNat i))) == Prod.fst (f (Int.toNat i)) then true else false)
    = true → (!bif kUp_0 (Prod.fst (f (Int.toNat i))) (Prod.snd (f (Int.toNat i))) == IntKind.wrap IntKind.i64 (IntKind.wrap IntKind.i64 (Int.tdiv (Prod.fst (f (Int.toNat i)))
    (Prod.snd (f (Int.toNat i)))) * Prod.snd (f (Int.toNat i))) then kUp_1 (Prod.fst (f (Int.toNat i))) (Prod.snd (f (Int.toNat i))) == (0 : Int) else false) = false → Prod.snd (f
    (Int.toNat i)) ≠ (0 : Int)) ∧ ((bif IntKind.wrap IntKind.i64 (IntKind.wrap IntKind.i64 (Int.tdiv (Prod.fst (f (Int.toNat i))) (Prod.snd (f (Int.toNat i)))) * Prod.snd (f
    (Int.toNat i))) == Prod.fst (f (Int.toNat i)) then true else false) = false → ((bif bif (bif !tAdd_1 (IntKind.wrap IntKind.i64 (IntKind.wrap IntKind.i64 (Int.tdiv (Prod.fst (f
    (Int.toNat i))) (Prod.snd (f (Int.toNat i)))) * Prod.snd (f (Int.toNat i)))) (Prod.snd (f (Int.toNat i))) then (6 : Int) else (0 : Int)) != (0 : Int) then true else false then
    true else false) = true → (!bif kUp_0 (Prod.fst (f (Int.toNat i))) (Prod.snd (f (Int.toNat i))) == (0 : Int) then kUp_1 (Prod.fst (f (Int.toNat i))) (Prod.snd (f (Int.toNat
    i))) == bif !tAdd_1 (IntKind.wrap IntKind.i64 (IntKind.wrap IntKind.i64 (Int.tdiv (Prod.fst (f (Int.toNat i))) (Prod.snd (f (Int.toNat i)))) * Prod.snd (f (Int.toNat i))))
    (Prod.snd (f (Int.toNat i))) then (6 : Int) else (0 : Int) else false) = false → Prod.snd (f (Int.toNat i)) ≠ (0 : Int)) ∧ ((bif bif (bif !tAdd_1 (IntKind.wrap IntKind.i64
    (IntKind.wrap IntKind.i64 (Int.tdiv (Prod.fst (f (Int.toNat i))) (Prod.snd (f (Int.toNat i)))) * Prod.snd (f (Int.toNat i)))) (Prod.snd (f (Int.toNat i))) then (6 : Int) else
    (0 : Int)) != (0 : Int) then true else false then true else false) = false → (!bif kUp_0 (Prod.fst (f (Int.toNat i))) (Prod.snd (f (Int.toNat i))) == tAdd_0 (IntKind.wrap
    IntKind.i64 (IntKind.wrap IntKind.i64 (Int.tdiv (Prod.fst (f (Int.toNat i))) (Prod.snd (f (Int.toNat i)))) * Prod.snd (f (Int.toNat i)))) (Prod.snd (f (Int.toNat i))) then
    kUp_1 (Prod.fst (f (Int.toNat i))) (Prod.snd (f (Int.toNat i))) == (0 : Int) else false) = false → Prod.snd (f (Int.toNat i)) ≠ (0 : Int))))) (Tree.node (bif bif i == (40 :
    Int) then true else false then false else bif bif bif bif !bif tRight_0 (Prod.fst (f (Int.toNat i))) then tRight_0 (Prod.snd (f (Int.toNat i))) else false then true else
    Prod.snd (f (Int.toNat i)) == (0 : Int) then bif bif bif !bif !bif tRight_0 (Prod.fst (f (Int.toNat i))) then tRight_0 (Prod.snd (f (Int.toNat i))) else false then bif kUp_0
    (Prod.fst (f (Int.toNat i))) (Prod.snd (f (Int.toNat i))) == (0 : Int) then kUp_1 (Prod.fst (f (Int.toNat i))) (Prod.snd (f (Int.toNat i))) == (120 : Int) else false else bif
    kUp_0 (Prod.fst (f (Int.toNat i))) (Prod.snd (f (Int.toNat i))) == (0 : Int) then kUp_1 (Prod.fst (f (Int.toNat i))) (Prod.snd (f (Int.toNat i))) == (2 : Int) else false then
    true else !bif !bif tRight_0 (Prod.fst (f (Int.toNat i))) then tRight_0 (Prod.snd (f (Int.toNat i))) else false then bif kDown_0 (Prod.fst (f (Int.toNat i))) (Prod.snd (f
    (Int.toNat i))) == (0 : Int) then kDown_1 (Prod.fst (f (Int.toNat i))) (Prod.snd (f (Int.toNat i))) == (120 : Int) else false else bif kDown_0 (Prod.fst (f (Int.toNat i)))
    (Prod.snd (f (Int.toNat i))) == (0 : Int) then kDown_1 (Prod.fst (f (Int.toNat i))) (Prod.snd (f (Int.toNat i))) == (2 : Int) else false then true else false then true else
    false else bif bif IntKind.wrap IntKind.i64 (IntKind.wrap IntKind.i64 (Int.tdiv (Prod.fst (f (Int.toNat i))) (Prod.snd (f (Int.toNat i)))) * Prod.snd (f (Int.toNat i))) ==
    Prod.fst (f (Int.toNat i)) then true else false then bif bif bif !bif kUp_0 (Prod.fst (f (Int.toNat i))) (Prod.snd (f (Int.toNat i))) == IntKind.wrap IntKind.i64 (IntKind.wrap
    IntKind.i64 (Int.tdiv (Prod.fst (f (Int.toNat i))) (Prod.snd (f (Int.toNat i)))) * Prod.snd (f (Int.toNat i))) then kUp_1 (Prod.fst (f (Int.toNat i))) (Prod.snd (f (Int.toNat
    i))) == (0 : Int) else false then true else !bif kDown_0 (Prod.fst (f (Int.toNat i))) (Prod.snd (f (Int.toNat i))) == IntKind.wrap IntKind.i64 (IntKind.wrap IntKind.i64
    (Int.tdiv (Prod.fst (f (Int.toNat i))) (Prod.snd (f (Int.toNat i)))) * Prod.snd (f (Int.toNat i))) then kDown_1 (Prod.fst (f (Int.toNat i))) (Prod.snd (f (Int.toNat i))) == (0
    : Int) else false then true else false then true else false else bif bif bif bif bif (bif !tAdd_1 (IntKind.wrap IntKind.i64 (IntKind.wrap IntKind.i64 (Int.tdiv (Prod.fst (f
    (Int.toNat i))) (Prod.snd (f (Int.toNat i)))) * Prod.snd (f (Int.toNat i)))) (Prod.snd (f (Int.toNat i))) then (6 : Int) else (0 : Int)) != (0 : Int) then true else false then
    true else false then bif !bif kUp_0 (Prod.fst (f (Int.toNat i))) (Prod.snd (f (Int.toNat i))) == (0 : Int) then kUp_1 (Prod.fst (f (Int.toNat i))) (Prod.snd (f (Int.toNat i)))
    == bif !tAdd_1 (IntKind.wrap IntKind.i64 (IntKind.wrap IntKind.i64 (Int.tdiv (Prod.fst (f (Int.toNat i))) (Prod.snd (f (Int.toNat i)))) * Prod.snd (f (Int.toNat i)))) (Prod.snd
    (f (Int.toNat i))) then (6 : Int) else (0 : Int) else false then true else !bif kDown_0 (Prod.fst (f (Int.toNat i))) (Prod.snd (f (Int.toNat i))) == IntKind.wrap IntKind.i64
    (IntKind.wrap IntKind.i64 (Int.tdiv (Prod.fst (f (Int.toNat i))) (Prod.snd (f (Int.toNat i)))) * Prod.snd (f (Int.toNat i))) then kDown_1 (Prod.fst (f (Int.toNat i))) (Prod.snd
    (f (Int.toNat i))) == (0 : Int) else false else bif !bif kUp_0 (Prod.fst (f (Int.toNat i))) (Prod.snd (f (Int.toNat i))) == tAdd_0 (IntKind.wrap IntKind.i64 (IntKind.wrap
    IntKind.i64 (Int.tdiv (Prod.fst (f (Int.toNat i))) (Prod.snd (f (Int.toNat i)))) * Prod.snd (f (Int.toNat i)))) (Prod.snd (f (Int.toNat i))) then kUp_1 (Prod.fst (f (Int.toNat
    i))) (Prod.snd (f (Int.toNat i))) == (0 : Int) else false then true else !bif kDown_0 (Prod.fst (f (Int.toNat i))) (Prod.snd (f (Int.toNat i))) == IntKind.wrap IntKind.i64
    (IntKind.wrap IntKind.i64 (Int.tdiv (Prod.fst (f (Int.toNat i))) (Prod.snd (f (Int.toNat i)))) * Prod.snd (f (Int.toNat i))) then kDown_1 (Prod.fst (f (Int.toNat i))) (Prod.snd
    (f (Int.toNat i))) == (0 : Int) else false then true else false then true else false then true else false then true else false) (Tree.leaf (Ex.ret, true, V.cons (V.bool true
    false) (V.cons (V.rsl false (2 : Nat) n fun a => V.cons (V.int false IntKind.i64 (Prod.fst (f a))) (V.cons (V.int false IntKind.i64 (Prod.snd (f a))) V.nil)) (V.cons (V.int
    false IntKind.i64 ↑n) (V.cons (V.int false IntKind.i64 i) V.nil))), V.nil)) (Tree.node (bif bif i == (40 : Int) then true else false then true else false) (Tree.leaf (Ex.exit
    (0 : Nat), true, V.cons (V.bool false r) (V.cons (V.rsl false (2 : Nat) n fun a => V.cons (V.int false IntKind.i64 (Prod.fst (f a))) (V.cons (V.int false IntKind.i64 (Prod.snd
    (f a))) V.nil)) (V.cons (V.int false IntKind.i64 ↑n) (V.cons (V.int false IntKind.i64 i) V.nil))), V.nil)) (Tree.leaf (Ex.normal, true, V.cons (V.bool false r) (V.cons (V.rsl
    false (2 : Nat) n fun a => V.cons (V.int false IntKind.i64 (Prod.fst (f a))) (V.cons (V.int false IntKind.i64 (Prod.snd (f a))) V.nil)) (V.cons (V.int false IntKind.i64 ↑n)
    (V.cons (V.int false IntKind.i64 (IntKind.wrap IntKind.i64 (i + (1 : Int)))) V.nil))), V.nil))))) := by kernel_rfl
end Go.Proofs.YtpeekgekmjldlaaDoor
