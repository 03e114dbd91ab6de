/- BucketHolds: a round of a loop, as the evaluator has it. -/
import Derived.Test.YtfealfofcjgihaaZcB
namespace Go.Proofs.Ytfealfofcjgihaa
open Go.Fw
set_option maxRecDepth 100000
theorem holds3_body (B : Base) (r : Bool) (c t : Int) (n : Nat) (f : Nat → Int × Int) (j : Int) (fr n2 : Nat) (time run gap most q : Int) : ((ev (en [c_bBound]) 400 4 (loopAt P 4 24) B (canonR 16 123 h3K h3H (h3T r n j fr n2 time run gap most q) (hB c t n (row2 f)))).bind fun x => Tree.leaf (x.1, vwR 16 16 123 h3K h3H x.2)) =
    Tree.node (bif decide (q < (n2 : Int)) then false else true) (Tree.leaf (Ex.exit (4 : Nat), true, V.cons (V.ptr true (0 : Nat) (0 : Nat) (0 : Nat) (0 : Nat)) (V.cons (V.bool
    false r) (V.cons (V.osl false (15 : Nat) (2 : Nat) (0 : Nat) n) (V.cons (V.int false IntKind.i64 time) (V.cons (V.int false IntKind.i64 run) (V.cons (V.int false IntKind.i64
    gap) (V.cons (V.int false IntKind.i64 most) (V.cons (V.int false IntKind.i64 (n : Int)) (V.cons (V.int false IntKind.i64 j) (V.cons (V.osl false (15 : Nat) (2 : Nat) fr n2)
    (V.cons (V.int false IntKind.i64 (n2 : Int)) (V.cons (V.int false IntKind.i64 q) V.nil))))))))))), V.cons (V.agg (V.cons (V.int false IntKind.i64 c) (V.cons (V.int false
    IntKind.i64 t) V.nil))) (V.cons (V.rsl false (2 : Nat) n fun a => V.cons (V.int false IntKind.i64 (Prod.fst (f a))) (V.cons (V.int false IntKind.i64 (Prod.snd (f a))) V.nil))
    V.nil))) (Tree.need (((0 : Int) ≤ q ∧ q < (n2 : Int)) ∧ fr + Int.toNat q < n) (Tree.node (bif bif bif bBound_1 c (IntKind.wrap IntKind.i64 (time + Prod.fst (f (fr + Int.toNat
    q)))) (if Prod.fst (f (fr + Int.toNat q)) > gap then Prod.fst (f (fr + Int.toNat q)) else gap) (if Prod.snd (f (fr + Int.toNat q)) > most then Prod.snd (f (fr + Int.toNat q))
    else most) != (0 : Int) then true else decide (IntKind.wrap IntKind.i64 ((100 : Int) * IntKind.wrap IntKind.i64 (run + IntKind.wrap IntKind.i64 (Prod.fst (f (fr + Int.toNat q))
    * Prod.snd (f (fr + Int.toNat q))))) > bBound_0 c (IntKind.wrap IntKind.i64 (time + Prod.fst (f (fr + Int.toNat q)))) (if Prod.fst (f (fr + Int.toNat q)) > gap then Prod.fst (f
    (fr + Int.toNat q)) else gap) (if Prod.snd (f (fr + Int.toNat q)) > most then Prod.snd (f (fr + Int.toNat q)) else most)) then true else false then true else false) (Tree.leaf
    (Ex.ret, true, V.cons (V.ptr true (0 : Nat) (0 : Nat) (0 : Nat) (0 : Nat)) (V.cons (V.bool true false) (V.cons (V.osl false (15 : Nat) (2 : Nat) (0 : Nat) n) (V.cons (V.int
    false IntKind.i64 (IntKind.wrap IntKind.i64 (time + Prod.fst (f (fr + Int.toNat q))))) (V.cons (V.int false IntKind.i64 (IntKind.wrap IntKind.i64 (run + IntKind.wrap
    IntKind.i64 (Prod.fst (f (fr + Int.toNat q)) * Prod.snd (f (fr + Int.toNat q)))))) (V.cons (V.int false IntKind.i64 (if Prod.fst (f (fr + Int.toNat q)) > gap then Prod.fst (f
    (fr + Int.toNat q)) else gap)) (V.cons (V.int false IntKind.i64 (if Prod.snd (f (fr + Int.toNat q)) > most then Prod.snd (f (fr + Int.toNat q)) else most)) (V.cons (V.int false
    IntKind.i64 (n : Int)) (V.cons (V.int false IntKind.i64 j) (V.cons (V.osl false (15 : Nat) (2 : Nat) fr n2) (V.cons (V.int false IntKind.i64 (n2 : Int)) (V.cons (V.int false
    IntKind.i64 q) V.nil))))))))))), V.cons (V.agg (V.cons (V.int false IntKind.i64 c) (V.cons (V.int false IntKind.i64 t) V.nil))) (V.cons (V.rsl false (2 : Nat) n fun a => V.cons
    (V.int false IntKind.i64 (Prod.fst (f a))) (V.cons (V.int false IntKind.i64 (Prod.snd (f a))) V.nil)) V.nil))) (Tree.leaf (Ex.normal, true, V.cons (V.ptr true (0 : Nat) (0 :
    Nat) (0 : Nat) (0 : Nat)) (V.cons (V.bool false r) (V.cons (V.osl false (15 : Nat) (2 : Nat) (0 : Nat) n) (V.cons (V.int false IntKind.i64 (IntKind.wrap IntKind.i64 (time +
    Prod.fst (f (fr + Int.toNat q))))) (V.cons (V.int false IntKind.i64 (IntKind.wrap IntKind.i64 (run + IntKind.wrap IntKind.i64 (Prod.fst (f (fr + Int.toNat q)) * Prod.snd (f (fr
    + Int.toNat q)))))) (V.cons (V.int false IntKind.i64 (if Prod.fst (f (fr + Int.toNat q)) > gap then Prod.fst (f (fr + Int.toNat q)) else gap)) (V.cons (V.int false IntKind.i64
    (if Prod.snd (f (fr + Int.toNat q)) > most then Prod.snd (f (fr + Int.toNat q)) else most)) (V.cons (V.int false IntKind.i64 (n : Int)) (V.cons (V.int false IntKind.i64 j)
    (V.cons (V.osl false (15 : Nat) (2 : Nat) fr n2) (V.cons (V.int false IntKind.i64 (n2 : Int)) (V.cons (V.int false IntKind.i64 (IntKind.wrap IntKind.i64 (q + (1 : Int))))
    V.nil))))))))))), V.cons (V.agg (V.cons (V.int false IntKind.i64 c) (V.cons (V.int false IntKind.i64 t) V.nil))) (V.cons (V.rsl false (2 : Nat) n fun a => V.cons (V.int false
    IntKind.i64 (Prod.fst (f a))) (V.cons (V.int false IntKind.i64 (Prod.snd (f a))) V.nil)) V.nil))))) := by kernel_rfl
end Go.Proofs.Ytfealfofcjgihaa
