/- BucketWaits: a round of the loop, as the evaluator has it. -/
import Derived.Test.YtfealfofcjgihaaYcW
namespace Go.Proofs.Ytfealfofcjgihaa
open Go.Fw
set_option maxRecDepth 100000
theorem waits_body (B : Base) (r : Bool) (left i c t : Int) : ((ev wE 400 5 (loopAt P 5 8) B (canon 15 68 [1,2,5,28] [0] (wT r left i) (wB c t))).bind fun x => Tree.leaf (x.1, vw 15 68 [1,2,5,28] [0] x.2)) =
    Tree.node (bif decide (i < (1000 : Int)) then false else true) (Tree.leaf (Ex.exit (0 : Nat), true, V.cons (V.ptr true (nat_lit 0) (nat_lit 0) (nat_lit 0) (nat_lit 0)) (V.cons
    (V.bool false r) (V.cons (V.int false IntKind.i64 left) (V.cons (V.int false IntKind.i64 i) V.nil))), V.cons (V.agg (V.cons (V.int false IntKind.i64 c) (V.cons (V.int false
    IntKind.i64 t) V.nil))) V.nil)) (Tree.node (bif bif left == (0 : Int) then true else false then false else bif bif bif bPass_2 c t (if (10000000 : Int) < left then (10000000 :
    Int) else left) (0 : Int) != (0 : Int) then true else !bDry_0 (bPass_0 c t (if (10000000 : Int) < left then (10000000 : Int) else left) (0 : Int)) (bPass_1 c t (if (10000000 :
    Int) < left then (10000000 : Int) else left) (0 : Int)) then true else false then true else false) (Tree.leaf (Ex.ret, true, V.cons (V.ptr true (nat_lit 0) (nat_lit 0) (nat_lit
    0) (nat_lit 0)) (V.cons (V.bool true false) (V.cons (V.int false IntKind.i64 left) (V.cons (V.int false IntKind.i64 i) V.nil))), V.cons (V.agg (V.cons (V.int false IntKind.i64
    c) (V.cons (V.int false IntKind.i64 t) V.nil))) V.nil)) (Tree.node (bif bif left == (0 : Int) then true else false then true else false) (Tree.leaf (Ex.exit (0 : Nat), true,
    V.cons (V.ptr true (nat_lit 0) (nat_lit 0) (nat_lit 0) (nat_lit 0)) (V.cons (V.bool false r) (V.cons (V.int false IntKind.i64 left) (V.cons (V.int false IntKind.i64 i)
    V.nil))), V.cons (V.agg (V.cons (V.int false IntKind.i64 c) (V.cons (V.int false IntKind.i64 t) V.nil))) V.nil)) (Tree.leaf (Ex.normal, true, V.cons (V.ptr true (nat_lit 0)
    (nat_lit 0) (nat_lit 0) (nat_lit 0)) (V.cons (V.bool false r) (V.cons (V.int false IntKind.i64 (IntKind.wrap IntKind.i64 (left - if (10000000 : Int) < left then (10000000 :
    Int) else left))) (V.cons (V.int false IntKind.i64 (IntKind.wrap IntKind.i64 (i + (1 : Int)))) V.nil))), V.cons (V.agg (V.cons (V.int false IntKind.i64 (bPass_0 c t (if
    (10000000 : Int) < left then (10000000 : Int) else left) (0 : Int))) (V.cons (V.int false IntKind.i64 (bPass_1 c t (if (10000000 : Int) < left then (10000000 : Int) else left)
    (0 : Int))) V.nil))) V.nil)))) := by kernel_rfl
end Go.Proofs.Ytfealfofcjgihaa
