/- WaitPauses: a round of the first loop, as the evaluator has it. -/
import Derived.Test.YtfealfofcjgihaaXcP
namespace Go.Proofs.Ytfealfofcjgihaa
open Go.Fw
set_option maxRecDepth 100000
theorem pauses_body (B : Base) (r : Bool) (c k n i s p po u x0 x1 x2 x3 : Int) : ((ev pE 400 12 (loopAt P 12 9) B (canon 34 125 [2,3,6,7,8,33,34] [0,33] (pT c r k n i) (pB s p po u x0 x1 x2 x3))).bind fun x => Tree.leaf (x.1, vw 34 125 [2,3,6,7,8,33,34] [0,33] x.2)) =
    Tree.node (bif decide (i < n) then false else true) (Tree.leaf (Ex.exit (0 : Nat), true, V.cons (V.int false IntKind.i64 c) (V.cons (V.ptr true (0 : Nat) (0 : Nat) (0 : Nat) (0
    : Nat)) (V.cons (V.bool false r) (V.cons (V.ptr true (33 : Nat) (0 : Nat) (0 : Nat) (0 : Nat)) (V.cons (V.int false IntKind.i64 k) (V.cons (V.int false IntKind.i64 n) (V.cons
    (V.int false IntKind.i64 i) V.nil)))))), V.cons (V.agg (V.cons (V.int false IntKind.i64 s) (V.cons (V.int false IntKind.i64 p) (V.cons (V.int false IntKind.u32 po) (V.cons
    (V.int false IntKind.i64 u) V.nil))))) (V.cons (V.agg (V.cons (V.int false IntKind.i64 x0) (V.cons (V.int false IntKind.i64 x1) (V.cons (V.int false IntKind.u32 x2) (V.cons
    (V.int false IntKind.i64 x3) V.nil))))) V.nil))) (Tree.node (bif bif wPause_4 x0 x1 x2 x3 != (0 : Int) then true else false then false else bif bif wRuns_0 (wPause_0 x0 x1 x2
    x3) (wPause_1 x0 x1 x2 x3) (wPause_2 x0 x1 x2 x3) (wPause_3 x0 x1 x2 x3) then true else false then true else false) (Tree.leaf (Ex.ret, true, V.cons (V.int false IntKind.i64 c)
    (V.cons (V.ptr true (0 : Nat) (0 : Nat) (0 : Nat) (0 : Nat)) (V.cons (V.bool true false) (V.cons (V.ptr true (33 : Nat) (0 : Nat) (0 : Nat) (0 : Nat)) (V.cons (V.int false
    IntKind.i64 (IntKind.wrap IntKind.i64 (k + (1 : Int)))) (V.cons (V.int false IntKind.i64 n) (V.cons (V.int false IntKind.i64 i) V.nil)))))), V.cons (V.agg (V.cons (V.int false
    IntKind.i64 s) (V.cons (V.int false IntKind.i64 p) (V.cons (V.int false IntKind.u32 po) (V.cons (V.int false IntKind.i64 u) V.nil))))) (V.cons (V.agg (V.cons (V.int false
    IntKind.i64 (wPause_0 x0 x1 x2 x3)) (V.cons (V.int false IntKind.i64 (wPause_1 x0 x1 x2 x3)) (V.cons (V.int false IntKind.u32 (wPause_2 x0 x1 x2 x3)) (V.cons (V.int false
    IntKind.i64 (wPause_3 x0 x1 x2 x3)) V.nil))))) V.nil))) (Tree.node (bif bif wPause_4 x0 x1 x2 x3 != (0 : Int) then true else false then true else false) (Tree.leaf (Ex.exit (0
    : Nat), true, V.cons (V.int false IntKind.i64 c) (V.cons (V.ptr true (0 : Nat) (0 : Nat) (0 : Nat) (0 : Nat)) (V.cons (V.bool false r) (V.cons (V.ptr true (33 : Nat) (0 : Nat)
    (0 : Nat) (0 : Nat)) (V.cons (V.int false IntKind.i64 k) (V.cons (V.int false IntKind.i64 n) (V.cons (V.int false IntKind.i64 i) V.nil)))))), V.cons (V.agg (V.cons (V.int false
    IntKind.i64 s) (V.cons (V.int false IntKind.i64 p) (V.cons (V.int false IntKind.u32 po) (V.cons (V.int false IntKind.i64 u) V.nil))))) (V.cons (V.agg (V.cons (V.int false
    IntKind.i64 x0) (V.cons (V.int false IntKind.i64 x1) (V.cons (V.int false IntKind.u32 x2) (V.cons (V.int false IntKind.i64 x3) V.nil))))) V.nil))) (Tree.leaf (Ex.normal, true,
    V.cons (V.int false IntKind.i64 c) (V.cons (V.ptr true (0 : Nat) (0 : Nat) (0 : Nat) (0 : Nat)) (V.cons (V.bool false r) (V.cons (V.ptr true (33 : Nat) (0 : Nat) (0 : Nat) (0 :
    Nat)) (V.cons (V.int false IntKind.i64 (IntKind.wrap IntKind.i64 (k + (1 : Int)))) (V.cons (V.int false IntKind.i64 n) (V.cons (V.int false IntKind.i64 (IntKind.wrap
    IntKind.i64 (i + (1 : Int)))) V.nil)))))), V.cons (V.agg (V.cons (V.int false IntKind.i64 s) (V.cons (V.int false IntKind.i64 p) (V.cons (V.int false IntKind.u32 po) (V.cons
    (V.int false IntKind.i64 u) V.nil))))) (V.cons (V.agg (V.cons (V.int false IntKind.i64 (wPause_0 x0 x1 x2 x3)) (V.cons (V.int false IntKind.i64 (wPause_1 x0 x1 x2 x3)) (V.cons
    (V.int false IntKind.u32 (wPause_2 x0 x1 x2 x3)) (V.cons (V.int false IntKind.i64 (wPause_3 x0 x1 x2 x3)) V.nil))))) V.nil))))) := by kernel_rfl
end Go.Proofs.Ytfealfofcjgihaa
