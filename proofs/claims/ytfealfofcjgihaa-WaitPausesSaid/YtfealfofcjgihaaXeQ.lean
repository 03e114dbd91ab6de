/- WaitPauses: a round of the second loop, as the evaluator has it. -/
import Derived.Test.YtfealfofcjgihaaXcP
namespace Go.Proofs.Ytfealfofcjgihaa
open Go.Fw
set_option maxRecDepth 100000
theorem pauses_body2 (B : Base) (r : Bool) (k l i s p po u x0 x1 x2 x3 a0 a1 a2 a3 b0 b1 b2 b3 : Int) : ((ev qE 400 12 (loopAt P 12 23) B (canon 36 125 [3,6,7,8,11,14,77,78] [0,33,34,35] (qT r k l i) (qB s p po u x0 x1 x2 x3 a0 a1 a2 a3 b0 b1 b2 b3))).bind fun x => Tree.leaf (x.1, vw 36 125 [3,6,7,8,11,14,77,78] [0,33,34,35] x.2)) =
    Tree.node (bif decide (i < l) then false else true) (Tree.leaf (Ex.exit (2 : Nat), true, V.cons (V.ptr true (0 : Nat) (0 : Nat) (0 : Nat) (0 : Nat)) (V.cons (V.bool false r)
    (V.cons (V.ptr true (33 : Nat) (0 : Nat) (0 : Nat) (0 : Nat)) (V.cons (V.int false IntKind.i64 k) (V.cons (V.ptr true (34 : Nat) (0 : Nat) (0 : Nat) (0 : Nat)) (V.cons (V.ptr
    true (35 : Nat) (0 : Nat) (0 : Nat) (0 : Nat)) (V.cons (V.int false IntKind.i64 l) (V.cons (V.int false IntKind.i64 i) V.nil))))))), V.cons (V.agg (V.cons (V.int false
    IntKind.i64 s) (V.cons (V.int false IntKind.i64 p) (V.cons (V.int false IntKind.u32 po) (V.cons (V.int false IntKind.i64 u) V.nil))))) (V.cons (V.agg (V.cons (V.int false
    IntKind.i64 x0) (V.cons (V.int false IntKind.i64 x1) (V.cons (V.int false IntKind.u32 x2) (V.cons (V.int false IntKind.i64 x3) V.nil))))) (V.cons (V.agg (V.cons (V.int false
    IntKind.i64 a0) (V.cons (V.int false IntKind.i64 a1) (V.cons (V.int false IntKind.u32 a2) (V.cons (V.int false IntKind.i64 a3) V.nil))))) (V.cons (V.agg (V.cons (V.int false
    IntKind.i64 b0) (V.cons (V.int false IntKind.i64 b1) (V.cons (V.int false IntKind.u32 b2) (V.cons (V.int false IntKind.i64 b3) V.nil))))) V.nil))))) (Tree.node (bif bif bif
    wUnpause_5 x0 x1 x2 x3 != (0 : Int) then true else bif wUnpause_5 b0 b1 b2 b3 != (0 : Int) then true else bif !wUnpause_4 x0 x1 x2 x3 == wRuns_0 (wUnpause_0 x0 x1 x2 x3)
    (wUnpause_1 x0 x1 x2 x3) (wUnpause_2 x0 x1 x2 x3) (wUnpause_3 x0 x1 x2 x3) then true else bif wUnpause_4 x0 x1 x2 x3 then decide (i < IntKind.wrap IntKind.i64 (k - (1 : Int)))
    else false then true else false then true else false) (Tree.leaf (Ex.ret, true, V.cons (V.ptr true (0 : Nat) (0 : Nat) (0 : Nat) (0 : Nat)) (V.cons (V.bool true false) (V.cons
    (V.ptr true (33 : Nat) (0 : Nat) (0 : Nat) (0 : Nat)) (V.cons (V.int false IntKind.i64 k) (V.cons (V.ptr true (34 : Nat) (0 : Nat) (0 : Nat) (0 : Nat)) (V.cons (V.ptr true (35
    : Nat) (0 : Nat) (0 : Nat) (0 : Nat)) (V.cons (V.int false IntKind.i64 l) (V.cons (V.int false IntKind.i64 i) V.nil))))))), V.cons (V.agg (V.cons (V.int false IntKind.i64 s)
    (V.cons (V.int false IntKind.i64 p) (V.cons (V.int false IntKind.u32 po) (V.cons (V.int false IntKind.i64 u) V.nil))))) (V.cons (V.agg (V.cons (V.int false IntKind.i64 x0)
    (V.cons (V.int false IntKind.i64 x1) (V.cons (V.int false IntKind.u32 x2) (V.cons (V.int false IntKind.i64 x3) V.nil))))) (V.cons (V.agg (V.cons (V.int false IntKind.i64 a0)
    (V.cons (V.int false IntKind.i64 a1) (V.cons (V.int false IntKind.u32 a2) (V.cons (V.int false IntKind.i64 a3) V.nil))))) (V.cons (V.agg (V.cons (V.int false IntKind.i64 b0)
    (V.cons (V.int false IntKind.i64 b1) (V.cons (V.int false IntKind.u32 b2) (V.cons (V.int false IntKind.i64 b3) V.nil))))) V.nil))))) (Tree.leaf (Ex.normal, true, V.cons (V.ptr
    true (0 : Nat) (0 : Nat) (0 : Nat) (0 : Nat)) (V.cons (V.bool false r) (V.cons (V.ptr true (33 : Nat) (0 : Nat) (0 : Nat) (0 : Nat)) (V.cons (V.int false IntKind.i64 k) (V.cons
    (V.ptr true (34 : Nat) (0 : Nat) (0 : Nat) (0 : Nat)) (V.cons (V.ptr true (35 : Nat) (0 : Nat) (0 : Nat) (0 : Nat)) (V.cons (V.int false IntKind.i64 l) (V.cons (V.int false
    IntKind.i64 (IntKind.wrap IntKind.i64 (i + (1 : Int)))) V.nil))))))), V.cons (V.agg (V.cons (V.int false IntKind.i64 s) (V.cons (V.int false IntKind.i64 p) (V.cons (V.int false
    IntKind.u32 po) (V.cons (V.int false IntKind.i64 u) V.nil))))) (V.cons (V.agg (V.cons (V.int false IntKind.i64 (wUnpause_0 x0 x1 x2 x3)) (V.cons (V.int false IntKind.i64
    (wUnpause_1 x0 x1 x2 x3)) (V.cons (V.int false IntKind.u32 (wUnpause_2 x0 x1 x2 x3)) (V.cons (V.int false IntKind.i64 (wUnpause_3 x0 x1 x2 x3)) V.nil))))) (V.cons (V.agg
    (V.cons (V.int false IntKind.i64 a0) (V.cons (V.int false IntKind.i64 a1) (V.cons (V.int false IntKind.u32 a2) (V.cons (V.int false IntKind.i64 a3) V.nil))))) (V.cons (V.agg
    (V.cons (V.int false IntKind.i64 (wUnpause_0 b0 b1 b2 b3)) (V.cons (V.int false IntKind.i64 (wUnpause_1 b0 b1 b2 b3)) (V.cons (V.int false IntKind.u32 (wUnpause_2 b0 b1 b2 b3))
    (V.cons (V.int false IntKind.i64 (wUnpause_3 b0 b1 b2 b3)) V.nil))))) V.nil)))))) := by kernel_rfl
end Go.Proofs.Ytfealfofcjgihaa
