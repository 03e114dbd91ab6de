/- WaitPauses, as the evaluator has it. -/
import Derived.Test.YtfealfofcjgihaaXw
namespace Go.Proofs.Ytfealfofcjgihaa
open Go.Fw
set_option maxRecDepth 100000
theorem pauses_tree (s p po u b c : Int) : evFn (en [c_wCheck, c_wRuns, c_wEvent] [pausesG, pausesG2]) 400 12 (.cons (.agg (.cons (.int false .i64 s) (.cons (.int false .i64 p) (.cons (.int false .u32 po) (.cons (.int false .i64 u) .nil))))) (.cons (.int false .i64 b) (.cons (.int false .i64 c) .nil))) =
    Tree.node (bif wCheck_0 s p po u != (0 : Int) then true else false) (Tree.leaf (V.bool true true)) (Tree.need (pInv s p po u (Int.tmod (if (0 : Int) > b then (0 : Int) else b)
    (16 : Int)) (0 : Int) ∧ (0 : Int) = (0 : Int) ∧ (0 : Int) = (0 : Int) ∧ s = s ∧ p = p ∧ po = po ∧ u = u) (Tree.all Int fun x => Tree.given (pInv s p po u (Int.tmod (if (0 :
    Int) > b then (0 : Int) else b) (16 : Int)) x) (Tree.node (bif bif wEvent_5 s p po u (Int.tmod (if (0 : Int) > c then (0 : Int) else c) (32 : Int)) false != (0 : Int) then true
    else bif wEvent_5 s (p + x) po u (Int.tmod (if (0 : Int) > c then (0 : Int) else c) (32 : Int)) false != (0 : Int) then true else !wEvent_4 s p po u (Int.tmod (if (0 : Int) > c
    then (0 : Int) else c) (32 : Int)) false == wEvent_4 s (p + x) po u (Int.tmod (if (0 : Int) > c then (0 : Int) else c) (32 : Int)) false then true else false) (Tree.leaf
    (V.bool true false)) (Tree.need (qInv s p po u (wEvent_0 s p po u (Int.tmod (if (0 : Int) > c then (0 : Int) else c) (32 : Int)) false) (wEvent_2 s p po u (Int.tmod (if (0 :
    Int) > c then (0 : Int) else c) (32 : Int)) false) (wEvent_3 s p po u (Int.tmod (if (0 : Int) > c then (0 : Int) else c) (32 : Int)) false) x (0 : Int) ∧ (0 : Int) = (0 : Int)
    ∧ x = x ∧ s = s ∧ p + x = p + x ∧ po = po ∧ u = u ∧ wEvent_1 s p po u (Int.tmod (if (0 : Int) > c then (0 : Int) else c) (32 : Int)) false = p ∧ wEvent_0 s (p + x) po u
    (Int.tmod (if (0 : Int) > c then (0 : Int) else c) (32 : Int)) false = wEvent_0 s p po u (Int.tmod (if (0 : Int) > c then (0 : Int) else c) (32 : Int)) false ∧ wEvent_1 s (p +
    x) po u (Int.tmod (if (0 : Int) > c then (0 : Int) else c) (32 : Int)) false = p + x ∧ wEvent_2 s (p + x) po u (Int.tmod (if (0 : Int) > c then (0 : Int) else c) (32 : Int))
    false = wEvent_2 s p po u (Int.tmod (if (0 : Int) > c then (0 : Int) else c) (32 : Int)) false ∧ wEvent_3 s (p + x) po u (Int.tmod (if (0 : Int) > c then (0 : Int) else c) (32
    : Int)) false = wEvent_3 s p po u (Int.tmod (if (0 : Int) > c then (0 : Int) else c) (32 : Int)) false) (Tree.leaf (V.bool false (bif s == s && (p == p && (po == po && (u == u
    && true))) then wEvent_0 s p po u (Int.tmod (if (0 : Int) > c then (0 : Int) else c) (32 : Int)) false == wEvent_0 s p po u (Int.tmod (if (0 : Int) > c then (0 : Int) else c)
    (32 : Int)) false && (wEvent_1 s p po u (Int.tmod (if (0 : Int) > c then (0 : Int) else c) (32 : Int)) false == wEvent_1 s p po u (Int.tmod (if (0 : Int) > c then (0 : Int)
    else c) (32 : Int)) false && (wEvent_2 s p po u (Int.tmod (if (0 : Int) > c then (0 : Int) else c) (32 : Int)) false == wEvent_2 s p po u (Int.tmod (if (0 : Int) > c then (0 :
    Int) else c) (32 : Int)) false && (wEvent_3 s p po u (Int.tmod (if (0 : Int) > c then (0 : Int) else c) (32 : Int)) false == wEvent_3 s p po u (Int.tmod (if (0 : Int) > c then
    (0 : Int) else c) (32 : Int)) false && true))) else false))))))) := by kernel_rfl
end Go.Proofs.Ytfealfofcjgihaa
