/- BucketWaits, as the evaluator has it. -/
import Derived.Test.YtfealfofcjgihaaYw
namespace Go.Proofs.Ytfealfofcjgihaa
open Go.Fw
set_option maxRecDepth 100000
theorem waits_tree (a0 a1 : Int) : evFn (en [c_bCheck, c_bDry, c_bPass, c_bWait] [waitsG]) 400 5 (.cons (.agg (.cons (.int false .i64 a0) (.cons (.int false .i64 a1) .nil))) .nil) =
    Tree.node (bif bif bWait_1 a0 a1 != (0 : Int) then true else bWait_0 a0 a1 == (0 : Int) then true else false) (Tree.leaf (V.bool false (bDry_0 a0 a1 == false))) (Tree.need
    (wInv a0 a1 (IntKind.wrap IntKind.i64 (bWait_0 a0 a1 - (1 : Int))) (0 : Int)) (Tree.all (Int × Int × Int) fun x => Tree.given (wInv a0 (Prod.fst x) (Prod.fst (Prod.snd x))
    (Prod.snd (Prod.snd x)) ∧ (Prod.fst (Prod.snd x) = (0 : Int) ∨ Prod.snd (Prod.snd x) ≥ (1000 : Int))) (Tree.leaf (V.bool false (bif bPass_2 a0 (Prod.fst x) (1 : Int) (0 : Int)
    == (0 : Int) then bif decide (Prod.fst (Prod.snd x) > (0 : Int)) then true else !bDry_0 (bPass_0 a0 (Prod.fst x) (1 : Int) (0 : Int)) (bPass_1 a0 (Prod.fst x) (1 : Int) (0 :
    Int)) else false))))) := by kernel_rfl
end Go.Proofs.Ytfealfofcjgihaa
