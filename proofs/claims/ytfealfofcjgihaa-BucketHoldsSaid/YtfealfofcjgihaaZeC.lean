/- BucketHolds: a round of a loop, as the evaluator has it. -/
import Derived.Test.YtfealfofcjgihaaZcB
namespace Go.Proofs.Ytfealfofcjgihaa
open Go.Fw
set_option maxRecDepth 100000
theorem holds2_body (B : Base) (r : Bool) (c t : Int) (n : Nat) (f : Nat → Int × Int) (j : Int) : ((ev (en [c_bBound] [h3G]) 400 4 (loopAt P 4 20) B (canonR 16 123 h2K h3H (h2T r n j) (hB c t n (row2 f)))).bind fun x => Tree.leaf (x.1, vwR 16 16 123 h2K h3H x.2)) =
    Tree.node (bif decide (j < (n : Int)) then false else true) (Tree.leaf (Ex.exit (2 : Nat), true, V.cons (V.ptr true (0 : Nat) (0 : Nat) (0 : Nat) (0 : Nat)) (V.cons (V.bool
    false r) (V.cons (V.osl false (15 : Nat) (2 : Nat) (0 : Nat) n) (V.cons (V.int false IntKind.i64 (n : Int)) (V.cons (V.int false IntKind.i64 j) V.nil)))), V.cons (V.agg (V.cons
    (V.int false IntKind.i64 c) (V.cons (V.int false IntKind.i64 t) V.nil))) (V.cons (V.rsl false (2 : Nat) n fun a => V.cons (V.int false IntKind.i64 (Prod.fst (f a))) (V.cons
    (V.int false IntKind.i64 (Prod.snd (f a))) V.nil)) V.nil))) (Tree.need ((0 : Int) ≤ j ∧ j ≤ (n : Int)) (Tree.need (Need3 (0 : Int) (0 : Int) (0 : Int) (0 : Int) (n : Int) ((n -
    Int.toNat j : Nat) : Int) (0 : Int) n (n - Int.toNat j) ((0 : Nat) + Int.toNat j) n c (row2 f)) (Tree.all (Int × Int × Int × Int × Int) fun _ => Tree.leaf (Ex.normal, true,
    V.cons (V.ptr true (0 : Nat) (0 : Nat) (0 : Nat) (0 : Nat)) (V.cons (V.bool false r) (V.cons (V.osl false (15 : Nat) (2 : Nat) (0 : Nat) n) (V.cons (V.int false IntKind.i64 (n
    : Int)) (V.cons (V.int false IntKind.i64 (IntKind.wrap IntKind.i64 (j + (1 : Int)))) V.nil)))), V.cons (V.agg (V.cons (V.int false IntKind.i64 c) (V.cons (V.int false
    IntKind.i64 t) V.nil))) (V.cons (V.rsl false (2 : Nat) n fun a => V.cons (V.int false IntKind.i64 (Prod.fst (f a))) (V.cons (V.int false IntKind.i64 (Prod.snd (f a))) V.nil))
    V.nil))))) := by kernel_rfl
end Go.Proofs.Ytfealfofcjgihaa
