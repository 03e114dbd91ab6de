/- BucketHolds: a round of a loop, as the evaluator has it. -/
import Derived.Test.YtfealfofcjgihaaZcA
namespace Go.Proofs.Ytfealfofcjgihaa
open Go.Fw
set_option maxRecDepth 100000
theorem holds_body (B : Base) (r : Bool) (c t : Int) (ln : Nat) (l : Nat → Int × Int × Int) (i : Nat) (g : Nat → V) : ((ev (en [c_bCheck, c_bDry, c_bPass]) 400 4 (loopAt P 4 7) B (canonR 16 123 hK hH (hT r ln l i) (hB c t i g))).bind fun x => Tree.leaf (x.1, vwR 15 16 123 hK hH x.2)) =
    Tree.node (bif decide ((i : Int) < (ln : Int)) then false else true) (Tree.leaf (Ex.exit (0 : Nat), true, V.cons (V.ptr true (0 : Nat) (0 : Nat) (0 : Nat) (0 : Nat)) (V.cons
    (V.bool false r) (V.cons (V.osl false (15 : Nat) (2 : Nat) (0 : Nat) i) (V.cons (V.rsl false (3 : Nat) ln fun a => V.cons (V.int false IntKind.i64 (Prod.fst (l a))) (V.cons
    (V.int false IntKind.i64 (Prod.fst (Prod.snd (l a)))) (V.cons (V.int false IntKind.i64 (Prod.snd (Prod.snd (l a)))) V.nil))) (V.cons (V.int false IntKind.i64 (ln : Int))
    (V.cons (V.int false IntKind.i64 (i : Int)) V.nil))))), V.cons (V.agg (V.cons (V.int false IntKind.i64 c) (V.cons (V.int false IntKind.i64 t) V.nil))) (V.cons (V.rsl false (2 :
    Nat) i fun a => g a) V.nil))) (Tree.need (((0 : Int) ≤ (i : Int) ∧ (i : Int) < (ln : Int)) ∧ ((bif (i : Int) == (60 : Int) then true else false) = false → (bif bif bPass_2 c t
    (Int.tmod (if (0 : Int) > Prod.fst (l (Int.toNat (i : Int))) then (0 : Int) else Prod.fst (l (Int.toNat (i : Int)))) (10000001 : Int)) (bif bDry_0 c t then (0 : Int) else
    Int.tmod (if (0 : Int) > Prod.snd (Prod.snd (l (Int.toNat (i : Int)))) then (0 : Int) else Prod.snd (Prod.snd (l (Int.toNat (i : Int))))) (9 : Int)) != (0 : Int) then true else
    bCheck_0 (bPass_0 c t (Int.tmod (if (0 : Int) > Prod.fst (l (Int.toNat (i : Int))) then (0 : Int) else Prod.fst (l (Int.toNat (i : Int)))) (10000001 : Int)) (bif bDry_0 c t
    then (0 : Int) else Int.tmod (if (0 : Int) > Prod.snd (Prod.snd (l (Int.toNat (i : Int)))) then (0 : Int) else Prod.snd (Prod.snd (l (Int.toNat (i : Int))))) (9 : Int)))
    (bPass_1 c t (Int.tmod (if (0 : Int) > Prod.fst (l (Int.toNat (i : Int))) then (0 : Int) else Prod.fst (l (Int.toNat (i : Int)))) (10000001 : Int)) (bif bDry_0 c t then (0 :
    Int) else Int.tmod (if (0 : Int) > Prod.snd (Prod.snd (l (Int.toNat (i : Int)))) then (0 : Int) else Prod.snd (Prod.snd (l (Int.toNat (i : Int))))) (9 : Int))) != (0 : Int)
    then true else false) = false → i ≤ i ∧ fits (i + (1 : Nat)) (16 : Nat))) (Tree.node (bif bif (i : Int) == (60 : Int) then true else false then false else bif bif bif bPass_2 c
    t (Int.tmod (if (0 : Int) > Prod.fst (l (Int.toNat (i : Int))) then (0 : Int) else Prod.fst (l (Int.toNat (i : Int)))) (10000001 : Int)) (bif bDry_0 c t then (0 : Int) else
    Int.tmod (if (0 : Int) > Prod.snd (Prod.snd (l (Int.toNat (i : Int)))) then (0 : Int) else Prod.snd (Prod.snd (l (Int.toNat (i : Int))))) (9 : Int)) != (0 : Int) then true else
    bCheck_0 (bPass_0 c t (Int.tmod (if (0 : Int) > Prod.fst (l (Int.toNat (i : Int))) then (0 : Int) else Prod.fst (l (Int.toNat (i : Int)))) (10000001 : Int)) (bif bDry_0 c t
    then (0 : Int) else Int.tmod (if (0 : Int) > Prod.snd (Prod.snd (l (Int.toNat (i : Int)))) then (0 : Int) else Prod.snd (Prod.snd (l (Int.toNat (i : Int))))) (9 : Int)))
    (bPass_1 c t (Int.tmod (if (0 : Int) > Prod.fst (l (Int.toNat (i : Int))) then (0 : Int) else Prod.fst (l (Int.toNat (i : Int)))) (10000001 : Int)) (bif bDry_0 c t then (0 :
    Int) else Int.tmod (if (0 : Int) > Prod.snd (Prod.snd (l (Int.toNat (i : Int)))) then (0 : Int) else Prod.snd (Prod.snd (l (Int.toNat (i : Int))))) (9 : Int))) != (0 : Int)
    then true else false then true else false) (Tree.leaf (Ex.ret, true, V.cons (V.ptr true (0 : Nat) (0 : Nat) (0 : Nat) (0 : Nat)) (V.cons (V.bool true false) (V.cons (V.osl
    false (15 : Nat) (2 : Nat) (0 : Nat) i) (V.cons (V.rsl false (3 : Nat) ln fun a => V.cons (V.int false IntKind.i64 (Prod.fst (l a))) (V.cons (V.int false IntKind.i64 (Prod.fst
    (Prod.snd (l a)))) (V.cons (V.int false IntKind.i64 (Prod.snd (Prod.snd (l a)))) V.nil))) (V.cons (V.int false IntKind.i64 (ln : Int)) (V.cons (V.int false IntKind.i64 (i :
    Int)) V.nil))))), V.cons (V.agg (V.cons (V.int false IntKind.i64 c) (V.cons (V.int false IntKind.i64 t) V.nil))) (V.cons (V.rsl false (2 : Nat) i fun a => g a) V.nil)))
    (Tree.node (bif bif (i : Int) == (60 : Int) then true else false then true else false) (Tree.leaf (Ex.exit (0 : Nat), true, V.cons (V.ptr true (0 : Nat) (0 : Nat) (0 : Nat) (0
    : Nat)) (V.cons (V.bool false r) (V.cons (V.osl false (15 : Nat) (2 : Nat) (0 : Nat) i) (V.cons (V.rsl false (3 : Nat) ln fun a => V.cons (V.int false IntKind.i64 (Prod.fst (l
    a))) (V.cons (V.int false IntKind.i64 (Prod.fst (Prod.snd (l a)))) (V.cons (V.int false IntKind.i64 (Prod.snd (Prod.snd (l a)))) V.nil))) (V.cons (V.int false IntKind.i64 (ln :
    Int)) (V.cons (V.int false IntKind.i64 (i : Int)) V.nil))))), V.cons (V.agg (V.cons (V.int false IntKind.i64 c) (V.cons (V.int false IntKind.i64 t) V.nil))) (V.cons (V.rsl
    false (2 : Nat) i fun a => g a) V.nil))) (Tree.leaf (Ex.normal, true, V.cons (V.ptr true (0 : Nat) (0 : Nat) (0 : Nat) (0 : Nat)) (V.cons (V.bool false r) (V.cons (V.osl false
    (15 : Nat) (2 : Nat) (0 : Nat) (i + (1 : Nat))) (V.cons (V.rsl false (3 : Nat) ln fun a => V.cons (V.int false IntKind.i64 (Prod.fst (l a))) (V.cons (V.int false IntKind.i64
    (Prod.fst (Prod.snd (l a)))) (V.cons (V.int false IntKind.i64 (Prod.snd (Prod.snd (l a)))) V.nil))) (V.cons (V.int false IntKind.i64 (ln : Int)) (V.cons (V.int false
    IntKind.i64 (IntKind.wrap IntKind.i64 ((i : Int) + (1 : Int)))) V.nil))))), V.cons (V.agg (V.cons (V.int false IntKind.i64 (bPass_0 c t (Int.tmod (if (0 : Int) > Prod.fst (l
    (Int.toNat (i : Int))) then (0 : Int) else Prod.fst (l (Int.toNat (i : Int)))) (10000001 : Int)) (bif bDry_0 c t then (0 : Int) else Int.tmod (if (0 : Int) > Prod.snd (Prod.snd
    (l (Int.toNat (i : Int)))) then (0 : Int) else Prod.snd (Prod.snd (l (Int.toNat (i : Int))))) (9 : Int)))) (V.cons (V.int false IntKind.i64 (bPass_1 c t (Int.tmod (if (0 : Int)
    > Prod.fst (l (Int.toNat (i : Int))) then (0 : Int) else Prod.fst (l (Int.toNat (i : Int)))) (10000001 : Int)) (bif bDry_0 c t then (0 : Int) else Int.tmod (if (0 : Int) >
    Prod.snd (Prod.snd (l (Int.toNat (i : Int)))) then (0 : Int) else Prod.snd (Prod.snd (l (Int.toNat (i : Int))))) (9 : Int)))) V.nil))) (V.cons (V.rsl false (2 : Nat) (i + (1 :
    Nat)) fun a => bif Nat.beq a (i + nat_lit 0) then V.cons (V.int false IntKind.i64 (Int.tmod (if (0 : Int) > Prod.fst (l (Int.toNat (i : Int))) then (0 : Int) else Prod.fst (l
    (Int.toNat (i : Int)))) (10000001 : Int))) (V.cons (V.int false IntKind.i64 (bif bDry_0 c t then (0 : Int) else Int.tmod (if (0 : Int) > Prod.snd (Prod.snd (l (Int.toNat (i :
    Int)))) then (0 : Int) else Prod.snd (Prod.snd (l (Int.toNat (i : Int))))) (9 : Int))) V.nil) else g a) V.nil)))))) := by kernel_rfl
end Go.Proofs.Ytfealfofcjgihaa
