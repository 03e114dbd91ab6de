/- StateNews: a round at a topology of 5 seats (as cut), as the evaluator has it. -/
import Derived.Test.YtnjjailadijdlaaGreatDoorWb
namespace Go.Proofs.YtnjjailadijdlaaGreatDoor
open Go.Fw
set_option maxRecDepth 100000
set_option linter.unusedVariables false
set_option linter.unusedSimpArgs false
theorem news_5 (B : Base) (r : Bool) (n : Nat) (f : Nat → Nat × (Nat → Int × Int)) (i : Int) (a b : Nat → Int) : ((ev (enC 5 a b) 400 3 (loopAt P 3 4) B (canonG 0 54 [2,10,11,12] [] [] (newsT n f r i) .nil [])).bind fun x => Tree.leaf (x.1, vwG 0 54 [2,10,11,12] [] [] x.2)) =
    Tree.node (bif decide (i < (n : Int)) then false else true) (Tree.leaf (Ex.exit (0 : Nat), true, newsT n f r i, V.nil, [])) (Tree.need ((0 : Int) ≤ i ∧ i < (n : Int))
    (Tree.node (bif i == (8 : Int) then true else false) (Tree.leaf (Ex.exit (0 : Nat), true, newsT n f r i, V.nil, [])) (Tree.need ((9 : Int) = (9 : Int) ∧ min (Prod.fst (f
    (Int.toNat i))) (9 : Nat) = (5 : Nat) ∧ (fun k => V.cons (V.int false IntKind.i64 (Prod.fst ((f (Int.toNat i)).2 k))) (V.cons (V.int false IntKind.i64 (Prod.snd ((f (Int.toNat
    i)).2 k))) V.nil)) = seatG a b) (Tree.node (bif bif pS (a 0) (b 0) then true else bif pS (a 1) (b 1) then true else bif pS (a 2) (b 2) then true else bif pS (a 3) (b 3) then
    true else pS (a 4) (b 4) then true else false) (Tree.node (pS (a 0) (b 0)) (Tree.leaf (Ex.normal, true, newsT n f r (IntKind.wrap IntKind.i64 (i + (1 : Int))), V.nil, []))
    (Tree.node (pS (a 1) (b 1)) (Tree.leaf (Ex.normal, true, newsT n f r (IntKind.wrap IntKind.i64 (i + (1 : Int))), V.nil, [])) (Tree.node (pS (a 2) (b 2)) (Tree.leaf (Ex.normal,
    true, newsT n f r (IntKind.wrap IntKind.i64 (i + (1 : Int))), V.nil, [])) (Tree.node (pS (a 3) (b 3)) (Tree.leaf (Ex.normal, true, newsT n f r (IntKind.wrap IntKind.i64 (i + (1
    : Int))), V.nil, [])) (Tree.node (pS (a 4) (b 4)) (Tree.leaf (Ex.normal, true, newsT n f r (IntKind.wrap IntKind.i64 (i + (1 : Int))), V.nil, [])) (Tree.leaf (Ex.ret, true,
    newsF n f i, V.nil, []))))))) (Tree.node (pS (a 0) (b 0)) (Tree.leaf (Ex.ret, true, newsF n f i, V.nil, [])) (Tree.node (pS (a 1) (b 1)) (Tree.leaf (Ex.ret, true, newsF n f i,
    V.nil, [])) (Tree.node (pS (a 2) (b 2)) (Tree.leaf (Ex.ret, true, newsF n f i, V.nil, [])) (Tree.node (pS (a 3) (b 3)) (Tree.leaf (Ex.ret, true, newsF n f i, V.nil, []))
    (Tree.node (pS (a 4) (b 4)) (Tree.leaf (Ex.ret, true, newsF n f i, V.nil, [])) (Tree.node (bif bif bif bif bif bif !(a (0 : Nat) == a (0 : Nat) && (b (0 : Nat) == b (0 : Nat)
    && true)) then true else false then true else false then true else bif bif bif !(a (1 : Nat) == a (1 : Nat) && (b (1 : Nat) == b (1 : Nat) && true)) then true else false then
    true else false then true else bif bif bif !(a (2 : Nat) == a (2 : Nat) && (b (2 : Nat) == b (2 : Nat) && true)) then true else false then true else false then true else bif
    bif bif !(a (3 : Nat) == a (3 : Nat) && (b (3 : Nat) == b (3 : Nat) && true)) then true else false then true else false then true else bif bif !(a (4 : Nat) == a (4 : Nat) &&
    (b (4 : Nat) == b (4 : Nat) && true)) then true else false then true else false then true else false then true else bif bif bif !!bif bif pS (a 0) (b 0) then true else bif pS
    (a 1) (b 1) then true else bif pS (a 2) (b 2) then true else bif pS (a 3) (b 3) then true else pS (a 4) (b 4) then true else false then true else false then true else false
    then true else bif bif bif bif pS (a 0) (b 0) then true else bif pS (a 1) (b 1) then true else bif pS (a 2) (b 2) then true else bif pS (a 3) (b 3) then true else pS (a 4) (b
    4) then true else false then true else false then true else false then true else false) (Tree.leaf (Ex.ret, true, newsF n f i, V.nil, [])) (Tree.leaf (Ex.normal, true, newsT n
    f r (IntKind.wrap IntKind.i64 (i + (1 : Int))), V.nil, [])))))))))))) := by kernel_rfl
theorem round_5 (B : Base) (r : Bool) (n : Nat) (f : Nat → Nat × (Nat → Int × Int)) (i : Int) (a b : Nat → Int) {Q : Ex × Bool × V × V × List Blk → Prop} (hx : ¬ i < n → Q (.exit 0, true, newsT n f r i, .nil, []))
    (h8 : i = 8 → Q (.exit 0, true, newsT n f r i, .nil, [])) (h0 : i < n → 0 ≤ i) (hc : i < n → i ≠ 8 → min (f i.toNat).1 9 = 5)
    (hab : (fun k => V.cons (.int false .i64 ((f i.toNat).2 k).1) (.cons (.int false .i64 ((f i.toNat).2 k).2) .nil)) = seatG a b)
    (hN : i < n → i ≠ 8 → Q (.normal, true, newsT n f r (IntKind.wrap .i64 (i + 1)), .nil, [])) : Tree.holds P ((ev (enC 5 a b) 400 3 (loopAt P 3 4) B (canonG 0 54 [2,10,11,12] [] [] (newsT n f r i) .nil [])).bind fun x => Tree.leaf (x.1, vwG 0 54 [2,10,11,12] [] [] x.2)) Q := by
  rw [news_5]
  by_cases hi : i < n
  case neg => exact ⟨fun _ => hx hi, fun e => by simp [hi] at e⟩
  by_cases h : i = 8
  · subst h
    refine ⟨fun e => by simp [hi] at e, fun _ => ⟨⟨h0 hi, hi⟩, fun _ => h8 rfl, fun e => by simp at e⟩⟩
  have hc' := hc hi h
  have hN' := hN hi h
  refine ⟨fun e => by simp [hi] at e, fun _ => ⟨⟨h0 hi, hi⟩, fun e => by simp [h] at e, fun _ => ⟨⟨rfl, hc', hab⟩, ?_⟩⟩⟩
  cases e0 : pS (a 0) (b 0)
  · cases e1 : pS (a 1) (b 1)
    · cases e2 : pS (a 2) (b 2)
      · cases e3 : pS (a 3) (b 3)
        · cases e4 : pS (a 4) (b 4)
          · simp [Tree.holds, e0, e1, e2, e3, e4, hN']
          · simp [Tree.holds, e0, e1, e2, e3, e4, hN']
        · simp [Tree.holds, e0, e1, e2, e3, hN']
      · simp [Tree.holds, e0, e1, e2, hN']
    · simp [Tree.holds, e0, e1, hN']
  · simp [Tree.holds, e0, hN']

end Go.Proofs.YtnjjailadijdlaaGreatDoor
