/- StateNews: its loop, and what it answers. -/
import Derived.Test.YtnjjailadijdlaaGreatDoorN0
import Derived.Test.YtnjjailadijdlaaGreatDoorN1
import Derived.Test.YtnjjailadijdlaaGreatDoorN2
import Derived.Test.YtnjjailadijdlaaGreatDoorN3
import Derived.Test.YtnjjailadijdlaaGreatDoorN4
import Derived.Test.YtnjjailadijdlaaGreatDoorN5
import Derived.Test.YtnjjailadijdlaaGreatDoorN6
import Derived.Test.YtnjjailadijdlaaGreatDoorN7
import Derived.Test.YtnjjailadijdlaaGreatDoorN8
import Derived.Test.YtnjjailadijdlaaGreatDoorN9
import Derived.Test.YtnjjailadijdlaaGreatDoorWk
namespace Go.Proofs.YtnjjailadijdlaaGreatDoor
open Go.Fw
set_option maxRecDepth 100000
set_option linter.unusedVariables false
theorem round_all (c : Nat) (h : c ≤ 9) (B : Base) (r : Bool) (n : Nat) (f : Nat → Nat × (Nat → Int × Int)) (i : Int) (a b : Nat → Int) {Q : Ex × Bool × V × V × List Blk → Prop} (hx : ¬ i < n → Q (.exit 0, true, newsT n f r i, .nil, []))
    (h8 : i = 8 → Q (.exit 0, true, newsT n f r i, .nil, [])) (h0 : i < n → 0 ≤ i) (hc : i < n → i ≠ 8 → min (f i.toNat).1 9 = c)
    (hab : (fun k => V.cons (.int false .i64 ((f i.toNat).2 k).1) (.cons (.int false .i64 ((f i.toNat).2 k).2) .nil)) = seatG a b)
    (hN : i < n → i ≠ 8 → Q (.normal, true, newsT n f r (IntKind.wrap .i64 (i + 1)), .nil, [])) : Tree.holds P ((ev (enC c a b) 400 3 (loopAt P 3 4) B (canonG 0 54 [2,10,11,12] [] [] (newsT n f r i) .nil [])).bind fun x => Tree.leaf (x.1, vwG 0 54 [2,10,11,12] [] [] x.2)) Q := by
  match c, h with
  | 0, _ => exact round_0 B r n f i a b hx h8 h0 hc hab hN
  | 1, _ => exact round_1 B r n f i a b hx h8 h0 hc hab hN
  | 2, _ => exact round_2 B r n f i a b hx h8 h0 hc hab hN
  | 3, _ => exact round_3 B r n f i a b hx h8 h0 hc hab hN
  | 4, _ => exact round_4 B r n f i a b hx h8 h0 hc hab hN
  | 5, _ => exact round_5 B r n f i a b hx h8 h0 hc hab hN
  | 6, _ => exact round_6 B r n f i a b hx h8 h0 hc hab hN
  | 7, _ => exact round_7 B r n f i a b hx h8 h0 hc hab hN
  | 8, _ => exact round_8 B r n f i a b hx h8 h0 hc hab hN
  | 9, _ => exact round_9 B r n f i a b hx h8 h0 hc hab hN
  | n + 10, h => exact absurd h (by omega)
noncomputable def newsG (n : Nat) (f : Nat → Nat × (Nat → Int × Int)) : Lp := ⟨3, 4, fun _ s => match vwG 0 54 [2,10,11,12] [] [] s with
  | (true, .cons (.bool _ r) (.cons (.rsl _ 1 n' get) (.cons (.int _ .i64 l) (.cons (.int _ .i64 i) .nil))), .nil, []) =>
    bif Nat.beq s.n 0 then .need (n' = n ∧ get = topoG f ∧ l = n ∧ i = 0) (.all Int fun j => .leaf (.exit 0, canonG 0 54 [2,10,11,12] [] [] (newsT n f r j) .nil [])) else .stuck
  | _ => .stuck⟩
theorem newsG_ok (n : Nat) (f : Nat → Nat × (Nat → Int × Int)) : (newsG n f).Ok P := by
  refine lp_ok (by kernel_rfl) fun hin B s Q hq => ?_
  simp only [newsG] at hq hin ⊢
  split at hq
  · rename_i q0 r q1 n' get q2 l q3 i heq
    cases hn : Nat.beq s.n 0
    · rw [hn] at hq; exact hq.elim
    · rw [hn] at hq
      obtain ⟨⟨rfl, rfl, rfl, rfl⟩, hq⟩ := hq
      have hsame : SameG 0 54 [2,10,11,12] [] [] s (newsT n' f r 0) .nil [] := by
        refine ⟨by rw [heq], by rw [heq]; rfl, by rw [heq], by rw [heq]; trivial⟩
      refine loop_viewE (P := P) (E := fun j : Int => enC (min (f j.toNat).1 9) (fun k => ((f j.toNat).2 k).1) (fun k => ((f j.toNat).2 k).2)) (fun j => enC_ok _ _ _) (fun _ => rfl) (k := 400) (f := 3) hin (fun j : Int => newsT n' f r j) (fun _ => .nil) (fun _ => []) (fun j => 0 ≤ j ∧ j ≤ 8) (fun j => (8 - j).toNat) Q (fun j => rfl) ?_ (Nat.eq_of_beq_eq_true hn) (i0 := 0) ⟨by omega, by omega⟩ hsame
      intro j hj
      refine round_all _ (by omega) B r n' f j _ _ ?_ ?_ (fun _ => hj.1) (fun _ _ => rfl) rfl ?_
      · exact fun _ => ⟨rfl, _, _, [], rfl, rfl, trivial, hq j⟩
      · exact fun _ => ⟨rfl, _, _, [], rfl, rfl, trivial, hq j⟩
      · intro h h8
        rw [IntWalk.i64_in (j + 1) ⟨by omega, by omega⟩]
        exact ⟨rfl, j + 1, ⟨by omega, by omega⟩, by omega, rfl, rfl, trivial⟩
  · exact hq.elim
theorem news_tree (n : Nat) (f : Nat → Nat × (Nat → Int × Int)) : evFn (en [c_wakes] [newsG n f]) 400 3 (.cons (.rsl false 1 n (topoG f)) .nil) =
    Tree.need (n = n ∧ topoG f = topoG f ∧ (n : Int) = (n : Int) ∧ (0 : Int) = (0 : Int)) (Tree.all Int fun _ => Tree.leaf (V.bool true true)) := by kernel_rfl
theorem news_holds (n : Nat) (f : Nat → Nat × (Nat → Int × Int)) : Tree.Hold P (evFn (en [c_wakes] [newsG n f]) 400 3 (.cons (.rsl false 1 n (topoG f)) .nil)) fun r => r.soft = .bool false true := by
  constructor
  rw [news_tree]
  exact ⟨⟨rfl, rfl, rfl, rfl⟩, fun _ => rfl⟩
theorem news_meets (n : Nat) (f : Nat → Nat × (Nat → Int × Int)) : Meets P 3 (.cons (.rsl false 1 n (topoG f)) .nil) (.bool false true) :=
  meets_true (en_okl (l := [c_wakes]) ⟨c_wakes_ok, trivial⟩ (ls := [newsG n f]) ⟨newsG_ok n f, trivial⟩) 400 (Has.of hn Tryz.func3 rfl) (news_holds n f)
end Go.Proofs.YtnjjailadijdlaaGreatDoor
