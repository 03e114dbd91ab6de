/- The families of states of the loops on rows of numbers. SameInts of two rows that are the same: a round of the loop, as the evaluator has it. IsSorted: a round of the loop, as the evaluator has it. Contracts of SameInts on rows that are the same, and of IsSorted on rows that rise. -/
import Derived.Test.YtpeekgekmjldlaaDoorCcL
import Derived.Test.YtpeekgekmjldlaaDoorCpK
namespace Go.Proofs.YtpeekgekmjldlaaDoor
open Go.Fw
/-- Two rows that are the same, and where they are held against one another. -/
abbrev kS (n : Nat) (f : Nat → Int) (i : Int) : V :=
  .cons (.rsl false 1 n (rowN f)) (.cons (.rsl false 1 n (rowN f)) (.cons (.int false .i64 n) (.cons (.int false .i64 i) .nil)))
/-- What Of answers, the set so far, the row, where it stands. -/
abbrev kOf (r0 r1 s : Int) (n : Nat) (g : Nat → Int) (i : Int) : V :=
  .cons (.int false .u32 r0) (.cons (.int false .i64 r1) (.cons (.int false .u32 s) (.cons (.rsl false 1 n (rowN g)) (.cons (.int false .i64 n) (.cons (.int false .i64 i) .nil)))))
abbrev kRf (r0 : Int) (r1 : Bool) (s : Int) (n : Nat) (g : Nat → Int) (i : Int) : V :=
  .cons (.int false .u32 r0) (.cons (.bool false r1) (.cons (.int false .u32 s) (.cons (.rsl false 1 n (rowN g)) (.cons (.int false .i64 n) (.cons (.int false .i64 i) .nil)))))
/-- A row that is looked through from its end. -/
abbrev kSo (n : Nat) (f : Nat → Int) (i : Int) : V := .cons (.rsl false 1 n (rowN f)) (.cons (.int false .i64 i) .nil)
end Go.Proofs.YtpeekgekmjldlaaDoor
namespace Go.Proofs.YtpeekgekmjldlaaDoor
open Go.Fw
set_option maxRecDepth 100000
set_option linter.unusedVariables false
theorem same_body (B : Base) (n : Nat) (f : Nat → Int) (i : Int) : ((ev (en [] []) 400 42 (loopAt P 42 4) B (canon 0 26 [0,1,12,13] [] (kS n f i) .nil)).bind fun x => Tree.leaf (x.1, vw 0 26 [0,1,12,13] [] x.2)) =
    Tree.node (bif decide (i < (n : Int)) then false else true) (Tree.leaf (Ex.exit (0 : Nat), true, V.cons (V.rsl false (1 : Nat) n fun a => V.cons (V.int false IntKind.i64 (f a))
    V.nil) (V.cons (V.rsl false (1 : Nat) n fun a => V.cons (V.int false IntKind.i64 (f a)) V.nil) (V.cons (V.int false IntKind.i64 (n : Int)) (V.cons (V.int false IntKind.i64 i)
    V.nil))), V.nil)) (Tree.need (((0 : Int) ≤ i ∧ i < (n : Int)) ∧ (0 : Int) ≤ i ∧ i < (n : Int)) (Tree.node (bif bif f (Int.toNat i) != f (Int.toNat i) then true else false then
    true else false) (Tree.leaf (Ex.ret, true, V.cons (V.rsl false (1 : Nat) n fun a => V.cons (V.int false IntKind.i64 (f a)) V.nil) (V.cons (V.rsl false (1 : Nat) n fun a =>
    V.cons (V.int false IntKind.i64 (f a)) V.nil) (V.cons (V.int false IntKind.i64 (n : Int)) (V.cons (V.int false IntKind.i64 i) V.nil))), V.nil)) (Tree.leaf (Ex.normal, true,
    V.cons (V.rsl false (1 : Nat) n fun a => V.cons (V.int false IntKind.i64 (f a)) V.nil) (V.cons (V.rsl false (1 : Nat) n fun a => V.cons (V.int false IntKind.i64 (f a)) V.nil)
    (V.cons (V.int false IntKind.i64 (n : Int)) (V.cons (V.int false IntKind.i64 (IntKind.wrap IntKind.i64 (i + (1 : Int)))) V.nil))), V.nil)))) := by kernel_rfl
end Go.Proofs.YtpeekgekmjldlaaDoor
namespace Go.Proofs.YtpeekgekmjldlaaDoor
open Go.Fw
set_option maxRecDepth 100000
set_option linter.unusedVariables false
theorem sorted_body (B : Base) (n : Nat) (f : Nat → Int) (i : Int) : ((ev (en [] []) 400 61 (loopAt P 61 2) B (canon 0 21 [0,3] [] (kSo n f i) .nil)).bind fun x => Tree.leaf (x.1, vw 0 21 [0,3] [] x.2)) =
    Tree.node (bif decide (i > (0 : Int)) then false else true) (Tree.leaf (Ex.exit (0 : Nat), true, V.cons (V.rsl false (1 : Nat) n fun a => V.cons (V.int false IntKind.i64 (f a))
    V.nil) (V.cons (V.int false IntKind.i64 i) V.nil), V.nil)) (Tree.need (((0 : Int) ≤ i ∧ i < (n : Int)) ∧ (0 : Int) ≤ IntKind.wrap IntKind.i64 (i - (1 : Int)) ∧ IntKind.wrap
    IntKind.i64 (i - (1 : Int)) < (n : Int)) (Tree.node (bif bif bif f (Int.toNat i) != f (Int.toNat i) then bif !f (Int.toNat (IntKind.wrap IntKind.i64 (i - (1 : Int)))) != f
    (Int.toNat (IntKind.wrap IntKind.i64 (i - (1 : Int)))) then true else decide (f (Int.toNat i) < f (Int.toNat (IntKind.wrap IntKind.i64 (i - (1 : Int))))) else decide (f
    (Int.toNat i) < f (Int.toNat (IntKind.wrap IntKind.i64 (i - (1 : Int))))) then true else false then true else false) (Tree.leaf (Ex.ret, true, V.cons (V.rsl false (1 : Nat) n
    fun a => V.cons (V.int false IntKind.i64 (f a)) V.nil) (V.cons (V.int false IntKind.i64 i) V.nil), V.nil)) (Tree.leaf (Ex.normal, true, V.cons (V.rsl false (1 : Nat) n fun a =>
    V.cons (V.int false IntKind.i64 (f a)) V.nil) (V.cons (V.int false IntKind.i64 (IntKind.wrap IntKind.i64 (i - (1 : Int)))) V.nil), V.nil)))) := by kernel_rfl
end Go.Proofs.YtpeekgekmjldlaaDoor
namespace Go.Proofs.YtpeekgekmjldlaaDoor
open Go.Fw
set_option maxRecDepth 100000

theorem en0_ok : (en []).Ok := en_ok (l := []) trivial
noncomputable def sameG (n : Nat) (f : Nat → Int) : Lp := ⟨42, 4, fun _ s => match vw 0 26 [0,1,12,13] [] s with
  | (true, .cons (.rsl _ 1 n1 g1) (.cons (.rsl _ 1 n2 g2) (.cons (.int _ .i64 n3) (.cons (.int _ .i64 i0) .nil))), .nil) =>
    bif Nat.beq s.n 0 then .need ((n1 = n ∧ g1 = rowN f) ∧ (n2 = n ∧ g2 = rowN f) ∧ n3 = n ∧ i0 = 0) (.all Int fun i => .leaf (.exit 0, canon 0 26 [0,1,12,13] [] (kS n f i) .nil)) else .stuck
  | _ => .stuck⟩
theorem sameG_ok (n : Nat) (f : Nat → Int) (hb : (n : Int) < 4611686018427387904) : (sameG n f).Ok P := by
  refine lp_ok (by kernel_rfl) fun hin B s Q hq => ?_
  simp only [sameG] at hq hin ⊢
  split at hq
  · rename_i q0 n1 g1 q1 n2 g2 q2 n3 q3 i0 heq
    cases hn : Nat.beq s.n 0
    · rw [hn] at hq; exact hq.elim
    · rw [hn] at hq
      obtain ⟨⟨⟨rfl, rfl⟩, ⟨rfl, rfl⟩, rfl, rfl⟩, hq⟩ := hq
      have hsame : Same 0 26 [0,1,12,13] [] s (kS n2 f 0) .nil := by
        refine ⟨by rw [heq], by rw [heq]; rfl, by rw [heq]⟩
      refine loop_view (k := 400) (f := 42) en0_ok hin (fun i : Int => kS n2 f i) (fun _ => .nil) (fun j => 0 ≤ j ∧ j ≤ n2) (fun j => ((n2 : Int) - j).toNat) Q (fun i => same_body B n2 f i) ?_ (Nat.eq_of_beq_eq_true hn) (i0 := 0) ⟨by omega, by omega⟩ hsame
      intro j hj
      refine ⟨fun _ => ⟨rfl, _, _, rfl, rfl, hq j⟩, fun hx => ?_⟩
      have hlt : j < n2 := by apply Classical.byContradiction; intro h; simp [h] at hx
      refine ⟨⟨⟨hj.1, hlt⟩, hj.1, hlt⟩, fun hbad => ?_, fun _ => ?_⟩
      · exfalso
        have e : (f (Int.toNat j) != f (Int.toNat j)) = false := by simp
        rw [e] at hbad; cases hbad
      · rw [IntWalk.i64_in (j + 1) ⟨by omega, by omega⟩]
        exact ⟨rfl, j + 1, ⟨by omega, by omega⟩, by omega, rfl, rfl⟩
  · exact hq.elim
theorem same_tree (n : Nat) (f : Nat → Int) : evFn (en [] [sameG n f]) 400 42 (.cons (.rsl false 1 n (rowN f)) (.cons (.rsl false 1 n (rowN f)) .nil)) =
    Tree.node (bif (n : Int) != (n : Int) then true else false) (Tree.leaf (V.bool true false)) (Tree.need ((n = n ∧ rowN f = rowN f) ∧ (n = n ∧ rowN f = rowN f) ∧ (n : Int) = (n : Int) ∧ (0 : Int) = (0 : Int)) (Tree.all Int fun _ => Tree.leaf (V.bool true true))) := by kernel_rfl
theorem same_holds (n : Nat) (f : Nat → Int) : Tree.Hold P (evFn (en [] [sameG n f]) 400 42 (.cons (.rsl false 1 n (rowN f)) (.cons (.rsl false 1 n (rowN f)) .nil))) fun r => r.soft = .bool false true := by
  constructor
  rw [same_tree]
  refine ⟨fun h => ?_, fun _ => ⟨⟨⟨rfl, rfl⟩, ⟨rfl, rfl⟩, rfl, rfl⟩, fun _ => rfl⟩⟩
  have e : ((n : Int) != (n : Int)) = false := by simp
  rw [e] at h; cases h
theorem same_meets (n : Nat) (f : Nat → Int) (hb : (n : Int) < 4611686018427387904) : Meets P 42 (.cons (.rsl false 1 n (rowN f)) (.cons (.rsl false 1 n (rowN f)) .nil)) (.bool false true) :=
  meets_true (en_okl (l := []) trivial (ls := [sameG n f]) ⟨sameG_ok n f hb, trivial⟩) 400 (Has.of hn Tryd.func42 rfl) (same_holds n f)
def c_same : Con := { g := 42, ans := fun x => match x with
  | .cons (.rsl _ 1 n g) (.cons (.rsl _ 1 n' g') .nil) => some (.where_ ((∃ f, g = rowN f ∧ g' = rowN f) ∧ n' = n ∧ (n : Int) < 4611686018427387904) (.bool false true))
  | _ => none }
theorem c_same_ok : c_same.Ok P := by
  intro x
  dsimp only [c_same]
  split
  · rename_i v h
    split at h <;> cases h
  · rename_i p v h
    split at h
    · rename_i st n g st' n' g'
      injection h with h; injection h with h1 h2; subst h1; subst h2
      rintro ⟨⟨f, rfl, rfl⟩, rfl, hb⟩
      exact Meets.of_soft (args := .cons (.rsl st 1 n' (rowN f)) (.cons (.rsl st' 1 n' (rowN f)) .nil)) (same_meets n' f hb)
    · cases h
  · trivial

noncomputable def sortedG (n : Nat) (f : Nat → Int) : Lp := ⟨61, 2, fun _ s => match vw 0 21 [0,3] [] s with
  | (true, .cons (.rsl _ 1 n1 g1) (.cons (.int _ .i64 i0) .nil), .nil) =>
    bif Nat.beq s.n 0 then .need ((n1 = n ∧ g1 = rowN f) ∧ -1 ≤ i0 ∧ i0 < n) (.all Int fun i => .leaf (.exit 0, canon 0 21 [0,3] [] (kSo n f i) .nil)) else .stuck
  | _ => .stuck⟩
theorem sortedG_ok (n : Nat) (f : Nat → Int) (hb : (n : Int) < 4611686018427387904) (hs : ∀ j : Int, 0 < j → j < n → f (Int.toNat (j - 1)) ≤ f (Int.toNat j)) : (sortedG n f).Ok P := by
  refine lp_ok (by kernel_rfl) fun hin B s Q hq => ?_
  simp only [sortedG] at hq hin ⊢
  split at hq
  · rename_i q0 n1 g1 q3 i0 heq
    cases hn : Nat.beq s.n 0
    · rw [hn] at hq; exact hq.elim
    · rw [hn] at hq
      obtain ⟨⟨⟨rfl, rfl⟩, hi0, hi1⟩, hq⟩ := hq
      have hsame : Same 0 21 [0,3] [] s (kSo n1 f i0) .nil := by
        refine ⟨by rw [heq], by rw [heq]; rfl, by rw [heq]⟩
      refine loop_view (k := 400) (f := 61) en0_ok hin (fun i : Int => kSo n1 f i) (fun _ => .nil) (fun j => -1 ≤ j ∧ j < n1) (fun j => (j + 1).toNat) Q (fun i => sorted_body B n1 f i) ?_ (Nat.eq_of_beq_eq_true hn) (i0 := i0) ⟨by omega, by omega⟩ hsame
      intro j hj
      refine ⟨fun _ => ⟨rfl, _, _, rfl, rfl, hq j⟩, fun hx => ?_⟩
      have hlt : 0 < j := by apply Classical.byContradiction; intro h; have : ¬ j > 0 := h; simp [this] at hx
      rw [IntWalk.i64_in (j - 1) ⟨by omega, by omega⟩]
      refine ⟨⟨⟨by omega, hj.2⟩, by omega, by omega⟩, fun hbad => ?_, fun _ => ?_⟩
      · exfalso
        have e : (f (Int.toNat j) != f (Int.toNat j)) = false := by simp
        have e2 : decide (f (Int.toNat j) < f (Int.toNat (j - 1))) = false := decide_eq_false (by have := hs j hlt hj.2; omega)
        rw [e, e2] at hbad; cases hbad
      · exact ⟨rfl, j - 1, ⟨by omega, by omega⟩, by omega, rfl, rfl⟩
  · exact hq.elim
theorem sorted_tree (n : Nat) (f : Nat → Int) : evFn (en [] [sortedG n f]) 400 61 (.cons (.rsl false 1 n (rowN f)) .nil) =
    (Tree.need ((n = n ∧ rowN f = rowN f) ∧ -1 ≤ IntKind.wrap IntKind.i64 ((n : Int) - (1 : Int)) ∧ IntKind.wrap IntKind.i64 ((n : Int) - (1 : Int)) < n) (Tree.all Int fun _ => Tree.leaf (V.bool true true))) := by kernel_rfl
theorem sorted_holds (n : Nat) (f : Nat → Int) (hb : (n : Int) < 4611686018427387904) : Tree.Hold P (evFn (en [] [sortedG n f]) 400 61 (.cons (.rsl false 1 n (rowN f)) .nil)) fun r => r.soft = .bool false true := by
  constructor
  rw [sorted_tree, IntWalk.i64_in ((n : Int) - 1) ⟨by omega, by omega⟩]
  exact ⟨⟨⟨rfl, rfl⟩, by omega, by omega⟩, fun _ => rfl⟩
theorem sorted_meets (n : Nat) (f : Nat → Int) (hb : (n : Int) < 4611686018427387904) (hs : ∀ j : Int, 0 < j → j < n → f (Int.toNat (j - 1)) ≤ f (Int.toNat j)) : Meets P 61 (.cons (.rsl false 1 n (rowN f)) .nil) (.bool false true) :=
  meets_true (en_okl (l := []) trivial (ls := [sortedG n f]) ⟨sortedG_ok n f hb hs, trivial⟩) 400 (Has.of hn Tryd.func61 rfl) (sorted_holds n f hb)
def c_sorted : Con := { g := 61, ans := fun x => match x with
  | .cons (.rsl _ 1 n g) .nil => some (.where_ (∃ f, g = rowN f ∧ (n : Int) < 4611686018427387904 ∧ ∀ j : Int, 0 < j → j < n → f (Int.toNat (j - 1)) ≤ f (Int.toNat j)) (.bool false true))
  | _ => none }
theorem c_sorted_ok : c_sorted.Ok P := by
  intro x
  dsimp only [c_sorted]
  split
  · rename_i v h
    split at h <;> cases h
  · rename_i p v h
    split at h
    · rename_i st n g
      injection h with h; injection h with h1 h2; subst h1; subst h2
      rintro ⟨f, rfl, hb, hs⟩
      exact Meets.of_soft (args := .cons (.rsl st 1 n (rowN f)) .nil) (sorted_meets n f hb hs)
    · cases h
  · trivial
end Go.Proofs.YtpeekgekmjldlaaDoor
