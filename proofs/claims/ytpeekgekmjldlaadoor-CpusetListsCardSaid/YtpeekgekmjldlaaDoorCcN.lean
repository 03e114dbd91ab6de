/- Cpuset: what Next and Within answer. -/
import Derived.Test.YtpeekgekmjldlaaDoorCcH
import Derived.Test.YtpeekgekmjldlaaDoorCcI
import Derived.Test.YtpeekgekmjldlaaDoorCcJ
namespace Go.Proofs.YtpeekgekmjldlaaDoor
open Go.Fw
set_option maxRecDepth 100000
set_option linter.unusedVariables false
/-- The first of a list above a number. -/
def nxI : List Int → Int → Int
  | [], _ => 0
  | i :: l, n => bif decide (i > n) then i else nxI l n
def nxB : List Int → Int → Bool
  | [], _ => false
  | i :: l, n => bif decide (i > n) then true else nxB l n
theorem chN_total : ∀ (l : List Int) (n : Int), (chN l n).total = true := by
  intro l n; induction l with
  | nil => rfl
  | cons i l ih => show ((Tree.leaf _).total && (chN l n).total) = true; rw [ih]; rfl
theorem chN_clean : ∀ (l : List Int) (n : Int), (chN l n).allClean = true := by
  intro l n; induction l with
  | nil => rfl
  | cons i l ih => show ((Tree.leaf _).allClean && (chN l n).allClean) = true; rw [ih]; rfl
theorem chN_join : ∀ (l : List Int) (n : Int), (chN l n).join = .tup (.cons (.int false .i64 (nxI l n)) (.cons (.bool false (nxB l n)) .nil)) := by
  intro l n; induction l with
  | nil => rfl
  | cons i l ih => show mergeOne (decide (i > n)) (Tree.leaf _).join (chN l n).join = _; rw [ih]; rfl
theorem next_meets (a n : Int) : Meets P 58 (.cons (.int false .u32 a) (.cons (.int false .i64 n) .nil)) (.tup (.cons (.int false .i64 (nxI (lst (lowN a)) n)) (.cons (.bool false (nxB (lst (lowN a)) n)) .nil))) := by
  have hT := next_at a n (lowN_lt a) trivial
  refine meets_tree (T := .need (maskI a = Int.ofNat (lowN a)) (chN (lst (lowN a)) n)) (enL_ok (lowN a)) 400 (Has.of hn Tryd.func58 rfl) hT ⟨⟨maskI_low a, Tree.pre_of_total _ (chN_total _ _)⟩⟩ ?_ ?_
  · exact chN_clean _ _
  · exact chN_join _ _
theorem rnext_meets (a n : Int) (h0 : 0 ≤ a) (h1 : a < 4294967296) : Meets P 59 (.cons (.int false .u32 a) (.cons (.int false .i64 n) .nil)) (.tup (.cons (.int false .i64 (nxI (lst (lowN a)) n)) (.cons (.bool false (nxB (lst (lowN a)) n)) .nil))) := by
  have hT := rnext_at a n (lowN_lt a) trivial
  refine meets_tree (T := .need (isLow (lowN a) a) (chN (lst (lowN a)) n)) (enR_ok (lowN a) (lowN_lt a)) 400 (Has.of hn Tryd.func59 rfl) hT ⟨⟨⟨rfl, h0, h1⟩, Tree.pre_of_total _ (chN_total _ _)⟩⟩ ?_ ?_
  · exact chN_clean _ _
  · exact chN_join _ _
noncomputable def wtB : List Int → Int → Bool
  | [], _ => true
  | i :: l, b => bif !vHas_0 b i then false else wtB l b
theorem chW_total : ∀ (l : List Int) (n : Int), (chW l n).total = true := by
  intro l n; induction l with
  | nil => rfl
  | cons i l ih => show ((Tree.leaf _).total && (chW l n).total) = true; rw [ih]; rfl
theorem chW_clean : ∀ (l : List Int) (n : Int), (chW l n).allClean = true := by
  intro l n; induction l with
  | nil => rfl
  | cons i l ih => show ((Tree.leaf _).allClean && (chW l n).allClean) = true; rw [ih]; rfl
theorem chW_join : ∀ (l : List Int) (b : Int), ∃ st, (chW l b).join = .bool st (wtB l b) := by
  intro l b; induction l with
  | nil => exact ⟨_, rfl⟩
  | cons i l ih => obtain ⟨st, ih⟩ := ih; exact ⟨false, by show mergeOne (!vHas_0 b i) (Tree.leaf _).join (chW l b).join = _; rw [ih]; rfl⟩
theorem rwithin_meets (a b : Int) (h0 : 0 ≤ a) (h1 : a < 4294967296) : Meets P 57 (.cons (.int false .u32 a) (.cons (.int false .u32 b) .nil)) (.bool false (wtB (lst (lowN a)) b)) := by
  have hT := rwithin_at a b (lowN_lt a) trivial
  obtain ⟨st, hj⟩ := chW_join (lst (lowN a)) b
  exact Meets.soften (meets_tree (T := .need (isLow (lowN a) a) (chW (lst (lowN a)) b)) (v := .bool st (wtB (lst (lowN a)) b)) (enR_ok (lowN a) (lowN_lt a)) 400 (Has.of hn Tryd.func57 rfl) hT ⟨⟨⟨rfl, h0, h1⟩, Tree.pre_of_total _ (chW_total _ _)⟩⟩ (chW_clean _ _) hj) rfl
end Go.Proofs.YtpeekgekmjldlaaDoor
