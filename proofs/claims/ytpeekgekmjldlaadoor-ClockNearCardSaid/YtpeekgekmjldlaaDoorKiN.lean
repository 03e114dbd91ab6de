/- ClockNear, as the evaluator has it. -/
import Derived.Test.YtpeekgekmjldlaaDoorKhN
namespace Go.Proofs.YtpeekgekmjldlaaDoor
open Go.Fw
set_option maxRecDepth 100000
theorem near_tree (n : Nat) (f : Nat → Int × Int) : evFn (en [c_kCheck, c_kAdd] [nearG n f]) 400 7 (.cons (.rsl false 2 n (rowF f)) .nil) =
    Tree.need (n = n ∧ rowF f = rowF f ∧ (n : Int) = (n : Int) ∧ (0 : Int) = (0 : Int)) (Tree.all Int fun _ => Tree.leaf (V.bool true true)) := by kernel_rfl
theorem near_holds (n : Nat) (f : Nat → Int × Int) : Tree.Hold P (evFn (en [c_kCheck, c_kAdd] [nearG n f]) 400 7 (.cons (.rsl false 2 n (rowF f)) .nil)) fun r => r.soft = .bool false true := by
  constructor
  rw [near_tree]
  exact ⟨⟨rfl, rfl, rfl, rfl⟩, fun _ => rfl⟩
theorem near_meets (n : Nat) (f : Nat → Int × Int) : Meets P 7 (.cons (.rsl false 2 n (rowF f)) .nil) (.bool false true) :=
  meets_true (en_okl (l := [c_kCheck, c_kAdd]) ⟨c_kCheck_ok, c_kAdd_ok, trivial⟩ (ls := [nearG n f]) ⟨nearG_ok n f, trivial⟩) 400 (Has.of hn Tryd.func7 rfl) (near_holds n f)
end Go.Proofs.YtpeekgekmjldlaaDoor
