/- ClockTimes, as the evaluator has it. -/
import Derived.Test.YtpeekgekmjldlaaDoorKhT
namespace Go.Proofs.YtpeekgekmjldlaaDoor
open Go.Fw
set_option maxRecDepth 100000
theorem times_tree (n : Nat) (f : Nat → Int × Int) : evFn (en [c_kCheck, c_kAdd] [timesG n f]) 400 5 (.cons (.rsl false 2 n (rowF f)) .nil) =
    Tree.need (n = n ∧ rowF f = rowF f ∧ (n : Int) = (n : Int) ∧ (0 : Int) = (0 : Int)) (Tree.all Int fun _ => Tree.leaf (V.bool true true)) := by kernel_rfl
theorem times_holds (n : Nat) (f : Nat → Int × Int) : Tree.Hold P (evFn (en [c_kCheck, c_kAdd] [timesG n f]) 400 5 (.cons (.rsl false 2 n (rowF f)) .nil)) fun r => r.soft = .bool false true := by
  constructor
  rw [times_tree]
  exact ⟨⟨rfl, rfl, rfl, rfl⟩, fun _ => rfl⟩
theorem times_meets (n : Nat) (f : Nat → Int × Int) : Meets P 5 (.cons (.rsl false 2 n (rowF f)) .nil) (.bool false true) :=
  meets_true (en_okl (l := [c_kCheck, c_kAdd]) ⟨c_kCheck_ok, c_kAdd_ok, trivial⟩ (ls := [timesG n f]) ⟨timesG_ok n f, trivial⟩) 400 (Has.of hn Tryd.func5 rfl) (times_holds n f)
end Go.Proofs.YtpeekgekmjldlaaDoor
