/- The loops of cpuset's laws: their families of states. -/
import Derived.Test.YtpeekgekmjldlaaDoorCcB
import Derived.Test.YtpeekgekmjldlaaDoorGwT
namespace Go.Proofs.YtpeekgekmjldlaaDoor
open Go.Fw
/-- Rows of sets, and of numbers. -/
abbrev rowS (f : Nat → Int) : Nat → V := fun j => .cons (.int false .u32 (f j)) .nil
abbrev rowN (g : Nat → Int) : Nat → V := fun j => .cons (.int false .i64 (g j)) .nil
/-- Within the numbers: the row of numbers, the set, the row of sets, where each row stands. -/
abbrev kI (m : Nat) (f : Nat → Int) (n : Nat) (g : Nat → Int) (i a j : Int) : V :=
  .cons (.rsl false 1 n (rowN g)) (.cons (.int false .u32 a) (.cons (.rsl false 1 m (rowS f)) (.cons (.int false .i64 m) (.cons (.int false .i64 i) (.cons (.rsl false 1 n (rowN g)) (.cons (.int false .i64 n) (.cons (.int false .i64 j) .nil)))))))
/-- Within the sets. -/
abbrev kO (m : Nat) (f : Nat → Int) (n : Nat) (g : Nat → Int) (i : Int) : V :=
  .cons (.rsl false 1 n (rowN g)) (.cons (.rsl false 1 m (rowS f)) (.cons (.int false .i64 m) (.cons (.int false .i64 i) .nil)))
end Go.Proofs.YtpeekgekmjldlaaDoor
