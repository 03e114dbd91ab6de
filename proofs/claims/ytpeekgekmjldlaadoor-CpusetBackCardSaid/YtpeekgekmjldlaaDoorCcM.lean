/- The loops of cpuset's laws on rows of sets: their families of states. -/
import Derived.Test.YtpeekgekmjldlaaDoorCpK
import Derived.Test.YtpeekgekmjldlaaDoorCcL
namespace Go.Proofs.YtpeekgekmjldlaaDoor
open Go.Fw
/-- A number, the row of sets, where it stands. -/
abbrev kB (m : Nat) (f : Nat → Int) (b i : Int) : V :=
  .cons (.int false .i64 b) (.cons (.rsl false 1 m (rowS f)) (.cons (.int false .i64 m) (.cons (.int false .i64 i) .nil)))
end Go.Proofs.YtpeekgekmjldlaaDoor
