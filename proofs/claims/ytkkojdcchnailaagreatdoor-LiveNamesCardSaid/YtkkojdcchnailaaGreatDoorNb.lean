/- LiveNames: the families of states at its loops' heads. -/
import Derived.Test.YtkkojdcchnailaaGreatDoorNa
import Derived.Test.YtkkojdcchnailaaGreatDoorWk
import Derived.Test.YtkkojdcchnailaaGreatDoorGwT
namespace Go.Proofs.YtkkojdcchnailaaGreatDoor
open Go.Fw
/-- Rows of numbers, and of texts. -/
abbrev rowN (g : Nat → Int) : Nat → V := fun j => .cons (.int false .i64 (g j)) .nil
abbrev rowT (g : Nat → List UInt8) : Nat → V := fun j => .cons (.str false (g j)) .nil
/-- Within the kinds: the names, what is answered, the kinds, where their row stands. -/
abbrev kK (n : Nat) (f : Nat → Int) (m : Nat) (g : Nat → List UInt8) (i : Int) : V :=
  .cons (.rsl false 1 m (rowT g)) (.cons (.bool true false) (.cons (.rsl false 1 n (rowN f)) (.cons (.int false .i64 n) (.cons (.int false .i64 i) .nil))))
/-- Within the names. -/
abbrev kT (m : Nat) (g : Nat → List UInt8) (r : Bool) (i : Int) : V :=
  .cons (.bool false r) (.cons (.rsl false 1 m (rowT g)) (.cons (.int false .i64 m) (.cons (.int false .i64 i) .nil)))
end Go.Proofs.YtkkojdcchnailaaGreatDoor
