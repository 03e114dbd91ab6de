/- BucketHolds: its loops' families of states. -/
import Derived.Test.YtfealfofcjgihaaYp
import Derived.Test.YtfealfofcjgihaaGwW
namespace Go.Proofs.Ytfealfofcjgihaa
open Go.Fw

/-- Rows of a time, a gap, and how many run; and of a time and how many run. -/
abbrev row3 (l : Nat → Int × Int × Int) : Nat → V := fun j => .cons (.int false .i64 (l j).1) (.cons (.int false .i64 (l j).2.1) (.cons (.int false .i64 (l j).2.2) .nil))
abbrev row2 (f : Nat → Int × Int) : Nat → V := fun j => .cons (.int false .i64 (f j).1) (.cons (.int false .i64 (f j).2) .nil)
abbrev hT (r : Bool) (ln : Nat) (l : Nat → Int × Int × Int) (i : Nat) : V := .cons (.ptr true 0 0 0 0) (.cons (.bool false r) (.cons (.osl false 15 2 0 i) (.cons (.rsl false 3 ln (row3 l)) (.cons (.int false .i64 ln) (.cons (.int false .i64 i) .nil)))))
abbrev hB (c t : Int) (i : Nat) (g : Nat → V) : V := .cons (.agg (.cons (.int false .i64 c) (.cons (.int false .i64 t) .nil))) (.cons (.rsl false 2 i g) .nil)
abbrev hK : List Nat := [2, 4, 5, 31, 32, 33]
abbrev hH : List (Nat × Option Nat) := [(0, none), (15, some 5)]
end Go.Proofs.Ytfealfofcjgihaa
