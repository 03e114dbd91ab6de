/- The loops of the clock's laws: their families of states. -/
import Derived.Test.YtpeekgekmjldlaaDoorKcA
import Derived.Test.YtpeekgekmjldlaaDoorGwT
namespace Go.Proofs.YtpeekgekmjldlaaDoor
open Go.Fw

/-- Rows of pairs. -/
abbrev rowF (f : Nat → Int × Int) : Nat → V := fun j => .cons (.int false .i64 (f j).1) (.cons (.int false .i64 (f j).2) .nil)
abbrev kT (r : Bool) (n : Nat) (f : Nat → Int × Int) (i : Int) : V := .cons (.bool false r) (.cons (.rsl false 2 n (rowF f)) (.cons (.int false .i64 n) (.cons (.int false .i64 i) .nil)))
noncomputable abbrev kE : Env := en [c_kCheck, c_kAdd, c_kLess, c_kStop, c_kAgo]
noncomputable def peekK (f id R : Nat) (KT : List Nat) : Lp := ⟨f, id, fun _ s => .leaf (.ret, s.put (some R) (.tup (.cons (mkInt true .i64 s.n) (.cons (mkInt true .i64 s.N) (.cons (.tup (rowOf (KT.map s.tmp))) .nil)))))⟩
end Go.Proofs.YtpeekgekmjldlaaDoor
