/- BucketWaits: the loop's family of states. -/
import Derived.Test.YtfealfofcjgihaaYeB
import Derived.Test.YtfealfofcjgihaaGwT
namespace Go.Proofs.Ytfealfofcjgihaa
open Go.Fw

abbrev wT (r : Bool) (left i : Int) : V := .cons (.ptr true 0 0 0 0) (.cons (.bool false r) (.cons (.int false .i64 left) (.cons (.int false .i64 i) .nil)))
abbrev wB (c t : Int) : V := .cons (.agg (.cons (.int false .i64 c) (.cons (.int false .i64 t) .nil))) .nil
noncomputable abbrev wE : Env := en [c_bCheck, c_bDry, c_bPass]
end Go.Proofs.Ytfealfofcjgihaa
