/- WaitPauses: the loops' families of states. -/
import Derived.Test.YtfealfofcjgihaaXeD
import Derived.Test.YtfealfofcjgihaaGwT
namespace Go.Proofs.Ytfealfofcjgihaa
open Go.Fw

abbrev st4 (s p po u : Int) : V := .agg (.cons (.int false .i64 s) (.cons (.int false .i64 p) (.cons (.int false .u32 po) (.cons (.int false .i64 u) .nil))))
abbrev i6 (n : Int) : V := .int false .i64 n
abbrev at0 (n : Nat) : V := .ptr true n 0 0 0
abbrev pT (c : Int) (r : Bool) (k n i : Int) : V := .cons (i6 c) (.cons (at0 0) (.cons (.bool false r) (.cons (at0 33) (.cons (i6 k) (.cons (i6 n) (.cons (i6 i) .nil))))))
abbrev pB (s p po u x0 x1 x2 x3 : Int) : V := .cons (st4 s p po u) (.cons (st4 x0 x1 x2 x3) .nil)
abbrev qT (r : Bool) (k l i : Int) : V := .cons (at0 0) (.cons (.bool false r) (.cons (at0 33) (.cons (i6 k) (.cons (at0 34) (.cons (at0 35) (.cons (i6 l) (.cons (i6 i) .nil)))))))
abbrev qB (s p po u x0 x1 x2 x3 a0 a1 a2 a3 b0 b1 b2 b3 : Int) : V := .cons (st4 s p po u) (.cons (st4 x0 x1 x2 x3) (.cons (st4 a0 a1 a2 a3) (.cons (st4 b0 b1 b2 b3) .nil)))
noncomputable abbrev pE : Env := en [c_wCheck, c_wRuns, c_wPause]
noncomputable abbrev qE : Env := en [c_wCheck, c_wRuns, c_wUnpause]
end Go.Proofs.Ytfealfofcjgihaa
