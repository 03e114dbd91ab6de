/- The seat's program, and its environments. -/
import Derived.Test.YtdgjneondmmgdaaGreatDoorFe
import Derived.Test.YtdgjneondmmgdaaGreatDoorProg
set_option linter.unusedSimpArgs false
set_option linter.unusedVariables false
namespace Go.Proofs.YtdgjneondmmgdaaGreatDoor
open Go.Fw
set_option maxRecDepth 100000
noncomputable abbrev P : Program := Tryz.prog
theorem hn : namesOk P = true := by kernel_rfl
theorem hm : P.follows .mixedOrders = true := by kernel_rfl
noncomputable abbrev en (l : List Con) (ls : List Lp := []) : Env := { P, Γ := lookG l, lp := lookL ls, mg := true }
theorem en_ok {l : List Con} (h : AllOk P l) : (en l).Ok := env_ok hm hn h (ls := []) trivial _
theorem en_okl {l : List Con} (h : AllOk P l) {ls : List Lp} (hls : AllLp P ls) : (en l ls).Ok := env_ok hm hn h hls _
end Go.Proofs.YtdgjneondmmgdaaGreatDoor
