/- The seat's program, and its environments. -/
import Derived.Test.YtfealfofcjgihaaFwP
import Derived.Test.YtfealfofcjgihaaChecked
namespace Go.Proofs.Ytfealfofcjgihaa
open Go.Fw
set_option maxRecDepth 100000
noncomputable abbrev P : Program := Try.prog
theorem hn : namesOk P = true := by kernel_rfl
theorem hm : P.follows .mixedOrders = true := Try.checked.mixed
noncomputable abbrev en (l : List Con) : Env := { P, Γ := lookG l, dyn := fun _ _ => false }
theorem en_ok {l : List Con} (h : AllOk P l) : (en l).Ok := env_ok hm hn h _
end Go.Proofs.Ytfealfofcjgihaa
