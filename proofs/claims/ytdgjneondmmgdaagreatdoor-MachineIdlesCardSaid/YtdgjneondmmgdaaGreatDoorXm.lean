/- MachineIdles at so many steps: what is asked. -/
import Derived.Test.YtdgjneondmmgdaaGreatDoorSb
import Derived.Test.YtdgjneondmmgdaaGreatDoorWk
set_option linter.unusedSimpArgs false
set_option linter.unusedVariables false
namespace Go.Proofs.YtdgjneondmmgdaaGreatDoor
open Go.Fw
set_option maxRecDepth 100000
set_option linter.unusedVariables false
set_option linter.unusedSimpArgs false
def wayL : FuncId → Nat → Option Bool := fun f t => bif Nat.beq f 3 && Nat.beq t 27 then some true else none
noncomputable abbrev envM (l : List Con) : Env := { envL P l [] true with way := wayL }
theorem law_m (c : Nat) (n v : Int) (f : Nat → Int) (m : Nat) : askK (.bool false true) (evFnS (envM [c_wakes, t_flat c, t_new c, t_do c, t_ran c]) (gsOf [c_wakes, t_flat c, t_new c, t_do c, t_ran c]) 400 3 ((.cons (.int false .i64 n) (.cons (.int false .i64 v) (.cons (.rsl false 1 m fun j => .cons (.int false .i64 (f j)) .nil) .nil))))) Bx.mk = ⟨andL (moreP m 41) ∧ lawP c n v f 40⟩ := by kernel_rfl
end Go.Proofs.YtdgjneondmmgdaaGreatDoor
