/- MachineIdles at so many steps: what is asked. -/
import Derived.Test.YtdgjneondmmgdaaGreatDoorSb
import Derived.Test.YtdgjneondmmgdaaGreatDoorWk
set_option linter.unusedSimpArgs false
set_option linter.unusedVariables false
namespace Go.Proofs.YtdgjneondmmgdaaGreatDoor
open Go.Fw
set_option maxRecDepth 100000
set_option linter.unusedVariables false
set_option linter.unusedSimpArgs false
theorem law_34 (c : Nat) (n v : Int) (f : Nat → Int) : askK (.bool false true) (evFnS (envL P [c_wakes, t_flat c, t_new c, t_do c, t_ran c] [] true) (gsOf [c_wakes, t_flat c, t_new c, t_do c, t_ran c]) 400 3 ((.cons (.int false .i64 n) (.cons (.int false .i64 v) (.cons (.rsl true 1 34 fun j => .cons (.int false .i64 (f j)) .nil) .nil))))) Bx.mk = ⟨lawP c n v f 34⟩ := by kernel_rfl
theorem law_35 (c : Nat) (n v : Int) (f : Nat → Int) : askK (.bool false true) (evFnS (envL P [c_wakes, t_flat c, t_new c, t_do c, t_ran c] [] true) (gsOf [c_wakes, t_flat c, t_new c, t_do c, t_ran c]) 400 3 ((.cons (.int false .i64 n) (.cons (.int false .i64 v) (.cons (.rsl true 1 35 fun j => .cons (.int false .i64 (f j)) .nil) .nil))))) Bx.mk = ⟨lawP c n v f 35⟩ := by kernel_rfl
theorem law_36 (c : Nat) (n v : Int) (f : Nat → Int) : askK (.bool false true) (evFnS (envL P [c_wakes, t_flat c, t_new c, t_do c, t_ran c] [] true) (gsOf [c_wakes, t_flat c, t_new c, t_do c, t_ran c]) 400 3 ((.cons (.int false .i64 n) (.cons (.int false .i64 v) (.cons (.rsl true 1 36 fun j => .cons (.int false .i64 (f j)) .nil) .nil))))) Bx.mk = ⟨lawP c n v f 36⟩ := by kernel_rfl
theorem law_37 (c : Nat) (n v : Int) (f : Nat → Int) : askK (.bool false true) (evFnS (envL P [c_wakes, t_flat c, t_new c, t_do c, t_ran c] [] true) (gsOf [c_wakes, t_flat c, t_new c, t_do c, t_ran c]) 400 3 ((.cons (.int false .i64 n) (.cons (.int false .i64 v) (.cons (.rsl true 1 37 fun j => .cons (.int false .i64 (f j)) .nil) .nil))))) Bx.mk = ⟨lawP c n v f 37⟩ := by kernel_rfl
theorem law_38 (c : Nat) (n v : Int) (f : Nat → Int) : askK (.bool false true) (evFnS (envL P [c_wakes, t_flat c, t_new c, t_do c, t_ran c] [] true) (gsOf [c_wakes, t_flat c, t_new c, t_do c, t_ran c]) 400 3 ((.cons (.int false .i64 n) (.cons (.int false .i64 v) (.cons (.rsl true 1 38 fun j => .cons (.int false .i64 (f j)) .nil) .nil))))) Bx.mk = ⟨lawP c n v f 38⟩ := by kernel_rfl
theorem law_39 (c : Nat) (n v : Int) (f : Nat → Int) : askK (.bool false true) (evFnS (envL P [c_wakes, t_flat c, t_new c, t_do c, t_ran c] [] true) (gsOf [c_wakes, t_flat c, t_new c, t_do c, t_ran c]) 400 3 ((.cons (.int false .i64 n) (.cons (.int false .i64 v) (.cons (.rsl true 1 39 fun j => .cons (.int false .i64 (f j)) .nil) .nil))))) Bx.mk = ⟨lawP c n v f 39⟩ := by kernel_rfl
theorem law_40 (c : Nat) (n v : Int) (f : Nat → Int) : askK (.bool false true) (evFnS (envL P [c_wakes, t_flat c, t_new c, t_do c, t_ran c] [] true) (gsOf [c_wakes, t_flat c, t_new c, t_do c, t_ran c]) 400 3 ((.cons (.int false .i64 n) (.cons (.int false .i64 v) (.cons (.rsl true 1 40 fun j => .cons (.int false .i64 (f j)) .nil) .nil))))) Bx.mk = ⟨lawP c n v f 40⟩ := by kernel_rfl
end Go.Proofs.YtdgjneondmmgdaaGreatDoor
