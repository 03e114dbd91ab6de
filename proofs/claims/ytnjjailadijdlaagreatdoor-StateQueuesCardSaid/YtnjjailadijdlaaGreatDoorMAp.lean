/- The seat's program, and its environments. -/
import Derived.Test.YtnjjailadijdlaaGreatDoorMAl
import Derived.Test.YtnjjailadijdlaaGreatDoorChecked
set_option maxRecDepth 100000
set_option linter.unusedVariables false
set_option linter.unusedSimpArgs false
noncomputable section
namespace Go.Proofs.YtnjjailadijdlaaGreatDoor
open Go.Fw
abbrev P:Program:=Tryz.prog
theorem hn:ZbR P = true:=by kernel_rfl
theorem hm:P.follows .mixedOrders = true:=Tryz.checked.mixed
abbrev en (l:List Con) (ls:List Lp:=[]):Env:={ P,Γ:=QE l,lp:=K9 ls,mg:=true }
theorem en_ok {l:List Con} (h:Wy P l):(en l).Ok:=Zu hm hn h (ls:=[]) trivial _
end Go.Proofs.YtnjjailadijdlaaGreatDoor
end
