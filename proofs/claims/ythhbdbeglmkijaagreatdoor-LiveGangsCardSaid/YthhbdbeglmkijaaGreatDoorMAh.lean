/- The seat's program, and its environments. -/
import Derived.Test.YthhbdbeglmkijaaGreatDoorMAf
import Derived.Test.YthhbdbeglmkijaaGreatDoorChecked
set_option maxRecDepth 100000
set_option linter.unusedVariables false
set_option linter.unusedSimpArgs false
noncomputable section
namespace Go.Proofs.YthhbdbeglmkijaaGreatDoor
open Go.Fw
abbrev P:Program:=Tryz.prog
theorem hn:Zgs P=true:=by kernel_rfl
theorem hm:P.follows .mixedOrders=true:=Tryz.checked.mixed
abbrev en(l:List Con)(ls:List Lp:=[]):Env:={ P,Γ:=KU l,lp:=Ul ls,mg:=true }
theorem Gg{l:List Con}(h:AllOk P l):(en l).Ok:=Zw hm hn h (ls:=[]) trivial _
end Go.Proofs.YthhbdbeglmkijaaGreatDoor
end
