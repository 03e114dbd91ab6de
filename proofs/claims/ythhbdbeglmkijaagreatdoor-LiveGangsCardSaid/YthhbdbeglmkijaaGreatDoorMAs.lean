/- wakes: it answers true. -/
import Derived.Test.YthhbdbeglmkijaaGreatDoorMAr
set_option maxRecDepth 100000
set_option linter.unusedVariables false
set_option linter.unusedSimpArgs false
noncomputable section
namespace Go.Proofs.YthhbdbeglmkijaaGreatDoor
open Go.Fw
theorem Zr7:Ya (Zl P [Wn,WL,QL,Vh,ZaE] [] true) (Yc [Wn,WL,QL,Vh,ZaE]) 400 7 .nil=.leaf (.bool true true):=by kernel_rfl
theorem Zr5:ZT (Zl P [Wn,WL,QL,Vh,ZaE] [] true) 400 7 .nil=.leaf (.bool true true):=by
 rw[<- ZcP ZaX]
 exact Zr7
theorem Zr6:Zh P 7 .nil (.bool true true):=
 meets (E:=en [Wn,WL,QL,Vh,ZaE]) (Gg (l:=[Wn,WL,QL,Vh,ZaE]) ⟨ZaJ,Zcr,Zfi,Zj9,c_m20_ok,trivial⟩) 400 (Has.of hn Tryz.func7 rfl) Zr5 ⟨rfl,rfl⟩
def ZhS:Con:={ g:=7,al:=true,ans:=λx=>match x with
 | .nil=>some (.sure (.bool true true))
 |_=>none }
theorem Zn9:ZhS.Ok P:=by
 intro x
 dsimp only[ZhS]
 split
 ·rename_i h
  split at h
  ·injection h with h;injection h with h;subst h
   exact Zr6
  ·cases h
 ·rename_i h
  split at h<;>cases h
 ·rename_i h
  split at h<;>cases h
 ·trivial
end Go.Proofs.YthhbdbeglmkijaaGreatDoor
end
