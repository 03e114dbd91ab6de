/- wakes: it answers true. -/
import Derived.Test.YthhbdbeglmkijaaGreatDoorMAr
set_option maxRecDepth 100000
set_option linter.unusedVariables false
set_option linter.unusedSimpArgs false
noncomputable section
namespace Go.Proofs.YthhbdbeglmkijaaGreatDoor
open Go.Fw
theorem Zse:Yd (Zp P [Wt,Qb,Jb,VB,ZaM] [] true) (Yf [Wt,Qb,Jb,VB,ZaM]) 400 7 .nil=.leaf (.bool true true):=by kernel_rfl
theorem Zsc:ZU (Zp P [Wt,Qb,Jb,VB,ZaM] [] true) 400 7 .nil=.leaf (.bool true true):=by
 rw[<- ZcO Za5]
 exact Zse
theorem Zsd:Zi P 7 .nil (.bool true true):=
 meets (E:=en [Wt,Qb,Jb,VB,ZaM]) (GJ (l:=[Wt,Qb,Jb,VB,ZaM]) ⟨ZaR,Zcs,Zfq,Zkk,c_m20_ok,trivial⟩) 400 (Has.of hn Tryz.func7 rfl) Zsc ⟨rfl,rfl⟩
def Zh6:Con:={ g:=7,al:=true,ans:=λx=>match x with
 | .nil=>some (.sure (.bool true true))
 |_=>none }
theorem Zoe:Zh6.Ok P:=by
 intro x
 dsimp only[Zh6]
 split
 ·rename_i h
  split at h
  ·injection h with h;injection h with h;subst h
   exact Zsd
  ·cases h
 ·rename_i h
  split at h<;>cases h
 ·rename_i h
  split at h<;>cases h
 ·trivial
end Go.Proofs.YthhbdbeglmkijaaGreatDoor
end
