/- law20's wakes: it answers true. -/
import Derived.Test.YtnjjailadijdlaaGreatDoorMBe
set_option maxRecDepth 100000
set_option linter.unusedVariables false
set_option linter.unusedSimpArgs false
noncomputable section
namespace Go.Proofs.YtnjjailadijdlaaGreatDoor
open Go.Fw
theorem Zmd:ZJ (Zn P [VD] [] true) (ZL [VD]) 400 10 .nil = .leaf (.bool true true):=by kernel_rfl
theorem ZkV:ZQ (Zn P [VD] [] true) 400 10 .nil = .leaf (.bool true true):=by
 rw [<- Zcu Zht]
 exact Zmd
theorem Zjw:Zi P 10 .nil (.bool true true):=
 meets (E:=en [VD]) (en_ok (l:=[VD]) ⟨Zjg,trivial⟩) 400 (Has.of hn Tryz.func10 rfl) ZkV ⟨rfl,rfl⟩
def Zfa:Con:={ g:=10,al:=true,ans:=fun x=>match x with
 | .nil=>some (.sure (.bool true true))
 | _=>none }
theorem Zjs:Zfa.Ok P:=by
 intro x
 dsimp only [Zfa]
 split
 ·rename_i h
  split at h
  ·injection h with h; injection h with h; subst h
   exact Zjw
  ·cases h
 ·rename_i h
  split at h <;> cases h
 ·rename_i h
  split at h <;> cases h
 ·trivial
end Go.Proofs.YtnjjailadijdlaaGreatDoor
end
