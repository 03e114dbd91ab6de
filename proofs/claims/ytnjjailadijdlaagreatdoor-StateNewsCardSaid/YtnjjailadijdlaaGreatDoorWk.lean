/- law20's wakes: it answers true. -/
import Derived.Test.YtnjjailadijdlaaGreatDoorWa
namespace Go.Proofs.YtnjjailadijdlaaGreatDoor
open Go.Fw
set_option maxRecDepth 100000
theorem wakes_tree : evFnS (envL P [c_vcheck] [] true) (gsOf [c_vcheck]) 400 10 .nil = .leaf (.bool true true) := by kernel_rfl
theorem wakes_evFn : evFn (envL P [c_vcheck] [] true) 400 10 .nil = .leaf (.bool true true) := by
  rw [← evFnS_eq envL_among]
  exact wakes_tree
theorem wakes_meets : Meets P 10 .nil (.bool true true) :=
  meets (E := en [c_vcheck]) (en_ok (l := [c_vcheck]) ⟨c_vcheck_ok, trivial⟩) 400 (Has.of hn Tryz.func10 rfl) wakes_evFn ⟨rfl, rfl⟩
noncomputable def c_wakes : Con := { g := 10, al := true, ans := fun x => match x with
  | .nil => some (.sure (.bool true true))
  | _ => none }
theorem c_wakes_ok : c_wakes.Ok P := by
  intro x
  dsimp only [c_wakes]
  split
  · rename_i h
    split at h
    · injection h with h; injection h with h; subst h
      exact wakes_meets
    · cases h
  · rename_i h
    split at h <;> cases h
  · trivial
end Go.Proofs.YtnjjailadijdlaaGreatDoor
