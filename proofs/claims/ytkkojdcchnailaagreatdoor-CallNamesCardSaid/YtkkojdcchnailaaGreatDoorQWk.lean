/- wakes: it answers true. -/
import Derived.Test.YtkkojdcchnailaaGreatDoorQWm
namespace Go.Proofs.YtkkojdcchnailaaGreatDoor
open Go.Fw
set_option maxRecDepth 100000
theorem wakes_tree : evFnS (envL P [c_vcheck, c_sleeps, c_m60, c_m186, c_m20, c_m57] [] true) (gsOf [c_vcheck, c_sleeps, c_m60, c_m186, c_m20, c_m57]) 400 9 .nil = .leaf (.bool true true) := by kernel_rfl
theorem wakes_evFn : evFn (envL P [c_vcheck, c_sleeps, c_m60, c_m186, c_m20, c_m57] [] true) 400 9 .nil = .leaf (.bool true true) := by
  rw [← evFnS_eq envL_among]
  exact wakes_tree
theorem wakes_meets : Meets P 9 .nil (.bool true true) :=
  meets (E := en [c_vcheck, c_sleeps, c_m60, c_m186, c_m20, c_m57]) (en_ok (l := [c_vcheck, c_sleeps, c_m60, c_m186, c_m20, c_m57]) ⟨c_vcheck_ok, c_sleeps_ok, c_m60_ok, c_m186_ok, c_m20_ok, c_m57_ok, trivial⟩) 400 (Has.of hn Tryz.func9 rfl) wakes_evFn ⟨rfl, rfl⟩
noncomputable def c_wakes : Con := { g := 9, al := true, ans := fun x => match x with
  | .nil => some (.sure (.bool true true))
  | _ => none }
theorem c_wakes_ok : c_wakes.Ok P := by
  intro x
  dsimp only [c_wakes]
  split
  · rename_i h
    split at h
    · injection h with h; injection h with h; subst h
      exact wakes_meets
    · cases h
  · rename_i h
    split at h <;> cases h
  · trivial
end Go.Proofs.YtkkojdcchnailaaGreatDoor
