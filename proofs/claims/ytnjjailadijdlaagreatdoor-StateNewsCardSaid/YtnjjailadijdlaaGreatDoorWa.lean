/- Contracts of closed calls that come again and again. -/
import Derived.Test.YtnjjailadijdlaaGreatDoorGase
import Derived.Test.YtnjjailadijdlaaGreatDoorGwQ
namespace Go.Proofs.YtnjjailadijdlaaGreatDoor
open Go.Fw
set_option maxRecDepth 100000
theorem vcheck0 : evFn (envL P [] [] true) 400 139 (.cons (.agg (.cons (.int true .i64 0) (.cons .nilsl (.cons .nilsl .nil)))) .nil) = .leaf (.int true .i64 0) := by
  rw [← evFnS_eq envL_among]
  kernel_rfl
theorem vcheck_meets : Meets P 139 (.cons (.agg (.cons (.int true .i64 0) (.cons .nilsl (.cons .nilsl .nil)))) .nil) (.int true .i64 0) :=
  meets (E := en []) (en_ok (l := []) trivial) 400 (Has.of hn Tryz.func139 rfl) vcheck0 ⟨rfl, rfl⟩
noncomputable def c_vcheck : Con := { g := 139, al := true, ans := fun x => match x with
  | .cons (.agg (.cons (.int _ .i64 (.ofNat 0)) (.cons .nilsl (.cons .nilsl .nil)))) .nil => some (.sure (.int true .i64 0))
  | _ => none }
theorem c_vcheck_ok : c_vcheck.Ok P := by
  intro x
  dsimp only [c_vcheck]
  split
  · rename_i h
    split at h
    · injection h with h; injection h with h; subst h
      exact vcheck_meets
    · cases h
  · rename_i h
    split at h <;> cases h
  · trivial
end Go.Proofs.YtnjjailadijdlaaGreatDoor
