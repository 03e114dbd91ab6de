/- Contracts of closed calls that come again and again. -/
import Derived.Test.YtkkojdcchnailaaGreatDoorQGase
import Derived.Test.YtkkojdcchnailaaGreatDoorQGwQ
namespace Go.Proofs.YtkkojdcchnailaaGreatDoor
open Go.Fw
set_option maxRecDepth 100000
theorem vcheck0 : evFn (envL P [] [] true) 400 63 (.cons (.agg (.cons (.int true .i64 0) (.cons .nilsl (.cons .nilsl .nil)))) .nil) = .leaf (.int true .i64 0) := by
  rw [← evFnS_eq envL_among]
  kernel_rfl
theorem vcheck_meets : Meets P 63 (.cons (.agg (.cons (.int true .i64 0) (.cons .nilsl (.cons .nilsl .nil)))) .nil) (.int true .i64 0) :=
  meets (E := en []) (en_ok (l := []) trivial) 400 (Has.of hn Tryz.func63 rfl) vcheck0 ⟨rfl, rfl⟩
noncomputable def c_vcheck : Con := { g := 63, al := true, ans := fun x => match x with
  | .cons (.agg (.cons (.int _ .i64 (.ofNat 0)) (.cons .nilsl (.cons .nilsl .nil)))) .nil => some (.sure (.int true .i64 0))
  | _ => none }
theorem c_vcheck_ok : c_vcheck.Ok P := by
  intro x
  dsimp only [c_vcheck]
  split
  · rename_i h
    split at h
    · injection h with h; injection h with h; subst h
      exact vcheck_meets
    · cases h
  · rename_i h
    split at h <;> cases h
  · trivial
theorem sleeps_tree (z : Int) : evFn (en [c_vcheck]) 400 77 (.cons (.agg (.cons (.int true .i64 0) (.cons .nilsl (.cons .nilsl .nil)))) (.cons (.int false .i64 z) .nil)) =
    Tree.node (bif !bif decide (z ≥ (1 : Int)) then decide (z ≤ (16 : Int)) else false then true else false) (.leaf (.tup (.cons (.int true .i64 0) (.cons (.bool true false) .nil)))) (.leaf (.tup (.cons (.int true .i64 0) (.cons (.bool true false) .nil)))) := by kernel_rfl
theorem sleeps_meets (z : Int) : Meets P 77 (.cons (.agg (.cons (.int true .i64 0) (.cons .nilsl (.cons .nilsl .nil)))) (.cons (.int false .i64 z) .nil)) (.tup (.cons (.int true .i64 0) (.cons (.bool true false) .nil))) :=
  meets (E := en [c_vcheck]) (en_ok (l := [c_vcheck]) ⟨c_vcheck_ok, trivial⟩) 400 (Has.of hn Tryz.func77 rfl) (sleeps_tree z) ⟨fun _ => ⟨rfl, rfl⟩, fun _ => ⟨rfl, rfl⟩⟩
noncomputable def c_sleeps : Con := { g := 77, al := true, ans := fun x => match x with
  | .cons (.agg (.cons (.int _ .i64 (.ofNat 0)) (.cons .nilsl (.cons .nilsl .nil)))) (.cons (.int _ .i64 _) .nil) => some (.sure (.tup (.cons (.int true .i64 0) (.cons (.bool true false) .nil))))
  | _ => none }
theorem c_sleeps_ok : c_sleeps.Ok P := by
  intro x
  dsimp only [c_sleeps]
  split
  · rename_i h
    split at h
    · injection h with h; injection h with h; subst h
      exact sleeps_meets _
    · cases h
  · rename_i h
    split at h <;> cases h
  · trivial
end Go.Proofs.YtkkojdcchnailaaGreatDoor
