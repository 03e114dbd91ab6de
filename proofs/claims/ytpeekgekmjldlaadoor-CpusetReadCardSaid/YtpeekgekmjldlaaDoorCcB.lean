/- Cpuset: 'wakes' answers true. -/
import Derived.Test.YtpeekgekmjldlaaDoorSj
import Derived.Test.YtpeekgekmjldlaaDoorCeA
namespace Go.Proofs.YtpeekgekmjldlaaDoor
open Go.Fw
set_option maxRecDepth 100000
theorem sets_wake : evFn (en [c_join, c_ixb]) 400 33 .nil = .leaf (.bool true true) := by kernel_rfl
theorem sets_wake_meets : Meets P 33 .nil (.bool true true) :=
  meets (E := en [c_join, c_ixb]) (en_ok (l := [c_join, c_ixb]) ⟨c_join_ok, c_ixb_ok, trivial⟩) 400 (Has.of hn Tryd.func33 rfl) sets_wake ⟨rfl, rfl⟩
noncomputable def c_sets : Con := { g := 33, al := true, ans := fun x => match x with
  | .nil => some (.sure (.bool true true))
  | _ => none }
theorem c_sets_ok : c_sets.Ok P := by
  intro x
  dsimp only [c_sets]
  split
  · rename_i h
    split at h
    · injection h with h; injection h with h; subst h
      exact sets_wake_meets
    · cases h
  · rename_i h
    split at h <;> cases h
  · trivial
end Go.Proofs.YtpeekgekmjldlaaDoor
