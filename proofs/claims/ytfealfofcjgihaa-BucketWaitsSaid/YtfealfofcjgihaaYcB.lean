/- What functions of the program answer: the evaluator's own account. Written by a program of ours (wip/gen/con.py). -/
import Derived.Test.YtfealfofcjgihaaYp
namespace Go.Proofs.Ytfealfofcjgihaa
open Go.Fw
set_option maxRecDepth 100000
set_option linter.unusedVariables false

/- mainsheet/bucket.Wait -/
noncomputable def bWait_V (a0 : Int) (a1 : Int) : V := (evFn (en [c_bCheck, c_bDry]) 400 21 (.cons (.agg (.cons (.int false .i64 a0) (.cons (.int false .i64 a1) .nil))) .nil)).join
noncomputable def bWait_0 (a0 : Int) (a1 : Int) : Int := (((bWait_V a0 a1).at 0)).toInt
noncomputable def bWait_1 (a0 : Int) (a1 : Int) : Int := (((bWait_V a0 a1).at 1)).toInt
noncomputable def c_bWait : Con := ⟨21, fun x => match x with
  | (.cons (.agg (.cons (.int false .i64 a0) (.cons (.int false .i64 a1) .nil))) .nil) => some (.sure (.tup (.cons (.int false .i64 (bWait_0 a0 a1)) (.cons (.int false .i64 (bWait_1 a0 a1)) .nil))))
  | _ => none⟩
noncomputable def bWait_T (a0 : Int) (a1 : Int) : Tree V := evFn (en [c_bCheck, c_bDry]) 400 21 (.cons (.agg (.cons (.int false .i64 a0) (.cons (.int false .i64 a1) .nil))) .nil)
theorem bWait_pre (a0 : Int) (a1 : Int) : (bWait_T a0 a1).Pre := by
  constructor
  have e : Tree.pre (bWait_T a0 a1) = (((bif bCheck_0 a0 a1 != (0 : Int) then true else false) = true → True) ∧
  ((bif bCheck_0 a0 a1 != (0 : Int) then true else false) = false →
    ((bif !bDry_0 a0 a1 then true else false) = true → True) ∧
      ((bif !bDry_0 a0 a1 then true else false) = false → a0 ≠ (0 : Int) ∧ True))) := by kernel_rfl
  rw [e, bdry]; clear e
  refine ⟨fun _ => trivial, fun _ => ⟨fun _ => trivial, fun h => ⟨fun e => ?_, trivial⟩⟩⟩
  subst e
  simp at h
theorem bWait_meets (a0 : Int) (a1 : Int) : Meets P 21 (.cons (.agg (.cons (.int false .i64 a0) (.cons (.int false .i64 a1) .nil))) .nil) (.tup (.cons (.int false .i64 (bWait_0 a0 a1)) (.cons (.int false .i64 (bWait_1 a0 a1)) .nil))) :=
  meets_tree (T := bWait_T a0 a1) (en_ok (l := [c_bCheck, c_bDry]) ⟨c_bCheck_ok, c_bDry_ok, trivial⟩) 400 (Has.of hn Try.func21 rfl) (by kernel_rfl) (bWait_pre a0 a1) (by kernel_rfl) (by kernel_rfl)
theorem c_bWait_ok : c_bWait.Ok P := by
  intro x
  dsimp only [c_bWait]
  split
  · rename_i h
    split at h
    · injection h with h; injection h with h; subst h
      exact bWait_meets _ _ 
    · cases h
  · rename_i h
    split at h <;> cases h
  · trivial

end Go.Proofs.Ytfealfofcjgihaa
