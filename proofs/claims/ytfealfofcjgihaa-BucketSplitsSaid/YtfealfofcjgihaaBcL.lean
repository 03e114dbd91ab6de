/- What functions of the program answer: the evaluator's own account. Written by a program of ours (wip/gen/con.py). -/
import Derived.Test.YtfealfofcjgihaaBcA
namespace Go.Proofs.Ytfealfofcjgihaa
open Go.Fw
set_option maxRecDepth 100000
set_option linter.unusedVariables false

/- mainsheet/mainsheetlaw11.BucketPasses -/
noncomputable def lPasses_V (a0 : Int) (a1 : Int) (b : Int) (c : Int) : V := (evFn (en [c_bPass, c_rPass]) 400 3 (.cons (.agg (.cons (.int false .i64 a0) (.cons (.int false .i64 a1) .nil))) (.cons (.int false .i64 b) (.cons (.int false .i64 c) .nil)))).join
noncomputable def lPasses_0 (a0 : Int) (a1 : Int) (b : Int) (c : Int) : Bool := ((lPasses_V a0 a1 b c)).toBool
noncomputable def c_lPasses : Con := ⟨3, fun x => match x with
  | (.cons (.agg (.cons (.int false .i64 a0) (.cons (.int false .i64 a1) .nil))) (.cons (.int false .i64 b) (.cons (.int false .i64 c) .nil))) => some (.sure (.bool false (lPasses_0 a0 a1 b c)))
  | _ => none⟩
theorem lPasses_meets (a0 : Int) (a1 : Int) (b : Int) (c : Int) : Meets P 3 (.cons (.agg (.cons (.int false .i64 a0) (.cons (.int false .i64 a1) .nil))) (.cons (.int false .i64 b) (.cons (.int false .i64 c) .nil))) (.bool false (lPasses_0 a0 a1 b c)) :=
  meets_total (E := (en [c_bPass, c_rPass])) (en_ok (l := [c_bPass, c_rPass]) ⟨c_bPass_ok, c_rPass_ok, trivial⟩) 400 (g := 3) (args := (.cons (.agg (.cons (.int false .i64 a0) (.cons (.int false .i64 a1) .nil))) (.cons (.int false .i64 b) (.cons (.int false .i64 c) .nil)))) (v := (.bool false (lPasses_0 a0 a1 b c))) (Has.of hn Try.func3 rfl) (by kernel_rfl) (by kernel_rfl)
theorem c_lPasses_ok : c_lPasses.Ok P := by
  intro x
  dsimp only [c_lPasses]
  split
  · rename_i h
    split at h
    · injection h with h; injection h with h; subst h
      exact lPasses_meets _ _ _ _ 
    · cases h
  · rename_i h
    split at h <;> cases h
  · trivial

end Go.Proofs.Ytfealfofcjgihaa
