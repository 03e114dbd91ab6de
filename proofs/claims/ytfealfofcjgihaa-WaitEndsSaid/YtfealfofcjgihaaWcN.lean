/- What functions of the program answer: the evaluator's own account. Written by a program of ours (wip/gen/con.py). -/
import Derived.Test.YtfealfofcjgihaaWcB
namespace Go.Proofs.Ytfealfofcjgihaa
open Go.Fw
set_option maxRecDepth 100000
set_option linter.unusedVariables false

/- mainsheet/mainsheetlaw17.WaitEnds -/
noncomputable def lwEnds_V (a0 : Int) (a1 : Int) (a2 : Int) (a3 : Int) (b : Int) : V := (evFn (en [c_wUp, c_wRuns, c_wBlock, c_wEvent, c_wTime, c_wPoll, c_wDue]) 400 13 (.cons (.agg (.cons (.int false .u32 a0) (.cons (.int false .u32 a1) (.cons (.int false .i64 a2) (.cons (.int false .i64 a3) .nil))))) (.cons (.int false .i64 b) .nil))).join
noncomputable def lwEnds_0 (a0 : Int) (a1 : Int) (a2 : Int) (a3 : Int) (b : Int) : Bool := ((lwEnds_V a0 a1 a2 a3 b)).toBool
noncomputable def c_lwEnds : Con := ⟨13, fun x => match x with
  | (.cons (.agg (.cons (.int false .u32 a0) (.cons (.int false .u32 a1) (.cons (.int false .i64 a2) (.cons (.int false .i64 a3) .nil))))) (.cons (.int false .i64 b) .nil)) => some (.sure (.bool false (lwEnds_0 a0 a1 a2 a3 b)))
  | _ => none⟩
theorem lwEnds_meets (a0 : Int) (a1 : Int) (a2 : Int) (a3 : Int) (b : Int) : Meets P 13 (.cons (.agg (.cons (.int false .u32 a0) (.cons (.int false .u32 a1) (.cons (.int false .i64 a2) (.cons (.int false .i64 a3) .nil))))) (.cons (.int false .i64 b) .nil)) (.bool false (lwEnds_0 a0 a1 a2 a3 b)) :=
  meets_total (E := (en [c_wUp, c_wRuns, c_wBlock, c_wEvent, c_wTime, c_wPoll, c_wDue])) (en_ok (l := [c_wUp, c_wRuns, c_wBlock, c_wEvent, c_wTime, c_wPoll, c_wDue]) ⟨c_wUp_ok, c_wRuns_ok, c_wBlock_ok, c_wEvent_ok, c_wTime_ok, c_wPoll_ok, c_wDue_ok, trivial⟩) 400 (g := 13) (args := (.cons (.agg (.cons (.int false .u32 a0) (.cons (.int false .u32 a1) (.cons (.int false .i64 a2) (.cons (.int false .i64 a3) .nil))))) (.cons (.int false .i64 b) .nil))) (v := (.bool false (lwEnds_0 a0 a1 a2 a3 b))) (Has.of hn Try.func13 rfl) (by kernel_rfl) (by kernel_rfl)
theorem c_lwEnds_ok : c_lwEnds.Ok P := by
  intro x
  dsimp only [c_lwEnds]
  split
  · rename_i h
    split at h
    · injection h with h; injection h with h; subst h
      exact lwEnds_meets _ _ _ _ _ 
    · cases h
  · rename_i h
    split at h <;> cases h
  · trivial

end Go.Proofs.Ytfealfofcjgihaa
