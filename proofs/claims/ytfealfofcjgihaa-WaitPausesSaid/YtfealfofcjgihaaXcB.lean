/- What functions of the program answer: the evaluator's own account. Written by a program of ours (wip/gen/con.py). -/
import Derived.Test.YtfealfofcjgihaaXcA
namespace Go.Proofs.Ytfealfofcjgihaa
open Go.Fw
set_option maxRecDepth 100000
set_option linter.unusedVariables false

/- mainsheet/mainsheetlaw17.WaitChanges -/
noncomputable def lwChanges_V (a0 : Int) (a1 : Int) (a2 : Int) (a3 : Int) : V := (evFn (en [c_wCheck, c_wUp, c_wDown, c_wPause, c_wUnpause, c_wDue, c_wRuns, c_qRight, c_qRuns, c_qReady]) 400 14 (.cons (.agg (.cons (.int false .i64 a0) (.cons (.int false .i64 a1) (.cons (.int false .u32 a2) (.cons (.int false .i64 a3) .nil))))) .nil)).join
noncomputable def lwChanges_0 (a0 : Int) (a1 : Int) (a2 : Int) (a3 : Int) : Bool := ((lwChanges_V a0 a1 a2 a3)).toBool
noncomputable def c_lwChanges : Con := ⟨14, fun x => match x with
  | (.cons (.agg (.cons (.int false .i64 a0) (.cons (.int false .i64 a1) (.cons (.int false .u32 a2) (.cons (.int false .i64 a3) .nil))))) .nil) => some (.sure (.bool false (lwChanges_0 a0 a1 a2 a3)))
  | _ => none⟩
theorem lwChanges_meets (a0 : Int) (a1 : Int) (a2 : Int) (a3 : Int) : Meets P 14 (.cons (.agg (.cons (.int false .i64 a0) (.cons (.int false .i64 a1) (.cons (.int false .u32 a2) (.cons (.int false .i64 a3) .nil))))) .nil) (.bool false (lwChanges_0 a0 a1 a2 a3)) :=
  meets_total (E := (en [c_wCheck, c_wUp, c_wDown, c_wPause, c_wUnpause, c_wDue, c_wRuns, c_qRight, c_qRuns, c_qReady])) (en_ok (l := [c_wCheck, c_wUp, c_wDown, c_wPause, c_wUnpause, c_wDue, c_wRuns, c_qRight, c_qRuns, c_qReady]) ⟨c_wCheck_ok, c_wUp_ok, c_wDown_ok, c_wPause_ok, c_wUnpause_ok, c_wDue_ok, c_wRuns_ok, c_qRight_ok, c_qRuns_ok, c_qReady_ok, trivial⟩) 400 (g := 14) (args := (.cons (.agg (.cons (.int false .i64 a0) (.cons (.int false .i64 a1) (.cons (.int false .u32 a2) (.cons (.int false .i64 a3) .nil))))) .nil)) (v := (.bool false (lwChanges_0 a0 a1 a2 a3))) (Has.of hn Try.func14 rfl) (by kernel_rfl) (by kernel_rfl)
theorem c_lwChanges_ok : c_lwChanges.Ok P := by
  intro x
  dsimp only [c_lwChanges]
  split
  · rename_i h
    split at h
    · injection h with h; injection h with h; subst h
      exact lwChanges_meets _ _ _ _ 
    · cases h
  · rename_i h
    split at h <;> cases h
  · trivial

end Go.Proofs.Ytfealfofcjgihaa
