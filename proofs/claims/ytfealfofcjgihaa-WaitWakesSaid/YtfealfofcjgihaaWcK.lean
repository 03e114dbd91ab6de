/- What functions of the program answer: the evaluator's own account. Written by a program of ours (wip/gen/con.py). -/
import Derived.Test.YtfealfofcjgihaaWcC
namespace Go.Proofs.Ytfealfofcjgihaa
open Go.Fw
set_option maxRecDepth 100000
set_option linter.unusedVariables false

/- mainsheet/mainsheetlaw17.WaitWakes -/
noncomputable def lwWakes_V (a0 : Int) (a1 : Int) (a2 : Int) (a3 : Int) (b0 : Int) (b1 : Int) (b2 : Int) (b3 : Int) (c : Int) : V := (evFn (en [c_wUp, c_wRuns, c_wBlock, c_wEvent, c_wTime, c_qEvent, c_qRight, c_qTime]) 400 9 (.cons (.agg (.cons (.int false .i64 a0) (.cons (.int false .i64 a1) (.cons (.int false .u32 a2) (.cons (.int false .i64 a3) .nil))))) (.cons (.agg (.cons (.int false .u32 b0) (.cons (.int false .u32 b1) (.cons (.int false .i64 b2) (.cons (.int false .i64 b3) .nil))))) (.cons (.int false .i64 c) .nil)))).join
noncomputable def lwWakes_0 (a0 : Int) (a1 : Int) (a2 : Int) (a3 : Int) (b0 : Int) (b1 : Int) (b2 : Int) (b3 : Int) (c : Int) : Bool := ((lwWakes_V a0 a1 a2 a3 b0 b1 b2 b3 c)).toBool
noncomputable def c_lwWakes : Con := ⟨9, fun x => match x with
  | (.cons (.agg (.cons (.int false .i64 a0) (.cons (.int false .i64 a1) (.cons (.int false .u32 a2) (.cons (.int false .i64 a3) .nil))))) (.cons (.agg (.cons (.int false .u32 b0) (.cons (.int false .u32 b1) (.cons (.int false .i64 b2) (.cons (.int false .i64 b3) .nil))))) (.cons (.int false .i64 c) .nil))) => some (.sure (.bool false (lwWakes_0 a0 a1 a2 a3 b0 b1 b2 b3 c)))
  | _ => none⟩
theorem lwWakes_meets (a0 : Int) (a1 : Int) (a2 : Int) (a3 : Int) (b0 : Int) (b1 : Int) (b2 : Int) (b3 : Int) (c : Int) : Meets P 9 (.cons (.agg (.cons (.int false .i64 a0) (.cons (.int false .i64 a1) (.cons (.int false .u32 a2) (.cons (.int false .i64 a3) .nil))))) (.cons (.agg (.cons (.int false .u32 b0) (.cons (.int false .u32 b1) (.cons (.int false .i64 b2) (.cons (.int false .i64 b3) .nil))))) (.cons (.int false .i64 c) .nil))) (.bool false (lwWakes_0 a0 a1 a2 a3 b0 b1 b2 b3 c)) :=
  meets_total (E := (en [c_wUp, c_wRuns, c_wBlock, c_wEvent, c_wTime, c_qEvent, c_qRight, c_qTime])) (en_ok (l := [c_wUp, c_wRuns, c_wBlock, c_wEvent, c_wTime, c_qEvent, c_qRight, c_qTime]) ⟨c_wUp_ok, c_wRuns_ok, c_wBlock_ok, c_wEvent_ok, c_wTime_ok, c_qEvent_ok, c_qRight_ok, c_qTime_ok, trivial⟩) 400 (g := 9) (args := (.cons (.agg (.cons (.int false .i64 a0) (.cons (.int false .i64 a1) (.cons (.int false .u32 a2) (.cons (.int false .i64 a3) .nil))))) (.cons (.agg (.cons (.int false .u32 b0) (.cons (.int false .u32 b1) (.cons (.int false .i64 b2) (.cons (.int false .i64 b3) .nil))))) (.cons (.int false .i64 c) .nil)))) (v := (.bool false (lwWakes_0 a0 a1 a2 a3 b0 b1 b2 b3 c))) (Has.of hn Try.func9 rfl) (by kernel_rfl) (by kernel_rfl)
theorem c_lwWakes_ok : c_lwWakes.Ok P := by
  intro x
  dsimp only [c_lwWakes]
  split
  · rename_i h
    split at h
    · injection h with h; injection h with h; subst h
      exact lwWakes_meets _ _ _ _ _ _ _ _ _ 
    · cases h
  · rename_i h
    split at h <;> cases h
  · trivial

end Go.Proofs.Ytfealfofcjgihaa
