/- What functions of the program answer: the evaluator's own account. Written by a program of ours (wip/gen/con.py). -/
import Derived.Test.YtfealfofcjgihaaWcB
namespace Go.Proofs.Ytfealfofcjgihaa
open Go.Fw
set_option maxRecDepth 100000
set_option linter.unusedVariables false

/- mainsheet/mainsheetlaw17.WaitOnce -/
noncomputable def lwOnce_V (a0 : Int) (a1 : Int) (a2 : Int) (a3 : Int) (b0 : Int) (b1 : Int) (b2 : Int) (b3 : Int) (c : Int) : V := (evFn (en [c_wUp, c_wRuns, c_wBlock, c_wEvent, c_wTime]) 400 10 (.cons (.agg (.cons (.int false .i64 a0) (.cons (.int false .i64 a1) (.cons (.int false .u32 a2) (.cons (.int false .i64 a3) .nil))))) (.cons (.agg (.cons (.int false .u32 b0) (.cons (.int false .u32 b1) (.cons (.int false .i64 b2) (.cons (.int false .i64 b3) .nil))))) (.cons (.int false .i64 c) .nil)))).join
noncomputable def lwOnce_0 (a0 : Int) (a1 : Int) (a2 : Int) (a3 : Int) (b0 : Int) (b1 : Int) (b2 : Int) (b3 : Int) (c : Int) : Bool := ((lwOnce_V a0 a1 a2 a3 b0 b1 b2 b3 c)).toBool
noncomputable def c_lwOnce : Con := ⟨10, fun x => match x with
  | (.cons (.agg (.cons (.int false .i64 a0) (.cons (.int false .i64 a1) (.cons (.int false .u32 a2) (.cons (.int false .i64 a3) .nil))))) (.cons (.agg (.cons (.int false .u32 b0) (.cons (.int false .u32 b1) (.cons (.int false .i64 b2) (.cons (.int false .i64 b3) .nil))))) (.cons (.int false .i64 c) .nil))) => some (.sure (.bool false (lwOnce_0 a0 a1 a2 a3 b0 b1 b2 b3 c)))
  | _ => none⟩
theorem lwOnce_meets (a0 : Int) (a1 : Int) (a2 : Int) (a3 : Int) (b0 : Int) (b1 : Int) (b2 : Int) (b3 : Int) (c : Int) : Meets P 10 (.cons (.agg (.cons (.int false .i64 a0) (.cons (.int false .i64 a1) (.cons (.int false .u32 a2) (.cons (.int false .i64 a3) .nil))))) (.cons (.agg (.cons (.int false .u32 b0) (.cons (.int false .u32 b1) (.cons (.int false .i64 b2) (.cons (.int false .i64 b3) .nil))))) (.cons (.int false .i64 c) .nil))) (.bool false (lwOnce_0 a0 a1 a2 a3 b0 b1 b2 b3 c)) :=
  meets_total (E := (en [c_wUp, c_wRuns, c_wBlock, c_wEvent, c_wTime])) (en_ok (l := [c_wUp, c_wRuns, c_wBlock, c_wEvent, c_wTime]) ⟨c_wUp_ok, c_wRuns_ok, c_wBlock_ok, c_wEvent_ok, c_wTime_ok, trivial⟩) 400 (g := 10) (args := (.cons (.agg (.cons (.int false .i64 a0) (.cons (.int false .i64 a1) (.cons (.int false .u32 a2) (.cons (.int false .i64 a3) .nil))))) (.cons (.agg (.cons (.int false .u32 b0) (.cons (.int false .u32 b1) (.cons (.int false .i64 b2) (.cons (.int false .i64 b3) .nil))))) (.cons (.int false .i64 c) .nil)))) (v := (.bool false (lwOnce_0 a0 a1 a2 a3 b0 b1 b2 b3 c))) (Has.of hn Try.func10 rfl) (by kernel_rfl) (by kernel_rfl)
theorem c_lwOnce_ok : c_lwOnce.Ok P := by
  intro x
  dsimp only [c_lwOnce]
  split
  · rename_i h
    split at h
    · injection h with h; injection h with h; subst h
      exact lwOnce_meets _ _ _ _ _ _ _ _ _ 
    · cases h
  · rename_i h
    split at h <;> cases h
  · trivial

end Go.Proofs.Ytfealfofcjgihaa
