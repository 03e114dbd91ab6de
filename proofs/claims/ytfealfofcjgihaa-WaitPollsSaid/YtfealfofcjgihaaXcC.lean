/- What functions of the program answer: the evaluator's own account. Written by a program of ours (wip/gen/con.py). -/
import Derived.Test.YtfealfofcjgihaaXcA
namespace Go.Proofs.Ytfealfofcjgihaa
open Go.Fw
set_option maxRecDepth 100000
set_option linter.unusedVariables false

/- mainsheet/mainsheetref17.both -/
noncomputable def rBoth_V (a : Int) (b : Int) : V := (evFn (en []) 400 58 (.cons (.int false .u32 a) (.cons (.int false .u32 b) .nil))).join
noncomputable def rBoth_0 (a : Int) (b : Int) : Bool := ((rBoth_V a b)).toBool
noncomputable def c_rBoth : Con := ⟨58, fun x => match x with
  | (.cons (.int false .u32 a) (.cons (.int false .u32 b) .nil)) => some (.sure (.bool false (rBoth_0 a b)))
  | _ => none⟩
theorem rBoth_meets (a : Int) (b : Int) : Meets P 58 (.cons (.int false .u32 a) (.cons (.int false .u32 b) .nil)) (.bool false (rBoth_0 a b)) :=
  meets_total (E := (en [])) (en_ok (l := []) trivial) 400 (g := 58) (args := (.cons (.int false .u32 a) (.cons (.int false .u32 b) .nil))) (v := (.bool false (rBoth_0 a b))) (Has.of hn Try.func58 rfl) (by kernel_rfl) (by kernel_rfl)
theorem c_rBoth_ok : c_rBoth.Ok P := by
  intro x
  dsimp only [c_rBoth]
  split
  · rename_i h
    split at h
    · injection h with h; injection h with h; subst h
      exact rBoth_meets _ _ 
    · cases h
  · rename_i h
    split at h <;> cases h
  · trivial

/- mainsheet/mainsheetref17.Poll -/
noncomputable def qPoll_V (a0 : Int) (a1 : Int) (a2 : Int) (a3 : Int) (b : Int) (c : Int) (d : Int) (e : Int) : V := (evFn (en [c_qRight, c_qRuns, c_rBoth]) 400 36 (.cons (.agg (.cons (.int false .i64 a0) (.cons (.int false .i64 a1) (.cons (.int false .u32 a2) (.cons (.int false .i64 a3) .nil))))) (.cons (.int false .u32 b) (.cons (.int false .i64 c) (.cons (.int false .i64 d) (.cons (.int false .u32 e) .nil)))))).join
noncomputable def qPoll_0 (a0 : Int) (a1 : Int) (a2 : Int) (a3 : Int) (b : Int) (c : Int) (d : Int) (e : Int) : Int := (((qPoll_V a0 a1 a2 a3 b c d e).at 0).at 0).toInt
noncomputable def qPoll_1 (a0 : Int) (a1 : Int) (a2 : Int) (a3 : Int) (b : Int) (c : Int) (d : Int) (e : Int) : Int := (((qPoll_V a0 a1 a2 a3 b c d e).at 0).at 1).toInt
noncomputable def qPoll_2 (a0 : Int) (a1 : Int) (a2 : Int) (a3 : Int) (b : Int) (c : Int) (d : Int) (e : Int) : Int := (((qPoll_V a0 a1 a2 a3 b c d e).at 0).at 2).toInt
noncomputable def qPoll_3 (a0 : Int) (a1 : Int) (a2 : Int) (a3 : Int) (b : Int) (c : Int) (d : Int) (e : Int) : Int := (((qPoll_V a0 a1 a2 a3 b c d e).at 0).at 3).toInt
noncomputable def qPoll_4 (a0 : Int) (a1 : Int) (a2 : Int) (a3 : Int) (b : Int) (c : Int) (d : Int) (e : Int) : Int := (((qPoll_V a0 a1 a2 a3 b c d e).at 1)).toInt
noncomputable def c_qPoll : Con := ⟨36, fun x => match x with
  | (.cons (.agg (.cons (.int false .i64 a0) (.cons (.int false .i64 a1) (.cons (.int false .u32 a2) (.cons (.int false .i64 a3) .nil))))) (.cons (.int false .u32 b) (.cons (.int false .i64 c) (.cons (.int false .i64 d) (.cons (.int false .u32 e) .nil))))) => some (.sure (.tup (.cons (.agg (.cons (.int false .i64 (qPoll_0 a0 a1 a2 a3 b c d e)) (.cons (.int false .i64 (qPoll_1 a0 a1 a2 a3 b c d e)) (.cons (.int false .u32 (qPoll_2 a0 a1 a2 a3 b c d e)) (.cons (.int false .i64 (qPoll_3 a0 a1 a2 a3 b c d e)) .nil))))) (.cons (.int false .i64 (qPoll_4 a0 a1 a2 a3 b c d e)) .nil))))
  | _ => none⟩
theorem qPoll_meets (a0 : Int) (a1 : Int) (a2 : Int) (a3 : Int) (b : Int) (c : Int) (d : Int) (e : Int) : Meets P 36 (.cons (.agg (.cons (.int false .i64 a0) (.cons (.int false .i64 a1) (.cons (.int false .u32 a2) (.cons (.int false .i64 a3) .nil))))) (.cons (.int false .u32 b) (.cons (.int false .i64 c) (.cons (.int false .i64 d) (.cons (.int false .u32 e) .nil))))) (.tup (.cons (.agg (.cons (.int false .i64 (qPoll_0 a0 a1 a2 a3 b c d e)) (.cons (.int false .i64 (qPoll_1 a0 a1 a2 a3 b c d e)) (.cons (.int false .u32 (qPoll_2 a0 a1 a2 a3 b c d e)) (.cons (.int false .i64 (qPoll_3 a0 a1 a2 a3 b c d e)) .nil))))) (.cons (.int false .i64 (qPoll_4 a0 a1 a2 a3 b c d e)) .nil))) :=
  meets_total (E := (en [c_qRight, c_qRuns, c_rBoth])) (en_ok (l := [c_qRight, c_qRuns, c_rBoth]) ⟨c_qRight_ok, c_qRuns_ok, c_rBoth_ok, trivial⟩) 400 (g := 36) (args := (.cons (.agg (.cons (.int false .i64 a0) (.cons (.int false .i64 a1) (.cons (.int false .u32 a2) (.cons (.int false .i64 a3) .nil))))) (.cons (.int false .u32 b) (.cons (.int false .i64 c) (.cons (.int false .i64 d) (.cons (.int false .u32 e) .nil)))))) (v := (.tup (.cons (.agg (.cons (.int false .i64 (qPoll_0 a0 a1 a2 a3 b c d e)) (.cons (.int false .i64 (qPoll_1 a0 a1 a2 a3 b c d e)) (.cons (.int false .u32 (qPoll_2 a0 a1 a2 a3 b c d e)) (.cons (.int false .i64 (qPoll_3 a0 a1 a2 a3 b c d e)) .nil))))) (.cons (.int false .i64 (qPoll_4 a0 a1 a2 a3 b c d e)) .nil)))) (Has.of hn Try.func36 rfl) (by kernel_rfl) (by kernel_rfl)
theorem c_qPoll_ok : c_qPoll.Ok P := by
  intro x
  dsimp only [c_qPoll]
  split
  · rename_i h
    split at h
    · injection h with h; injection h with h; subst h
      exact qPoll_meets _ _ _ _ _ _ _ _ 
    · cases h
  · rename_i h
    split at h <;> cases h
  · trivial

/- mainsheet/mainsheetlaw17.WaitPolls -/
noncomputable def lwPolls_V (a0 : Int) (a1 : Int) (a2 : Int) (a3 : Int) (b0 : Int) (b1 : Int) (b2 : Int) (b3 : Int) (c : Bool) : V := (evFn (en [c_wPoll, c_wBlock, c_qPoll, c_qRight, c_qRuns, c_qReady]) 400 11 (.cons (.agg (.cons (.int false .i64 a0) (.cons (.int false .i64 a1) (.cons (.int false .u32 a2) (.cons (.int false .i64 a3) .nil))))) (.cons (.agg (.cons (.int false .u32 b0) (.cons (.int false .u32 b1) (.cons (.int false .i64 b2) (.cons (.int false .i64 b3) .nil))))) (.cons (.bool false c) .nil)))).join
noncomputable def lwPolls_0 (a0 : Int) (a1 : Int) (a2 : Int) (a3 : Int) (b0 : Int) (b1 : Int) (b2 : Int) (b3 : Int) (c : Bool) : Bool := ((lwPolls_V a0 a1 a2 a3 b0 b1 b2 b3 c)).toBool
noncomputable def c_lwPolls : Con := ⟨11, fun x => match x with
  | (.cons (.agg (.cons (.int false .i64 a0) (.cons (.int false .i64 a1) (.cons (.int false .u32 a2) (.cons (.int false .i64 a3) .nil))))) (.cons (.agg (.cons (.int false .u32 b0) (.cons (.int false .u32 b1) (.cons (.int false .i64 b2) (.cons (.int false .i64 b3) .nil))))) (.cons (.bool false c) .nil))) => some (.sure (.bool false (lwPolls_0 a0 a1 a2 a3 b0 b1 b2 b3 c)))
  | _ => none⟩
theorem lwPolls_meets (a0 : Int) (a1 : Int) (a2 : Int) (a3 : Int) (b0 : Int) (b1 : Int) (b2 : Int) (b3 : Int) (c : Bool) : Meets P 11 (.cons (.agg (.cons (.int false .i64 a0) (.cons (.int false .i64 a1) (.cons (.int false .u32 a2) (.cons (.int false .i64 a3) .nil))))) (.cons (.agg (.cons (.int false .u32 b0) (.cons (.int false .u32 b1) (.cons (.int false .i64 b2) (.cons (.int false .i64 b3) .nil))))) (.cons (.bool false c) .nil))) (.bool false (lwPolls_0 a0 a1 a2 a3 b0 b1 b2 b3 c)) :=
  meets_total (E := (en [c_wPoll, c_wBlock, c_qPoll, c_qRight, c_qRuns, c_qReady])) (en_ok (l := [c_wPoll, c_wBlock, c_qPoll, c_qRight, c_qRuns, c_qReady]) ⟨c_wPoll_ok, c_wBlock_ok, c_qPoll_ok, c_qRight_ok, c_qRuns_ok, c_qReady_ok, trivial⟩) 400 (g := 11) (args := (.cons (.agg (.cons (.int false .i64 a0) (.cons (.int false .i64 a1) (.cons (.int false .u32 a2) (.cons (.int false .i64 a3) .nil))))) (.cons (.agg (.cons (.int false .u32 b0) (.cons (.int false .u32 b1) (.cons (.int false .i64 b2) (.cons (.int false .i64 b3) .nil))))) (.cons (.bool false c) .nil)))) (v := (.bool false (lwPolls_0 a0 a1 a2 a3 b0 b1 b2 b3 c))) (Has.of hn Try.func11 rfl) (by kernel_rfl) (by kernel_rfl)
theorem c_lwPolls_ok : c_lwPolls.Ok P := by
  intro x
  dsimp only [c_lwPolls]
  split
  · rename_i h
    split at h
    · injection h with h; injection h with h; subst h
      exact lwPolls_meets _ _ _ _ _ _ _ _ _ 
    · cases h
  · rename_i h
    split at h <;> cases h
  · trivial

end Go.Proofs.Ytfealfofcjgihaa
