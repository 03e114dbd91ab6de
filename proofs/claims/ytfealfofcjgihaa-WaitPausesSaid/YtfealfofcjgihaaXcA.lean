/- What functions of the program answer: the evaluator's own account. Written by a program of ours (wip/gen/con.py). -/
import Derived.Test.YtfealfofcjgihaaGase
namespace Go.Proofs.Ytfealfofcjgihaa
open Go.Fw
set_option maxRecDepth 100000
set_option linter.unusedVariables false

/- mainsheet/wait.Check -/
noncomputable def wCheck_V (a0 : Int) (a1 : Int) (a2 : Int) (a3 : Int) : V := (evFn (en []) 400 40 (.cons (.agg (.cons (.int false .i64 a0) (.cons (.int false .i64 a1) (.cons (.int false .u32 a2) (.cons (.int false .i64 a3) .nil))))) .nil)).join
noncomputable def wCheck_0 (a0 : Int) (a1 : Int) (a2 : Int) (a3 : Int) : Int := ((wCheck_V a0 a1 a2 a3)).toInt
noncomputable def c_wCheck : Con := ⟨40, fun x => match x with
  | (.cons (.agg (.cons (.int false .i64 a0) (.cons (.int false .i64 a1) (.cons (.int false .u32 a2) (.cons (.int false .i64 a3) .nil))))) .nil) => some (.sure (.int false .i64 (wCheck_0 a0 a1 a2 a3)))
  | _ => none⟩
theorem wCheck_meets (a0 : Int) (a1 : Int) (a2 : Int) (a3 : Int) : Meets P 40 (.cons (.agg (.cons (.int false .i64 a0) (.cons (.int false .i64 a1) (.cons (.int false .u32 a2) (.cons (.int false .i64 a3) .nil))))) .nil) (.int false .i64 (wCheck_0 a0 a1 a2 a3)) :=
  meets_total (E := (en [])) (en_ok (l := []) trivial) 400 (g := 40) (args := (.cons (.agg (.cons (.int false .i64 a0) (.cons (.int false .i64 a1) (.cons (.int false .u32 a2) (.cons (.int false .i64 a3) .nil))))) .nil)) (v := (.int false .i64 (wCheck_0 a0 a1 a2 a3))) (Has.of hn Try.func40 rfl) (by kernel_rfl) (by kernel_rfl)
theorem c_wCheck_ok : c_wCheck.Ok P := by
  intro x
  dsimp only [c_wCheck]
  split
  · rename_i h
    split at h
    · injection h with h; injection h with h; subst h
      exact wCheck_meets _ _ _ _ 
    · cases h
  · rename_i h
    split at h <;> cases h
  · trivial

/- mainsheet/wait.Runs -/
noncomputable def wRuns_V (a0 : Int) (a1 : Int) (a2 : Int) (a3 : Int) : V := (evFn (en [c_wCheck]) 400 42 (.cons (.agg (.cons (.int false .i64 a0) (.cons (.int false .i64 a1) (.cons (.int false .u32 a2) (.cons (.int false .i64 a3) .nil))))) .nil)).join
noncomputable def wRuns_0 (a0 : Int) (a1 : Int) (a2 : Int) (a3 : Int) : Bool := ((wRuns_V a0 a1 a2 a3)).toBool
noncomputable def c_wRuns : Con := ⟨42, fun x => match x with
  | (.cons (.agg (.cons (.int false .i64 a0) (.cons (.int false .i64 a1) (.cons (.int false .u32 a2) (.cons (.int false .i64 a3) .nil))))) .nil) => some (.sure (.bool false (wRuns_0 a0 a1 a2 a3)))
  | _ => none⟩
theorem wRuns_meets (a0 : Int) (a1 : Int) (a2 : Int) (a3 : Int) : Meets P 42 (.cons (.agg (.cons (.int false .i64 a0) (.cons (.int false .i64 a1) (.cons (.int false .u32 a2) (.cons (.int false .i64 a3) .nil))))) .nil) (.bool false (wRuns_0 a0 a1 a2 a3)) :=
  meets_total (E := (en [c_wCheck])) (en_ok (l := [c_wCheck]) ⟨c_wCheck_ok, trivial⟩) 400 (g := 42) (args := (.cons (.agg (.cons (.int false .i64 a0) (.cons (.int false .i64 a1) (.cons (.int false .u32 a2) (.cons (.int false .i64 a3) .nil))))) .nil)) (v := (.bool false (wRuns_0 a0 a1 a2 a3))) (Has.of hn Try.func42 rfl) (by kernel_rfl) (by kernel_rfl)
theorem c_wRuns_ok : c_wRuns.Ok P := by
  intro x
  dsimp only [c_wRuns]
  split
  · rename_i h
    split at h
    · injection h with h; injection h with h; subst h
      exact wRuns_meets _ _ _ _ 
    · cases h
  · rename_i h
    split at h <;> cases h
  · trivial

/- mainsheet/wait.Due -/
noncomputable def wDue_V (a0 : Int) (a1 : Int) (a2 : Int) (a3 : Int) : V := (evFn (en [c_wCheck]) 400 44 (.cons (.agg (.cons (.int false .i64 a0) (.cons (.int false .i64 a1) (.cons (.int false .u32 a2) (.cons (.int false .i64 a3) .nil))))) .nil)).join
noncomputable def wDue_0 (a0 : Int) (a1 : Int) (a2 : Int) (a3 : Int) : Int := (((wDue_V a0 a1 a2 a3).at 0)).toInt
noncomputable def wDue_1 (a0 : Int) (a1 : Int) (a2 : Int) (a3 : Int) : Bool := (((wDue_V a0 a1 a2 a3).at 1)).toBool
noncomputable def c_wDue : Con := ⟨44, fun x => match x with
  | (.cons (.agg (.cons (.int false .i64 a0) (.cons (.int false .i64 a1) (.cons (.int false .u32 a2) (.cons (.int false .i64 a3) .nil))))) .nil) => some (.sure (.tup (.cons (.int false .i64 (wDue_0 a0 a1 a2 a3)) (.cons (.bool false (wDue_1 a0 a1 a2 a3)) .nil))))
  | _ => none⟩
theorem wDue_meets (a0 : Int) (a1 : Int) (a2 : Int) (a3 : Int) : Meets P 44 (.cons (.agg (.cons (.int false .i64 a0) (.cons (.int false .i64 a1) (.cons (.int false .u32 a2) (.cons (.int false .i64 a3) .nil))))) .nil) (.tup (.cons (.int false .i64 (wDue_0 a0 a1 a2 a3)) (.cons (.bool false (wDue_1 a0 a1 a2 a3)) .nil))) :=
  meets_total (E := (en [c_wCheck])) (en_ok (l := [c_wCheck]) ⟨c_wCheck_ok, trivial⟩) 400 (g := 44) (args := (.cons (.agg (.cons (.int false .i64 a0) (.cons (.int false .i64 a1) (.cons (.int false .u32 a2) (.cons (.int false .i64 a3) .nil))))) .nil)) (v := (.tup (.cons (.int false .i64 (wDue_0 a0 a1 a2 a3)) (.cons (.bool false (wDue_1 a0 a1 a2 a3)) .nil)))) (Has.of hn Try.func44 rfl) (by kernel_rfl) (by kernel_rfl)
theorem c_wDue_ok : c_wDue.Ok P := by
  intro x
  dsimp only [c_wDue]
  split
  · rename_i h
    split at h
    · injection h with h; injection h with h; subst h
      exact wDue_meets _ _ _ _ 
    · cases h
  · rename_i h
    split at h <;> cases h
  · trivial

/- mainsheet/wait.Up -/
noncomputable def wUp_V (a0 : Int) (a1 : Int) (a2 : Int) (a3 : Int) : V := (evFn (en [c_wCheck]) 400 45 (.cons (.agg (.cons (.int false .i64 a0) (.cons (.int false .i64 a1) (.cons (.int false .u32 a2) (.cons (.int false .i64 a3) .nil))))) .nil)).join
noncomputable def wUp_0 (a0 : Int) (a1 : Int) (a2 : Int) (a3 : Int) : Int := (((wUp_V a0 a1 a2 a3).at 0).at 0).toInt
noncomputable def wUp_1 (a0 : Int) (a1 : Int) (a2 : Int) (a3 : Int) : Int := (((wUp_V a0 a1 a2 a3).at 0).at 1).toInt
noncomputable def wUp_2 (a0 : Int) (a1 : Int) (a2 : Int) (a3 : Int) : Int := (((wUp_V a0 a1 a2 a3).at 0).at 2).toInt
noncomputable def wUp_3 (a0 : Int) (a1 : Int) (a2 : Int) (a3 : Int) : Int := (((wUp_V a0 a1 a2 a3).at 0).at 3).toInt
noncomputable def wUp_4 (a0 : Int) (a1 : Int) (a2 : Int) (a3 : Int) : Int := (((wUp_V a0 a1 a2 a3).at 1)).toInt
noncomputable def c_wUp : Con := ⟨45, fun x => match x with
  | (.cons (.agg (.cons (.int false .i64 a0) (.cons (.int false .i64 a1) (.cons (.int false .u32 a2) (.cons (.int false .i64 a3) .nil))))) .nil) => some (.sure (.tup (.cons (.agg (.cons (.int false .i64 (wUp_0 a0 a1 a2 a3)) (.cons (.int false .i64 (wUp_1 a0 a1 a2 a3)) (.cons (.int false .u32 (wUp_2 a0 a1 a2 a3)) (.cons (.int false .i64 (wUp_3 a0 a1 a2 a3)) .nil))))) (.cons (.int false .i64 (wUp_4 a0 a1 a2 a3)) .nil))))
  | _ => none⟩
theorem wUp_meets (a0 : Int) (a1 : Int) (a2 : Int) (a3 : Int) : Meets P 45 (.cons (.agg (.cons (.int false .i64 a0) (.cons (.int false .i64 a1) (.cons (.int false .u32 a2) (.cons (.int false .i64 a3) .nil))))) .nil) (.tup (.cons (.agg (.cons (.int false .i64 (wUp_0 a0 a1 a2 a3)) (.cons (.int false .i64 (wUp_1 a0 a1 a2 a3)) (.cons (.int false .u32 (wUp_2 a0 a1 a2 a3)) (.cons (.int false .i64 (wUp_3 a0 a1 a2 a3)) .nil))))) (.cons (.int false .i64 (wUp_4 a0 a1 a2 a3)) .nil))) :=
  meets_total (E := (en [c_wCheck])) (en_ok (l := [c_wCheck]) ⟨c_wCheck_ok, trivial⟩) 400 (g := 45) (args := (.cons (.agg (.cons (.int false .i64 a0) (.cons (.int false .i64 a1) (.cons (.int false .u32 a2) (.cons (.int false .i64 a3) .nil))))) .nil)) (v := (.tup (.cons (.agg (.cons (.int false .i64 (wUp_0 a0 a1 a2 a3)) (.cons (.int false .i64 (wUp_1 a0 a1 a2 a3)) (.cons (.int false .u32 (wUp_2 a0 a1 a2 a3)) (.cons (.int false .i64 (wUp_3 a0 a1 a2 a3)) .nil))))) (.cons (.int false .i64 (wUp_4 a0 a1 a2 a3)) .nil)))) (Has.of hn Try.func45 rfl) (by kernel_rfl) (by kernel_rfl)
theorem c_wUp_ok : c_wUp.Ok P := by
  intro x
  dsimp only [c_wUp]
  split
  · rename_i h
    split at h
    · injection h with h; injection h with h; subst h
      exact wUp_meets _ _ _ _ 
    · cases h
  · rename_i h
    split at h <;> cases h
  · trivial

/- mainsheet/wait.Down -/
noncomputable def wDown_V (a0 : Int) (a1 : Int) (a2 : Int) (a3 : Int) : V := (evFn (en [c_wCheck]) 400 46 (.cons (.agg (.cons (.int false .i64 a0) (.cons (.int false .i64 a1) (.cons (.int false .u32 a2) (.cons (.int false .i64 a3) .nil))))) .nil)).join
noncomputable def wDown_0 (a0 : Int) (a1 : Int) (a2 : Int) (a3 : Int) : Int := (((wDown_V a0 a1 a2 a3).at 0).at 0).toInt
noncomputable def wDown_1 (a0 : Int) (a1 : Int) (a2 : Int) (a3 : Int) : Int := (((wDown_V a0 a1 a2 a3).at 0).at 1).toInt
noncomputable def wDown_2 (a0 : Int) (a1 : Int) (a2 : Int) (a3 : Int) : Int := (((wDown_V a0 a1 a2 a3).at 0).at 2).toInt
noncomputable def wDown_3 (a0 : Int) (a1 : Int) (a2 : Int) (a3 : Int) : Int := (((wDown_V a0 a1 a2 a3).at 0).at 3).toInt
noncomputable def wDown_4 (a0 : Int) (a1 : Int) (a2 : Int) (a3 : Int) : Int := (((wDown_V a0 a1 a2 a3).at 1)).toInt
noncomputable def c_wDown : Con := ⟨46, fun x => match x with
  | (.cons (.agg (.cons (.int false .i64 a0) (.cons (.int false .i64 a1) (.cons (.int false .u32 a2) (.cons (.int false .i64 a3) .nil))))) .nil) => some (.sure (.tup (.cons (.agg (.cons (.int false .i64 (wDown_0 a0 a1 a2 a3)) (.cons (.int false .i64 (wDown_1 a0 a1 a2 a3)) (.cons (.int false .u32 (wDown_2 a0 a1 a2 a3)) (.cons (.int false .i64 (wDown_3 a0 a1 a2 a3)) .nil))))) (.cons (.int false .i64 (wDown_4 a0 a1 a2 a3)) .nil))))
  | _ => none⟩
theorem wDown_meets (a0 : Int) (a1 : Int) (a2 : Int) (a3 : Int) : Meets P 46 (.cons (.agg (.cons (.int false .i64 a0) (.cons (.int false .i64 a1) (.cons (.int false .u32 a2) (.cons (.int false .i64 a3) .nil))))) .nil) (.tup (.cons (.agg (.cons (.int false .i64 (wDown_0 a0 a1 a2 a3)) (.cons (.int false .i64 (wDown_1 a0 a1 a2 a3)) (.cons (.int false .u32 (wDown_2 a0 a1 a2 a3)) (.cons (.int false .i64 (wDown_3 a0 a1 a2 a3)) .nil))))) (.cons (.int false .i64 (wDown_4 a0 a1 a2 a3)) .nil))) :=
  meets_total (E := (en [c_wCheck])) (en_ok (l := [c_wCheck]) ⟨c_wCheck_ok, trivial⟩) 400 (g := 46) (args := (.cons (.agg (.cons (.int false .i64 a0) (.cons (.int false .i64 a1) (.cons (.int false .u32 a2) (.cons (.int false .i64 a3) .nil))))) .nil)) (v := (.tup (.cons (.agg (.cons (.int false .i64 (wDown_0 a0 a1 a2 a3)) (.cons (.int false .i64 (wDown_1 a0 a1 a2 a3)) (.cons (.int false .u32 (wDown_2 a0 a1 a2 a3)) (.cons (.int false .i64 (wDown_3 a0 a1 a2 a3)) .nil))))) (.cons (.int false .i64 (wDown_4 a0 a1 a2 a3)) .nil)))) (Has.of hn Try.func46 rfl) (by kernel_rfl) (by kernel_rfl)
theorem c_wDown_ok : c_wDown.Ok P := by
  intro x
  dsimp only [c_wDown]
  split
  · rename_i h
    split at h
    · injection h with h; injection h with h; subst h
      exact wDown_meets _ _ _ _ 
    · cases h
  · rename_i h
    split at h <;> cases h
  · trivial

/- mainsheet/wait.Pause -/
noncomputable def wPause_V (a0 : Int) (a1 : Int) (a2 : Int) (a3 : Int) : V := (evFn (en [c_wCheck]) 400 41 (.cons (.agg (.cons (.int false .i64 a0) (.cons (.int false .i64 a1) (.cons (.int false .u32 a2) (.cons (.int false .i64 a3) .nil))))) .nil)).join
noncomputable def wPause_0 (a0 : Int) (a1 : Int) (a2 : Int) (a3 : Int) : Int := (((wPause_V a0 a1 a2 a3).at 0).at 0).toInt
noncomputable def wPause_1 (a0 : Int) (a1 : Int) (a2 : Int) (a3 : Int) : Int := (((wPause_V a0 a1 a2 a3).at 0).at 1).toInt
noncomputable def wPause_2 (a0 : Int) (a1 : Int) (a2 : Int) (a3 : Int) : Int := (((wPause_V a0 a1 a2 a3).at 0).at 2).toInt
noncomputable def wPause_3 (a0 : Int) (a1 : Int) (a2 : Int) (a3 : Int) : Int := (((wPause_V a0 a1 a2 a3).at 0).at 3).toInt
noncomputable def wPause_4 (a0 : Int) (a1 : Int) (a2 : Int) (a3 : Int) : Int := (((wPause_V a0 a1 a2 a3).at 1)).toInt
noncomputable def c_wPause : Con := ⟨41, fun x => match x with
  | (.cons (.agg (.cons (.int false .i64 a0) (.cons (.int false .i64 a1) (.cons (.int false .u32 a2) (.cons (.int false .i64 a3) .nil))))) .nil) => some (.sure (.tup (.cons (.agg (.cons (.int false .i64 (wPause_0 a0 a1 a2 a3)) (.cons (.int false .i64 (wPause_1 a0 a1 a2 a3)) (.cons (.int false .u32 (wPause_2 a0 a1 a2 a3)) (.cons (.int false .i64 (wPause_3 a0 a1 a2 a3)) .nil))))) (.cons (.int false .i64 (wPause_4 a0 a1 a2 a3)) .nil))))
  | _ => none⟩
theorem wPause_meets (a0 : Int) (a1 : Int) (a2 : Int) (a3 : Int) : Meets P 41 (.cons (.agg (.cons (.int false .i64 a0) (.cons (.int false .i64 a1) (.cons (.int false .u32 a2) (.cons (.int false .i64 a3) .nil))))) .nil) (.tup (.cons (.agg (.cons (.int false .i64 (wPause_0 a0 a1 a2 a3)) (.cons (.int false .i64 (wPause_1 a0 a1 a2 a3)) (.cons (.int false .u32 (wPause_2 a0 a1 a2 a3)) (.cons (.int false .i64 (wPause_3 a0 a1 a2 a3)) .nil))))) (.cons (.int false .i64 (wPause_4 a0 a1 a2 a3)) .nil))) :=
  meets_total (E := (en [c_wCheck])) (en_ok (l := [c_wCheck]) ⟨c_wCheck_ok, trivial⟩) 400 (g := 41) (args := (.cons (.agg (.cons (.int false .i64 a0) (.cons (.int false .i64 a1) (.cons (.int false .u32 a2) (.cons (.int false .i64 a3) .nil))))) .nil)) (v := (.tup (.cons (.agg (.cons (.int false .i64 (wPause_0 a0 a1 a2 a3)) (.cons (.int false .i64 (wPause_1 a0 a1 a2 a3)) (.cons (.int false .u32 (wPause_2 a0 a1 a2 a3)) (.cons (.int false .i64 (wPause_3 a0 a1 a2 a3)) .nil))))) (.cons (.int false .i64 (wPause_4 a0 a1 a2 a3)) .nil)))) (Has.of hn Try.func41 rfl) (by kernel_rfl) (by kernel_rfl)
theorem c_wPause_ok : c_wPause.Ok P := by
  intro x
  dsimp only [c_wPause]
  split
  · rename_i h
    split at h
    · injection h with h; injection h with h; subst h
      exact wPause_meets _ _ _ _ 
    · cases h
  · rename_i h
    split at h <;> cases h
  · trivial

/- mainsheet/wait.Unpause -/
noncomputable def wUnpause_V (a0 : Int) (a1 : Int) (a2 : Int) (a3 : Int) : V := (evFn (en [c_wCheck, c_wRuns]) 400 43 (.cons (.agg (.cons (.int false .i64 a0) (.cons (.int false .i64 a1) (.cons (.int false .u32 a2) (.cons (.int false .i64 a3) .nil))))) .nil)).join
noncomputable def wUnpause_0 (a0 : Int) (a1 : Int) (a2 : Int) (a3 : Int) : Int := (((wUnpause_V a0 a1 a2 a3).at 0).at 0).toInt
noncomputable def wUnpause_1 (a0 : Int) (a1 : Int) (a2 : Int) (a3 : Int) : Int := (((wUnpause_V a0 a1 a2 a3).at 0).at 1).toInt
noncomputable def wUnpause_2 (a0 : Int) (a1 : Int) (a2 : Int) (a3 : Int) : Int := (((wUnpause_V a0 a1 a2 a3).at 0).at 2).toInt
noncomputable def wUnpause_3 (a0 : Int) (a1 : Int) (a2 : Int) (a3 : Int) : Int := (((wUnpause_V a0 a1 a2 a3).at 0).at 3).toInt
noncomputable def wUnpause_4 (a0 : Int) (a1 : Int) (a2 : Int) (a3 : Int) : Bool := (((wUnpause_V a0 a1 a2 a3).at 1)).toBool
noncomputable def wUnpause_5 (a0 : Int) (a1 : Int) (a2 : Int) (a3 : Int) : Int := (((wUnpause_V a0 a1 a2 a3).at 2)).toInt
noncomputable def c_wUnpause : Con := ⟨43, fun x => match x with
  | (.cons (.agg (.cons (.int false .i64 a0) (.cons (.int false .i64 a1) (.cons (.int false .u32 a2) (.cons (.int false .i64 a3) .nil))))) .nil) => some (.sure (.tup (.cons (.agg (.cons (.int false .i64 (wUnpause_0 a0 a1 a2 a3)) (.cons (.int false .i64 (wUnpause_1 a0 a1 a2 a3)) (.cons (.int false .u32 (wUnpause_2 a0 a1 a2 a3)) (.cons (.int false .i64 (wUnpause_3 a0 a1 a2 a3)) .nil))))) (.cons (.bool false (wUnpause_4 a0 a1 a2 a3)) (.cons (.int false .i64 (wUnpause_5 a0 a1 a2 a3)) .nil)))))
  | _ => none⟩
theorem wUnpause_meets (a0 : Int) (a1 : Int) (a2 : Int) (a3 : Int) : Meets P 43 (.cons (.agg (.cons (.int false .i64 a0) (.cons (.int false .i64 a1) (.cons (.int false .u32 a2) (.cons (.int false .i64 a3) .nil))))) .nil) (.tup (.cons (.agg (.cons (.int false .i64 (wUnpause_0 a0 a1 a2 a3)) (.cons (.int false .i64 (wUnpause_1 a0 a1 a2 a3)) (.cons (.int false .u32 (wUnpause_2 a0 a1 a2 a3)) (.cons (.int false .i64 (wUnpause_3 a0 a1 a2 a3)) .nil))))) (.cons (.bool false (wUnpause_4 a0 a1 a2 a3)) (.cons (.int false .i64 (wUnpause_5 a0 a1 a2 a3)) .nil)))) :=
  meets_total (E := (en [c_wCheck, c_wRuns])) (en_ok (l := [c_wCheck, c_wRuns]) ⟨c_wCheck_ok, c_wRuns_ok, trivial⟩) 400 (g := 43) (args := (.cons (.agg (.cons (.int false .i64 a0) (.cons (.int false .i64 a1) (.cons (.int false .u32 a2) (.cons (.int false .i64 a3) .nil))))) .nil)) (v := (.tup (.cons (.agg (.cons (.int false .i64 (wUnpause_0 a0 a1 a2 a3)) (.cons (.int false .i64 (wUnpause_1 a0 a1 a2 a3)) (.cons (.int false .u32 (wUnpause_2 a0 a1 a2 a3)) (.cons (.int false .i64 (wUnpause_3 a0 a1 a2 a3)) .nil))))) (.cons (.bool false (wUnpause_4 a0 a1 a2 a3)) (.cons (.int false .i64 (wUnpause_5 a0 a1 a2 a3)) .nil))))) (Has.of hn Try.func43 rfl) (by kernel_rfl) (by kernel_rfl)
theorem c_wUnpause_ok : c_wUnpause.Ok P := by
  intro x
  dsimp only [c_wUnpause]
  split
  · rename_i h
    split at h
    · injection h with h; injection h with h; subst h
      exact wUnpause_meets _ _ _ _ 
    · cases h
  · rename_i h
    split at h <;> cases h
  · trivial

/- mainsheet/wait.Block -/
noncomputable def wBlock_V (a0 : Int) (a1 : Int) (a2 : Int) (a3 : Int) (b : Bool) : V := (evFn (en [c_wCheck, c_wRuns]) 400 37 (.cons (.agg (.cons (.int false .i64 a0) (.cons (.int false .i64 a1) (.cons (.int false .u32 a2) (.cons (.int false .i64 a3) .nil))))) (.cons (.bool false b) .nil))).join
noncomputable def wBlock_0 (a0 : Int) (a1 : Int) (a2 : Int) (a3 : Int) (b : Bool) : Int := (((wBlock_V a0 a1 a2 a3 b).at 0).at 0).toInt
noncomputable def wBlock_1 (a0 : Int) (a1 : Int) (a2 : Int) (a3 : Int) (b : Bool) : Int := (((wBlock_V a0 a1 a2 a3 b).at 0).at 1).toInt
noncomputable def wBlock_2 (a0 : Int) (a1 : Int) (a2 : Int) (a3 : Int) (b : Bool) : Int := (((wBlock_V a0 a1 a2 a3 b).at 0).at 2).toInt
noncomputable def wBlock_3 (a0 : Int) (a1 : Int) (a2 : Int) (a3 : Int) (b : Bool) : Int := (((wBlock_V a0 a1 a2 a3 b).at 0).at 3).toInt
noncomputable def wBlock_4 (a0 : Int) (a1 : Int) (a2 : Int) (a3 : Int) (b : Bool) : Bool := (((wBlock_V a0 a1 a2 a3 b).at 1)).toBool
noncomputable def wBlock_5 (a0 : Int) (a1 : Int) (a2 : Int) (a3 : Int) (b : Bool) : Int := (((wBlock_V a0 a1 a2 a3 b).at 2)).toInt
noncomputable def c_wBlock : Con := ⟨37, fun x => match x with
  | (.cons (.agg (.cons (.int false .i64 a0) (.cons (.int false .i64 a1) (.cons (.int false .u32 a2) (.cons (.int false .i64 a3) .nil))))) (.cons (.bool false b) .nil)) => some (.sure (.tup (.cons (.agg (.cons (.int false .i64 (wBlock_0 a0 a1 a2 a3 b)) (.cons (.int false .i64 (wBlock_1 a0 a1 a2 a3 b)) (.cons (.int false .u32 (wBlock_2 a0 a1 a2 a3 b)) (.cons (.int false .i64 (wBlock_3 a0 a1 a2 a3 b)) .nil))))) (.cons (.bool false (wBlock_4 a0 a1 a2 a3 b)) (.cons (.int false .i64 (wBlock_5 a0 a1 a2 a3 b)) .nil)))))
  | _ => none⟩
theorem wBlock_meets (a0 : Int) (a1 : Int) (a2 : Int) (a3 : Int) (b : Bool) : Meets P 37 (.cons (.agg (.cons (.int false .i64 a0) (.cons (.int false .i64 a1) (.cons (.int false .u32 a2) (.cons (.int false .i64 a3) .nil))))) (.cons (.bool false b) .nil)) (.tup (.cons (.agg (.cons (.int false .i64 (wBlock_0 a0 a1 a2 a3 b)) (.cons (.int false .i64 (wBlock_1 a0 a1 a2 a3 b)) (.cons (.int false .u32 (wBlock_2 a0 a1 a2 a3 b)) (.cons (.int false .i64 (wBlock_3 a0 a1 a2 a3 b)) .nil))))) (.cons (.bool false (wBlock_4 a0 a1 a2 a3 b)) (.cons (.int false .i64 (wBlock_5 a0 a1 a2 a3 b)) .nil)))) :=
  meets_total (E := (en [c_wCheck, c_wRuns])) (en_ok (l := [c_wCheck, c_wRuns]) ⟨c_wCheck_ok, c_wRuns_ok, trivial⟩) 400 (g := 37) (args := (.cons (.agg (.cons (.int false .i64 a0) (.cons (.int false .i64 a1) (.cons (.int false .u32 a2) (.cons (.int false .i64 a3) .nil))))) (.cons (.bool false b) .nil))) (v := (.tup (.cons (.agg (.cons (.int false .i64 (wBlock_0 a0 a1 a2 a3 b)) (.cons (.int false .i64 (wBlock_1 a0 a1 a2 a3 b)) (.cons (.int false .u32 (wBlock_2 a0 a1 a2 a3 b)) (.cons (.int false .i64 (wBlock_3 a0 a1 a2 a3 b)) .nil))))) (.cons (.bool false (wBlock_4 a0 a1 a2 a3 b)) (.cons (.int false .i64 (wBlock_5 a0 a1 a2 a3 b)) .nil))))) (Has.of hn Try.func37 rfl) (by kernel_rfl) (by kernel_rfl)
theorem c_wBlock_ok : c_wBlock.Ok P := by
  intro x
  dsimp only [c_wBlock]
  split
  · rename_i h
    split at h
    · injection h with h; injection h with h; subst h
      exact wBlock_meets _ _ _ _ _ 
    · cases h
  · rename_i h
    split at h <;> cases h
  · trivial

/- mainsheet/wait.Poll -/
noncomputable def wPoll_V (a0 : Int) (a1 : Int) (a2 : Int) (a3 : Int) (b : Int) (c : Int) (d : Int) (e : Int) : V := (evFn (en [c_wCheck, c_wRuns]) 400 35 (.cons (.agg (.cons (.int false .i64 a0) (.cons (.int false .i64 a1) (.cons (.int false .u32 a2) (.cons (.int false .i64 a3) .nil))))) (.cons (.int false .u32 b) (.cons (.int false .i64 c) (.cons (.int false .i64 d) (.cons (.int false .u32 e) .nil)))))).join
noncomputable def wPoll_0 (a0 : Int) (a1 : Int) (a2 : Int) (a3 : Int) (b : Int) (c : Int) (d : Int) (e : Int) : Int := (((wPoll_V a0 a1 a2 a3 b c d e).at 0).at 0).toInt
noncomputable def wPoll_1 (a0 : Int) (a1 : Int) (a2 : Int) (a3 : Int) (b : Int) (c : Int) (d : Int) (e : Int) : Int := (((wPoll_V a0 a1 a2 a3 b c d e).at 0).at 1).toInt
noncomputable def wPoll_2 (a0 : Int) (a1 : Int) (a2 : Int) (a3 : Int) (b : Int) (c : Int) (d : Int) (e : Int) : Int := (((wPoll_V a0 a1 a2 a3 b c d e).at 0).at 2).toInt
noncomputable def wPoll_3 (a0 : Int) (a1 : Int) (a2 : Int) (a3 : Int) (b : Int) (c : Int) (d : Int) (e : Int) : Int := (((wPoll_V a0 a1 a2 a3 b c d e).at 0).at 3).toInt
noncomputable def wPoll_4 (a0 : Int) (a1 : Int) (a2 : Int) (a3 : Int) (b : Int) (c : Int) (d : Int) (e : Int) : Bool := (((wPoll_V a0 a1 a2 a3 b c d e).at 1)).toBool
noncomputable def wPoll_5 (a0 : Int) (a1 : Int) (a2 : Int) (a3 : Int) (b : Int) (c : Int) (d : Int) (e : Int) : Int := (((wPoll_V a0 a1 a2 a3 b c d e).at 2)).toInt
noncomputable def c_wPoll : Con := ⟨35, fun x => match x with
  | (.cons (.agg (.cons (.int false .i64 a0) (.cons (.int false .i64 a1) (.cons (.int false .u32 a2) (.cons (.int false .i64 a3) .nil))))) (.cons (.int false .u32 b) (.cons (.int false .i64 c) (.cons (.int false .i64 d) (.cons (.int false .u32 e) .nil))))) => some (.sure (.tup (.cons (.agg (.cons (.int false .i64 (wPoll_0 a0 a1 a2 a3 b c d e)) (.cons (.int false .i64 (wPoll_1 a0 a1 a2 a3 b c d e)) (.cons (.int false .u32 (wPoll_2 a0 a1 a2 a3 b c d e)) (.cons (.int false .i64 (wPoll_3 a0 a1 a2 a3 b c d e)) .nil))))) (.cons (.bool false (wPoll_4 a0 a1 a2 a3 b c d e)) (.cons (.int false .i64 (wPoll_5 a0 a1 a2 a3 b c d e)) .nil)))))
  | _ => none⟩
theorem wPoll_meets (a0 : Int) (a1 : Int) (a2 : Int) (a3 : Int) (b : Int) (c : Int) (d : Int) (e : Int) : Meets P 35 (.cons (.agg (.cons (.int false .i64 a0) (.cons (.int false .i64 a1) (.cons (.int false .u32 a2) (.cons (.int false .i64 a3) .nil))))) (.cons (.int false .u32 b) (.cons (.int false .i64 c) (.cons (.int false .i64 d) (.cons (.int false .u32 e) .nil))))) (.tup (.cons (.agg (.cons (.int false .i64 (wPoll_0 a0 a1 a2 a3 b c d e)) (.cons (.int false .i64 (wPoll_1 a0 a1 a2 a3 b c d e)) (.cons (.int false .u32 (wPoll_2 a0 a1 a2 a3 b c d e)) (.cons (.int false .i64 (wPoll_3 a0 a1 a2 a3 b c d e)) .nil))))) (.cons (.bool false (wPoll_4 a0 a1 a2 a3 b c d e)) (.cons (.int false .i64 (wPoll_5 a0 a1 a2 a3 b c d e)) .nil)))) :=
  meets_total (E := (en [c_wCheck, c_wRuns])) (en_ok (l := [c_wCheck, c_wRuns]) ⟨c_wCheck_ok, c_wRuns_ok, trivial⟩) 400 (g := 35) (args := (.cons (.agg (.cons (.int false .i64 a0) (.cons (.int false .i64 a1) (.cons (.int false .u32 a2) (.cons (.int false .i64 a3) .nil))))) (.cons (.int false .u32 b) (.cons (.int false .i64 c) (.cons (.int false .i64 d) (.cons (.int false .u32 e) .nil)))))) (v := (.tup (.cons (.agg (.cons (.int false .i64 (wPoll_0 a0 a1 a2 a3 b c d e)) (.cons (.int false .i64 (wPoll_1 a0 a1 a2 a3 b c d e)) (.cons (.int false .u32 (wPoll_2 a0 a1 a2 a3 b c d e)) (.cons (.int false .i64 (wPoll_3 a0 a1 a2 a3 b c d e)) .nil))))) (.cons (.bool false (wPoll_4 a0 a1 a2 a3 b c d e)) (.cons (.int false .i64 (wPoll_5 a0 a1 a2 a3 b c d e)) .nil))))) (Has.of hn Try.func35 rfl) (by kernel_rfl) (by kernel_rfl)
theorem c_wPoll_ok : c_wPoll.Ok P := by
  intro x
  dsimp only [c_wPoll]
  split
  · rename_i h
    split at h
    · injection h with h; injection h with h; subst h
      exact wPoll_meets _ _ _ _ _ _ _ _ 
    · cases h
  · rename_i h
    split at h <;> cases h
  · trivial

/- mainsheet/wait.Time -/
noncomputable def wTime_V (a0 : Int) (a1 : Int) (a2 : Int) (a3 : Int) (b : Int) : V := (evFn (en [c_wCheck]) 400 32 (.cons (.agg (.cons (.int false .i64 a0) (.cons (.int false .i64 a1) (.cons (.int false .u32 a2) (.cons (.int false .i64 a3) .nil))))) (.cons (.int false .i64 b) .nil))).join
noncomputable def wTime_0 (a0 : Int) (a1 : Int) (a2 : Int) (a3 : Int) (b : Int) : Int := (((wTime_V a0 a1 a2 a3 b).at 0).at 0).toInt
noncomputable def wTime_1 (a0 : Int) (a1 : Int) (a2 : Int) (a3 : Int) (b : Int) : Int := (((wTime_V a0 a1 a2 a3 b).at 0).at 1).toInt
noncomputable def wTime_2 (a0 : Int) (a1 : Int) (a2 : Int) (a3 : Int) (b : Int) : Int := (((wTime_V a0 a1 a2 a3 b).at 0).at 2).toInt
noncomputable def wTime_3 (a0 : Int) (a1 : Int) (a2 : Int) (a3 : Int) (b : Int) : Int := (((wTime_V a0 a1 a2 a3 b).at 0).at 3).toInt
noncomputable def wTime_4 (a0 : Int) (a1 : Int) (a2 : Int) (a3 : Int) (b : Int) : Bool := (((wTime_V a0 a1 a2 a3 b).at 1)).toBool
noncomputable def wTime_5 (a0 : Int) (a1 : Int) (a2 : Int) (a3 : Int) (b : Int) : Int := (((wTime_V a0 a1 a2 a3 b).at 2)).toInt
noncomputable def c_wTime : Con := ⟨32, fun x => match x with
  | (.cons (.agg (.cons (.int false .i64 a0) (.cons (.int false .i64 a1) (.cons (.int false .u32 a2) (.cons (.int false .i64 a3) .nil))))) (.cons (.int false .i64 b) .nil)) => some (.sure (.tup (.cons (.agg (.cons (.int false .i64 (wTime_0 a0 a1 a2 a3 b)) (.cons (.int false .i64 (wTime_1 a0 a1 a2 a3 b)) (.cons (.int false .u32 (wTime_2 a0 a1 a2 a3 b)) (.cons (.int false .i64 (wTime_3 a0 a1 a2 a3 b)) .nil))))) (.cons (.bool false (wTime_4 a0 a1 a2 a3 b)) (.cons (.int false .i64 (wTime_5 a0 a1 a2 a3 b)) .nil)))))
  | _ => none⟩
theorem wTime_meets (a0 : Int) (a1 : Int) (a2 : Int) (a3 : Int) (b : Int) : Meets P 32 (.cons (.agg (.cons (.int false .i64 a0) (.cons (.int false .i64 a1) (.cons (.int false .u32 a2) (.cons (.int false .i64 a3) .nil))))) (.cons (.int false .i64 b) .nil)) (.tup (.cons (.agg (.cons (.int false .i64 (wTime_0 a0 a1 a2 a3 b)) (.cons (.int false .i64 (wTime_1 a0 a1 a2 a3 b)) (.cons (.int false .u32 (wTime_2 a0 a1 a2 a3 b)) (.cons (.int false .i64 (wTime_3 a0 a1 a2 a3 b)) .nil))))) (.cons (.bool false (wTime_4 a0 a1 a2 a3 b)) (.cons (.int false .i64 (wTime_5 a0 a1 a2 a3 b)) .nil)))) :=
  meets_total (E := (en [c_wCheck])) (en_ok (l := [c_wCheck]) ⟨c_wCheck_ok, trivial⟩) 400 (g := 32) (args := (.cons (.agg (.cons (.int false .i64 a0) (.cons (.int false .i64 a1) (.cons (.int false .u32 a2) (.cons (.int false .i64 a3) .nil))))) (.cons (.int false .i64 b) .nil))) (v := (.tup (.cons (.agg (.cons (.int false .i64 (wTime_0 a0 a1 a2 a3 b)) (.cons (.int false .i64 (wTime_1 a0 a1 a2 a3 b)) (.cons (.int false .u32 (wTime_2 a0 a1 a2 a3 b)) (.cons (.int false .i64 (wTime_3 a0 a1 a2 a3 b)) .nil))))) (.cons (.bool false (wTime_4 a0 a1 a2 a3 b)) (.cons (.int false .i64 (wTime_5 a0 a1 a2 a3 b)) .nil))))) (Has.of hn Try.func32 rfl) (by kernel_rfl) (by kernel_rfl)
theorem c_wTime_ok : c_wTime.Ok P := by
  intro x
  dsimp only [c_wTime]
  split
  · rename_i h
    split at h
    · injection h with h; injection h with h; subst h
      exact wTime_meets _ _ _ _ _ 
    · cases h
  · rename_i h
    split at h <;> cases h
  · trivial

/- mainsheet/mainsheetref17.Right -/
noncomputable def qRight_V (a0 : Int) (a1 : Int) (a2 : Int) (a3 : Int) : V := (evFn (en []) 400 33 (.cons (.agg (.cons (.int false .i64 a0) (.cons (.int false .i64 a1) (.cons (.int false .u32 a2) (.cons (.int false .i64 a3) .nil))))) .nil)).join
noncomputable def qRight_0 (a0 : Int) (a1 : Int) (a2 : Int) (a3 : Int) : Bool := ((qRight_V a0 a1 a2 a3)).toBool
noncomputable def c_qRight : Con := ⟨33, fun x => match x with
  | (.cons (.agg (.cons (.int false .i64 a0) (.cons (.int false .i64 a1) (.cons (.int false .u32 a2) (.cons (.int false .i64 a3) .nil))))) .nil) => some (.sure (.bool false (qRight_0 a0 a1 a2 a3)))
  | _ => none⟩
theorem qRight_meets (a0 : Int) (a1 : Int) (a2 : Int) (a3 : Int) : Meets P 33 (.cons (.agg (.cons (.int false .i64 a0) (.cons (.int false .i64 a1) (.cons (.int false .u32 a2) (.cons (.int false .i64 a3) .nil))))) .nil) (.bool false (qRight_0 a0 a1 a2 a3)) :=
  meets_total (E := (en [])) (en_ok (l := []) trivial) 400 (g := 33) (args := (.cons (.agg (.cons (.int false .i64 a0) (.cons (.int false .i64 a1) (.cons (.int false .u32 a2) (.cons (.int false .i64 a3) .nil))))) .nil)) (v := (.bool false (qRight_0 a0 a1 a2 a3))) (Has.of hn Try.func33 rfl) (by kernel_rfl) (by kernel_rfl)
theorem c_qRight_ok : c_qRight.Ok P := by
  intro x
  dsimp only [c_qRight]
  split
  · rename_i h
    split at h
    · injection h with h; injection h with h; subst h
      exact qRight_meets _ _ _ _ 
    · cases h
  · rename_i h
    split at h <;> cases h
  · trivial

/- mainsheet/mainsheetref17.Runs -/
noncomputable def qRuns_V (a0 : Int) (a1 : Int) (a2 : Int) (a3 : Int) : V := (evFn (en []) 400 38 (.cons (.agg (.cons (.int false .i64 a0) (.cons (.int false .i64 a1) (.cons (.int false .u32 a2) (.cons (.int false .i64 a3) .nil))))) .nil)).join
noncomputable def qRuns_0 (a0 : Int) (a1 : Int) (a2 : Int) (a3 : Int) : Bool := ((qRuns_V a0 a1 a2 a3)).toBool
noncomputable def c_qRuns : Con := ⟨38, fun x => match x with
  | (.cons (.agg (.cons (.int false .i64 a0) (.cons (.int false .i64 a1) (.cons (.int false .u32 a2) (.cons (.int false .i64 a3) .nil))))) .nil) => some (.sure (.bool false (qRuns_0 a0 a1 a2 a3)))
  | _ => none⟩
theorem qRuns_meets (a0 : Int) (a1 : Int) (a2 : Int) (a3 : Int) : Meets P 38 (.cons (.agg (.cons (.int false .i64 a0) (.cons (.int false .i64 a1) (.cons (.int false .u32 a2) (.cons (.int false .i64 a3) .nil))))) .nil) (.bool false (qRuns_0 a0 a1 a2 a3)) :=
  meets_total (E := (en [])) (en_ok (l := []) trivial) 400 (g := 38) (args := (.cons (.agg (.cons (.int false .i64 a0) (.cons (.int false .i64 a1) (.cons (.int false .u32 a2) (.cons (.int false .i64 a3) .nil))))) .nil)) (v := (.bool false (qRuns_0 a0 a1 a2 a3))) (Has.of hn Try.func38 rfl) (by kernel_rfl) (by kernel_rfl)
theorem c_qRuns_ok : c_qRuns.Ok P := by
  intro x
  dsimp only [c_qRuns]
  split
  · rename_i h
    split at h
    · injection h with h; injection h with h; subst h
      exact qRuns_meets _ _ _ _ 
    · cases h
  · rename_i h
    split at h <;> cases h
  · trivial

/- mainsheet/mainsheetref17.Ready -/
noncomputable def qReady_V (a0 : Int) (a1 : Int) (a2 : Int) (a3 : Int) (b : Int) : V := (evFn (en []) 400 39 (.cons (.agg (.cons (.int false .i64 a0) (.cons (.int false .i64 a1) (.cons (.int false .u32 a2) (.cons (.int false .i64 a3) .nil))))) (.cons (.int false .i64 b) .nil))).join
noncomputable def qReady_0 (a0 : Int) (a1 : Int) (a2 : Int) (a3 : Int) (b : Int) : Int := ((qReady_V a0 a1 a2 a3 b).at 0).toInt
noncomputable def qReady_1 (a0 : Int) (a1 : Int) (a2 : Int) (a3 : Int) (b : Int) : Int := ((qReady_V a0 a1 a2 a3 b).at 1).toInt
noncomputable def qReady_2 (a0 : Int) (a1 : Int) (a2 : Int) (a3 : Int) (b : Int) : Int := ((qReady_V a0 a1 a2 a3 b).at 2).toInt
noncomputable def qReady_3 (a0 : Int) (a1 : Int) (a2 : Int) (a3 : Int) (b : Int) : Int := ((qReady_V a0 a1 a2 a3 b).at 3).toInt
noncomputable def c_qReady : Con := ⟨39, fun x => match x with
  | (.cons (.agg (.cons (.int false .i64 a0) (.cons (.int false .i64 a1) (.cons (.int false .u32 a2) (.cons (.int false .i64 a3) .nil))))) (.cons (.int false .i64 b) .nil)) => some (.sure (.agg (.cons (.int false .i64 (qReady_0 a0 a1 a2 a3 b)) (.cons (.int false .i64 (qReady_1 a0 a1 a2 a3 b)) (.cons (.int false .u32 (qReady_2 a0 a1 a2 a3 b)) (.cons (.int false .i64 (qReady_3 a0 a1 a2 a3 b)) .nil))))))
  | _ => none⟩
theorem qReady_meets (a0 : Int) (a1 : Int) (a2 : Int) (a3 : Int) (b : Int) : Meets P 39 (.cons (.agg (.cons (.int false .i64 a0) (.cons (.int false .i64 a1) (.cons (.int false .u32 a2) (.cons (.int false .i64 a3) .nil))))) (.cons (.int false .i64 b) .nil)) (.agg (.cons (.int false .i64 (qReady_0 a0 a1 a2 a3 b)) (.cons (.int false .i64 (qReady_1 a0 a1 a2 a3 b)) (.cons (.int false .u32 (qReady_2 a0 a1 a2 a3 b)) (.cons (.int false .i64 (qReady_3 a0 a1 a2 a3 b)) .nil))))) :=
  meets_total (E := (en [])) (en_ok (l := []) trivial) 400 (g := 39) (args := (.cons (.agg (.cons (.int false .i64 a0) (.cons (.int false .i64 a1) (.cons (.int false .u32 a2) (.cons (.int false .i64 a3) .nil))))) (.cons (.int false .i64 b) .nil))) (v := (.agg (.cons (.int false .i64 (qReady_0 a0 a1 a2 a3 b)) (.cons (.int false .i64 (qReady_1 a0 a1 a2 a3 b)) (.cons (.int false .u32 (qReady_2 a0 a1 a2 a3 b)) (.cons (.int false .i64 (qReady_3 a0 a1 a2 a3 b)) .nil)))))) (Has.of hn Try.func39 rfl) (by kernel_rfl) (by kernel_rfl)
theorem c_qReady_ok : c_qReady.Ok P := by
  intro x
  dsimp only [c_qReady]
  split
  · rename_i h
    split at h
    · injection h with h; injection h with h; subst h
      exact qReady_meets _ _ _ _ _ 
    · cases h
  · rename_i h
    split at h <;> cases h
  · trivial

/- mainsheet/mainsheetref17.Time -/
noncomputable def qTime_V (a0 : Int) (a1 : Int) (a2 : Int) (a3 : Int) (b : Int) : V := (evFn (en [c_qReady]) 400 34 (.cons (.agg (.cons (.int false .i64 a0) (.cons (.int false .i64 a1) (.cons (.int false .u32 a2) (.cons (.int false .i64 a3) .nil))))) (.cons (.int false .i64 b) .nil))).join
noncomputable def qTime_0 (a0 : Int) (a1 : Int) (a2 : Int) (a3 : Int) (b : Int) : Int := ((qTime_V a0 a1 a2 a3 b).at 0).toInt
noncomputable def qTime_1 (a0 : Int) (a1 : Int) (a2 : Int) (a3 : Int) (b : Int) : Int := ((qTime_V a0 a1 a2 a3 b).at 1).toInt
noncomputable def qTime_2 (a0 : Int) (a1 : Int) (a2 : Int) (a3 : Int) (b : Int) : Int := ((qTime_V a0 a1 a2 a3 b).at 2).toInt
noncomputable def qTime_3 (a0 : Int) (a1 : Int) (a2 : Int) (a3 : Int) (b : Int) : Int := ((qTime_V a0 a1 a2 a3 b).at 3).toInt
noncomputable def c_qTime : Con := ⟨34, fun x => match x with
  | (.cons (.agg (.cons (.int false .i64 a0) (.cons (.int false .i64 a1) (.cons (.int false .u32 a2) (.cons (.int false .i64 a3) .nil))))) (.cons (.int false .i64 b) .nil)) => some (.sure (.agg (.cons (.int false .i64 (qTime_0 a0 a1 a2 a3 b)) (.cons (.int false .i64 (qTime_1 a0 a1 a2 a3 b)) (.cons (.int false .u32 (qTime_2 a0 a1 a2 a3 b)) (.cons (.int false .i64 (qTime_3 a0 a1 a2 a3 b)) .nil))))))
  | _ => none⟩
theorem qTime_meets (a0 : Int) (a1 : Int) (a2 : Int) (a3 : Int) (b : Int) : Meets P 34 (.cons (.agg (.cons (.int false .i64 a0) (.cons (.int false .i64 a1) (.cons (.int false .u32 a2) (.cons (.int false .i64 a3) .nil))))) (.cons (.int false .i64 b) .nil)) (.agg (.cons (.int false .i64 (qTime_0 a0 a1 a2 a3 b)) (.cons (.int false .i64 (qTime_1 a0 a1 a2 a3 b)) (.cons (.int false .u32 (qTime_2 a0 a1 a2 a3 b)) (.cons (.int false .i64 (qTime_3 a0 a1 a2 a3 b)) .nil))))) :=
  meets_total (E := (en [c_qReady])) (en_ok (l := [c_qReady]) ⟨c_qReady_ok, trivial⟩) 400 (g := 34) (args := (.cons (.agg (.cons (.int false .i64 a0) (.cons (.int false .i64 a1) (.cons (.int false .u32 a2) (.cons (.int false .i64 a3) .nil))))) (.cons (.int false .i64 b) .nil))) (v := (.agg (.cons (.int false .i64 (qTime_0 a0 a1 a2 a3 b)) (.cons (.int false .i64 (qTime_1 a0 a1 a2 a3 b)) (.cons (.int false .u32 (qTime_2 a0 a1 a2 a3 b)) (.cons (.int false .i64 (qTime_3 a0 a1 a2 a3 b)) .nil)))))) (Has.of hn Try.func34 rfl) (by kernel_rfl) (by kernel_rfl)
theorem c_qTime_ok : c_qTime.Ok P := by
  intro x
  dsimp only [c_qTime]
  split
  · rename_i h
    split at h
    · injection h with h; injection h with h; subst h
      exact qTime_meets _ _ _ _ _ 
    · cases h
  · rename_i h
    split at h <;> cases h
  · trivial

end Go.Proofs.Ytfealfofcjgihaa
