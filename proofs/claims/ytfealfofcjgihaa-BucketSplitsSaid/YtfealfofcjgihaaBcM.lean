/- What functions of the program answer: the evaluator's own account. Written by a program of ours (wip/gen/con.py). -/
import Derived.Test.YtfealfofcjgihaaBcB
namespace Go.Proofs.Ytfealfofcjgihaa
open Go.Fw
set_option maxRecDepth 100000
set_option linter.unusedVariables false

/- mainsheet/mainsheetlaw11.BucketTells -/
noncomputable def lTells_V (a0 : Int) (a1 : Int) : V := (evFn (en [c_bCheck, c_bDepth, c_bDry, c_bWait, c_bNew, c_bPass, c_rRight, c_rDry, c_rDepth]) 400 7 (.cons (.agg (.cons (.int false .i64 a0) (.cons (.int false .i64 a1) .nil))) .nil)).join
noncomputable def lTells_0 (a0 : Int) (a1 : Int) : Bool := ((lTells_V a0 a1)).toBool
noncomputable def c_lTells : Con := ⟨7, fun x => match x with
  | (.cons (.agg (.cons (.int false .i64 a0) (.cons (.int false .i64 a1) .nil))) .nil) => some (.sure (.bool false (lTells_0 a0 a1)))
  | _ => none⟩
theorem lTells_meets (a0 : Int) (a1 : Int) : Meets P 7 (.cons (.agg (.cons (.int false .i64 a0) (.cons (.int false .i64 a1) .nil))) .nil) (.bool false (lTells_0 a0 a1)) :=
  meets_total (E := (en [c_bCheck, c_bDepth, c_bDry, c_bWait, c_bNew, c_bPass, c_rRight, c_rDry, c_rDepth])) (en_ok (l := [c_bCheck, c_bDepth, c_bDry, c_bWait, c_bNew, c_bPass, c_rRight, c_rDry, c_rDepth]) ⟨c_bCheck_ok, c_bDepth_ok, c_bDry_ok, c_bWait_ok, c_bNew_ok, c_bPass_ok, c_rRight_ok, c_rDry_ok, c_rDepth_ok, trivial⟩) 400 (g := 7) (args := (.cons (.agg (.cons (.int false .i64 a0) (.cons (.int false .i64 a1) .nil))) .nil)) (v := (.bool false (lTells_0 a0 a1))) (Has.of hn Try.func7 rfl) (by kernel_rfl) (by kernel_rfl)
theorem c_lTells_ok : c_lTells.Ok P := by
  intro x
  dsimp only [c_lTells]
  split
  · rename_i h
    split at h
    · injection h with h; injection h with h; subst h
      exact lTells_meets _ _ 
    · cases h
  · rename_i h
    split at h <;> cases h
  · trivial

/- mainsheet/mainsheetlaw11.BucketChanges -/
noncomputable def lChanges_V (a0 : Int) (a1 : Int) (b : Int) (c0 : Int) (c1 : Int) (c2 : Int) : V := (evFn (en [c_bCheck, c_bDry, c_bNew, c_bPass, c_bChange, c_bBound, c_rRight, c_rChange, c_rDepth]) 400 8 (.cons (.agg (.cons (.int false .i64 a0) (.cons (.int false .i64 a1) .nil))) (.cons (.int false .i64 b) (.cons (.agg (.cons (.int false .i64 c0) (.cons (.int false .i64 c1) (.cons (.int false .i64 c2) .nil)))) .nil)))).join
noncomputable def lChanges_0 (a0 : Int) (a1 : Int) (b : Int) (c0 : Int) (c1 : Int) (c2 : Int) : Bool := ((lChanges_V a0 a1 b c0 c1 c2)).toBool
noncomputable def c_lChanges : Con := ⟨8, fun x => match x with
  | (.cons (.agg (.cons (.int false .i64 a0) (.cons (.int false .i64 a1) .nil))) (.cons (.int false .i64 b) (.cons (.agg (.cons (.int false .i64 c0) (.cons (.int false .i64 c1) (.cons (.int false .i64 c2) .nil)))) .nil))) => some (.sure (.bool false (lChanges_0 a0 a1 b c0 c1 c2)))
  | _ => none⟩
theorem lChanges_meets (a0 : Int) (a1 : Int) (b : Int) (c0 : Int) (c1 : Int) (c2 : Int) : Meets P 8 (.cons (.agg (.cons (.int false .i64 a0) (.cons (.int false .i64 a1) .nil))) (.cons (.int false .i64 b) (.cons (.agg (.cons (.int false .i64 c0) (.cons (.int false .i64 c1) (.cons (.int false .i64 c2) .nil)))) .nil))) (.bool false (lChanges_0 a0 a1 b c0 c1 c2)) :=
  meets_total (E := (en [c_bCheck, c_bDry, c_bNew, c_bPass, c_bChange, c_bBound, c_rRight, c_rChange, c_rDepth])) (en_ok (l := [c_bCheck, c_bDry, c_bNew, c_bPass, c_bChange, c_bBound, c_rRight, c_rChange, c_rDepth]) ⟨c_bCheck_ok, c_bDry_ok, c_bNew_ok, c_bPass_ok, c_bChange_ok, c_bBound_ok, c_rRight_ok, c_rChange_ok, c_rDepth_ok, trivial⟩) 400 (g := 8) (args := (.cons (.agg (.cons (.int false .i64 a0) (.cons (.int false .i64 a1) .nil))) (.cons (.int false .i64 b) (.cons (.agg (.cons (.int false .i64 c0) (.cons (.int false .i64 c1) (.cons (.int false .i64 c2) .nil)))) .nil)))) (v := (.bool false (lChanges_0 a0 a1 b c0 c1 c2))) (Has.of hn Try.func8 rfl) (by kernel_rfl) (by kernel_rfl)
theorem c_lChanges_ok : c_lChanges.Ok P := by
  intro x
  dsimp only [c_lChanges]
  split
  · rename_i h
    split at h
    · injection h with h; injection h with h; subst h
      exact lChanges_meets _ _ _ _ _ _ 
    · cases h
  · rename_i h
    split at h <;> cases h
  · trivial

/- mainsheet/mainsheetlaw11.BucketSplits -/
noncomputable def lSplits_V (a0 : Int) (a1 : Int) (b0 : Int) (b1 : Int) (b2 : Int) (c : Int) : V := (evFn (en [c_bNew, c_bDry, c_bPass, c_bChange]) 400 6 (.cons (.agg (.cons (.int false .i64 a0) (.cons (.int false .i64 a1) .nil))) (.cons (.agg (.cons (.int false .i64 b0) (.cons (.int false .i64 b1) (.cons (.int false .i64 b2) .nil)))) (.cons (.int false .i64 c) .nil)))).join
noncomputable def lSplits_0 (a0 : Int) (a1 : Int) (b0 : Int) (b1 : Int) (b2 : Int) (c : Int) : Bool := ((lSplits_V a0 a1 b0 b1 b2 c)).toBool
noncomputable def c_lSplits : Con := ⟨6, fun x => match x with
  | (.cons (.agg (.cons (.int false .i64 a0) (.cons (.int false .i64 a1) .nil))) (.cons (.agg (.cons (.int false .i64 b0) (.cons (.int false .i64 b1) (.cons (.int false .i64 b2) .nil)))) (.cons (.int false .i64 c) .nil))) => some (.sure (.bool false (lSplits_0 a0 a1 b0 b1 b2 c)))
  | _ => none⟩
theorem lSplits_meets (a0 : Int) (a1 : Int) (b0 : Int) (b1 : Int) (b2 : Int) (c : Int) : Meets P 6 (.cons (.agg (.cons (.int false .i64 a0) (.cons (.int false .i64 a1) .nil))) (.cons (.agg (.cons (.int false .i64 b0) (.cons (.int false .i64 b1) (.cons (.int false .i64 b2) .nil)))) (.cons (.int false .i64 c) .nil))) (.bool false (lSplits_0 a0 a1 b0 b1 b2 c)) :=
  meets_total (E := (en [c_bNew, c_bDry, c_bPass, c_bChange])) (en_ok (l := [c_bNew, c_bDry, c_bPass, c_bChange]) ⟨c_bNew_ok, c_bDry_ok, c_bPass_ok, c_bChange_ok, trivial⟩) 400 (g := 6) (args := (.cons (.agg (.cons (.int false .i64 a0) (.cons (.int false .i64 a1) .nil))) (.cons (.agg (.cons (.int false .i64 b0) (.cons (.int false .i64 b1) (.cons (.int false .i64 b2) .nil)))) (.cons (.int false .i64 c) .nil)))) (v := (.bool false (lSplits_0 a0 a1 b0 b1 b2 c))) (Has.of hn Try.func6 rfl) (by kernel_rfl) (by kernel_rfl)
theorem c_lSplits_ok : c_lSplits.Ok P := by
  intro x
  dsimp only [c_lSplits]
  split
  · rename_i h
    split at h
    · injection h with h; injection h with h; subst h
      exact lSplits_meets _ _ _ _ _ _ 
    · cases h
  · rename_i h
    split at h <;> cases h
  · trivial

end Go.Proofs.Ytfealfofcjgihaa
