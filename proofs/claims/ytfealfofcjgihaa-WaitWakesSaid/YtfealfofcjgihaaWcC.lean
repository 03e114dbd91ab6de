/- What functions of the program answer: the evaluator's own account. Written by a program of ours (wip/gen/con.py). -/
import Derived.Test.YtfealfofcjgihaaWcH
namespace Go.Proofs.Ytfealfofcjgihaa
open Go.Fw
set_option maxRecDepth 100000
set_option linter.unusedVariables false

/- mainsheet/mainsheetref17.Event -/
noncomputable def qEvent_V (a0 : Int) (a1 : Int) (a2 : Int) (a3 : Int) (b : Int) (c : Bool) : V := (evFn (en [c_qRight, c_qReady, c_has]) 400 31 (.cons (.agg (.cons (.int false .i64 a0) (.cons (.int false .i64 a1) (.cons (.int false .u32 a2) (.cons (.int false .i64 a3) .nil))))) (.cons (.int false .i64 b) (.cons (.bool false c) .nil)))).join
noncomputable def qEvent_0 (a0 : Int) (a1 : Int) (a2 : Int) (a3 : Int) (b : Int) (c : Bool) : Int := (((qEvent_V a0 a1 a2 a3 b c).at 0).at 0).toInt
noncomputable def qEvent_1 (a0 : Int) (a1 : Int) (a2 : Int) (a3 : Int) (b : Int) (c : Bool) : Int := (((qEvent_V a0 a1 a2 a3 b c).at 0).at 1).toInt
noncomputable def qEvent_2 (a0 : Int) (a1 : Int) (a2 : Int) (a3 : Int) (b : Int) (c : Bool) : Int := (((qEvent_V a0 a1 a2 a3 b c).at 0).at 2).toInt
noncomputable def qEvent_3 (a0 : Int) (a1 : Int) (a2 : Int) (a3 : Int) (b : Int) (c : Bool) : Int := (((qEvent_V a0 a1 a2 a3 b c).at 0).at 3).toInt
noncomputable def qEvent_4 (a0 : Int) (a1 : Int) (a2 : Int) (a3 : Int) (b : Int) (c : Bool) : Int := (((qEvent_V a0 a1 a2 a3 b c).at 1)).toInt
noncomputable def c_qEvent : Con := ⟨31, fun x => match x with
  | (.cons (.agg (.cons (.int false .i64 a0) (.cons (.int false .i64 a1) (.cons (.int false .u32 a2) (.cons (.int false .i64 a3) .nil))))) (.cons (.int false .i64 b) (.cons (.bool false c) .nil))) => some (.sure (.tup (.cons (.agg (.cons (.int false .i64 (qEvent_0 a0 a1 a2 a3 b c)) (.cons (.int false .i64 (qEvent_1 a0 a1 a2 a3 b c)) (.cons (.int false .u32 (qEvent_2 a0 a1 a2 a3 b c)) (.cons (.int false .i64 (qEvent_3 a0 a1 a2 a3 b c)) .nil))))) (.cons (.int false .i64 (qEvent_4 a0 a1 a2 a3 b c)) .nil))))
  | _ => none⟩
noncomputable def qEvent_T (a0 : Int) (a1 : Int) (a2 : Int) (a3 : Int) (b : Int) (c : Bool) : Tree V := evFn (en [c_qRight, c_qReady, c_has]) 400 31 (.cons (.agg (.cons (.int false .i64 a0) (.cons (.int false .i64 a1) (.cons (.int false .u32 a2) (.cons (.int false .i64 a3) .nil))))) (.cons (.int false .i64 b) (.cons (.bool false c) .nil)))
theorem qEvent_pre (a0 : Int) (a1 : Int) (a2 : Int) (a3 : Int) (b : Int) (c : Bool) : (qEvent_T a0 a1 a2 a3 b c).Pre := by
  constructor
  have e : Tree.pre (qEvent_T a0 a1 a2 a3 b c) = (((!qRight_0 a0 a1 a2 a3) = true → True) ∧
  ((!qRight_0 a0 a1 a2 a3) = false →
    (decide (b < 0) = true → True) ∧
      (decide (b < 0) = false →
        (decide (b > 31) = true → True) ∧
          (decide (b > 31) = false →
            ((a0 == 2) = true →
                ((!c) = true → True) ∧
                  ((!c) = false →
                    ((a0 == 3) = true →
                        ((!c) = true → True) ∧
                          ((!c) = false →
                            (0 ≤ b ∧ b ≤ 31) ∧ (hasB a2 b = true → True) ∧ (hasB a2 b = false → True))) ∧
                      ((a0 == 3) = false → True))) ∧
              ((a0 == 2) = false →
                ((a0 == 3) = true →
                    ((!c) = true → True) ∧
                      ((!c) = false →
                        (0 ≤ b ∧ b ≤ 31) ∧ (hasB a2 b = true → True) ∧ (hasB a2 b = false → True))) ∧
                  ((a0 == 3) = false → True)))))) := by kernel_rfl
  rw [e]; clear e
  simp only [implies_true, and_true, true_and]
  intro _ h1 h2
  simp at h1 h2
  exact ⟨fun _ _ _ _ => ⟨h1, h2⟩, fun _ _ _ => ⟨h1, h2⟩⟩
theorem qEvent_meets (a0 : Int) (a1 : Int) (a2 : Int) (a3 : Int) (b : Int) (c : Bool) : Meets P 31 (.cons (.agg (.cons (.int false .i64 a0) (.cons (.int false .i64 a1) (.cons (.int false .u32 a2) (.cons (.int false .i64 a3) .nil))))) (.cons (.int false .i64 b) (.cons (.bool false c) .nil))) (.tup (.cons (.agg (.cons (.int false .i64 (qEvent_0 a0 a1 a2 a3 b c)) (.cons (.int false .i64 (qEvent_1 a0 a1 a2 a3 b c)) (.cons (.int false .u32 (qEvent_2 a0 a1 a2 a3 b c)) (.cons (.int false .i64 (qEvent_3 a0 a1 a2 a3 b c)) .nil))))) (.cons (.int false .i64 (qEvent_4 a0 a1 a2 a3 b c)) .nil))) :=
  meets_tree (T := qEvent_T a0 a1 a2 a3 b c) (en_ok (l := [c_qRight, c_qReady, c_has]) ⟨c_qRight_ok, c_qReady_ok, c_has_ok, trivial⟩) 400 (Has.of hn Try.func31 rfl) (by kernel_rfl) (qEvent_pre a0 a1 a2 a3 b c) (by kernel_rfl) (by kernel_rfl)
theorem c_qEvent_ok : c_qEvent.Ok P := by
  intro x
  dsimp only [c_qEvent]
  split
  · rename_i h
    split at h
    · injection h with h; injection h with h; subst h
      exact qEvent_meets _ _ _ _ _ _ 
    · cases h
  · rename_i h
    split at h <;> cases h
  · trivial

end Go.Proofs.Ytfealfofcjgihaa
