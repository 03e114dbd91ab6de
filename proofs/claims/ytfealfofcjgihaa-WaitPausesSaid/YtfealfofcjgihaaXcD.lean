/- What functions of the program answer: the evaluator's own account. Written by a program of ours (wip/gen/con.py). -/
import Derived.Test.YtfealfofcjgihaaXp
namespace Go.Proofs.Ytfealfofcjgihaa
open Go.Fw
set_option maxRecDepth 100000
set_option linter.unusedVariables false

/- mainsheet/wait.Event -/
noncomputable def wEvent_V (a0 : Int) (a1 : Int) (a2 : Int) (a3 : Int) (b : Int) (c : Bool) : V := (evFn (en [c_wCheck]) 400 30 (.cons (.agg (.cons (.int false .i64 a0) (.cons (.int false .i64 a1) (.cons (.int false .u32 a2) (.cons (.int false .i64 a3) .nil))))) (.cons (.int false .i64 b) (.cons (.bool false c) .nil)))).join
noncomputable def wEvent_0 (a0 : Int) (a1 : Int) (a2 : Int) (a3 : Int) (b : Int) (c : Bool) : Int := (((wEvent_V a0 a1 a2 a3 b c).at 0).at 0).toInt
noncomputable def wEvent_1 (a0 : Int) (a1 : Int) (a2 : Int) (a3 : Int) (b : Int) (c : Bool) : Int := (((wEvent_V a0 a1 a2 a3 b c).at 0).at 1).toInt
noncomputable def wEvent_2 (a0 : Int) (a1 : Int) (a2 : Int) (a3 : Int) (b : Int) (c : Bool) : Int := (((wEvent_V a0 a1 a2 a3 b c).at 0).at 2).toInt
noncomputable def wEvent_3 (a0 : Int) (a1 : Int) (a2 : Int) (a3 : Int) (b : Int) (c : Bool) : Int := (((wEvent_V a0 a1 a2 a3 b c).at 0).at 3).toInt
noncomputable def wEvent_4 (a0 : Int) (a1 : Int) (a2 : Int) (a3 : Int) (b : Int) (c : Bool) : Bool := (((wEvent_V a0 a1 a2 a3 b c).at 1)).toBool
noncomputable def wEvent_5 (a0 : Int) (a1 : Int) (a2 : Int) (a3 : Int) (b : Int) (c : Bool) : Int := (((wEvent_V a0 a1 a2 a3 b c).at 2)).toInt
noncomputable def c_wEvent : Con := ⟨30, fun x => match x with
  | (.cons (.agg (.cons (.int false .i64 a0) (.cons (.int false .i64 a1) (.cons (.int false .u32 a2) (.cons (.int false .i64 a3) .nil))))) (.cons (.int false .i64 b) (.cons (.bool false c) .nil))) => some (.sure (.tup (.cons (.agg (.cons (.int false .i64 (wEvent_0 a0 a1 a2 a3 b c)) (.cons (.int false .i64 (wEvent_1 a0 a1 a2 a3 b c)) (.cons (.int false .u32 (wEvent_2 a0 a1 a2 a3 b c)) (.cons (.int false .i64 (wEvent_3 a0 a1 a2 a3 b c)) .nil))))) (.cons (.bool false (wEvent_4 a0 a1 a2 a3 b c)) (.cons (.int false .i64 (wEvent_5 a0 a1 a2 a3 b c)) .nil)))))
  | _ => none⟩
noncomputable def wEvent_T (a0 : Int) (a1 : Int) (a2 : Int) (a3 : Int) (b : Int) (c : Bool) : Tree V := evFn (en [c_wCheck]) 400 30 (.cons (.agg (.cons (.int false .i64 a0) (.cons (.int false .i64 a1) (.cons (.int false .u32 a2) (.cons (.int false .i64 a3) .nil))))) (.cons (.int false .i64 b) (.cons (.bool false c) .nil)))
theorem wEvent_pre (a0 : Int) (a1 : Int) (a2 : Int) (a3 : Int) (b : Int) (c : Bool) : (wEvent_T a0 a1 a2 a3 b c).Pre := by
  constructor
  have e : Tree.pre (wEvent_T a0 a1 a2 a3 b c) = (((bif wCheck_0 a0 a1 a2 a3 != (0 : Int) then true else false) = true → True) ∧
  ((bif wCheck_0 a0 a1 a2 a3 != (0 : Int) then true else false) = false →
    ((bif bif decide (b < (0 : Int)) then true else decide (b ≥ (32 : Int)) then true else false) = true → True) ∧
      ((bif bif decide (b < (0 : Int)) then true else decide (b ≥ (32 : Int)) then true else false) = false →
        ((bif bif a0 == (3 : Int) then true else false then false
              else bif bif a0 == (2 : Int) then true else false then false else true) =
              false →
            (bif bif a0 == (3 : Int) then true else false then false
                else bif bif a0 == (2 : Int) then true else false then true else false) =
                false →
              (0 : Int) ≤ b) ∧
          True))) := by kernel_rfl
  rw [e]; clear e
  refine ⟨fun _ => trivial, fun _ => ⟨fun _ => trivial, fun h => ⟨fun _ _ => ?_, trivial⟩⟩⟩
  apply Classical.byContradiction
  intro hb
  have : b < 0 := by omega
  simp [this] at h

theorem wEvent_meets (a0 : Int) (a1 : Int) (a2 : Int) (a3 : Int) (b : Int) (c : Bool) : Meets P 30 (.cons (.agg (.cons (.int false .i64 a0) (.cons (.int false .i64 a1) (.cons (.int false .u32 a2) (.cons (.int false .i64 a3) .nil))))) (.cons (.int false .i64 b) (.cons (.bool false c) .nil))) (.tup (.cons (.agg (.cons (.int false .i64 (wEvent_0 a0 a1 a2 a3 b c)) (.cons (.int false .i64 (wEvent_1 a0 a1 a2 a3 b c)) (.cons (.int false .u32 (wEvent_2 a0 a1 a2 a3 b c)) (.cons (.int false .i64 (wEvent_3 a0 a1 a2 a3 b c)) .nil))))) (.cons (.bool false (wEvent_4 a0 a1 a2 a3 b c)) (.cons (.int false .i64 (wEvent_5 a0 a1 a2 a3 b c)) .nil)))) :=
  meets_tree (T := wEvent_T a0 a1 a2 a3 b c) (en_ok (l := [c_wCheck]) ⟨c_wCheck_ok, trivial⟩) 400 (Has.of hn Try.func30 rfl) (by kernel_rfl) (wEvent_pre a0 a1 a2 a3 b c) (by kernel_rfl) (by kernel_rfl)
theorem c_wEvent_ok : c_wEvent.Ok P := by
  intro x
  dsimp only [c_wEvent]
  split
  · rename_i h
    split at h
    · injection h with h; injection h with h; subst h
      exact wEvent_meets _ _ _ _ _ _ 
    · cases h
  · rename_i h
    split at h <;> cases h
  · trivial

end Go.Proofs.Ytfealfofcjgihaa
