/- What functions of the program answer: the evaluator's own account. Written by a program of ours (wip/gen/con.py). -/
import Derived.Test.YtpeekgekmjldlaaDoorCcO
namespace Go.Proofs.YtpeekgekmjldlaaDoor
open Go.Fw
set_option maxRecDepth 100000
set_option linter.unusedVariables false

/- mainsheet/cpuset.First -/
noncomputable def uFirst_V (a : Int) : V := (evFn (en []) 400 43 (.cons (.int false .i64 a) .nil)).join
noncomputable def uFirst_0 (a : Int) : Int := (((uFirst_V a).at 0)).toInt
noncomputable def uFirst_1 (a : Int) : Int := (((uFirst_V a).at 1)).toInt
noncomputable def c_uFirst : Con := { g := 43, ans := fun x => match x with
  | (.cons (.int false .i64 a) .nil) => some (.sure (.tup (.cons (.int false .u32 (uFirst_0 a)) (.cons (.int false .i64 (uFirst_1 a)) .nil))))
  | _ => none }
noncomputable def uFirst_T (a : Int) : Tree V := evFn (en []) 400 43 (.cons (.int false .i64 a) .nil)
theorem uFirst_pre (a : Int) : (uFirst_T a).Pre := by
  constructor
  have e : Tree.pre (uFirst_T a) = (((bif bif decide (a < (0 : Int)) then true else decide (a > (8 : Int)) then true else false) = true → True) ∧
  ((bif bif decide (a < (0 : Int)) then true else decide (a > (8 : Int)) then true else false) = false →
    (0 : Int) ≤ a ∧ True)) := by kernel_rfl
  rw [e]; clear e
  grind
theorem uFirst_meets (a : Int) : Meets P 43 (.cons (.int false .i64 a) .nil) (.tup (.cons (.int false .u32 (uFirst_0 a)) (.cons (.int false .i64 (uFirst_1 a)) .nil))) :=
  meets_tree (T := uFirst_T a) (en_ok (l := []) trivial) 400 (Has.of hn Tryd.func43 rfl) (by kernel_rfl) (uFirst_pre a) (by kernel_rfl) (by kernel_rfl)
theorem c_uFirst_ok : c_uFirst.Ok P := by
  intro x
  dsimp only [c_uFirst]
  split
  · rename_i h
    split at h
    · injection h with h; injection h with h; subst h
      exact uFirst_meets _ 
    · cases h
  · rename_i h
    split at h <;> cases h
  · trivial

/- mainsheet/cpuset.Count -/
noncomputable def uCount_V (a : Int) : V := (evFn (en [c_ones]) 400 55 (.cons (.int false .u32 a) .nil)).join
noncomputable def uCount_0 (a : Int) : Int := ((uCount_V a)).toInt
noncomputable def c_uCount : Con := { g := 55, ans := fun x => match x with
  | (.cons (.int false .u32 a) .nil) => some (.sure (.int false .i64 (uCount_0 a)))
  | _ => none }
noncomputable def uCount_T (a : Int) : Tree V := evFn (en [c_ones]) 400 55 (.cons (.int false .u32 a) .nil)
theorem uCount_pre (a : Int) : (uCount_T a).Pre := by
  constructor
  have e : Tree.pre (uCount_T a) = ((0 ≤ maskI a ∧ maskI a < 256) ∧ True) := by kernel_rfl
  rw [e, maskI_low]; clear e
  have := lowN_lt a
  exact ⟨⟨by omega, by omega⟩, trivial⟩
theorem uCount_meets (a : Int) : Meets P 55 (.cons (.int false .u32 a) .nil) (.int false .i64 (uCount_0 a)) :=
  meets_tree (T := uCount_T a) (en_ok (l := [c_ones]) ⟨c_ones_ok, trivial⟩) 400 (Has.of hn Tryd.func55 rfl) (by kernel_rfl) (uCount_pre a) (by kernel_rfl) (by kernel_rfl)
theorem c_uCount_ok : c_uCount.Ok P := by
  intro x
  dsimp only [c_uCount]
  split
  · rename_i h
    split at h
    · injection h with h; injection h with h; subst h
      exact uCount_meets _ 
    · cases h
  · rename_i h
    split at h <;> cases h
  · trivial

/- mainsheet/cpuset.Within -/
noncomputable def uWithin_V (a : Int) (b : Int) : V := (evFn (en []) 400 56 (.cons (.int false .u32 a) (.cons (.int false .u32 b) .nil))).join
noncomputable def uWithin_0 (a : Int) (b : Int) : Bool := ((uWithin_V a b)).toBool
noncomputable def c_uWithin : Con := { g := 56, ans := fun x => match x with
  | (.cons (.int false .u32 a) (.cons (.int false .u32 b) .nil)) => some (.sure (.bool false (uWithin_0 a b)))
  | _ => none }
theorem uWithin_meets (a : Int) (b : Int) : Meets P 56 (.cons (.int false .u32 a) (.cons (.int false .u32 b) .nil)) (.bool false (uWithin_0 a b)) :=
  meets_total (E := (en [])) (en_ok (l := []) trivial) 400 (g := 56) (args := (.cons (.int false .u32 a) (.cons (.int false .u32 b) .nil))) (v := (.bool false (uWithin_0 a b))) (Has.of hn Tryd.func56 rfl) (by kernel_rfl) (by kernel_rfl)
theorem c_uWithin_ok : c_uWithin.Ok P := by
  intro x
  dsimp only [c_uWithin]
  split
  · rename_i h
    split at h
    · injection h with h; injection h with h; subst h
      exact uWithin_meets _ _ 
    · cases h
  · rename_i h
    split at h <;> cases h
  · trivial

end Go.Proofs.YtpeekgekmjldlaaDoor
