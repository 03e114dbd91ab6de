/- What functions of the program answer: the evaluator's own account. Written by a program of ours (wip/gen/con.py). -/
import Derived.Test.YtpeekgekmjldlaaDoorGase
namespace Go.Proofs.YtpeekgekmjldlaaDoor
open Go.Fw
set_option maxRecDepth 100000
set_option linter.unusedVariables false

/- mainsheet/cpuset.Check -/
noncomputable def uCheck_V (a : Int) : V := (evFn (en []) 400 52 (.cons (.int false .u32 a) .nil)).join
noncomputable def uCheck_0 (a : Int) : Int := ((uCheck_V a)).toInt
noncomputable def c_uCheck : Con := { g := 52, ans := fun x => match x with
  | (.cons (.int false .u32 a) .nil) => some (.sure (.int false .i64 (uCheck_0 a)))
  | _ => none }
theorem uCheck_meets (a : Int) : Meets P 52 (.cons (.int false .u32 a) .nil) (.int false .i64 (uCheck_0 a)) :=
  meets_total (E := (en [])) (en_ok (l := []) trivial) 400 (g := 52) (args := (.cons (.int false .u32 a) .nil)) (v := (.int false .i64 (uCheck_0 a))) (Has.of hn Tryd.func52 rfl) (by kernel_rfl) (by kernel_rfl)
theorem c_uCheck_ok : c_uCheck.Ok P := by
  intro x
  dsimp only [c_uCheck]
  split
  · rename_i h
    split at h
    · injection h with h; injection h with h; subst h
      exact uCheck_meets _ 
    · cases h
  · rename_i h
    split at h <;> cases h
  · trivial

/- mainsheet/cpuset.bit -/
noncomputable def uBit_V (a : Int) : V := (evFn (en []) 400 71 (.cons (.int false .i64 a) .nil)).join
noncomputable def uBit_0 (a : Int) : Int := ((uBit_V a)).toInt
noncomputable def c_uBit : Con := { g := 71, ans := fun x => match x with
  | (.cons (.int false .i64 a) .nil) => some (.sure (.int false .u32 (uBit_0 a)))
  | _ => none }
noncomputable def uBit_T (a : Int) : Tree V := evFn (en []) 400 71 (.cons (.int false .i64 a) .nil)
theorem uBit_pre (a : Int) : (uBit_T a).Pre := by
  constructor
  have e : Tree.pre (uBit_T a) = (((bif bif decide (a < (0 : Int)) then true else decide (a ≥ (8 : Int)) then true else false) = true → True) ∧
  ((bif bif decide (a < (0 : Int)) then true else decide (a ≥ (8 : Int)) then true else false) = false →
    (0 : Int) ≤ a ∧ True)) := by kernel_rfl
  rw [e]; clear e
  grind
theorem uBit_meets (a : Int) : Meets P 71 (.cons (.int false .i64 a) .nil) (.int false .u32 (uBit_0 a)) :=
  meets_tree (T := uBit_T a) (en_ok (l := []) trivial) 400 (Has.of hn Tryd.func71 rfl) (by kernel_rfl) (uBit_pre a) (by kernel_rfl) (by kernel_rfl)
theorem c_uBit_ok : c_uBit.Ok P := by
  intro x
  dsimp only [c_uBit]
  split
  · rename_i h
    split at h
    · injection h with h; injection h with h; subst h
      exact uBit_meets _ 
    · cases h
  · rename_i h
    split at h <;> cases h
  · trivial

/- mainsheet/cpuset.Has -/
noncomputable def uHas_V (a : Int) (b : Int) : V := (evFn (en [c_uBit]) 400 60 (.cons (.int false .u32 a) (.cons (.int false .i64 b) .nil))).join
noncomputable def uHas_0 (a : Int) (b : Int) : Bool := ((uHas_V a b)).toBool
noncomputable def c_uHas : Con := { g := 60, ans := fun x => match x with
  | (.cons (.int false .u32 a) (.cons (.int false .i64 b) .nil)) => some (.sure (.bool false (uHas_0 a b)))
  | _ => none }
theorem uHas_meets (a : Int) (b : Int) : Meets P 60 (.cons (.int false .u32 a) (.cons (.int false .i64 b) .nil)) (.bool false (uHas_0 a b)) :=
  meets_total (E := (en [c_uBit])) (en_ok (l := [c_uBit]) ⟨c_uBit_ok, trivial⟩) 400 (g := 60) (args := (.cons (.int false .u32 a) (.cons (.int false .i64 b) .nil))) (v := (.bool false (uHas_0 a b))) (Has.of hn Tryd.func60 rfl) (by kernel_rfl) (by kernel_rfl)
theorem c_uHas_ok : c_uHas.Ok P := by
  intro x
  dsimp only [c_uHas]
  split
  · rename_i h
    split at h
    · injection h with h; injection h with h; subst h
      exact uHas_meets _ _ 
    · cases h
  · rename_i h
    split at h <;> cases h
  · trivial

/- mainsheet/cpuset.turn -/
noncomputable def uTurn_V (a : Int) (b : Int) : V := (evFn (en [c_uCheck, c_uBit]) 400 76 (.cons (.int false .u32 a) (.cons (.int false .i64 b) .nil))).join
noncomputable def uTurn_0 (a : Int) (b : Int) : Int := ((uTurn_V a b)).toInt
noncomputable def c_uTurn : Con := { g := 76, ans := fun x => match x with
  | (.cons (.int false .u32 a) (.cons (.int false .i64 b) .nil)) => some (.sure (.int false .i64 (uTurn_0 a b)))
  | _ => none }
theorem uTurn_meets (a : Int) (b : Int) : Meets P 76 (.cons (.int false .u32 a) (.cons (.int false .i64 b) .nil)) (.int false .i64 (uTurn_0 a b)) :=
  meets_total (E := (en [c_uCheck, c_uBit])) (en_ok (l := [c_uCheck, c_uBit]) ⟨c_uCheck_ok, c_uBit_ok, trivial⟩) 400 (g := 76) (args := (.cons (.int false .u32 a) (.cons (.int false .i64 b) .nil))) (v := (.int false .i64 (uTurn_0 a b))) (Has.of hn Tryd.func76 rfl) (by kernel_rfl) (by kernel_rfl)
theorem c_uTurn_ok : c_uTurn.Ok P := by
  intro x
  dsimp only [c_uTurn]
  split
  · rename_i h
    split at h
    · injection h with h; injection h with h; subst h
      exact uTurn_meets _ _ 
    · cases h
  · rename_i h
    split at h <;> cases h
  · trivial

/- mainsheet/cpuset.With -/
noncomputable def uWith_V (a : Int) (b : Int) : V := (evFn (en [c_uTurn, c_uHas, c_uBit]) 400 48 (.cons (.int false .u32 a) (.cons (.int false .i64 b) .nil))).join
noncomputable def uWith_0 (a : Int) (b : Int) : Int := (((uWith_V a b).at 0)).toInt
noncomputable def uWith_1 (a : Int) (b : Int) : Int := (((uWith_V a b).at 1)).toInt
noncomputable def c_uWith : Con := { g := 48, ans := fun x => match x with
  | (.cons (.int false .u32 a) (.cons (.int false .i64 b) .nil)) => some (.sure (.tup (.cons (.int false .u32 (uWith_0 a b)) (.cons (.int false .i64 (uWith_1 a b)) .nil))))
  | _ => none }
theorem uWith_meets (a : Int) (b : Int) : Meets P 48 (.cons (.int false .u32 a) (.cons (.int false .i64 b) .nil)) (.tup (.cons (.int false .u32 (uWith_0 a b)) (.cons (.int false .i64 (uWith_1 a b)) .nil))) :=
  meets_total (E := (en [c_uTurn, c_uHas, c_uBit])) (en_ok (l := [c_uTurn, c_uHas, c_uBit]) ⟨c_uTurn_ok, c_uHas_ok, c_uBit_ok, trivial⟩) 400 (g := 48) (args := (.cons (.int false .u32 a) (.cons (.int false .i64 b) .nil))) (v := (.tup (.cons (.int false .u32 (uWith_0 a b)) (.cons (.int false .i64 (uWith_1 a b)) .nil)))) (Has.of hn Tryd.func48 rfl) (by kernel_rfl) (by kernel_rfl)
theorem c_uWith_ok : c_uWith.Ok P := by
  intro x
  dsimp only [c_uWith]
  split
  · rename_i h
    split at h
    · injection h with h; injection h with h; subst h
      exact uWith_meets _ _ 
    · cases h
  · rename_i h
    split at h <;> cases h
  · trivial

/- mainsheet/cpuset.Without -/
noncomputable def uWithout_V (a : Int) (b : Int) : V := (evFn (en [c_uTurn, c_uHas, c_uBit]) 400 49 (.cons (.int false .u32 a) (.cons (.int false .i64 b) .nil))).join
noncomputable def uWithout_0 (a : Int) (b : Int) : Int := (((uWithout_V a b).at 0)).toInt
noncomputable def uWithout_1 (a : Int) (b : Int) : Int := (((uWithout_V a b).at 1)).toInt
noncomputable def c_uWithout : Con := { g := 49, ans := fun x => match x with
  | (.cons (.int false .u32 a) (.cons (.int false .i64 b) .nil)) => some (.sure (.tup (.cons (.int false .u32 (uWithout_0 a b)) (.cons (.int false .i64 (uWithout_1 a b)) .nil))))
  | _ => none }
theorem uWithout_meets (a : Int) (b : Int) : Meets P 49 (.cons (.int false .u32 a) (.cons (.int false .i64 b) .nil)) (.tup (.cons (.int false .u32 (uWithout_0 a b)) (.cons (.int false .i64 (uWithout_1 a b)) .nil))) :=
  meets_total (E := (en [c_uTurn, c_uHas, c_uBit])) (en_ok (l := [c_uTurn, c_uHas, c_uBit]) ⟨c_uTurn_ok, c_uHas_ok, c_uBit_ok, trivial⟩) 400 (g := 49) (args := (.cons (.int false .u32 a) (.cons (.int false .i64 b) .nil))) (v := (.tup (.cons (.int false .u32 (uWithout_0 a b)) (.cons (.int false .i64 (uWithout_1 a b)) .nil)))) (Has.of hn Tryd.func49 rfl) (by kernel_rfl) (by kernel_rfl)
theorem c_uWithout_ok : c_uWithout.Ok P := by
  intro x
  dsimp only [c_uWithout]
  split
  · rename_i h
    split at h
    · injection h with h; injection h with h; subst h
      exact uWithout_meets _ _ 
    · cases h
  · rename_i h
    split at h <;> cases h
  · trivial

/- mainsheet/mainsheetref04.Right -/
noncomputable def vRight_V (a : Int) : V := (evFn (en []) 400 35 (.cons (.int false .u32 a) .nil)).join
noncomputable def vRight_0 (a : Int) : Bool := ((vRight_V a)).toBool
noncomputable def c_vRight : Con := { g := 35, ans := fun x => match x with
  | (.cons (.int false .u32 a) .nil) => some (.sure (.bool false (vRight_0 a)))
  | _ => none }
theorem vRight_meets (a : Int) : Meets P 35 (.cons (.int false .u32 a) .nil) (.bool false (vRight_0 a)) :=
  meets_total (E := (en [])) (en_ok (l := []) trivial) 400 (g := 35) (args := (.cons (.int false .u32 a) .nil)) (v := (.bool false (vRight_0 a))) (Has.of hn Tryd.func35 rfl) (by kernel_rfl) (by kernel_rfl)
theorem c_vRight_ok : c_vRight.Ok P := by
  intro x
  dsimp only [c_vRight]
  split
  · rename_i h
    split at h
    · injection h with h; injection h with h; subst h
      exact vRight_meets _ 
    · cases h
  · rename_i h
    split at h <;> cases h
  · trivial

/- mainsheet/mainsheetref04.Cpu -/
noncomputable def vCpu_V (a : Int) : V := (evFn (en []) 400 50 (.cons (.int false .i64 a) .nil)).join
noncomputable def vCpu_0 (a : Int) : Bool := ((vCpu_V a)).toBool
noncomputable def c_vCpu : Con := { g := 50, ans := fun x => match x with
  | (.cons (.int false .i64 a) .nil) => some (.sure (.bool false (vCpu_0 a)))
  | _ => none }
theorem vCpu_meets (a : Int) : Meets P 50 (.cons (.int false .i64 a) .nil) (.bool false (vCpu_0 a)) :=
  meets_total (E := (en [])) (en_ok (l := []) trivial) 400 (g := 50) (args := (.cons (.int false .i64 a) .nil)) (v := (.bool false (vCpu_0 a))) (Has.of hn Tryd.func50 rfl) (by kernel_rfl) (by kernel_rfl)
theorem c_vCpu_ok : c_vCpu.Ok P := by
  intro x
  dsimp only [c_vCpu]
  split
  · rename_i h
    split at h
    · injection h with h; injection h with h; subst h
      exact vCpu_meets _ 
    · cases h
  · rename_i h
    split at h <;> cases h
  · trivial

/- mainsheet/mainsheetref04.Has -/
noncomputable def vHas_V (a : Int) (b : Int) : V := (evFn (en []) 400 51 (.cons (.int false .u32 a) (.cons (.int false .i64 b) .nil))).join
noncomputable def vHas_0 (a : Int) (b : Int) : Bool := ((vHas_V a b)).toBool
noncomputable def c_vHas : Con := { g := 51, ans := fun x => match x with
  | (.cons (.int false .u32 a) (.cons (.int false .i64 b) .nil)) => some (.sure (.bool false (vHas_0 a b)))
  | _ => none }
noncomputable def vHas_T (a : Int) (b : Int) : Tree V := evFn (en []) 400 51 (.cons (.int false .u32 a) (.cons (.int false .i64 b) .nil))
theorem vHas_pre (a : Int) (b : Int) : (vHas_T a b).Pre := by
  constructor
  have e : Tree.pre (vHas_T a b) = (((bif decide (b ≥ (0 : Int)) then decide (b < (8 : Int)) else false) = true → (0 : Int) ≤ b) ∧ True) := by kernel_rfl
  rw [e]; clear e
  grind
theorem vHas_meets (a : Int) (b : Int) : Meets P 51 (.cons (.int false .u32 a) (.cons (.int false .i64 b) .nil)) (.bool false (vHas_0 a b)) :=
  meets_tree (T := vHas_T a b) (en_ok (l := []) trivial) 400 (Has.of hn Tryd.func51 rfl) (by kernel_rfl) (vHas_pre a b) (by kernel_rfl) (by kernel_rfl)
theorem c_vHas_ok : c_vHas.Ok P := by
  intro x
  dsimp only [c_vHas]
  split
  · rename_i h
    split at h
    · injection h with h; injection h with h; subst h
      exact vHas_meets _ _ 
    · cases h
  · rename_i h
    split at h <;> cases h
  · trivial

end Go.Proofs.YtpeekgekmjldlaaDoor
