/- What functions of the program answer: the evaluator's own account. Written by a program of ours (wip/gen/con.py). -/
import Derived.Test.YtpeekgekmjldlaaDoorKcA
namespace Go.Proofs.YtpeekgekmjldlaaDoor
open Go.Fw
set_option maxRecDepth 100000
set_option linter.unusedVariables false

noncomputable abbrev en0 (l : List Con) : Env := { P, Γ := lookG l, lp := lookL [], mg := false }
theorem en0_ok {l : List Con} (h : AllOk P l) : (en0 l).Ok := env_ok hm hn h (ls := []) trivial _
/- mainsheet/clock.Down -/
noncomputable def kDown_V (a : Int) (b : Int) : V := (evFn (en0 []) 400 30 (.cons (.int false .i64 a) (.cons (.int false .i64 b) .nil))).join
noncomputable def kDown_0 (a : Int) (b : Int) : Int := (((kDown_V a b).at 0)).toInt
noncomputable def kDown_1 (a : Int) (b : Int) : Int := (((kDown_V a b).at 1)).toInt
noncomputable def c_kDown : Con := ⟨30, fun x => match x with
  | (.cons (.int false .i64 a) (.cons (.int false .i64 b) .nil)) => some (.sure (.tup (.cons (.int false .i64 (kDown_0 a b)) (.cons (.int false .i64 (kDown_1 a b)) .nil))))
  | _ => none⟩
noncomputable def kDown_T (a : Int) (b : Int) : Tree V := evFn (en0 []) 400 30 (.cons (.int false .i64 a) (.cons (.int false .i64 b) .nil))
theorem kDown_pre (a : Int) (b : Int) : (kDown_T a b).Pre := by
  constructor
  have e : Tree.pre (kDown_T a b) = ((decide (a < (0 : Int)) = true → True) ∧ (decide (a < (0 : Int)) = false → (decide (a > (1125899906842624 : Int)) = true → True) ∧ (decide (a > (1125899906842624 : Int)) = false → (decide (b < (0 : Int)) = true → True) ∧ (decide (b < (0 : Int)) = false → (decide (b > (1125899906842624 : Int)) = true → True) ∧ (decide (b > (1125899906842624 : Int)) = false → ((b == (0 : Int)) = true → True) ∧ ((b == (0 : Int)) = false → b ≠ (0 : Int) ∧ True)))))) := by kernel_rfl
  rw [e]; clear e
  grind
theorem kDown_meets (a : Int) (b : Int) : Meets P 30 (.cons (.int false .i64 a) (.cons (.int false .i64 b) .nil)) (.tup (.cons (.int false .i64 (kDown_0 a b)) (.cons (.int false .i64 (kDown_1 a b)) .nil))) :=
  meets_tree (T := kDown_T a b) (en0_ok (l := []) trivial) 400 (Has.of hn Tryd.func30 rfl) (by kernel_rfl) (kDown_pre a b) (by kernel_rfl) (by kernel_rfl)
theorem c_kDown_ok : c_kDown.Ok P := by
  intro x
  dsimp only [c_kDown]
  split
  · rename_i h
    split at h
    · injection h with h; injection h with h; subst h
      exact kDown_meets _ _ 
    · cases h
  · rename_i h
    split at h <;> cases h
  · trivial

/- mainsheet/clock.Up -/
noncomputable def kUp_V (a : Int) (b : Int) : V := (evFn (en0 [c_kDown, c_kAdd]) 400 29 (.cons (.int false .i64 a) (.cons (.int false .i64 b) .nil))).join
noncomputable def kUp_0 (a : Int) (b : Int) : Int := (((kUp_V a b).at 0)).toInt
noncomputable def kUp_1 (a : Int) (b : Int) : Int := (((kUp_V a b).at 1)).toInt
noncomputable def c_kUp : Con := ⟨29, fun x => match x with
  | (.cons (.int false .i64 a) (.cons (.int false .i64 b) .nil)) => some (.sure (.tup (.cons (.int false .i64 (kUp_0 a b)) (.cons (.int false .i64 (kUp_1 a b)) .nil))))
  | _ => none⟩
theorem kUp_meets (a : Int) (b : Int) : Meets P 29 (.cons (.int false .i64 a) (.cons (.int false .i64 b) .nil)) (.tup (.cons (.int false .i64 (kUp_0 a b)) (.cons (.int false .i64 (kUp_1 a b)) .nil))) :=
  meets_total (E := (en0 [c_kDown, c_kAdd])) (en0_ok (l := [c_kDown, c_kAdd]) ⟨c_kDown_ok, c_kAdd_ok, trivial⟩) 400 (g := 29) (args := (.cons (.int false .i64 a) (.cons (.int false .i64 b) .nil))) (v := (.tup (.cons (.int false .i64 (kUp_0 a b)) (.cons (.int false .i64 (kUp_1 a b)) .nil)))) (Has.of hn Tryd.func29 rfl) (by kernel_rfl) (by kernel_rfl)
theorem c_kUp_ok : c_kUp.Ok P := by
  intro x
  dsimp only [c_kUp]
  split
  · rename_i h
    split at h
    · injection h with h; injection h with h; subst h
      exact kUp_meets _ _ 
    · cases h
  · rename_i h
    split at h <;> cases h
  · trivial

/- mainsheet/clock.Times -/
noncomputable def kTimes_V (a : Int) (b : Int) : V := (evFn (en0 []) 400 27 (.cons (.int false .i64 a) (.cons (.int false .i64 b) .nil))).join
noncomputable def kTimes_0 (a : Int) (b : Int) : Int := (((kTimes_V a b).at 0)).toInt
noncomputable def kTimes_1 (a : Int) (b : Int) : Int := (((kTimes_V a b).at 1)).toInt
noncomputable def c_kTimes : Con := ⟨27, fun x => match x with
  | (.cons (.int false .i64 a) (.cons (.int false .i64 b) .nil)) => some (.sure (.tup (.cons (.int false .i64 (kTimes_0 a b)) (.cons (.int false .i64 (kTimes_1 a b)) .nil))))
  | _ => none⟩
noncomputable def kTimes_T (a : Int) (b : Int) : Tree V := evFn (en0 []) 400 27 (.cons (.int false .i64 a) (.cons (.int false .i64 b) .nil))
theorem kTimes_pre (a : Int) (b : Int) : (kTimes_T a b).Pre := by
  constructor
  have e : Tree.pre (kTimes_T a b) = ((decide (a < (0 : Int)) = true → True) ∧ (decide (a < (0 : Int)) = false → (decide (a > (1125899906842624 : Int)) = true → True) ∧ (decide (a > (1125899906842624 : Int)) = false → ((a == (0 : Int)) = true → (decide (b ≥ (0 : Int)) = true → True) ∧ (decide (b ≥ (0 : Int)) = false → (decide (b < (0 : Int)) = true → True) ∧ (decide (b < (0 : Int)) = false → a ≠ (0 : Int) ∧ (decide (b > IntKind.wrap IntKind.i64 (Int.tdiv (1125899906842624 : Int) a)) = true → True) ∧ (decide (b > IntKind.wrap IntKind.i64 (Int.tdiv (1125899906842624 : Int) a)) = false → True)))) ∧ ((a == (0 : Int)) = false → (decide (b < (0 : Int)) = true → True) ∧ (decide (b < (0 : Int)) = false → a ≠ (0 : Int) ∧ (decide (b > IntKind.wrap IntKind.i64 (Int.tdiv (1125899906842624 : Int) a)) = true → True) ∧ (decide (b > IntKind.wrap IntKind.i64 (Int.tdiv (1125899906842624 : Int) a)) = false → True)))))) := by kernel_rfl
  rw [e]; clear e
  grind
theorem kTimes_meets (a : Int) (b : Int) : Meets P 27 (.cons (.int false .i64 a) (.cons (.int false .i64 b) .nil)) (.tup (.cons (.int false .i64 (kTimes_0 a b)) (.cons (.int false .i64 (kTimes_1 a b)) .nil))) :=
  meets_tree (T := kTimes_T a b) (en0_ok (l := []) trivial) 400 (Has.of hn Tryd.func27 rfl) (by kernel_rfl) (kTimes_pre a b) (by kernel_rfl) (by kernel_rfl)
theorem c_kTimes_ok : c_kTimes.Ok P := by
  intro x
  dsimp only [c_kTimes]
  split
  · rename_i h
    split at h
    · injection h with h; injection h with h; subst h
      exact kTimes_meets _ _ 
    · cases h
  · rename_i h
    split at h <;> cases h
  · trivial

end Go.Proofs.YtpeekgekmjldlaaDoor
