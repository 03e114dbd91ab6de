/- What functions of the program answer: the evaluator's own account. Written by a program of ours (wip/gen/con.py). -/
import Derived.Test.YtpeekgekmjldlaaDoorGase
namespace Go.Proofs.YtpeekgekmjldlaaDoor
open Go.Fw
set_option maxRecDepth 100000
set_option linter.unusedVariables false

/- mainsheet/clock.Check -/
noncomputable def kCheck_V (a : Int) : V := (evFn (en []) 400 19 (.cons (.int false .i64 a) .nil)).join
noncomputable def kCheck_0 (a : Int) : Int := ((kCheck_V a)).toInt
noncomputable def c_kCheck : Con := ⟨19, fun x => match x with
  | (.cons (.int false .i64 a) .nil) => some (.sure (.int false .i64 (kCheck_0 a)))
  | _ => none⟩
theorem kCheck_meets (a : Int) : Meets P 19 (.cons (.int false .i64 a) .nil) (.int false .i64 (kCheck_0 a)) :=
  meets_total (E := (en [])) (en_ok (l := []) trivial) 400 (g := 19) (args := (.cons (.int false .i64 a) .nil)) (v := (.int false .i64 (kCheck_0 a))) (Has.of hn Tryd.func19 rfl) (by kernel_rfl) (by kernel_rfl)
theorem c_kCheck_ok : c_kCheck.Ok P := by
  intro x
  dsimp only [c_kCheck]
  split
  · rename_i h
    split at h
    · injection h with h; injection h with h; subst h
      exact kCheck_meets _ 
    · cases h
  · rename_i h
    split at h <;> cases h
  · trivial

/- mainsheet/clock.Add -/
noncomputable def kAdd_V (a : Int) (b : Int) : V := (evFn (en []) 400 20 (.cons (.int false .i64 a) (.cons (.int false .i64 b) .nil))).join
noncomputable def kAdd_0 (a : Int) (b : Int) : Int := (((kAdd_V a b).at 0)).toInt
noncomputable def kAdd_1 (a : Int) (b : Int) : Int := (((kAdd_V a b).at 1)).toInt
noncomputable def c_kAdd : Con := ⟨20, fun x => match x with
  | (.cons (.int false .i64 a) (.cons (.int false .i64 b) .nil)) => some (.sure (.tup (.cons (.int false .i64 (kAdd_0 a b)) (.cons (.int false .i64 (kAdd_1 a b)) .nil))))
  | _ => none⟩
theorem kAdd_meets (a : Int) (b : Int) : Meets P 20 (.cons (.int false .i64 a) (.cons (.int false .i64 b) .nil)) (.tup (.cons (.int false .i64 (kAdd_0 a b)) (.cons (.int false .i64 (kAdd_1 a b)) .nil))) :=
  meets_total (E := (en [])) (en_ok (l := []) trivial) 400 (g := 20) (args := (.cons (.int false .i64 a) (.cons (.int false .i64 b) .nil))) (v := (.tup (.cons (.int false .i64 (kAdd_0 a b)) (.cons (.int false .i64 (kAdd_1 a b)) .nil)))) (Has.of hn Tryd.func20 rfl) (by kernel_rfl) (by kernel_rfl)
theorem c_kAdd_ok : c_kAdd.Ok P := by
  intro x
  dsimp only [c_kAdd]
  split
  · rename_i h
    split at h
    · injection h with h; injection h with h; subst h
      exact kAdd_meets _ _ 
    · cases h
  · rename_i h
    split at h <;> cases h
  · trivial

/- mainsheet/clock.Less -/
noncomputable def kLess_V (a : Int) (b : Int) : V := (evFn (en []) 400 21 (.cons (.int false .i64 a) (.cons (.int false .i64 b) .nil))).join
noncomputable def kLess_0 (a : Int) (b : Int) : Int := (((kLess_V a b).at 0)).toInt
noncomputable def kLess_1 (a : Int) (b : Int) : Int := (((kLess_V a b).at 1)).toInt
noncomputable def c_kLess : Con := ⟨21, fun x => match x with
  | (.cons (.int false .i64 a) (.cons (.int false .i64 b) .nil)) => some (.sure (.tup (.cons (.int false .i64 (kLess_0 a b)) (.cons (.int false .i64 (kLess_1 a b)) .nil))))
  | _ => none⟩
theorem kLess_meets (a : Int) (b : Int) : Meets P 21 (.cons (.int false .i64 a) (.cons (.int false .i64 b) .nil)) (.tup (.cons (.int false .i64 (kLess_0 a b)) (.cons (.int false .i64 (kLess_1 a b)) .nil))) :=
  meets_total (E := (en [])) (en_ok (l := []) trivial) 400 (g := 21) (args := (.cons (.int false .i64 a) (.cons (.int false .i64 b) .nil))) (v := (.tup (.cons (.int false .i64 (kLess_0 a b)) (.cons (.int false .i64 (kLess_1 a b)) .nil)))) (Has.of hn Tryd.func21 rfl) (by kernel_rfl) (by kernel_rfl)
theorem c_kLess_ok : c_kLess.Ok P := by
  intro x
  dsimp only [c_kLess]
  split
  · rename_i h
    split at h
    · injection h with h; injection h with h; subst h
      exact kLess_meets _ _ 
    · cases h
  · rename_i h
    split at h <;> cases h
  · trivial

/- mainsheet/clock.Stop -/
noncomputable def kStop_V (a : Int) (b : Int) : V := (evFn (en []) 400 22 (.cons (.int false .i64 a) (.cons (.int false .i64 b) .nil))).join
noncomputable def kStop_0 (a : Int) (b : Int) : Int := (((kStop_V a b).at 0)).toInt
noncomputable def kStop_1 (a : Int) (b : Int) : Int := (((kStop_V a b).at 1)).toInt
noncomputable def c_kStop : Con := ⟨22, fun x => match x with
  | (.cons (.int false .i64 a) (.cons (.int false .i64 b) .nil)) => some (.sure (.tup (.cons (.int false .i64 (kStop_0 a b)) (.cons (.int false .i64 (kStop_1 a b)) .nil))))
  | _ => none⟩
theorem kStop_meets (a : Int) (b : Int) : Meets P 22 (.cons (.int false .i64 a) (.cons (.int false .i64 b) .nil)) (.tup (.cons (.int false .i64 (kStop_0 a b)) (.cons (.int false .i64 (kStop_1 a b)) .nil))) :=
  meets_total (E := (en [])) (en_ok (l := []) trivial) 400 (g := 22) (args := (.cons (.int false .i64 a) (.cons (.int false .i64 b) .nil))) (v := (.tup (.cons (.int false .i64 (kStop_0 a b)) (.cons (.int false .i64 (kStop_1 a b)) .nil)))) (Has.of hn Tryd.func22 rfl) (by kernel_rfl) (by kernel_rfl)
theorem c_kStop_ok : c_kStop.Ok P := by
  intro x
  dsimp only [c_kStop]
  split
  · rename_i h
    split at h
    · injection h with h; injection h with h; subst h
      exact kStop_meets _ _ 
    · cases h
  · rename_i h
    split at h <;> cases h
  · trivial

/- mainsheet/clock.Ago -/
noncomputable def kAgo_V (a : Int) (b : Int) : V := (evFn (en []) 400 23 (.cons (.int false .i64 a) (.cons (.int false .i64 b) .nil))).join
noncomputable def kAgo_0 (a : Int) (b : Int) : Int := (((kAgo_V a b).at 0)).toInt
noncomputable def kAgo_1 (a : Int) (b : Int) : Int := (((kAgo_V a b).at 1)).toInt
noncomputable def c_kAgo : Con := ⟨23, fun x => match x with
  | (.cons (.int false .i64 a) (.cons (.int false .i64 b) .nil)) => some (.sure (.tup (.cons (.int false .i64 (kAgo_0 a b)) (.cons (.int false .i64 (kAgo_1 a b)) .nil))))
  | _ => none⟩
theorem kAgo_meets (a : Int) (b : Int) : Meets P 23 (.cons (.int false .i64 a) (.cons (.int false .i64 b) .nil)) (.tup (.cons (.int false .i64 (kAgo_0 a b)) (.cons (.int false .i64 (kAgo_1 a b)) .nil))) :=
  meets_total (E := (en [])) (en_ok (l := []) trivial) 400 (g := 23) (args := (.cons (.int false .i64 a) (.cons (.int false .i64 b) .nil))) (v := (.tup (.cons (.int false .i64 (kAgo_0 a b)) (.cons (.int false .i64 (kAgo_1 a b)) .nil)))) (Has.of hn Tryd.func23 rfl) (by kernel_rfl) (by kernel_rfl)
theorem c_kAgo_ok : c_kAgo.Ok P := by
  intro x
  dsimp only [c_kAgo]
  split
  · rename_i h
    split at h
    · injection h with h; injection h with h; subst h
      exact kAgo_meets _ _ 
    · cases h
  · rename_i h
    split at h <;> cases h
  · trivial

/- mainsheet/mainsheetref02.Right -/
noncomputable def tRight_V (a : Int) : V := (evFn (en []) 400 18 (.cons (.int false .i64 a) .nil)).join
noncomputable def tRight_0 (a : Int) : Bool := ((tRight_V a)).toBool
noncomputable def c_tRight : Con := ⟨18, fun x => match x with
  | (.cons (.int false .i64 a) .nil) => some (.sure (.bool false (tRight_0 a)))
  | _ => none⟩
theorem tRight_meets (a : Int) : Meets P 18 (.cons (.int false .i64 a) .nil) (.bool false (tRight_0 a)) :=
  meets_total (E := (en [])) (en_ok (l := []) trivial) 400 (g := 18) (args := (.cons (.int false .i64 a) .nil)) (v := (.bool false (tRight_0 a))) (Has.of hn Tryd.func18 rfl) (by kernel_rfl) (by kernel_rfl)
theorem c_tRight_ok : c_tRight.Ok P := by
  intro x
  dsimp only [c_tRight]
  split
  · rename_i h
    split at h
    · injection h with h; injection h with h; subst h
      exact tRight_meets _ 
    · cases h
  · rename_i h
    split at h <;> cases h
  · trivial

/- mainsheet/mainsheetref02.Add -/
noncomputable def tAdd_V (a : Int) (b : Int) : V := (evFn (en []) 400 25 (.cons (.int false .i64 a) (.cons (.int false .i64 b) .nil))).join
noncomputable def tAdd_0 (a : Int) (b : Int) : Int := (((tAdd_V a b).at 0)).toInt
noncomputable def tAdd_1 (a : Int) (b : Int) : Bool := (((tAdd_V a b).at 1)).toBool
noncomputable def c_tAdd : Con := ⟨25, fun x => match x with
  | (.cons (.int false .i64 a) (.cons (.int false .i64 b) .nil)) => some (.sure (.tup (.cons (.int false .i64 (tAdd_0 a b)) (.cons (.bool false (tAdd_1 a b)) .nil))))
  | _ => none⟩
theorem tAdd_meets (a : Int) (b : Int) : Meets P 25 (.cons (.int false .i64 a) (.cons (.int false .i64 b) .nil)) (.tup (.cons (.int false .i64 (tAdd_0 a b)) (.cons (.bool false (tAdd_1 a b)) .nil))) :=
  meets_total (E := (en [])) (en_ok (l := []) trivial) 400 (g := 25) (args := (.cons (.int false .i64 a) (.cons (.int false .i64 b) .nil))) (v := (.tup (.cons (.int false .i64 (tAdd_0 a b)) (.cons (.bool false (tAdd_1 a b)) .nil)))) (Has.of hn Tryd.func25 rfl) (by kernel_rfl) (by kernel_rfl)
theorem c_tAdd_ok : c_tAdd.Ok P := by
  intro x
  dsimp only [c_tAdd]
  split
  · rename_i h
    split at h
    · injection h with h; injection h with h; subst h
      exact tAdd_meets _ _ 
    · cases h
  · rename_i h
    split at h <;> cases h
  · trivial

/- mainsheet/mainsheetref02.Stop -/
noncomputable def tStop_V (a : Int) (b : Int) : V := (evFn (en [c_tAdd]) 400 26 (.cons (.int false .i64 a) (.cons (.int false .i64 b) .nil))).join
noncomputable def tStop_0 (a : Int) (b : Int) : Int := ((tStop_V a b)).toInt
noncomputable def c_tStop : Con := ⟨26, fun x => match x with
  | (.cons (.int false .i64 a) (.cons (.int false .i64 b) .nil)) => some (.sure (.int false .i64 (tStop_0 a b)))
  | _ => none⟩
theorem tStop_meets (a : Int) (b : Int) : Meets P 26 (.cons (.int false .i64 a) (.cons (.int false .i64 b) .nil)) (.int false .i64 (tStop_0 a b)) :=
  meets_total (E := (en [c_tAdd])) (en_ok (l := [c_tAdd]) ⟨c_tAdd_ok, trivial⟩) 400 (g := 26) (args := (.cons (.int false .i64 a) (.cons (.int false .i64 b) .nil))) (v := (.int false .i64 (tStop_0 a b))) (Has.of hn Tryd.func26 rfl) (by kernel_rfl) (by kernel_rfl)
theorem c_tStop_ok : c_tStop.Ok P := by
  intro x
  dsimp only [c_tStop]
  split
  · rename_i h
    split at h
    · injection h with h; injection h with h; subst h
      exact tStop_meets _ _ 
    · cases h
  · rename_i h
    split at h <;> cases h
  · trivial

end Go.Proofs.YtpeekgekmjldlaaDoor
