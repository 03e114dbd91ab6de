/- What functions of the program answer: the evaluator's own account. Written by a program of ours (wip/gen/con.py). -/
import Derived.Test.YtkkojdcchnailaaGreatDoorGase
namespace Go.Fw
def V.toStr : V → List UInt8
  | .str _ s => s
  | _ => []
end Go.Fw
namespace Go.Proofs.YtkkojdcchnailaaGreatDoor
open Go.Fw
set_option maxRecDepth 100000
set_option linter.unusedVariables false

/- mainsheet/live.Name -/
noncomputable def lname_V (a : Int) : V := (evFn (en []) 400 6 (.cons (.int false .i64 a) .nil)).join
noncomputable def lname_0 (a : Int) : List UInt8 := ((lname_V a)).toStr
noncomputable def c_lname : Con := { g := 6, ans := fun x => match x with
  | (.cons (.int false .i64 a) .nil) => some (.sure (.str false (lname_0 a)))
  | _ => none }
noncomputable def lname_T (a : Int) : Tree V := evFn (en []) 400 6 (.cons (.int false .i64 a) .nil)
theorem lname_pre (a : Int) : (lname_T a).Pre := by
  constructor
  have e : Tree.pre (lname_T a) = (((bif bif decide (a < (0 : Int)) then true else decide (a ≥ (11 : Int)) then true else false) = true → True) ∧
  ((bif bif decide (a < (0 : Int)) then true else decide (a ≥ (11 : Int)) then true else false) = false →
    ((0 : Int) ≤ a ∧ a < ((11 : Nat) : Int)) ∧ True)) := by kernel_rfl
  rw [e]; clear e
  grind
theorem lname_meets (a : Int) : Meets P 6 (.cons (.int false .i64 a) .nil) (.str false (lname_0 a)) :=
  meets_tree (T := lname_T a) (en_ok (l := []) trivial) 400 (Has.of hn Tryz.func6 rfl) (by kernel_rfl) (lname_pre a) (by kernel_rfl) (by kernel_rfl)
theorem c_lname_ok : c_lname.Ok P := by
  intro x
  dsimp only [c_lname]
  split
  · rename_i h
    split at h
    · injection h with h; injection h with h; subst h
      exact lname_meets _ 
    · cases h
  · rename_i h
    split at h <;> cases h
  · trivial

/- mainsheet/mainsheetref24.Name -/
noncomputable def rname_V (a : Int) : V := (evFn (en []) 400 7 (.cons (.int false .i64 a) .nil)).join
noncomputable def rname_0 (a : Int) : List UInt8 := ((rname_V a)).toStr
noncomputable def c_rname : Con := { g := 7, ans := fun x => match x with
  | (.cons (.int false .i64 a) .nil) => some (.sure (.str false (rname_0 a)))
  | _ => none }
noncomputable def rname_T (a : Int) : Tree V := evFn (en []) 400 7 (.cons (.int false .i64 a) .nil)
theorem rname_pre (a : Int) : (rname_T a).Pre := by
  constructor
  have e : Tree.pre (rname_T a) = (((bif bif decide (a < (1 : Int)) then true else decide (a > (10 : Int)) then true else false) = true → True) ∧
  ((bif bif decide (a < (1 : Int)) then true else decide (a > (10 : Int)) then true else false) = false →
    ((0 : Int) ≤ IntKind.wrap IntKind.i64 (a - (1 : Int)) ∧ IntKind.wrap IntKind.i64 (a - (1 : Int)) < ((10 : Nat) : Int)) ∧
      True)) := by kernel_rfl
  rw [e]; clear e
  refine ⟨fun _ => trivial, fun h => ?_⟩
  have h1 : 1 ≤ a ∧ a ≤ 10 := by grind
  rw [IntWalk.i64_in (a - 1) ⟨by omega, by omega⟩]
  exact ⟨⟨by omega, by omega⟩, trivial⟩
theorem rname_meets (a : Int) : Meets P 7 (.cons (.int false .i64 a) .nil) (.str false (rname_0 a)) :=
  meets_tree (T := rname_T a) (en_ok (l := []) trivial) 400 (Has.of hn Tryz.func7 rfl) (by kernel_rfl) (rname_pre a) (by kernel_rfl) (by kernel_rfl)
theorem c_rname_ok : c_rname.Ok P := by
  intro x
  dsimp only [c_rname]
  split
  · rename_i h
    split at h
    · injection h with h; injection h with h; subst h
      exact rname_meets _ 
    · cases h
  · rename_i h
    split at h <;> cases h
  · trivial

/- mainsheet/live.Kind -/
noncomputable def lkind_V (a : List UInt8) : V := (evFn (en []) 400 8 (.cons (.str false a) .nil)).join
noncomputable def lkind_0 (a : List UInt8) : Int := (((lkind_V a).at 0)).toInt
noncomputable def lkind_1 (a : List UInt8) : Bool := (((lkind_V a).at 1)).toBool
noncomputable def c_lkind : Con := { g := 8, ans := fun x => match x with
  | (.cons (.str false a) .nil) => some (.sure (.tup (.cons (.int false .i64 (lkind_0 a)) (.cons (.bool false (lkind_1 a)) .nil))))
  | _ => none }
theorem lkind_meets (a : List UInt8) : Meets P 8 (.cons (.str false a) .nil) (.tup (.cons (.int false .i64 (lkind_0 a)) (.cons (.bool false (lkind_1 a)) .nil))) :=
  meets_total (E := (en [])) (en_ok (l := []) trivial) 400 (g := 8) (args := (.cons (.str false a) .nil)) (v := (.tup (.cons (.int false .i64 (lkind_0 a)) (.cons (.bool false (lkind_1 a)) .nil)))) (Has.of hn Tryz.func8 rfl) (by kernel_rfl) (by kernel_rfl)
theorem c_lkind_ok : c_lkind.Ok P := by
  intro x
  dsimp only [c_lkind]
  split
  · rename_i h
    split at h
    · injection h with h; injection h with h; subst h
      exact lkind_meets _ 
    · cases h
  · rename_i h
    split at h <;> cases h
  · trivial

end Go.Proofs.YtkkojdcchnailaaGreatDoor
