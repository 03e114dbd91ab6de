/- What functions of the program answer: the evaluator's own account. Written by a program of ours (wip/gen/con.py). -/
import Derived.Test.YtkkojdcchnailaaGreatDoorQGase
import Derived.Test.YtkkojdcchnailaaGreatDoorQGwQ
namespace Go.Fw
def V.toStr : V → List UInt8
  | .str _ s => s
  | _ => []
end Go.Fw
namespace Go.Proofs.YtkkojdcchnailaaGreatDoor
open Go.Fw
set_option maxRecDepth 100000
set_option linter.unusedVariables false

/- mainsheet/call.Name -/
noncomputable def cname_V (a : Int) : V := (evFn (en []) 400 11 (.cons (.int false .i64 a) .nil)).join
noncomputable def cname_0 (a : Int) : List UInt8 := ((cname_V a)).toStr
noncomputable def c_cname : Con := { g := 11, ans := fun x => match x with
  | (.cons (.int false .i64 a) .nil) => some (.sure (.str false (cname_0 a)))
  | _ => none }
noncomputable def cname_T (a : Int) : Tree V := evFn (en []) 400 11 (.cons (.int false .i64 a) .nil)
theorem cname_pre (a : Int) : (cname_T a).Pre := by
  constructor
  have e : Tree.pre (cname_T a) = (((bif bif decide (a < (1 : Int)) then true else decide (a > (20 : Int)) then true else false) = true → True) ∧
  ((bif bif decide (a < (1 : Int)) then true else decide (a > (20 : Int)) then true else false) = false →
    ((0 : Int) ≤ IntKind.wrap IntKind.i64 (a - (1 : Int)) ∧ IntKind.wrap IntKind.i64 (a - (1 : Int)) < ((20 : Nat) : Int)) ∧
      True)) := by kernel_rfl
  rw [e]; clear e
  refine ⟨fun _ => trivial, fun h => ?_⟩
  have h1 : 1 ≤ a ∧ a ≤ 20 := by grind
  rw [IntWalk.i64_in (a - 1) ⟨by omega, by omega⟩]
  exact ⟨⟨by omega, by omega⟩, trivial⟩
theorem cname_meets (a : Int) : Meets P 11 (.cons (.int false .i64 a) .nil) (.str false (cname_0 a)) :=
  meets_tree (T := cname_T a) (en_ok (l := []) trivial) 400 (Has.of hn Tryz.func11 rfl) (by kernel_rfl) (cname_pre a) (by kernel_rfl) (by kernel_rfl)
theorem c_cname_ok : c_cname.Ok P := by
  intro x
  dsimp only [c_cname]
  split
  · rename_i h
    split at h
    · injection h with h; injection h with h; subst h
      exact cname_meets _ 
    · cases h
  · rename_i h
    split at h <;> cases h
  · trivial

/- mainsheet/call.Kind -/
noncomputable def ckind_V (a : List UInt8) : V := (evFn (en []) 400 13 (.cons (.str false a) .nil)).join
noncomputable def ckind_0 (a : List UInt8) : Int := (((ckind_V a).at 0)).toInt
noncomputable def ckind_1 (a : List UInt8) : Bool := (((ckind_V a).at 1)).toBool
noncomputable def c_ckind : Con := { g := 13, ans := fun x => match x with
  | (.cons (.str false a) .nil) => some (.sure (.tup (.cons (.int false .i64 (ckind_0 a)) (.cons (.bool false (ckind_1 a)) .nil))))
  | _ => none }
theorem ckind_meets (a : List UInt8) : Meets P 13 (.cons (.str false a) .nil) (.tup (.cons (.int false .i64 (ckind_0 a)) (.cons (.bool false (ckind_1 a)) .nil))) :=
  meets_total (E := (en [])) (en_ok (l := []) trivial) 400 (g := 13) (args := (.cons (.str false a) .nil)) (v := (.tup (.cons (.int false .i64 (ckind_0 a)) (.cons (.bool false (ckind_1 a)) .nil)))) (Has.of hn Tryz.func13 rfl) (by kernel_rfl) (by kernel_rfl)
theorem c_ckind_ok : c_ckind.Ok P := by
  intro x
  dsimp only [c_ckind]
  split
  · rename_i h
    split at h
    · injection h with h; injection h with h; subst h
      exact ckind_meets _ 
    · cases h
  · rename_i h
    split at h <;> cases h
  · trivial

/-- The names, in their order. -/
def nameAt (j : Nat) : List UInt8 := tab1.getD j []
abbrev rowC : Nat → V := fun j => .cons (.str false (nameAt j)) .nil
theorem names10 : Meets P 10 .nil (.rsl true 1 20 rowC) :=
  (meets_total (E := en []) (en_ok (l := []) trivial) 400 (g := 10) (args := .nil) (v := (evFn (en []) 400 10 .nil).join) (Has.of hn Tryz.func10 rfl) (by kernel_rfl) rfl).same (by kernel_rfl)
noncomputable def c_names : Con := { g := 10, al := true, ans := fun x => match x with
  | .nil => some (.sure (.rsl true 1 20 rowC))
  | _ => none }
theorem c_names_ok : c_names.Ok P := by
  intro x
  dsimp only [c_names]
  split
  · rename_i h
    split at h
    · injection h with h; injection h with h; subst h
      exact names10
    · cases h
  · rename_i h
    split at h <;> cases h
  · trivial
end Go.Proofs.YtkkojdcchnailaaGreatDoor
