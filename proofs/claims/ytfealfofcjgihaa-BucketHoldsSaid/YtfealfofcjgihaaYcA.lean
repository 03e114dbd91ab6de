/- What functions of the program answer: the evaluator's own account. Written by a program of ours (wip/gen/con.py). -/
import Derived.Test.YtfealfofcjgihaaGase
namespace Go.Proofs.Ytfealfofcjgihaa
open Go.Fw
set_option maxRecDepth 100000
set_option linter.unusedVariables false

/- mainsheet/bucket.Check -/
noncomputable def bCheck_V (a0 : Int) (a1 : Int) : V := (evFn (en []) 400 18 (.cons (.agg (.cons (.int false .i64 a0) (.cons (.int false .i64 a1) .nil))) .nil)).join
noncomputable def bCheck_0 (a0 : Int) (a1 : Int) : Int := ((bCheck_V a0 a1)).toInt
noncomputable def c_bCheck : Con := ⟨18, fun x => match x with
  | (.cons (.agg (.cons (.int false .i64 a0) (.cons (.int false .i64 a1) .nil))) .nil) => some (.sure (.int false .i64 (bCheck_0 a0 a1)))
  | _ => none⟩
theorem bCheck_meets (a0 : Int) (a1 : Int) : Meets P 18 (.cons (.agg (.cons (.int false .i64 a0) (.cons (.int false .i64 a1) .nil))) .nil) (.int false .i64 (bCheck_0 a0 a1)) :=
  meets_total (E := (en [])) (en_ok (l := []) trivial) 400 (g := 18) (args := (.cons (.agg (.cons (.int false .i64 a0) (.cons (.int false .i64 a1) .nil))) .nil)) (v := (.int false .i64 (bCheck_0 a0 a1))) (Has.of hn Try.func18 rfl) (by kernel_rfl) (by kernel_rfl)
theorem c_bCheck_ok : c_bCheck.Ok P := by
  intro x
  dsimp only [c_bCheck]
  split
  · rename_i h
    split at h
    · injection h with h; injection h with h; subst h
      exact bCheck_meets _ _ 
    · cases h
  · rename_i h
    split at h <;> cases h
  · trivial

/- mainsheet/bucket.Dry -/
noncomputable def bDry_V (a0 : Int) (a1 : Int) : V := (evFn (en [c_bCheck]) 400 19 (.cons (.agg (.cons (.int false .i64 a0) (.cons (.int false .i64 a1) .nil))) .nil)).join
noncomputable def bDry_0 (a0 : Int) (a1 : Int) : Bool := ((bDry_V a0 a1)).toBool
noncomputable def c_bDry : Con := ⟨19, fun x => match x with
  | (.cons (.agg (.cons (.int false .i64 a0) (.cons (.int false .i64 a1) .nil))) .nil) => some (.sure (.bool false (bDry_0 a0 a1)))
  | _ => none⟩
theorem bDry_meets (a0 : Int) (a1 : Int) : Meets P 19 (.cons (.agg (.cons (.int false .i64 a0) (.cons (.int false .i64 a1) .nil))) .nil) (.bool false (bDry_0 a0 a1)) :=
  meets_total (E := (en [c_bCheck])) (en_ok (l := [c_bCheck]) ⟨c_bCheck_ok, trivial⟩) 400 (g := 19) (args := (.cons (.agg (.cons (.int false .i64 a0) (.cons (.int false .i64 a1) .nil))) .nil)) (v := (.bool false (bDry_0 a0 a1))) (Has.of hn Try.func19 rfl) (by kernel_rfl) (by kernel_rfl)
theorem c_bDry_ok : c_bDry.Ok P := by
  intro x
  dsimp only [c_bDry]
  split
  · rename_i h
    split at h
    · injection h with h; injection h with h; subst h
      exact bDry_meets _ _ 
    · cases h
  · rename_i h
    split at h <;> cases h
  · trivial

/- mainsheet/bucket.New -/
noncomputable def bNew_V (a : Int) : V := (evFn (en []) 400 27 (.cons (.int false .i64 a) .nil)).join
noncomputable def bNew_0 (a : Int) : Int := (((bNew_V a).at 0).at 0).toInt
noncomputable def bNew_1 (a : Int) : Int := (((bNew_V a).at 0).at 1).toInt
noncomputable def bNew_2 (a : Int) : Int := (((bNew_V a).at 1)).toInt
noncomputable def c_bNew : Con := ⟨27, fun x => match x with
  | (.cons (.int false .i64 a) .nil) => some (.sure (.tup (.cons (.agg (.cons (.int false .i64 (bNew_0 a)) (.cons (.int false .i64 (bNew_1 a)) .nil))) (.cons (.int false .i64 (bNew_2 a)) .nil))))
  | _ => none⟩
theorem bNew_meets (a : Int) : Meets P 27 (.cons (.int false .i64 a) .nil) (.tup (.cons (.agg (.cons (.int false .i64 (bNew_0 a)) (.cons (.int false .i64 (bNew_1 a)) .nil))) (.cons (.int false .i64 (bNew_2 a)) .nil))) :=
  meets_total (E := (en [])) (en_ok (l := []) trivial) 400 (g := 27) (args := (.cons (.int false .i64 a) .nil)) (v := (.tup (.cons (.agg (.cons (.int false .i64 (bNew_0 a)) (.cons (.int false .i64 (bNew_1 a)) .nil))) (.cons (.int false .i64 (bNew_2 a)) .nil)))) (Has.of hn Try.func27 rfl) (by kernel_rfl) (by kernel_rfl)
theorem c_bNew_ok : c_bNew.Ok P := by
  intro x
  dsimp only [c_bNew]
  split
  · rename_i h
    split at h
    · injection h with h; injection h with h; subst h
      exact bNew_meets _ 
    · cases h
  · rename_i h
    split at h <;> cases h
  · trivial

/- mainsheet/bucket.Depth -/
noncomputable def bDepth_V (a0 : Int) (a1 : Int) : V := (evFn (en [c_bCheck]) 400 24 (.cons (.agg (.cons (.int false .i64 a0) (.cons (.int false .i64 a1) .nil))) .nil)).join
noncomputable def bDepth_0 (a0 : Int) (a1 : Int) : Int := ((bDepth_V a0 a1)).toInt
noncomputable def c_bDepth : Con := ⟨24, fun x => match x with
  | (.cons (.agg (.cons (.int false .i64 a0) (.cons (.int false .i64 a1) .nil))) .nil) => some (.sure (.int false .i64 (bDepth_0 a0 a1)))
  | _ => none⟩
theorem bDepth_meets (a0 : Int) (a1 : Int) : Meets P 24 (.cons (.agg (.cons (.int false .i64 a0) (.cons (.int false .i64 a1) .nil))) .nil) (.int false .i64 (bDepth_0 a0 a1)) :=
  meets_total (E := (en [c_bCheck])) (en_ok (l := [c_bCheck]) ⟨c_bCheck_ok, trivial⟩) 400 (g := 24) (args := (.cons (.agg (.cons (.int false .i64 a0) (.cons (.int false .i64 a1) .nil))) .nil)) (v := (.int false .i64 (bDepth_0 a0 a1))) (Has.of hn Try.func24 rfl) (by kernel_rfl) (by kernel_rfl)
theorem c_bDepth_ok : c_bDepth.Ok P := by
  intro x
  dsimp only [c_bDepth]
  split
  · rename_i h
    split at h
    · injection h with h; injection h with h; subst h
      exact bDepth_meets _ _ 
    · cases h
  · rename_i h
    split at h <;> cases h
  · trivial

/- mainsheet/bucket.Pass -/
noncomputable def bPass_V (a0 : Int) (a1 : Int) (b : Int) (c : Int) : V := (evFn (en [c_bCheck, c_bDry]) 400 16 (.cons (.agg (.cons (.int false .i64 a0) (.cons (.int false .i64 a1) .nil))) (.cons (.int false .i64 b) (.cons (.int false .i64 c) .nil)))).join
noncomputable def bPass_0 (a0 : Int) (a1 : Int) (b : Int) (c : Int) : Int := (((bPass_V a0 a1 b c).at 0).at 0).toInt
noncomputable def bPass_1 (a0 : Int) (a1 : Int) (b : Int) (c : Int) : Int := (((bPass_V a0 a1 b c).at 0).at 1).toInt
noncomputable def bPass_2 (a0 : Int) (a1 : Int) (b : Int) (c : Int) : Int := (((bPass_V a0 a1 b c).at 1)).toInt
noncomputable def c_bPass : Con := ⟨16, fun x => match x with
  | (.cons (.agg (.cons (.int false .i64 a0) (.cons (.int false .i64 a1) .nil))) (.cons (.int false .i64 b) (.cons (.int false .i64 c) .nil))) => some (.sure (.tup (.cons (.agg (.cons (.int false .i64 (bPass_0 a0 a1 b c)) (.cons (.int false .i64 (bPass_1 a0 a1 b c)) .nil))) (.cons (.int false .i64 (bPass_2 a0 a1 b c)) .nil))))
  | _ => none⟩
theorem bPass_meets (a0 : Int) (a1 : Int) (b : Int) (c : Int) : Meets P 16 (.cons (.agg (.cons (.int false .i64 a0) (.cons (.int false .i64 a1) .nil))) (.cons (.int false .i64 b) (.cons (.int false .i64 c) .nil))) (.tup (.cons (.agg (.cons (.int false .i64 (bPass_0 a0 a1 b c)) (.cons (.int false .i64 (bPass_1 a0 a1 b c)) .nil))) (.cons (.int false .i64 (bPass_2 a0 a1 b c)) .nil))) :=
  meets_total (E := (en [c_bCheck, c_bDry])) (en_ok (l := [c_bCheck, c_bDry]) ⟨c_bCheck_ok, c_bDry_ok, trivial⟩) 400 (g := 16) (args := (.cons (.agg (.cons (.int false .i64 a0) (.cons (.int false .i64 a1) .nil))) (.cons (.int false .i64 b) (.cons (.int false .i64 c) .nil)))) (v := (.tup (.cons (.agg (.cons (.int false .i64 (bPass_0 a0 a1 b c)) (.cons (.int false .i64 (bPass_1 a0 a1 b c)) .nil))) (.cons (.int false .i64 (bPass_2 a0 a1 b c)) .nil)))) (Has.of hn Try.func16 rfl) (by kernel_rfl) (by kernel_rfl)
theorem c_bPass_ok : c_bPass.Ok P := by
  intro x
  dsimp only [c_bPass]
  split
  · rename_i h
    split at h
    · injection h with h; injection h with h; subst h
      exact bPass_meets _ _ _ _ 
    · cases h
  · rename_i h
    split at h <;> cases h
  · trivial

/- mainsheet/bucket.Change -/
noncomputable def bChange_V (a0 : Int) (a1 : Int) (b : Int) : V := (evFn (en [c_bCheck, c_bNew]) 400 22 (.cons (.agg (.cons (.int false .i64 a0) (.cons (.int false .i64 a1) .nil))) (.cons (.int false .i64 b) .nil))).join
noncomputable def bChange_0 (a0 : Int) (a1 : Int) (b : Int) : Int := (((bChange_V a0 a1 b).at 0).at 0).toInt
noncomputable def bChange_1 (a0 : Int) (a1 : Int) (b : Int) : Int := (((bChange_V a0 a1 b).at 0).at 1).toInt
noncomputable def bChange_2 (a0 : Int) (a1 : Int) (b : Int) : Int := (((bChange_V a0 a1 b).at 1)).toInt
noncomputable def c_bChange : Con := ⟨22, fun x => match x with
  | (.cons (.agg (.cons (.int false .i64 a0) (.cons (.int false .i64 a1) .nil))) (.cons (.int false .i64 b) .nil)) => some (.sure (.tup (.cons (.agg (.cons (.int false .i64 (bChange_0 a0 a1 b)) (.cons (.int false .i64 (bChange_1 a0 a1 b)) .nil))) (.cons (.int false .i64 (bChange_2 a0 a1 b)) .nil))))
  | _ => none⟩
theorem bChange_meets (a0 : Int) (a1 : Int) (b : Int) : Meets P 22 (.cons (.agg (.cons (.int false .i64 a0) (.cons (.int false .i64 a1) .nil))) (.cons (.int false .i64 b) .nil)) (.tup (.cons (.agg (.cons (.int false .i64 (bChange_0 a0 a1 b)) (.cons (.int false .i64 (bChange_1 a0 a1 b)) .nil))) (.cons (.int false .i64 (bChange_2 a0 a1 b)) .nil))) :=
  meets_total (E := (en [c_bCheck, c_bNew])) (en_ok (l := [c_bCheck, c_bNew]) ⟨c_bCheck_ok, c_bNew_ok, trivial⟩) 400 (g := 22) (args := (.cons (.agg (.cons (.int false .i64 a0) (.cons (.int false .i64 a1) .nil))) (.cons (.int false .i64 b) .nil))) (v := (.tup (.cons (.agg (.cons (.int false .i64 (bChange_0 a0 a1 b)) (.cons (.int false .i64 (bChange_1 a0 a1 b)) .nil))) (.cons (.int false .i64 (bChange_2 a0 a1 b)) .nil)))) (Has.of hn Try.func22 rfl) (by kernel_rfl) (by kernel_rfl)
theorem c_bChange_ok : c_bChange.Ok P := by
  intro x
  dsimp only [c_bChange]
  split
  · rename_i h
    split at h
    · injection h with h; injection h with h; subst h
      exact bChange_meets _ _ _ 
    · cases h
  · rename_i h
    split at h <;> cases h
  · trivial

/- mainsheet/bucket.Bound -/
noncomputable def bBound_V (a : Int) (b : Int) (c : Int) (d : Int) : V := (evFn (en []) 400 20 (.cons (.int false .i64 a) (.cons (.int false .i64 b) (.cons (.int false .i64 c) (.cons (.int false .i64 d) .nil))))).join
noncomputable def bBound_0 (a : Int) (b : Int) (c : Int) (d : Int) : Int := (((bBound_V a b c d).at 0)).toInt
noncomputable def bBound_1 (a : Int) (b : Int) (c : Int) (d : Int) : Int := (((bBound_V a b c d).at 1)).toInt
noncomputable def c_bBound : Con := ⟨20, fun x => match x with
  | (.cons (.int false .i64 a) (.cons (.int false .i64 b) (.cons (.int false .i64 c) (.cons (.int false .i64 d) .nil)))) => some (.sure (.tup (.cons (.int false .i64 (bBound_0 a b c d)) (.cons (.int false .i64 (bBound_1 a b c d)) .nil))))
  | _ => none⟩
theorem bBound_meets (a : Int) (b : Int) (c : Int) (d : Int) : Meets P 20 (.cons (.int false .i64 a) (.cons (.int false .i64 b) (.cons (.int false .i64 c) (.cons (.int false .i64 d) .nil)))) (.tup (.cons (.int false .i64 (bBound_0 a b c d)) (.cons (.int false .i64 (bBound_1 a b c d)) .nil))) :=
  meets_total (E := (en [])) (en_ok (l := []) trivial) 400 (g := 20) (args := (.cons (.int false .i64 a) (.cons (.int false .i64 b) (.cons (.int false .i64 c) (.cons (.int false .i64 d) .nil))))) (v := (.tup (.cons (.int false .i64 (bBound_0 a b c d)) (.cons (.int false .i64 (bBound_1 a b c d)) .nil)))) (Has.of hn Try.func20 rfl) (by kernel_rfl) (by kernel_rfl)
theorem c_bBound_ok : c_bBound.Ok P := by
  intro x
  dsimp only [c_bBound]
  split
  · rename_i h
    split at h
    · injection h with h; injection h with h; subst h
      exact bBound_meets _ _ _ _ 
    · cases h
  · rename_i h
    split at h <;> cases h
  · trivial

end Go.Proofs.Ytfealfofcjgihaa
