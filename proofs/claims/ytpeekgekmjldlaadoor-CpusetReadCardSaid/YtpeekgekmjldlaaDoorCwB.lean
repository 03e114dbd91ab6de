/- Cpuset: the document's Parse. -/
import Derived.Test.YtpeekgekmjldlaaDoorCwA
namespace Go.Proofs.YtpeekgekmjldlaaDoor
open Go.Fw
set_option maxRecDepth 100000
set_option linter.unusedVariables false
/-- The document's Text at what is known. -/
def c_rtl : Con := { g := 36, al := true, ans := fun x => match x with
  | .cons (.int true .u32 (.ofNat n)) .nil => bif Nat.blt n 256 then some (.sure (.str true (txt n))) else none
  | _ => none }
theorem c_rtl_ok : c_rtl.Ok P := by
  intro x
  dsimp only [c_rtl]
  split
  · rename_i v h
    split at h
    · rename_i n
      cases hb : Nat.blt n 256
      · rw [hb] at h; cases h
      · rw [hb] at h
        injection h with h; injection h with h; subst h
        exact rtext_lit (by simpa [Nat.blt_eq] using hb)
    · cases h
  · rename_i p v h
    split at h
    · rename_i n
      cases hb : Nat.blt n 256 <;> rw [hb] at h <;> cases h
    · cases h
  · trivial
noncomputable def enY (l : List Con) : Env := envL P l [] false
theorem enY_ok {l : List Con} (h : AllOk P l) : (enY l).Ok := env_ok hm hn h (ls := []) trivial _
/-- The first set whose text it is. -/
def chT (t : List UInt8) : Nat → Nat → Tree V
  | 0, _ => .leaf (.tup (.cons (.int true .u32 0) (.cons (.bool true false) .nil)))
  | k + 1, i => .node (txt i == t) (.leaf (.tup (.cons (.int true .u32 (Int.ofNat i)) (.cons (.bool true true) .nil)))) (chT t k (i + 1))
def prN (t : List UInt8) : Nat → Nat → Int
  | 0, _ => 0
  | k + 1, i => bif txt i == t then Int.ofNat i else prN t k (i + 1)
def prB (t : List UInt8) : Nat → Nat → Bool
  | 0, _ => false
  | k + 1, i => bif txt i == t then true else prB t k (i + 1)
theorem chT_total (t : List UInt8) : ∀ k i, (chT t k i).total = true := by
  intro k
  induction k with
  | zero => intro i; rfl
  | succ k ih => intro i; show ((Tree.leaf _).total && (chT t k (i + 1)).total) = true; rw [ih]; rfl
theorem chT_clean (t : List UInt8) : ∀ k i, (chT t k i).allClean = true := by
  intro k
  induction k with
  | zero => intro i; rfl
  | succ k ih => intro i; show ((Tree.leaf _).allClean && (chT t k (i + 1)).allClean) = true; rw [ih]; rfl
theorem chT_join (t : List UInt8) : ∀ k i, (chT t k i).join = .tup (.cons (.int false .u32 (prN t k i)) (.cons (.bool false (prB t k i)) .nil)) := by
  intro k
  induction k with
  | zero => intro i; rfl
  | succ k ih => intro i; show mergeOne (txt i == t) (Tree.leaf _).join (chT t k (i + 1)).join = _; rw [ih]; rfl
theorem rparse_tree (t : List UInt8) : evFn (enY [c_rtl]) 600 38 (.cons (.str false t) .nil) = chT t 256 0 := by
  unfold enY
  rw [← evFnS_eq (gs := gsOf [c_rtl]) envL_among]
  kernel_rfl
theorem rparse_meets (t : List UInt8) : Meets P 38 (.cons (.str false t) .nil) (.tup (.cons (.int false .u32 (prN t 256 0)) (.cons (.bool false (prB t 256 0)) .nil))) :=
  meets_tree (T := chT t 256 0) (enY_ok (l := [c_rtl]) ⟨c_rtl_ok, trivial⟩) 600 (g := 38) (Has.of hn Tryd.func38 rfl) (rparse_tree t) ⟨Tree.pre_of_total _ (chT_total _ _ _)⟩ (chT_clean _ _ _) (chT_join _ _ _)
def c_rparse : Con := { g := 38, ans := fun x => match x with
  | .cons (.str _ t) .nil => some (.sure (.tup (.cons (.int false .u32 (prN t 256 0)) (.cons (.bool false (prB t 256 0)) .nil))))
  | _ => none }
theorem c_rparse_ok : c_rparse.Ok P := by
  intro x
  dsimp only [c_rparse]
  split
  · rename_i v h
    split at h
    · rename_i st t
      injection h with h; injection h with h; subst h
      exact Meets.of_soft (args := .cons (.str st t) .nil) (rparse_meets t)
    · cases h
  · rename_i p v h
    split at h <;> cases h
  · trivial
end Go.Proofs.YtpeekgekmjldlaaDoor
