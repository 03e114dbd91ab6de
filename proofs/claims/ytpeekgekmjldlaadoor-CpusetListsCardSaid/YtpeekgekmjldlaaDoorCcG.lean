/- Cpuset: contracts of the lists of those in a set. -/
import Derived.Test.YtpeekgekmjldlaaDoorCcD
import Derived.Test.YtpeekgekmjldlaaDoorCcE
namespace Go.Proofs.YtpeekgekmjldlaaDoor
open Go.Fw
set_option maxRecDepth 100000
set_option linter.unusedVariables false
/-- A row of literal numbers. -/
abbrev rowT (l : List Int) : V := .rsl true 1 l.length fun j => .cons (.int true .i64 (l.getD j 0)) .nil
theorem rowT_soft (l : List Int) : (rowT l).soft = (rowL l).soft := rfl
theorem Meets.soften {g : FuncId} {args v v' : V} (h : Meets P g args v) (hv : v.soft = v'.soft) : Meets P g args v' :=
  ⟨h.1, fun F w xs h1 h2 h3 => (h.2 F w xs h1 h2 h3).mono fun _ _ ⟨x, F', e1, e2, e3⟩ => ⟨x, F', e1, e2, ((R_soft v' 0 _).1 x).1 (by rw [← hv]; exact ((R_soft v 0 _).1 x).2 e3)⟩⟩
def c_rlistC (c : Nat) : Con := { g := 54, al := true, ans := fun x => match x with
  | .cons (.int _ .u32 b) .nil => some (.where_ (isLow c b) (rowT (lst c)))
  | _ => none }
theorem c_rlistC_ok (c : Nat) (hc : c < 256) : (c_rlistC c).Ok P := by
  intro x
  dsimp only [c_rlistC]
  split
  · rename_i v h
    split at h <;> cases h
  · rename_i p v h
    split at h
    · rename_i st b
      injection h with h; injection h with h1 h2; subst h1; subst h2
      intro hp
      exact Meets.soften (Meets.of_soft (args := .cons (.int st .u32 b) .nil) (rlist_at b hc hp)) (rowT_soft _).symm
    · cases h
  · trivial
noncomputable abbrev enR (c : Nat) : Env := enM [c_rlistC c, c_vHas]
theorem enR_ok (c : Nat) (hc : c < 256) : (enR c).Ok := enM_ok (l := [c_rlistC c, c_vHas]) ⟨c_rlistC_ok c hc, c_vHas_ok, trivial⟩
/-- Going through a list for one above a number. -/
def chN : List Int → Int → Tree V
  | [], _ => .leaf (.tup (.cons (.int true .i64 0) (.cons (.bool true false) .nil)))
  | i :: l, n => .node (decide (i > n)) (.leaf (.tup (.cons (.int true .i64 i) (.cons (.bool true true) .nil)))) (chN l n)
end Go.Proofs.YtpeekgekmjldlaaDoor
