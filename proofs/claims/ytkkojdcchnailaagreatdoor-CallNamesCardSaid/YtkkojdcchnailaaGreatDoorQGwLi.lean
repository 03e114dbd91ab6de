/- Contracts of calls of literal arguments. -/
import Derived.Test.YtkkojdcchnailaaGreatDoorQGwQ
namespace Go.Fw
def rowsL (l : List V) : Nat → V := fun j => l.getD j .junk
def findL : List (V × V) → V → Option Ans
  | [], _ => none
  | c :: l, x => bif sameV x c.1 then some (.sure c.2) else findL l x
/-- So many calls of one function, each by its arguments. -/
def litCon (g : FuncId) (cs : List (V × V)) : Con := { g, al := true, ans := findL cs }
def AllMeets (P : Program) (g : FuncId) : List (V × V) → Prop
  | [] => True
  | c :: l => Meets P g c.1 c.2 ∧ AllMeets P g l
theorem Meets.args {P : Program} {g : FuncId} {a x v : V} (h : Meets P g a v) (hs : sameV x a = true) : Meets P g x v :=
  ⟨h.1, fun F w xs h1 h2 h3 => h.2 F w xs h1 h2 ((sameV_R _ _ hs 0 _).2 _ h3)⟩
theorem litCon_ok {P : Program} {g : FuncId} : ∀ {cs : List (V × V)}, AllMeets P g cs → (litCon g cs).Ok P := by
  intro cs
  induction cs with
  | nil => intro _ x; exact trivial
  | cons c l ih =>
    intro h x
    have h2 := ih h.2 x
    show match findL (c :: l) x with
      | some (.sure v) => Meets P g x v
      | some (.where_ p v) => p → Meets P g x v
      | none => True
    unfold findL
    cases hs : sameV x c.1
    · exact h2
    · exact h.1.args hs
theorem meets_leaf {E : Env} {gs : List FuncId} (hΓ : Among E gs) (hE : E.Ok) (k : Nat) {g : FuncId} {args v : V} (hhas : Has E.P g) (h : evFnS E gs k g args = .leaf v) (hc : v.soft.clean = true) : Meets E.P g args v := by
  rw [evFnS_eq hΓ] at h
  exact meets hE k hhas h ⟨hc, rfl⟩
end Go.Fw
