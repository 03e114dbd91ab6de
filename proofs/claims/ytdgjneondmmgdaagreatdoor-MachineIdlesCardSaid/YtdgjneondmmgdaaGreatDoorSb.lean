/- The machine, told of a number of pCPUs. -/
import Derived.Test.YtdgjneondmmgdaaGreatDoorSa
import Derived.Test.YtdgjneondmmgdaaGreatDoorKa
set_option linter.unusedSimpArgs false
set_option linter.unusedVariables false
namespace Go.Proofs.YtdgjneondmmgdaaGreatDoor
open Go.Fw
set_option maxRecDepth 100000
set_option linter.unusedVariables false
set_option linter.unusedSimpArgs false
/-- Without the second and third cell of the first argument. -/
def cut2 (x : V) : V :=
  match x with
  | .cons (.agg (.cons a (.cons _ (.cons _ r)))) t => .cons (.agg (.cons a r)) t
  | v => v
/-- As a family's contract, but that these two cells are told as they are. -/
def ansC (f : Fam) (s1 s2 : V) (x : V) : Option Ans :=
  match x with
  | .cons (.agg (.cons a (.cons v1 (.cons v2 r)))) t => parI f.ps x fun l => matchV none (.cons (.agg (.cons a r)) t) (cut2 (f.fam l)) (f.pre l) fun p => some (.where_ (v1 = s1 ∧ v2 = s2 ∧ p) (f.res l))
  | _ => none
theorem ansC_ok {P : Program} {g : FuncId} {f : Fam} {s1 s2 : V} (h : f.Ok P g) (hf : ∀ l, ∃ a r t, f.fam l = .cons (.agg (.cons a (.cons s1 (.cons s2 r)))) t) (h1 : shapeV s1 s1 = true ∧ eqP s1 s1) (h2 : shapeV s2 s2 = true ∧ eqP s2 s2) {x : V} {a : Ans} (ha : ansC f s1 s2 x = some a) : ∃ p v, a = .where_ p v ∧ (p → Meets P g x v) := by
  unfold ansC at ha
  split at ha
  · rename_i a0 v1 v2 r t
    obtain ⟨l, hl⟩ := parI_some _ _ _ ha
    obtain ⟨a', r', t', he⟩ := hf l
    rw [he] at hl
    rcases matchV_ok (bad := none) (.cons (.agg (.cons a0 r)) t) (cut2 (.cons (.agg (.cons a' (.cons s1 (.cons s2 r')))) t')) (f.pre l) (fun p => some (Ans.where_ (v1 = s1 ∧ v2 = s2 ∧ p) (f.res l))) with k1 | ⟨hs, p, k1, k2⟩
    · rw [k1] at hl; cases hl
    · rw [k1] at hl
      injection hl with hl
      refine ⟨_, _, hl.symm, fun hp => ?_⟩
      obtain ⟨rfl, rfl, hp⟩ := hp
      obtain ⟨k3, k4⟩ := k2 hp
      have hm := h l k4
      rw [he] at hm
      have hs' : shapeV (.cons (.agg (.cons a0 (.cons v1 (.cons v2 r)))) t) (.cons (.agg (.cons a' (.cons v1 (.cons v2 r')))) t') = true := by
        simp only [cut2, shapeV, Bool.and_eq_true] at hs ⊢
        exact ⟨⟨hs.1.1, h1.1, h2.1, hs.1.2⟩, hs.2⟩
      have he' : eqP (.cons (.agg (.cons a0 (.cons v1 (.cons v2 r)))) t) (.cons (.agg (.cons a' (.cons v1 (.cons v2 r')))) t') := by
        simp only [cut2, eqP] at k3 ⊢
        exact ⟨⟨k3.1.1, h1.2, h2.2, k3.1.2⟩, k3.2⟩
      exact ⟨hm.1, fun F w xs q1 q2 q3 => hm.2 F w xs q1 q2 ((shapeV_R _ _ hs' he' 0 _).2 _ q3)⟩
  · cases ha
def findC (s1 s2 : V) : List Fam → V → Option Ans
  | [], _ => none
  | f :: l, x => match ansC f s1 s2 x with
    | some a => some a
    | none => findC s1 s2 l x
def famConC (g : FuncId) (s1 s2 : V) (fs : List Fam) : Con := { g, al := true, ans := findC s1 s2 fs }
def AllFamC (P : Program) (g : FuncId) (s1 s2 : V) : List Fam → Prop
  | [] => True
  | f :: l => (f.Ok P g ∧ ∀ l, ∃ a r t, f.fam l = .cons (.agg (.cons a (.cons s1 (.cons s2 r)))) t) ∧ AllFamC P g s1 s2 l
theorem famConC_ok {P : Program} {g : FuncId} {s1 s2 : V} (h1 : shapeV s1 s1 = true ∧ eqP s1 s1) (h2 : shapeV s2 s2 = true ∧ eqP s2 s2) : ∀ {fs : List Fam}, AllFamC P g s1 s2 fs → (famConC g s1 s2 fs).Ok P := by
  intro fs
  induction fs with
  | nil => intro _ x; exact trivial
  | cons f l ih =>
    intro h x
    have h3 := ih h.2 x
    show match findC s1 s2 (f :: l) x with
      | some (.sure v) => Meets P g x v
      | some (.where_ p v) => p → Meets P g x v
      | some (.fork b v v') => (b = true → Meets P g x v) ∧ (b = false → Meets P g x v')
      | none => True
    unfold findC
    cases ha : ansC f s1 s2 x with
    | none => exact h3
    | some a =>
      obtain ⟨p, v, rfl, hp⟩ := ansC_ok h.1.1 h.1.2 h1 h2 ha
      exact hp
theorem seats_self (c : Nat) : shapeV (seatsV c) (seatsV c) = true ∧ eqP (seatsV c) (seatsV c) := by
  unfold seatsV
  simp only [shapeV, eqP]
  refine ⟨?_, ?_⟩
  · simp only [Bool.and_eq_true]
    exact ⟨⟨by decide, by simp⟩, allN_of fun j _ => by simp [sameK, sameI]⟩
  · have : ∀ k : Nat, allP k fun j => True ∧ True ∧ True := by
      intro k
      induction k with
      | zero => trivial
      | succ k ih => exact ⟨ih, trivial, trivial, trivial⟩
    exact this c
theorem sets_self (c : Nat) : shapeV (setsV c) (setsV c) = true ∧ eqP (setsV c) (setsV c) := by
  unfold setsV
  simp only [shapeV, eqP]
  refine ⟨?_, trivial, trivial, trivial⟩
  simp only [Bool.and_eq_true]
  exact ⟨⟨by decide, by decide⟩, allN_of fun j _ => by simp [sameK, sameI]⟩
noncomputable def t_do (c : Nat) : Con := famConC 10 (seatsV c) (setsV c) [f_do0 c, f_do1 c, f_do2 c, f_do4 c]
noncomputable def t_ran (c : Nat) : Con := famConC 8 (seatsV c) (setsV c) [f_ran c]
noncomputable def t_flat (c : Nat) : Con := { g := 7, al := true, ans := fun x => match x with
  | .cons (.int _ .i64 n) .nil => some (.where_ (n = (c : Int)) (.agg (.cons (seatsV c) .nil)))
  | _ => none }
noncomputable def t_new (c : Nat) : Con := { g := 9, al := true, ans := fun x => match x with
  | .cons (.agg (.cons v .nil)) .nil => some (.where_ (v = seatsV c) (.tup (.cons (.agg (maC0 c)) (.cons (.int true .i64 0) .nil))))
  | _ => none }
end Go.Proofs.YtdgjneondmmgdaaGreatDoor
