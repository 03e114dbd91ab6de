/- Cases below a bound, by the evaluator that is laid out for the kernel. -/
import Derived.Test.YtkkojdcchnailaaGreatDoorQGwY
import Derived.Test.YtkkojdcchnailaaGreatDoorQGwZ
namespace Go.Fw

def gsOf : List Con → List FuncId
  | [] => []
  | c :: l => c.g :: gsOf l
theorem among_look : ∀ (l : List Con) (g : FuncId) (args : V), among (gsOf l) g = false → lookG l g args = none := by
  intro l
  induction l with
  | nil => intro g args _; rfl
  | cons c l ih =>
    intro g args h
    have h : (bif Nat.beq g c.g then true else among (gsOf l) g) = false := h
    simp only [lookG]
    cases hb : Nat.beq g c.g
    · rw [hb] at h; exact ih g args h
    · rw [hb] at h; cases h
/-- An environment of such lists. -/
noncomputable abbrev envL (P : Program) (l : List Con) (ls : List Lp) (mg : Bool) : Env := { P, Γ := lookG l, lp := lookL ls, mg }
theorem envL_among {P : Program} {l : List Con} {ls : List Lp} {mg : Bool} : Among (envL P l ls mg) (gsOf l) := fun g args h => among_look l g args h
/-- A loop that is walked from where a variable is pinned. -/
noncomputable def pinGS (E : Env) (gs : List FuncId) (k : Nat) (f : FuncId) (b : Code) (t : Nat) (kd : IntKind) (c : Int) : (B : Base) → St B → Tree (Ex × St B) := fun B s =>
  match s.pinVar t kd c with
  | some (x, s') => .need (x = c) (evS E gs k f (.loop b) B s')
  | none => .stuck
theorem pin_lpS {E : Env} {gs : List FuncId} (hΓ : Among E gs) (hE : E.Ok) (k : Nat) {f : FuncId} {id : Nat} (t : Nat) (kd : IntKind) (c : Int) (h1 : oneLoop E.P f id = true) (hno : loopOf E f (loopAt E.P f id) = none) : Lp.Ok E.P ⟨f, id, pinGS E gs k f (loopAt E.P f id) t kd c⟩ := by
  have e : pinGS E gs k f (loopAt E.P f id) t kd c = pinG E k f (loopAt E.P f id) t kd c := by
    funext B s
    unfold pinGS pinG
    rw [evS_eq hΓ]
    rfl
  rw [e]
  exact pin_lp hE k t kd c h1 hno
/-- What is surely so, of the same shape as what is asked. -/
def Tree.triv {α : Type} : Tree α → Prop
  | .leaf _ => True
  | .node _ t f => t.triv ∧ f.triv
  | .need q t => q = q ∧ t.triv
  | _ => True
theorem Tree.triv_all {α : Type} : ∀ T : Tree α, T.triv := by
  intro T
  induction T with
  | node b t f iht ihf => exact ⟨iht, ihf⟩
  | need p t ih => exact ⟨rfl, ih⟩
  | _ => trivial
/-- For each of so many cases, from a number on. -/
theorem meets_from {P : Program} (o N : Nat) {E : Nat → Env} {gs : List FuncId} (hΓ : ∀ c, Among (E c) gs) (hP : ∀ c, (E c).P = P) (k : Nat) {g : FuncId} {args res : Nat → V} (hhas : Has P g) (p : Nat → Prop)
    (h : (allBelow N fun c => (evFnS (E (o + c)) gs k g (args (o + c))).asksAre (p (o + c)) ∧ ((evFnS (E (o + c)) gs k g (args (o + c))).allClean && sameV (evFnS (E (o + c)) gs k g (args (o + c))).join (res (o + c))) = true) =
      (allBelow N fun c => (evFnS (E (o + c)) gs k g (args (o + c))).triv ∧ true = true)) {c : Nat} (ho : o ≤ c) (hc : c < o + N) (hE : (E c).Ok) (hp : p c) : Meets P g (args c) (res c) := by
  obtain ⟨d, rfl⟩ : ∃ d, c = o + d := ⟨c - o, by omega⟩
  have hd : d < N := by omega
  have h0 : allBelow N fun c => (evFnS (E (o + c)) gs k g (args (o + c))).asksAre (p (o + c)) ∧ ((evFnS (E (o + c)) gs k g (args (o + c))).allClean && sameV (evFnS (E (o + c)) gs k g (args (o + c))).join (res (o + c))) = true := by
    rw [h]; exact allBelow_all fun c _ => ⟨Tree.triv_all _, rfl⟩
  have h1 := allBelow_of h0 d hd
  rw [evFnS_eq (hΓ _)] at h1
  simp only [Bool.and_eq_true] at h1
  have := meets_asks hE k (v := (evFn (E (o + d)) k g (args (o + d))).join) (by rw [hP]; exact hhas) hp h1.1 h1.2.1 rfl
  rw [hP] at this
  exact this.same h1.2.2
/-- What the evaluator says in each of so many cases. -/
theorem trees_from (o N : Nat) {E : Nat → Env} {gs : List FuncId} (hΓ : ∀ c, Among (E c) gs) (k : Nat) {g : FuncId} {args : Nat → V} {T : Nat → Tree V}
    (h : (allBelow N fun c => evFnS (E (o + c)) gs k g (args (o + c)) = T (o + c)) = (allBelow N fun c => T (o + c) = T (o + c))) {c : Nat} (ho : o ≤ c) (hc : c < o + N) : evFn (E c) k g (args c) = T c := by
  obtain ⟨d, rfl⟩ : ∃ d, c = o + d := ⟨c - o, by omega⟩
  have h0 : allBelow N fun c => evFnS (E (o + c)) gs k g (args (o + c)) = T (o + c) := by rw [h]; exact allBelow_all fun _ _ => rfl
  have h1 := allBelow_of h0 d (by omega)
  rw [evFnS_eq (hΓ _)] at h1
  exact h1
/-- The same where nothing is asked. -/
theorem meets_lits {P : Program} (o N : Nat) {E : Nat → Env} {gs : List FuncId} (hΓ : ∀ c, Among (E c) gs) (hP : ∀ c, (E c).P = P) (k : Nat) {g : FuncId} {args res : Nat → V} (hhas : Has P g)
    (h1 : (forBelow N fun c => (evFnS (E (o + c)) gs k g (args (o + c))).total && ((evFnS (E (o + c)) gs k g (args (o + c))).allClean && sameV (evFnS (E (o + c)) gs k g (args (o + c))).join (res (o + c)))) = true) {c : Nat} (ho : o ≤ c) (hc : c < o + N) (hE : (E c).Ok) : Meets P g (args c) (res c) := by
  obtain ⟨d, rfl⟩ : ∃ d, c = o + d := ⟨c - o, by omega⟩
  have h := forBelow_of h1 d (by omega)
  simp only [evFnS_eq (hΓ _), Bool.and_eq_true] at h
  have := meets_join (v := (evFn (E (o + d)) k g (args (o + d))).join) hE k (by rw [hP]; exact hhas) (Tree.pre_of_total _ h.1) h.2.1 rfl
  rw [hP] at this
  exact this.same h.2.2
end Go.Fw
