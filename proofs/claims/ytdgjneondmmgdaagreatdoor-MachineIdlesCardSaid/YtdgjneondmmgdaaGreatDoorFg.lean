/- Cases below a bound, by the evaluator that is laid out for the kernel. Contracts of calls of literal arguments. Contracts of families of calls: literal but for some numbers, which are read off the arguments. -/
import Derived.Test.YtdgjneondmmgdaaGreatDoorFf
set_option linter.unusedSimpArgs false
set_option linter.unusedVariables false
namespace Go.Fw

def gsOf : List Con → List FuncId
  | [] => []
  | c :: l => c.g :: gsOf l
theorem among_look : ∀ (l : List Con) (g : FuncId) (args : V), among (gsOf l) g = false → lookG l g args = none := by
  intro l
  induction l with
  | nil => intro g args _; rfl
  | cons c l ih =>
    intro g args h
    have h : (bif Nat.beq g c.g then true else among (gsOf l) g) = false := h
    simp only [lookG]
    cases hb : Nat.beq g c.g
    · rw [hb] at h; exact ih g args h
    · rw [hb] at h; cases h
/-- An environment of such lists. -/
noncomputable abbrev envL (P : Program) (l : List Con) (ls : List Lp) (mg : Bool) : Env := { P, Γ := lookG l, lp := lookL ls, mg }
theorem envL_among {P : Program} {l : List Con} {ls : List Lp} {mg : Bool} : Among (envL P l ls mg) (gsOf l) := fun g args h => among_look l g args h
/-- A loop that is walked from where a variable is pinned. -/
noncomputable def pinGS (E : Env) (gs : List FuncId) (k : Nat) (f : FuncId) (b : Code) (t : Nat) (kd : IntKind) (c : Int) : (B : Base) → St B → Tree (Ex × St B) := fun B s =>
  match s.pinVar t kd c with
  | some (x, s') => .need (x = c) (evS E gs k f (.loop b) B s')
  | none => .stuck
theorem pin_lpS {E : Env} {gs : List FuncId} (hΓ : Among E gs) (hE : E.Ok) (k : Nat) {f : FuncId} {id : Nat} (t : Nat) (kd : IntKind) (c : Int) (h1 : oneLoop E.P f id = true) (hno : loopOf E f (loopAt E.P f id) = none) : Lp.Ok E.P ⟨f, id, pinGS E gs k f (loopAt E.P f id) t kd c⟩ := by
  have e : pinGS E gs k f (loopAt E.P f id) t kd c = pinG E k f (loopAt E.P f id) t kd c := by
    funext B s
    unfold pinGS pinG
    rw [evS_eq hΓ]
    rfl
  rw [e]
  exact pin_lp hE k t kd c h1 hno
/-- What is surely so, of the same shape as what is asked. -/
def Tree.triv {α : Type} : Tree α → Prop
  | .leaf _ => True
  | .node _ t f => t.triv ∧ f.triv
  | .need q t => q = q ∧ t.triv
  | _ => True
theorem Tree.triv_all {α : Type} : ∀ T : Tree α, T.triv := by
  intro T
  induction T with
  | node b t f iht ihf => exact ⟨iht, ihf⟩
  | need p t ih => exact ⟨rfl, ih⟩
  | _ => trivial
/-- For each of so many cases, from a number on. -/
theorem meets_from {P : Program} (o N : Nat) {E : Nat → Env} {gs : List FuncId} (hΓ : ∀ c, Among (E c) gs) (hP : ∀ c, (E c).P = P) (k : Nat) {g : FuncId} {args res : Nat → V} (hhas : Has P g) (p : Nat → Prop)
    (h : (allBelow N fun c => (evFnS (E (o + c)) gs k g (args (o + c))).asksAre (p (o + c)) ∧ ((evFnS (E (o + c)) gs k g (args (o + c))).allClean && sameV (evFnS (E (o + c)) gs k g (args (o + c))).join (res (o + c))) = true) =
      (allBelow N fun c => (evFnS (E (o + c)) gs k g (args (o + c))).triv ∧ true = true)) {c : Nat} (ho : o ≤ c) (hc : c < o + N) (hE : (E c).Ok) (hp : p c) : Meets P g (args c) (res c) := by
  obtain ⟨d, rfl⟩ : ∃ d, c = o + d := ⟨c - o, by omega⟩
  have hd : d < N := by omega
  have h0 : allBelow N fun c => (evFnS (E (o + c)) gs k g (args (o + c))).asksAre (p (o + c)) ∧ ((evFnS (E (o + c)) gs k g (args (o + c))).allClean && sameV (evFnS (E (o + c)) gs k g (args (o + c))).join (res (o + c))) = true := by
    rw [h]; exact allBelow_all fun c _ => ⟨Tree.triv_all _, rfl⟩
  have h1 := allBelow_of h0 d hd
  rw [evFnS_eq (hΓ _)] at h1
  simp only [Bool.and_eq_true] at h1
  have := meets_asks hE k (v := (evFn (E (o + d)) k g (args (o + d))).join) (by rw [hP]; exact hhas) hp h1.1 h1.2.1 rfl
  rw [hP] at this
  exact this.same h1.2.2
/-- What the evaluator says in each of so many cases. -/
theorem trees_from (o N : Nat) {E : Nat → Env} {gs : List FuncId} (hΓ : ∀ c, Among (E c) gs) (k : Nat) {g : FuncId} {args : Nat → V} {T : Nat → Tree V}
    (h : (allBelow N fun c => evFnS (E (o + c)) gs k g (args (o + c)) = T (o + c)) = (allBelow N fun c => T (o + c) = T (o + c))) {c : Nat} (ho : o ≤ c) (hc : c < o + N) : evFn (E c) k g (args c) = T c := by
  obtain ⟨d, rfl⟩ : ∃ d, c = o + d := ⟨c - o, by omega⟩
  have h0 : allBelow N fun c => evFnS (E (o + c)) gs k g (args (o + c)) = T (o + c) := by rw [h]; exact allBelow_all fun _ _ => rfl
  have h1 := allBelow_of h0 d (by omega)
  rw [evFnS_eq (hΓ _)] at h1
  exact h1
/-- The same where nothing is asked. -/
theorem meets_lits {P : Program} (o N : Nat) {E : Nat → Env} {gs : List FuncId} (hΓ : ∀ c, Among (E c) gs) (hP : ∀ c, (E c).P = P) (k : Nat) {g : FuncId} {args res : Nat → V} (hhas : Has P g)
    (h1 : (forBelow N fun c => (evFnS (E (o + c)) gs k g (args (o + c))).total && ((evFnS (E (o + c)) gs k g (args (o + c))).allClean && sameV (evFnS (E (o + c)) gs k g (args (o + c))).join (res (o + c)))) = true) {c : Nat} (ho : o ≤ c) (hc : c < o + N) (hE : (E c).Ok) : Meets P g (args c) (res c) := by
  obtain ⟨d, rfl⟩ : ∃ d, c = o + d := ⟨c - o, by omega⟩
  have h := forBelow_of h1 d (by omega)
  simp only [evFnS_eq (hΓ _), Bool.and_eq_true] at h
  have := meets_join (v := (evFn (E (o + d)) k g (args (o + d))).join) hE k (by rw [hP]; exact hhas) (Tree.pre_of_total _ h.1) h.2.1 rfl
  rw [hP] at this
  exact this.same h.2.2
end Go.Fw
namespace Go.Fw
def rowsL (l : List V) : Nat → V := fun j => l.getD j .junk
def findL : List (V × V) → V → Option Ans
  | [], _ => none
  | c :: l, x => bif sameV x c.1 then some (.sure c.2) else findL l x
/-- So many calls of one function, each by its arguments. -/
def litCon (g : FuncId) (cs : List (V × V)) : Con := { g, al := true, ans := findL cs }
def AllMeets (P : Program) (g : FuncId) : List (V × V) → Prop
  | [] => True
  | c :: l => Meets P g c.1 c.2 ∧ AllMeets P g l
theorem Meets.args {P : Program} {g : FuncId} {a x v : V} (h : Meets P g a v) (hs : sameV x a = true) : Meets P g x v :=
  ⟨h.1, fun F w xs h1 h2 h3 => h.2 F w xs h1 h2 ((sameV_R _ _ hs 0 _).2 _ h3)⟩
theorem litCon_ok {P : Program} {g : FuncId} : ∀ {cs : List (V × V)}, AllMeets P g cs → (litCon g cs).Ok P := by
  intro cs
  induction cs with
  | nil => intro _ x; exact trivial
  | cons c l ih =>
    intro h x
    have h2 := ih h.2 x
    show match findL (c :: l) x with
      | some (.sure v) => Meets P g x v
      | some (.where_ p v) => p → Meets P g x v
      | some (.fork b v v') => (b = true → Meets P g x v) ∧ (b = false → Meets P g x v')
      | none => True
    unfold findL
    cases hs : sameV x c.1
    · exact h2
    · exact h.1.args hs
theorem meets_leaf {E : Env} {gs : List FuncId} (hΓ : Among E gs) (hE : E.Ok) (k : Nat) {g : FuncId} {args v : V} (hhas : Has E.P g) (h : evFnS E gs k g args = .leaf v) (hc : v.soft.clean = true) : Meets E.P g args v := by
  rw [evFnS_eq hΓ] at h
  exact meets hE k hhas h ⟨hc, rfl⟩
end Go.Fw
namespace Go.Fw

/-- The same but for what the second does not know: there a condition stands instead. -/
def shapeV : V → V → Bool
  | .cons h t, y => match y with | .cons h' t' => shapeV h h' && shapeV t t' | _ => false
  | .nil, y => match y with | .nil => true | _ => false
  | .int st k n, y => match y with
    | .int st' k' n' => match st' with
      | true => st && (sameK k k' && sameI n n')
      | false => sameK k k'
    | _ => false
  | .bool st b, y => match y with
    | .bool st' b' => match st' with
      | true => st && (b == b')
      | false => true
    | _ => false
  | .str st s, y => match y with
    | .str st' s' => match st' with
      | true => st && sameS s s'
      | false => true
    | _ => false
  | .agg cs, y => match y with | .agg cs' => shapeV cs cs' | _ => false
  | .tup cs, y => match y with | .tup cs' => shapeV cs cs' | _ => false
  | .rsl _ es n get, y => match y with
    | .rsl _ es' n' get' => (Nat.beq es es' && Nat.beq n n') && allN n fun j => shapeV (get j) (get' j)
    | _ => false
  | .nilsl, y => match y with | .nilsl => true | .rsl _ _ n _ => Nat.beq n 0 | _ => false
  | .esl nn es, y => match y with
    | .rsl _ es' n _ => Nat.beq n 0 && Nat.beq es es'
    | .esl nn' es' => (nn || !nn') && Nat.beq es es'
    | _ => false
  | .nilptr, y => match y with | .nilptr => true | _ => false
  | .nilmap, y => match y with | .nilmap => true | _ => false
  | .nilif, y => match y with | .nilif => true | _ => false
  | _, _ => false
def allP : Nat → (Nat → Prop) → Prop
  | 0, _ => True
  | k + 1, f => allP k f ∧ f k
/-- The condition. -/
def eqP : V → V → Prop
  | .cons h t, y => match y with | .cons h' t' => eqP h h' ∧ eqP t t' | _ => False
  | .nil, _ => True
  | .int _ _ n, y => match y with
    | .int st' _ n' => match st' with
      | true => True
      | false => n = n'
    | _ => False
  | .bool _ b, y => match y with
    | .bool st' b' => match st' with
      | true => True
      | false => b = b'
    | _ => False
  | .str _ s, y => match y with
    | .str st' s' => match st' with
      | true => True
      | false => s = s'
    | _ => False
  | .agg cs, y => match y with | .agg cs' => eqP cs cs' | _ => False
  | .tup cs, y => match y with | .tup cs' => eqP cs cs' | _ => False
  | .rsl _ _ n get, y => match y with
    | .rsl _ _ _ get' => allP n fun j => eqP (get j) (get' j)
    | _ => False
  | _, _ => True
theorem allP_all {f : Nat → Prop} : ∀ {k : Nat}, allP k f → ∀ j, j < k → f j := by
  intro k
  induction k with
  | zero => intro _ j hj; omega
  | succ k ih =>
    intro h j hj
    by_cases e : j = k
    · subst e; exact h.2
    · exact ih h.1 j (by omega)
theorem shapeV_R {F : Nat → Prop} {w : World} : ∀ (v v' : V), shapeV v v' = true → eqP v v' → ∀ (n : Nat) (m : Nat → Option Nat), (∀ x, R F w v n m x → R F w v' n m x) ∧ (∀ xs, RL F w v n m xs → RL F w v' n m xs) := by
  intro v
  induction v with
  | cons h t ih1 ih2 =>
    intro v' hs he n m
    cases v' <;> simp only [shapeV] at hs <;> try (cases hs; done)
    simp only [eqP] at he
    simp only [Bool.and_eq_true] at hs
    refine ⟨fun x h => by simp only [R] at h, fun xs h => ?_⟩
    simp only [RL] at h ⊢
    obtain ⟨x, r, rfl, h1, h2⟩ := h
    exact ⟨x, r, rfl, (ih1 _ hs.1 he.1 n m).1 _ h1, (ih2 _ hs.2 he.2 n m).2 _ h2⟩
  | nil =>
    intro v' hs he n m
    cases v' <;> simp only [shapeV] at hs <;> try (cases hs; done)
    exact ⟨fun _ h => h, fun _ h => h⟩
  | int st k q =>
    intro v' hs he n m
    cases v' <;> simp only [shapeV] at hs <;> try (cases hs; done)
    rename_i st' k' q'
    have : k = k' ∧ q = q' := by
      cases st' with
      | true =>
        simp only [Bool.and_eq_true, sameK, sameI, decide_eq_true_eq] at hs
        exact hs.2
      | false =>
        simp only [sameK, decide_eq_true_eq] at hs
        simp only [eqP] at he
        exact ⟨hs, he⟩
    obtain ⟨rfl, rfl⟩ := this
    exact ⟨fun x h => by simp only [R] at h ⊢; exact h, fun xs h => by simp only [RL] at h⟩
  | bool st b =>
    intro v' hs he n m
    cases v' <;> simp only [shapeV] at hs <;> try (cases hs; done)
    rename_i st' b'
    have : b = b' := by
      cases st' with
      | true => simp only [Bool.and_eq_true] at hs; exact eq_of_beq hs.2
      | false => simp only [eqP] at he; exact he
    obtain rfl := this
    exact ⟨fun x h => by simp only [R] at h ⊢; exact h, fun xs h => by simp only [RL] at h⟩
  | str st s =>
    intro v' hs he n m
    cases v' <;> simp only [shapeV] at hs <;> try (cases hs; done)
    rename_i st' s'
    have : s = s' := by
      cases st' with
      | true => simp only [Bool.and_eq_true] at hs; exact sameS_eq _ _ hs.2
      | false => simp only [eqP] at he; exact he
    obtain rfl := this
    exact ⟨fun x h => by simp only [R] at h ⊢; exact h, fun xs h => by simp only [RL] at h⟩
  | agg cs ih =>
    intro v' hs he n m
    cases v' <;> simp only [shapeV] at hs <;> try (cases hs; done)
    simp only [eqP] at he
    refine ⟨fun x h => ?_, fun xs h => by simp only [RL] at h⟩
    simp only [R] at h ⊢
    obtain ⟨xs, rfl, h1⟩ := h
    exact ⟨xs, rfl, (ih _ hs he n m).2 _ h1⟩
  | tup cs ih =>
    intro v' hs he n m
    cases v' <;> simp only [shapeV] at hs <;> try (cases hs; done)
    simp only [eqP] at he
    refine ⟨fun x h => ?_, fun xs h => by simp only [RL] at h⟩
    simp only [R] at h ⊢
    obtain ⟨xs, rfl, h1⟩ := h
    exact ⟨xs, rfl, (ih _ hs he n m).2 _ h1⟩
  | rsl st es k get ih =>
    intro v' hs hq n m
    cases v' <;> simp only [shapeV] at hs <;> try (cases hs; done)
    simp only [eqP] at hq
    simp only [Bool.and_eq_true] at hs
    obtain ⟨⟨he, hk⟩, hall⟩ := hs
    obtain rfl := Nat.eq_of_beq_eq_true he
    obtain rfl := Nat.eq_of_beq_eq_true hk
    refine ⟨fun x h => ?_, fun xs h => by simp only [RL] at h⟩
    simp only [R] at h ⊢
    obtain ⟨a, cap, rfl, hkc, h⟩ := h
    refine ⟨a, cap, rfl, hkc, h.imp id ?_⟩
    rintro ⟨B, off, rfl, hF, c, el, fr, hc, hr⟩
    refine ⟨B, off, rfl, hF, c, el, fr, hc, fun j hj => ?_⟩
    obtain ⟨xs, h1, h2, h3⟩ := hr j hj
    exact ⟨xs, (ih j _ (allN_all hall j hj) (allP_all hq j hj) 0 _).2 _ h1, h2, h3⟩
  | nilsl =>
    intro v' hs he n m
    refine ⟨fun x h => ?_, fun xs h => by simp only [RL] at h⟩
    cases v' <;> simp only [shapeV] at hs <;> try (cases hs; done)
    · obtain rfl := Nat.eq_of_beq_eq_true hs
      simp only [R] at h ⊢
      exact ⟨none, 0, h, Nat.le_refl _, .inl trivial⟩
    · exact h
  | esl nn es =>
    intro v' hs he n m
    refine ⟨fun x h => ?_, fun xs h => by simp only [RL] at h⟩
    cases v' <;> simp only [shapeV] at hs <;> try (cases hs; done)
    · simp only [Bool.and_eq_true] at hs
      obtain rfl := Nat.eq_of_beq_eq_true hs.1
      obtain rfl := Nat.eq_of_beq_eq_true hs.2
      simp only [R] at h ⊢
      obtain ⟨a, rfl, _⟩ := h
      exact ⟨a, 0, rfl, Nat.le_refl _, .inl trivial⟩
    · rename_i nn' es'
      simp only [Bool.and_eq_true] at hs
      simp only [R] at h ⊢
      obtain ⟨a, rfl, h1⟩ := h
      refine ⟨a, rfl, fun h2 => h1 ?_⟩
      subst h2
      simpa using hs.1
  | nilptr => intro v' hs he n m; cases v' <;> simp only [shapeV] at hs <;> first | (cases hs; done) | exact ⟨fun _ h => h, fun _ h => h⟩
  | nilmap => intro v' hs he n m; cases v' <;> simp only [shapeV] at hs <;> first | (cases hs; done) | exact ⟨fun _ h => h, fun _ h => h⟩
  | nilif => intro v' hs he n m; cases v' <;> simp only [shapeV] at hs <;> first | (cases hs; done) | exact ⟨fun _ h => h, fun _ h => h⟩
  | _ => intro v' hs; simp only [shapeV] at hs; cases hs

/-- Both at once, by what is done with the condition: so the kernel builds it as it goes. -/
def matchN {β : Type} : Nat → (Nat → Prop → (Prop → β) → β) → Prop → (Prop → β) → β
  | 0, _, a, k => k a
  | j + 1, f, a, k => matchN j f a fun a => f j a k
def matchV {β : Type} (bad : β) : V → V → Prop → (Prop → β) → β
  | .cons h t, y, a, k => match y with | .cons h' t' => matchV bad t t' a fun a => matchV bad h h' a k | _ => bad
  | .nil, y, a, k => match y with | .nil => k a | _ => bad
  | .int st kd n, y, a, k => match y with
    | .int st' kd' n' => match st' with
      | true => bif st && (sameK kd kd' && sameI n n') then k a else bad
      | false => bif sameK kd kd' then k (n = n' ∧ a) else bad
    | _ => bad
  | .bool st b, y, a, k => match y with
    | .bool st' b' => match st' with
      | true => bif st && (b == b') then k a else bad
      | false => k (b = b' ∧ a)
    | _ => bad
  | .str st s, y, a, k => match y with
    | .str st' s' => match st' with
      | true => bif st && sameS s s' then k a else bad
      | false => k (s = s' ∧ a)
    | _ => bad
  | .agg cs, y, a, k => match y with | .agg cs' => matchV bad cs cs' a k | _ => bad
  | .tup cs, y, a, k => match y with | .tup cs' => matchV bad cs cs' a k | _ => bad
  | .rsl _ es n get, y, a, k => match y with
    | .rsl _ es' n' get' => bif Nat.beq es es' && Nat.beq n n' then matchN n (fun j => matchV bad (get j) (get' j)) a k else bad
    | _ => bad
  | .nilsl, y, a, k => match y with | .nilsl => k a | .rsl _ _ n _ => bif Nat.beq n 0 then k a else bad | _ => bad
  | .esl nn es, y, a, k => match y with
    | .rsl _ es' n _ => bif Nat.beq n 0 && Nat.beq es es' then k a else bad
    | .esl nn' es' => bif (nn || !nn') && Nat.beq es es' then k a else bad
    | _ => bad
  | .nilptr, y, a, k => match y with | .nilptr => k a | _ => bad
  | .nilmap, y, a, k => match y with | .nilmap => k a | _ => bad
  | .nilif, y, a, k => match y with | .nilif => k a | _ => bad
  | _, _, _, _ => bad
theorem allN_of {f : Nat → Bool} : ∀ {k : Nat}, (∀ j, j < k → f j = true) → allN k f = true := by
  intro k
  induction k with
  | zero => intro _; rfl
  | succ k ih => intro h; simp only [allN, Bool.and_eq_true]; exact ⟨ih fun j hj => h j (by omega), h k (by omega)⟩
theorem matchN_ok {β : Type} {bad : β} {s q : Nat → Prop} : ∀ (j : Nat) (f : Nat → Prop → (Prop → β) → β) (a : Prop) (k : Prop → β),
    (∀ i, i < j → ∀ (a : Prop) (k : Prop → β), f i a k = bad ∨ (s i ∧ ∃ p, f i a k = k p ∧ (p → q i ∧ a))) → matchN j f a k = bad ∨ ((∀ i, i < j → s i) ∧ ∃ p, matchN j f a k = k p ∧ (p → allP j q ∧ a)) := by
  intro j
  induction j with
  | zero => intro f a k _; exact .inr ⟨fun i hi => by omega, a, rfl, fun ha => ⟨trivial, ha⟩⟩
  | succ j ih =>
    intro f a k hf
    simp only [matchN]
    rcases ih f a (fun a => f j a k) (fun i hi => hf i (by omega)) with h | ⟨h1, p, h2, h3⟩
    · exact .inl h
    · rw [h2]
      rcases hf j (by omega) p k with h | ⟨h4, p', h5, h6⟩
      · exact .inl h
      · exact .inr ⟨fun i hi => by by_cases e : i = j; (subst e; exact h4); exact h1 i (by omega), p', h5, fun hp => ⟨⟨(h3 (h6 hp).2).1, (h6 hp).1⟩, (h3 (h6 hp).2).2⟩⟩
theorem matchV_ok {β : Type} {bad : β} : ∀ (v v' : V) (a : Prop) (k : Prop → β), matchV bad v v' a k = bad ∨ (shapeV v v' = true ∧ ∃ p, matchV bad v v' a k = k p ∧ (p → eqP v v' ∧ a)) := by
  intro v
  induction v with
  | cons h t ih1 ih2 =>
    intro v' a k
    cases v' <;> simp only [matchV] <;> try (left; trivial)
    rename_i h' t'
    rcases ih2 t' a (fun a => matchV bad h h' a k) with h1 | ⟨h1, p, h2, h3⟩
    · exact .inl h1
    · rw [h2]
      rcases ih1 h' p k with h4 | ⟨h4, p', h5, h6⟩
      · exact .inl h4
      · exact .inr ⟨by simp only [shapeV, h1, h4, Bool.and_self], p', h5, fun hp => ⟨⟨(h6 hp).1, (h3 (h6 hp).2).1⟩, (h3 (h6 hp).2).2⟩⟩
  | int st kd n =>
    intro v' a k
    cases v' <;> simp only [matchV] <;> try (left; trivial)
    rename_i st' kd' n'
    cases st' <;> dsimp only
    · cases hb : sameK kd kd'
      · exact .inl rfl
      · exact .inr ⟨by simp only [shapeV, hb], _, rfl, fun hp => ⟨hp.1, hp.2⟩⟩
    · cases hb : (st && (sameK kd kd' && sameI n n'))
      · exact .inl rfl
      · exact .inr ⟨by simp only [shapeV, hb], _, rfl, fun hp => ⟨trivial, hp⟩⟩
  | bool st b =>
    intro v' a k
    cases v' <;> simp only [matchV] <;> try (left; trivial)
    rename_i st' b'
    cases st' <;> dsimp only
    · exact .inr ⟨rfl, _, rfl, fun hp => ⟨hp.1, hp.2⟩⟩
    · cases hb : (st && (b == b'))
      · exact .inl rfl
      · exact .inr ⟨by simp only [shapeV, hb], _, rfl, fun hp => ⟨trivial, hp⟩⟩
  | str st s =>
    intro v' a k
    cases v' <;> simp only [matchV] <;> try (left; trivial)
    rename_i st' s'
    cases st' <;> dsimp only
    · exact .inr ⟨rfl, _, rfl, fun hp => ⟨hp.1, hp.2⟩⟩
    · cases hb : (st && sameS s s')
      · exact .inl rfl
      · exact .inr ⟨by simp only [shapeV, hb], _, rfl, fun hp => ⟨trivial, hp⟩⟩
  | agg cs ih => intro v' a k; cases v' <;> simp only [matchV] <;> first | (left; trivial) | exact ih _ _ _
  | tup cs ih => intro v' a k; cases v' <;> simp only [matchV] <;> first | (left; trivial) | exact ih _ _ _
  | rsl st es n get ih =>
    intro v' a k
    cases v' <;> simp only [matchV] <;> try (left; trivial)
    rename_i st' es' n' get'
    cases hb : (Nat.beq es es' && Nat.beq n n')
    · exact .inl rfl
    · simp only [cond_true]
      rcases matchN_ok (s := fun j => shapeV (get j) (get' j) = true) (q := fun j => eqP (get j) (get' j)) n (fun j => matchV bad (get j) (get' j)) a k (fun i _ a k => ih i _ a k) with h | ⟨h1, h2⟩
      · exact .inl h
      · exact .inr ⟨by simp only [shapeV, hb, Bool.true_and]; exact allN_of h1, h2⟩
  | nilsl =>
    intro v' a k
    cases v' <;> simp only [matchV] <;> try (left; trivial)
    · rename_i n _
      cases hb : Nat.beq n 0
      · exact .inl rfl
      · exact .inr ⟨by simp only [shapeV, hb], _, rfl, fun hp => ⟨trivial, hp⟩⟩
    · exact .inr ⟨rfl, _, rfl, fun hp => ⟨trivial, hp⟩⟩
  | esl nn es =>
    intro v' a k
    cases v' <;> simp only [matchV] <;> try (left; trivial)
    · rename_i es' n _
      cases hb : (Nat.beq n 0 && Nat.beq es es')
      · exact .inl rfl
      · exact .inr ⟨by simp only [shapeV, hb], _, rfl, fun hp => ⟨trivial, hp⟩⟩
    · rename_i nn' es'
      cases hb : ((nn || !nn') && Nat.beq es es')
      · exact .inl rfl
      · exact .inr ⟨by simp only [shapeV, hb], _, rfl, fun hp => ⟨trivial, hp⟩⟩
  | nil => intro v' a k; cases v' <;> simp only [matchV] <;> first | (left; trivial) | exact .inr ⟨rfl, _, rfl, fun hp => ⟨trivial, hp⟩⟩
  | nilptr => intro v' a k; cases v' <;> simp only [matchV] <;> first | (left; trivial) | exact .inr ⟨rfl, _, rfl, fun hp => ⟨trivial, hp⟩⟩
  | nilmap => intro v' a k; cases v' <;> simp only [matchV] <;> first | (left; trivial) | exact .inr ⟨rfl, _, rfl, fun hp => ⟨trivial, hp⟩⟩
  | nilif => intro v' a k; cases v' <;> simp only [matchV] <;> first | (left; trivial) | exact .inr ⟨rfl, _, rfl, fun hp => ⟨trivial, hp⟩⟩
  | _ => intro v' a k; exact .inl rfl

/-! ### What a tree asks, all at once -/
/-- A proposition, told. -/
structure Bx : Type where
  p : Prop
def leafK (v r : V) (k : Prop → Bx) : Bx := bif r.soft.clean then matchV (k False) r v True k else k False
/-- What must hold that a tree's answers are all so. -/
def askK (v : V) : Tree V → (Prop → Bx) → Bx
  | .leaf r, k => leafK v r k
  | .stuck, k => k False
  | .node c t f, k => askK v t fun p => askK v f fun q => k ((c = true → p) ∧ (c = false → q))
  | .need p t, k => askK v t fun q => k (p ∧ q)
  | .all _ _, k => k False
  | .given p t, k => askK v t fun q => k (p → q)
  | .both t f, k => askK v t fun p => askK v f fun q => k (p ∧ q)
def LeafOk (v r : V) : Prop := r.soft.clean = true ∧ shapeV r v = true ∧ eqP r v
theorem askK_ok {P : Program} {v : V} : ∀ (T : Tree V) (k : Prop → Bx), ∃ p, askK v T k = k p ∧ (p → T.holds P (LeafOk v)) := by
  intro T
  induction T with
  | leaf r =>
    intro k
    simp only [askK, leafK]
    cases hc : r.soft.clean
    · exact ⟨False, rfl, False.elim⟩
    · simp only [cond_true]
      rcases matchV_ok (bad := k False) r v True k with h1 | ⟨h1, p, h2, h3⟩
      · exact ⟨False, h1, False.elim⟩
      · exact ⟨p, h2, fun hp => ⟨hc, h1, (h3 hp).1⟩⟩
  | stuck => intro k; exact ⟨False, rfl, False.elim⟩
  | all σ t _ => intro k; exact ⟨False, rfl, False.elim⟩
  | need p t ih =>
    intro k
    obtain ⟨q, h1, h2⟩ := ih fun q => k (p ∧ q)
    exact ⟨_, h1, fun hp => ⟨hp.1, h2 hp.2⟩⟩
  | given p t ih =>
    intro k
    obtain ⟨q, h1, h2⟩ := ih fun q => k (p → q)
    exact ⟨_, h1, fun hp h => h2 (hp h)⟩
  | node c t f iht ihf =>
    intro k
    obtain ⟨p, h1, h2⟩ := iht fun p => askK v f fun q => k ((c = true → p) ∧ (c = false → q))
    obtain ⟨q, h3, h4⟩ := ihf fun q => k ((c = true → p) ∧ (c = false → q))
    exact ⟨_, h1.trans h3, fun hp => ⟨fun hc => h2 (hp.1 hc), fun hc => h4 (hp.2 hc)⟩⟩
  | both t f iht ihf =>
    intro k
    obtain ⟨p, h1, h2⟩ := iht fun p => askK v f fun q => k (p ∧ q)
    obtain ⟨q, h3, h4⟩ := ihf fun q => k (p ∧ q)
    exact ⟨_, h1.trans h3, fun hp => ⟨h2 hp.1, h4 hp.2⟩⟩
/-- What is asked holds: so it answers. -/
theorem meets_ask {E : Env} {gs : List FuncId} (hΓ : Among E gs) (hE : E.Ok) (k : Nat) {g : FuncId} {args v : V} {p : Prop} (hhas : Has E.P g) (h : askK v (evFnS E gs k g args) Bx.mk = ⟨p⟩) (hp : p) : Meets E.P g args v := by
  rw [evFnS_eq hΓ] at h
  obtain ⟨q, h1, h2⟩ := askK_ok (P := E.P) (v := v) (evFn E k g args) Bx.mk
  have hq : q := by rw [h1] at h; injection h with h; rw [h]; exact hp
  refine meets_of hE (k := k) hhas (Tree.holds_mono _ (fun r hr F w n m x hx => ?_) (h2 hq))
  have k1 := ((R_soft r n m).1 x).2 hx
  have k2 := (R_clean r.soft hr.1 n 0 m (fun _ => none)).1 x k1
  exact (shapeV_R r v hr.2.1 hr.2.2 0 _).1 x (((R_soft r 0 _).1 x).1 k2)

/-- The number at a place. -/
def pathI : List Nat → V → (Int → Option Ans) → Option Ans
  | [], v, k => match v with
    | .int _ _ n => k n
    | _ => none
  | i :: p, v, k => match v with
    | .agg cs => pathI p (cs.nth i) k
    | .tup cs => pathI p (cs.nth i) k
    | .cons h t => pathI p ((V.cons h t).nth i) k
    | .rsl _ _ _ get => pathI p (get i) k
    | _ => none
def parI : List (List Nat) → V → (List Int → Option Ans) → Option Ans
  | [], _, k => k []
  | p :: ps, x, k => pathI p x fun n => parI ps x fun l => k (n :: l)
theorem pathI_some {a : Ans} : ∀ (p : List Nat) (v : V) (k : Int → Option Ans), pathI p v k = some a → ∃ n, k n = some a := by
  intro p
  induction p with
  | nil => intro v k h; cases v <;> simp only [pathI] at h <;> first | (cases h; done) | exact ⟨_, h⟩
  | cons i p ih => intro v k h; cases v <;> simp only [pathI] at h <;> first | (cases h; done) | exact ih _ _ h
theorem parI_some {a : Ans} : ∀ (ps : List (List Nat)) (x : V) (k : List Int → Option Ans), parI ps x k = some a → ∃ l, k l = some a := by
  intro ps
  induction ps with
  | nil => intro x k h; exact ⟨[], h⟩
  | cons p ps ih =>
    intro x k h
    obtain ⟨n, hn⟩ := pathI_some p x _ h
    obtain ⟨l, hl⟩ := ih x _ hn
    exact ⟨n :: l, hl⟩
/-- A family of calls of one function: where its numbers stand, what the arguments are, what must hold, what it answers. -/
structure Fam where
  ps : List (List Nat)
  fam : List Int → V
  pre : List Int → Prop
  res : List Int → V
def Fam.ans (f : Fam) (x : V) : Option Ans :=
  parI f.ps x fun l => matchV none x (f.fam l) (f.pre l) fun p => some (.where_ p (f.res l))
def Fam.Ok (P : Program) (g : FuncId) (f : Fam) : Prop := ∀ l, f.pre l → Meets P g (f.fam l) (f.res l)
theorem Fam.ans_ok {P : Program} {g : FuncId} {f : Fam} (h : f.Ok P g) {x : V} {a : Ans} (ha : f.ans x = some a) : ∃ p v, a = .where_ p v ∧ (p → Meets P g x v) := by
  obtain ⟨l, hl⟩ := parI_some _ _ _ ha
  rcases matchV_ok (bad := none) x (f.fam l) (f.pre l) (fun p => some (Ans.where_ p (f.res l))) with h1 | ⟨hs, p, h1, h2⟩
  · rw [h1] at hl; cases hl
  · rw [h1] at hl
    injection hl with hl
    refine ⟨_, _, hl.symm, fun hp => ?_⟩
    have hm := h l (h2 hp).2
    exact ⟨hm.1, fun F w xs k1 k2 k3 => hm.2 F w xs k1 k2 ((shapeV_R _ _ hs (h2 hp).1 0 _).2 _ k3)⟩
def findF : List Fam → V → Option Ans
  | [], _ => none
  | f :: l, x => match f.ans x with
    | some a => some a
    | none => findF l x
/-- So many families of calls of one function. -/
def famCon (g : FuncId) (fs : List Fam) : Con := { g, al := true, ans := findF fs }
def AllFam (P : Program) (g : FuncId) : List Fam → Prop
  | [] => True
  | f :: l => f.Ok P g ∧ AllFam P g l
theorem famCon_ok {P : Program} {g : FuncId} : ∀ {fs : List Fam}, AllFam P g fs → (famCon g fs).Ok P := by
  intro fs
  induction fs with
  | nil => intro _ x; exact trivial
  | cons f l ih =>
    intro h x
    have h2 := ih h.2 x
    show match findF (f :: l) x with
      | some (.sure v) => Meets P g x v
      | some (.where_ p v) => p → Meets P g x v
      | some (.fork b v v') => (b = true → Meets P g x v) ∧ (b = false → Meets P g x v')
      | none => True
    unfold findF
    cases ha : f.ans x with
    | none => exact h2
    | some a =>
      obtain ⟨p, v, rfl, hp⟩ := Fam.ans_ok h.1 ha
      exact hp
end Go.Fw
