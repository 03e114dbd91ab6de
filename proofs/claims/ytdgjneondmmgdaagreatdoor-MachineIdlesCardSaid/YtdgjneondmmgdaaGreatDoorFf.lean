/- Values that are pinned to literals at a loop's head; lists of cases; values that are literally the same. The evaluator once more, laid out for the kernel: what depends on the code alone stands in boxes, which the kernel opens once. It is the same function. -/
import Derived.Test.YtdgjneondmmgdaaGreatDoorFe
import Derived.Test.YtdgjneondmmgdaaGreatDoorFa
set_option linter.unusedSimpArgs false
set_option linter.unusedVariables false
namespace Go.Fw

theorem HR.recell {base : Nat} {m : Nat → Option Nat} {F : Nat → Prop} {h h' : Nat → Blk} {n : Nat} {w : World} (hr : HR base m F h n w) {b : Nat} {cs cs' : V} (hb : h b = .var cs)
    (hc : ∀ xs, RL F w cs n m xs → RL F w cs' n m xs) (hh : ∀ c, h' c = if c = b then .var cs' else h c) : HR base m F h' n w := by
  refine ⟨hr.low, hr.fdom, fun c hcn => ?_, hr.dom, hr.new, hr.gl, hr.own, fun c c' B h1 h2 hne => ?_⟩
  · rw [hh]
    have := hr.blk c hcn
    by_cases e : c = b
    · subst e
      rw [if_pos rfl]
      rw [hb] at this
      obtain ⟨b', xs, el, ys, zs, k1, k2, k3, k4⟩ := this
      exact ⟨b', xs, el, ys, zs, k1, k2, k3, hc _ k4⟩
    · rw [if_neg e]; exact this
  · rw [hh, hh]
    rcases hr.inj c c' B h1 h2 hne with h | h
    · left
      rw [if_neg (fun e => by rw [e, hb] at h; cases h)]
      exact h
    · right
      rw [if_neg (fun e => by rw [e, hb] at h; cases h)]
      exact h
section
variable {B : Base}
/-- A variable's number, pinned: what it was, and the state in which it is a literal. -/
def St.pinVar (s : St B) (t : Nat) (kd : IntKind) (c : Int) : Option (Int × St B) :=
  match s.tmp t with
  | .ptr true bl _ 0 0 => match s.blk bl with
    | .var (.cons (.int _ k x) .nil) => if k = kd then some (x, { s with h := s.h.set bl (.var (.cons (.int true kd c) .nil)) }) else none
    | _ => none
  | _ => none
theorem pinVar_rel {lo base : Nat} {m : Nat → Option Nat} {F : Nat → Prop} {s s' : St B} {a : Act} {w : World} {t : Nat} {kd : IntKind} {c x : Int} (hr : Rel lo base m F s a w) (h : s.pinVar t kd c = some (x, s')) (hx : x = c) : s'.n = s.n ∧ Rel lo base m F s' a w := by
  subst hx
  unfold St.pinVar at h
  split at h
  · rename_i bl es heq
    split at h
    · rename_i st k y hbl
      split at h
      · rename_i hk
        subst hk
        injection h with h
        injection h with h1 h2
        subst h1; subst h2
        refine ⟨rfl, ⟨hr.hr.recell hbl (fun xs hxs => ?_) (fun c => look_set _ _ _ _ _), hr.defers, hr.size, hr.tmp⟩⟩
        simp only [RL, R] at hxs ⊢
        exact hxs
      · cases h
    · cases h
  · cases h
/-- The loop is walked from where a variable is pinned. -/
def pinG (E : Env) (k : Nat) (f : FuncId) (b : Code) (t : Nat) (kd : IntKind) (c : Int) : (B : Base) → St B → Tree (Ex × St B) := fun B s =>
  match s.pinVar t kd c with
  | some (x, s') => .need (x = c) (ev E k f (.loop b) B s')
  | none => .stuck
theorem pinG_ok {E : Env} (hE : E.Ok) (k : Nat) {f : FuncId} {b : Code} (t : Nat) (kd : IntKind) (c : Int) (hb : ∀ g, loopOf E f b = some g → InFn E.P f b) (hin : ∀ b' ∈ loopsOf b, InFn E.P f b') : LoopOk E.P b (pinG E k f b t kd c) := by
  intro B s Q hq ro lo base m F a w Qx hro hr hQ
  unfold pinG at hq
  split at hq
  · rename_i x s' hp
    obtain ⟨hx, hq⟩ := hq
    obtain ⟨hn, hr'⟩ := pinVar_rel hr hp hx
    refine ev_ok hE k ro f (.loop b) B s' lo base m F a w Q Qx (fun b' hb' g hg => ?_) hro hr' hq fun e s'' h1 m' F' a' w' h2 h3 => hQ e s'' h1 m' F' a' w' (by rw [hn] at h2; exact h2) h3
    simp only [loopsOf, List.mem_cons] at hb'
    rcases hb' with rfl | hb'
    · exact hb g hg
    · exact hin b' hb'
  · exact hq.elim
end
theorem pin_lp {E : Env} (hE : E.Ok) (k : Nat) {f : FuncId} {id : Nat} (t : Nat) (kd : IntKind) (c : Int) (h1 : oneLoop E.P f id = true) (hno : loopOf E f (loopAt E.P f id) = none) : Lp.Ok E.P ⟨f, id, pinG E k f (loopAt E.P f id) t kd c⟩ :=
  lp_ok h1 fun hin => pinG_ok hE k t kd c (fun g hg => by rw [hno] at hg; cases hg) hin

/-! ### Cases, one by one -/
def forBelow (n : Nat) (f : Nat → Bool) : Bool := Nat.rec true (fun k r => f k && r) n
theorem forBelow_of {n : Nat} {f : Nat → Bool} : forBelow n f = true → ∀ k, k < n → f k = true := by
  induction n with
  | zero => intro _ k h; omega
  | succ n ih =>
    intro h k hk
    have h : (f n && forBelow n f) = true := h
    simp only [Bool.and_eq_true] at h
    rcases Nat.lt_or_ge k n with h' | h'
    · exact ih h.2 k h'
    · have : k = n := by omega
      subst this; exact h.1
def allBelow (n : Nat) (f : Nat → Prop) : Prop := Nat.rec True (fun k r => f k ∧ r) n
theorem allBelow_of {n : Nat} {f : Nat → Prop} : allBelow n f → ∀ k, k < n → f k := by
  induction n with
  | zero => intro _ k h; omega
  | succ n ih =>
    intro h k hk
    have h : f n ∧ allBelow n f := h
    rcases Nat.lt_or_ge k n with h' | h'
    · exact ih h.2 k h'
    · have : k = n := by omega
      subst this; exact h.1
theorem allBelow_all {n : Nat} {f : Nat → Prop} (h : ∀ k, k < n → f k) : allBelow n f := by
  induction n with
  | zero => trivial
  | succ n ih => exact ⟨h n (Nat.lt_succ_self n), ih fun k hk => h k (by omega)⟩
/-- The same things are said of each: by the kernel. -/
theorem all_same {n : Nat} {f g : Nat → Prop} (h : allBelow n f = allBelow n g) (hg : ∀ k, k < n → g k) : ∀ k, k < n → f k := allBelow_of (by rw [h]; exact allBelow_all hg)
universe u
theorem all_eq {α : Type u} {n : Nat} {f g : Nat → α} (h : (allBelow n fun k => f k = g k) = (allBelow n fun k => f k = f k)) : ∀ k, k < n → f k = g k := all_same h fun _ _ => rfl

/-! ### What a tree asks -/
/-- All that is asked is one thing. -/
def Tree.asksAre {α : Type} (p : Prop) : Tree α → Prop
  | .leaf _ => True
  | .node _ t f => t.asksAre p ∧ f.asksAre p
  | .need q t => q = p ∧ t.asksAre p
  | _ => False
def Tree.asksRefl {α : Type} : Tree α → Prop
  | .leaf _ => True
  | .node _ t f => t.asksRefl ∧ f.asksRefl
  | .need q t => q = q ∧ t.asksRefl
  | _ => False
def Tree.easy {α : Type} : Tree α → Bool
  | .leaf _ => true
  | .node _ t f => t.easy && f.easy
  | .need _ t => t.easy
  | _ => false
theorem Tree.asksRefl_of {α : Type} : ∀ T : Tree α, T.easy = true → T.asksRefl := by
  intro T
  induction T with
  | leaf a => intro _; trivial
  | node b t f iht ihf => intro h; simp only [Tree.easy, Bool.and_eq_true] at h; exact ⟨iht h.1, ihf h.2⟩
  | need p t ih => intro h; exact ⟨rfl, ih h⟩
  | _ => intro h; cases h
theorem Tree.pre_of_asks {α : Type} {p : Prop} (hp : p) : ∀ T : Tree α, T.asksAre p → T.pre := by
  intro T
  induction T with
  | leaf a => intro _; trivial
  | node b t f iht ihf => intro h; exact ⟨fun _ => iht h.1, fun _ => ihf h.2⟩
  | need q t ih => intro h; obtain ⟨rfl, h⟩ := h; exact ⟨hp, ih h⟩
  | _ => intro h; exact h.elim

/-! ### Values that are literally the same -/
def sameN : Nat → Nat → Bool := Nat.beq
def sameI (a b : Int) : Bool := decide (a = b)
def sameK (a b : IntKind) : Bool := decide (a = b)
def sameS : List UInt8 → List UInt8 → Bool
  | [], [] => true
  | a :: l, b :: r => Nat.beq a.toNat b.toNat && sameS l r
  | _, _ => false
theorem sameS_eq : ∀ l r : List UInt8, sameS l r = true → l = r := by
  intro l
  induction l with
  | nil => intro r h; cases r with | nil => rfl | cons => cases h
  | cons a l ih =>
    intro r h
    cases r with
    | nil => cases h
    | cons b r =>
      simp only [sameS, Bool.and_eq_true] at h
      rw [UInt8.toNat_inj.1 (Nat.eq_of_beq_eq_true h.1), ih r h.2]
/-- The first stands for whatever the second does: all is literal. -/
def sameV : V → V → Bool
  | .cons h t, y => match y with | .cons h' t' => sameV h h' && sameV t t' | _ => false
  | .nil, y => match y with | .nil => true | _ => false
  | .int _ k n, y => match y with | .int _ k' n' => sameK k k' && sameI n n' | _ => false
  | .bool _ b, y => match y with | .bool _ b' => b == b' | _ => false
  | .str _ s, y => match y with | .str _ s' => sameS s s' | _ => false
  | .agg cs, y => match y with | .agg cs' => sameV cs cs' | _ => false
  | .tup cs, y => match y with | .tup cs' => sameV cs cs' | _ => false
  | .rsl _ es n get, y => match y with
    | .rsl _ es' n' get' => (Nat.beq es es' && Nat.beq n n') && allN n fun j => sameV (get j) (get' j)
    | _ => false
  | .nilsl, y => match y with | .nilsl => true | .rsl _ _ n _ => Nat.beq n 0 | _ => false
  | .esl nn es, y => match y with
    | .rsl _ es' n _ => Nat.beq n 0 && Nat.beq es es'
    | .esl nn' es' => (nn || !nn') && Nat.beq es es'
    | _ => false
  | .nilptr, y => match y with | .nilptr => true | _ => false
  | .nilmap, y => match y with | .nilmap => true | _ => false
  | .nilif, y => match y with | .nilif => true | _ => false
  | _, _ => false
theorem allN_all {f : Nat → Bool} : ∀ {k : Nat}, allN k f = true → ∀ j, j < k → f j = true := by
  intro k
  induction k with
  | zero => intro _ j hj; omega
  | succ k ih =>
    intro h j hj
    have e : allN (k + 1) f = (allN k f && f k) := rfl
    rw [e, Bool.and_eq_true] at h
    by_cases e : j = k
    · subst e; exact h.2
    · exact ih h.1 j (by omega)
theorem sameV_R {F : Nat → Prop} {w : World} : ∀ (v v' : V), sameV v v' = true → ∀ (n : Nat) (m : Nat → Option Nat), (∀ x, R F w v n m x → R F w v' n m x) ∧ (∀ xs, RL F w v n m xs → RL F w v' n m xs) := by
  intro v
  induction v with
  | cons h t ih1 ih2 =>
    intro v' hs n m
    cases v' <;> simp only [sameV] at hs <;> try (cases hs; done)
    simp only [Bool.and_eq_true] at hs
    refine ⟨fun x h => by simp only [R] at h, fun xs h => ?_⟩
    simp only [RL] at h ⊢
    obtain ⟨x, r, rfl, h1, h2⟩ := h
    exact ⟨x, r, rfl, (ih1 _ hs.1 n m).1 _ h1, (ih2 _ hs.2 n m).2 _ h2⟩
  | nil =>
    intro v' hs n m
    cases v' <;> simp only [sameV] at hs <;> try (cases hs; done)
    exact ⟨fun _ h => h, fun _ h => h⟩
  | int st k q =>
    intro v' hs n m
    cases v' <;> simp only [sameV] at hs <;> try (cases hs; done)
    simp only [Bool.and_eq_true, sameK, sameI, decide_eq_true_eq] at hs
    obtain ⟨rfl, rfl⟩ := hs
    exact ⟨fun x h => by simp only [R] at h ⊢; exact h, fun xs h => by simp only [RL] at h⟩
  | bool st b =>
    intro v' hs n m
    cases v' <;> simp only [sameV] at hs <;> try (cases hs; done)
    obtain rfl := eq_of_beq hs
    exact ⟨fun x h => by simp only [R] at h ⊢; exact h, fun xs h => by simp only [RL] at h⟩
  | str st s =>
    intro v' hs n m
    cases v' <;> simp only [sameV] at hs <;> try (cases hs; done)
    obtain rfl := sameS_eq _ _ hs
    exact ⟨fun x h => by simp only [R] at h ⊢; exact h, fun xs h => by simp only [RL] at h⟩
  | agg cs ih =>
    intro v' hs n m
    cases v' <;> simp only [sameV] at hs <;> try (cases hs; done)
    refine ⟨fun x h => ?_, fun xs h => by simp only [RL] at h⟩
    simp only [R] at h ⊢
    obtain ⟨xs, rfl, h1⟩ := h
    exact ⟨xs, rfl, (ih _ hs n m).2 _ h1⟩
  | tup cs ih =>
    intro v' hs n m
    cases v' <;> simp only [sameV] at hs <;> try (cases hs; done)
    refine ⟨fun x h => ?_, fun xs h => by simp only [RL] at h⟩
    simp only [R] at h ⊢
    obtain ⟨xs, rfl, h1⟩ := h
    exact ⟨xs, rfl, (ih _ hs n m).2 _ h1⟩
  | rsl st es k get ih =>
    intro v' hs n m
    cases v' <;> simp only [sameV] at hs <;> try (cases hs; done)
    simp only [Bool.and_eq_true] at hs
    obtain ⟨⟨he, hk⟩, hall⟩ := hs
    obtain rfl := Nat.eq_of_beq_eq_true he
    obtain rfl := Nat.eq_of_beq_eq_true hk
    refine ⟨fun x h => ?_, fun xs h => by simp only [RL] at h⟩
    simp only [R] at h ⊢
    obtain ⟨a, cap, rfl, hkc, h⟩ := h
    refine ⟨a, cap, rfl, hkc, h.imp id ?_⟩
    rintro ⟨B, off, rfl, hF, c, el, fr, hc, hr⟩
    refine ⟨B, off, rfl, hF, c, el, fr, hc, fun j hj => ?_⟩
    obtain ⟨xs, h1, h2, h3⟩ := hr j hj
    exact ⟨xs, (ih j _ (allN_all hall j hj) 0 _).2 _ h1, h2, h3⟩
  | nilsl =>
    intro v' hs n m
    refine ⟨fun x h => ?_, fun xs h => by simp only [RL] at h⟩
    cases v' <;> simp only [sameV] at hs <;> try (cases hs; done)
    · obtain rfl := Nat.eq_of_beq_eq_true hs
      simp only [R] at h ⊢
      exact ⟨none, 0, h, Nat.le_refl _, .inl trivial⟩
    · exact h
  | esl nn es =>
    intro v' hs n m
    refine ⟨fun x h => ?_, fun xs h => by simp only [RL] at h⟩
    cases v' <;> simp only [sameV] at hs <;> try (cases hs; done)
    · simp only [Bool.and_eq_true] at hs
      obtain rfl := Nat.eq_of_beq_eq_true hs.1
      obtain rfl := Nat.eq_of_beq_eq_true hs.2
      simp only [R] at h ⊢
      obtain ⟨a, rfl, _⟩ := h
      exact ⟨a, 0, rfl, Nat.le_refl _, .inl trivial⟩
    · rename_i nn' es'
      simp only [Bool.and_eq_true] at hs
      simp only [R] at h ⊢
      obtain ⟨a, rfl, h1⟩ := h
      refine ⟨a, rfl, fun h2 => h1 ?_⟩
      subst h2
      simpa using hs.1
  | nilptr => intro v' hs n m; cases v' <;> simp only [sameV] at hs <;> first | (cases hs; done) | exact ⟨fun _ h => h, fun _ h => h⟩
  | nilmap => intro v' hs n m; cases v' <;> simp only [sameV] at hs <;> first | (cases hs; done) | exact ⟨fun _ h => h, fun _ h => h⟩
  | nilif => intro v' hs n m; cases v' <;> simp only [sameV] at hs <;> first | (cases hs; done) | exact ⟨fun _ h => h, fun _ h => h⟩
  | _ => intro v' hs; simp only [sameV] at hs; cases hs

/-- What a call answers, where what its tree asks is known. -/
theorem meets_asks {E : Env} (hE : E.Ok) (k : Nat) {g : FuncId} {args v : V} (hhas : Has E.P g) {p : Prop} (hp : p) (ha : (evFn E k g args).asksAre p) (hc : (evFn E k g args).allClean = true) (hv : (evFn E k g args).join = v) : Meets E.P g args v :=
  meets_join hE k hhas (Tree.pre_of_asks hp _ ha) hc hv
theorem Meets.same {P : Program} {g : FuncId} {args v v' : V} (h : Meets P g args v) (hv : sameV v v' = true) : Meets P g args v' :=
  ⟨h.1, fun F w xs h1 h2 h3 => (h.2 F w xs h1 h2 h3).mono fun _ _ ⟨x, F', e1, e2, e3⟩ => ⟨x, F', e1, e2, (sameV_R _ _ hv 0 _).1 _ e3⟩⟩
theorem Meets.hard {P : Program} {g : FuncId} {args v : V} (h : Meets P g args v) : Meets P g args.soft v :=
  ⟨h.1, fun F w xs hfd hgl ha => h.2 F w xs hfd hgl (((R_soft args 0 _).2 _).1 ha)⟩
/-- The same for each of so many cases, in one breath of the kernel's. -/
theorem meets_below {N : Nat} {E : Nat → Env} {P : Program} (hP : ∀ c, (E c).P = P) (k : Nat) {g : FuncId} {args res : Nat → V} (hhas : Has P g) (p : Nat → Prop)
    (h1 : (forBelow N fun c => (evFn (E c) k g (args c)).easy && ((evFn (E c) k g (args c)).allClean && sameV (evFn (E c) k g (args c)).join (res c))) = true)
    (h2 : (allBelow N fun c => (evFn (E c) k g (args c)).asksAre (p c)) = (allBelow N fun c => (evFn (E c) k g (args c)).asksRefl)) {c : Nat} (hc : c < N) (hE : (E c).Ok) (hp : p c) : Meets P g (args c) (res c) := by
  have a1 := forBelow_of h1 c hc
  simp only [Bool.and_eq_true] at a1
  have a2 : (evFn (E c) k g (args c)).asksAre (p c) :=
    allBelow_of (f := fun c => (evFn (E c) k g (args c)).asksAre (p c)) (by rw [h2]; exact allBelow_all fun c' hc' => Tree.asksRefl_of _ (by have := forBelow_of h1 c' hc'; simp only [Bool.and_eq_true] at this; exact this.1)) c hc
  have := meets_asks hE k (v := (evFn (E c) k g (args c)).join) (by rw [hP]; exact hhas) hp a2 a1.2.1 rfl
  rw [hP] at this
  exact this.same a1.2.2
end Go.Fw
namespace Go.Fw
universe u

/-- What is made ready once. -/
structure Box (α : Type u) where
  f : α

/-! ### Trees, numbers, places -/
noncomputable def Tree.bnd {α β : Type} (T : Tree α) (k : α → Tree β) : Tree β :=
  Tree.rec (motive := fun _ => Tree β) (fun a => k a) .stuck (fun b _ _ t f => .node b t f) (fun p _ t => .need p t) (fun σ _ t => .all σ t) (fun p _ t => .given p t) (fun _ _ t f => .both t f) T
theorem Tree.bnd_eq {α β : Type} (T : Tree α) (k : α → Tree β) : T.bnd k = T.bind k := by
  induction T with
  | leaf a => rfl
  | stuck => rfl
  | node b t f iht ihf => show Tree.node b (t.bnd k) (f.bnd k) = _; rw [iht, ihf]; rfl
  | need p t ih => show Tree.need p (t.bnd k) = _; rw [ih]; rfl
  | all σ t ih => show Tree.all σ (fun x => (t x).bnd k) = _; rw [funext ih]; rfl
  | given p t ih => show Tree.given p (t.bnd k) = _; rw [ih]; rfl
  | both t f iht ihf => show Tree.both (t.bnd k) (f.bnd k) = _; rw [iht, ihf]; rfl
def wrapF (k : IntKind) (n : Int) : Int :=
  match n with
  | .ofNat m => match k with
    | .i64 => bif Nat.ble m 9223372036854775807 then .ofNat m else k.wrap n
    | .u32 => bif Nat.ble m 4294967295 then .ofNat m else k.wrap n
    | .u64 => bif Nat.ble m 18446744073709551615 then .ofNat m else k.wrap n
    | .u8 => bif Nat.ble m 255 then .ofNat m else k.wrap n
    | k => k.wrap n
  | .negSucc m => match k with
    | .i64 => bif Nat.ble m 9223372036854775807 then .negSucc m else k.wrap n
    | k => k.wrap n
theorem i64_nat {m : Nat} (h : Nat.ble m 9223372036854775807 = true) : Int.ofNat m = IntKind.i64.wrap (Int.ofNat m) := by
  have h := Nat.le_of_ble_eq_true h
  exact (IntWalk.i64_in (m : Int) ⟨by omega, by omega⟩).symm
theorem i64_neg {m : Nat} (h : Nat.ble m 9223372036854775807 = true) : Int.negSucc m = IntKind.i64.wrap (Int.negSucc m) := by
  have h := Nat.le_of_ble_eq_true h
  have e := Int.negSucc_eq m
  exact (IntWalk.i64_in _ ⟨by omega, by omega⟩).symm
theorem u32_nat {m : Nat} (h : Nat.ble m 4294967295 = true) : Int.ofNat m = IntKind.u32.wrap (Int.ofNat m) := by
  have h := Nat.le_of_ble_eq_true h
  exact (IntWalk.u32_in (m : Int) ⟨by omega, by omega⟩).symm
theorem u64_nat {m : Nat} (h : Nat.ble m 18446744073709551615 = true) : Int.ofNat m = IntKind.u64.wrap (Int.ofNat m) := by
  have h := Nat.le_of_ble_eq_true h
  exact (IntWalk.u64_in (m : Int) ⟨by omega, by omega⟩).symm
theorem u8_nat {m : Nat} (h : Nat.ble m 255 = true) : Int.ofNat m = IntKind.u8.wrap (Int.ofNat m) := by
  have h := Nat.le_of_ble_eq_true h
  exact (IntWalk.u8_in (m : Int) ⟨by omega, by omega⟩).symm
theorem bif_same {α : Type} {b : Bool} {x y : α} (h : b = true → x = y) : (bif b then x else y) = y := by
  cases b with
  | true => exact h rfl
  | false => rfl
theorem wrapF_eq (k : IntKind) (n : Int) : wrapF k n = k.wrap n := by
  cases n with
  | ofNat m =>
    cases k
    case i64 => exact bif_same i64_nat
    case u32 => exact bif_same u32_nat
    case u64 => exact bif_same u64_nat
    case u8 => exact bif_same u8_nat
    all_goals rfl
  | negSucc m =>
    cases k
    case i64 => exact bif_same i64_neg
    all_goals rfl
/-- A number of a kind, brought into its range. -/
def mkW (st : Bool) (k : IntKind) (n : Int) : V :=
  match st with
  | true => forceInt (wrapF k n) fun n => .int true k n
  | false => .int false k (k.wrap n)
theorem mkW_eq (st : Bool) (k : IntKind) (n : Int) : mkW st k n = mkInt st k (k.wrap n) := by
  cases st <;> simp only [mkW, mkInt, wrapF_eq]
def ltF (a b : Int) : Bool :=
  match a with
  | .ofNat m => match b with | .ofNat n => Nat.blt m n | .negSucc _ => false
  | .negSucc m => match b with | .ofNat _ => true | .negSucc n => Nat.blt n m
def eqF (a b : Int) : Bool :=
  match a with
  | .ofNat m => match b with | .ofNat n => Nat.beq m n | .negSucc _ => false
  | .negSucc m => match b with | .ofNat _ => false | .negSucc n => Nat.beq m n
theorem blt_dec (a b : Nat) : Nat.blt a b = decide (a < b) := by
  cases h : Nat.blt a b
  · exact (decide_eq_false fun h' => by rw [← Nat.blt_eq] at h'; rw [h'] at h; cases h).symm
  · exact (decide_eq_true (by rw [← Nat.blt_eq]; exact h)).symm
theorem beq_dec (a b : Nat) : Nat.beq a b = decide (a = b) := by
  cases h : Nat.beq a b
  · exact (decide_eq_false fun e => by subst e; simp at h).symm
  · exact (decide_eq_true (Nat.eq_of_beq_eq_true h)).symm
theorem ltF_eq (a b : Int) : ltF a b = decide (a < b) := by
  cases a with
  | ofNat m =>
    cases b with
    | ofNat n => show Nat.blt m n = decide ((m : Int) < (n : Int)); rw [blt_dec]; apply decide_eq_decide.2; omega
    | negSucc n => have := Int.negSucc_eq n; exact (decide_eq_false (show ¬ (m : Int) < Int.negSucc n by omega)).symm
  | negSucc m =>
    have hm := Int.negSucc_eq m
    cases b with
    | ofNat n => exact (decide_eq_true (show Int.negSucc m < (n : Int) by omega)).symm
    | negSucc n => have := Int.negSucc_eq n; show Nat.blt n m = _; rw [blt_dec]; apply decide_eq_decide.2; omega
theorem eqF_eq (a b : Int) : eqF a b = (a == b) := by
  have e : (a == b) = decide (a = b) := by cases h : decide (a = b) <;> simp_all
  rw [e]
  cases a with
  | ofNat m =>
    cases b with
    | ofNat n => show Nat.beq m n = decide ((m : Int) = (n : Int)); rw [beq_dec]; apply decide_eq_decide.2; omega
    | negSucc n => exact (decide_eq_false (fun h => by cases h)).symm
  | negSucc m =>
    cases b with
    | ofNat n => exact (decide_eq_false (fun h => by cases h)).symm
    | negSucc n => show Nat.beq m n = _; rw [beq_dec]; apply decide_eq_decide.2; exact ⟨fun h => by rw [h], fun h => by injection h⟩
/-- A truth, told by what is quick where all is literal. -/
def mkQ (st : Bool) (quick slow : Bool) : V :=
  match st with
  | true => match quick with | true => .bool true true | false => .bool true false
  | false => .bool false slow
theorem mkQ_eq {st quick slow : Bool} (h : quick = slow) : mkQ st quick slow = mkBool st slow := by subst h; cases st <;> cases quick <;> rfl

/-- The way to a place. -/
noncomputable def pathF (k : Nat) : Nat → List Bool := Nat.rec (fun _ => []) (fun _ ih i => bif Nat.beq i 0 then [] else bif Nat.beq (i % 2) 1 then true :: ih (i / 2) else false :: ih (i / 2 - 1)) k
noncomputable def pathOf (i : Nat) : List Bool := pathF (i + 1) i
noncomputable def getP {α : Type} (p : List Bool) : PT α → Option α :=
  List.rec (motive := fun _ => PT α → Option α)
    (fun t => PT.casesOn (motive := fun _ => Option α) t none (fun v => some v) (fun v _ _ => v))
    (fun b _ ih t => PT.casesOn (motive := fun _ => Option α) t none (fun v => some v) (fun _ l r => Bool.casesOn (motive := fun _ => Option α) b (ih r) (ih l))) p
noncomputable def setP {α : Type} (p : List Bool) : PT α → α → PT α :=
  List.rec (motive := fun _ => PT α → α → PT α)
    (fun t x => PT.casesOn (motive := fun _ => PT α) t (.node (some x) .nil .nil) (fun v => .node (some x) (.fill v) (.fill v)) (fun _ l r => .node (some x) l r))
    (fun b _ ih t x => PT.casesOn (motive := fun _ => PT α) t
      (Bool.casesOn (motive := fun _ => PT α) b (.node none .nil (ih .nil x)) (.node none (ih .nil x) .nil))
      (fun v => Bool.casesOn (motive := fun _ => PT α) b (.node (some v) (.fill v) (ih (.fill v) x)) (.node (some v) (ih (.fill v) x) (.fill v)))
      (fun v l r => Bool.casesOn (motive := fun _ => PT α) b (.node v l (ih r x)) (.node v (ih l x) r))) p
theorem getP_eq {α : Type} : ∀ (k : Nat) (t : PT α) (i : Nat), i < k → getP (pathF k i) t = t.get i := by
  intro k
  induction k with
  | zero => intro t i h; omega
  | succ k ih =>
    intro t i h
    show getP (bif Nat.beq i 0 then [] else bif Nat.beq (i % 2) 1 then true :: pathF k (i / 2) else false :: pathF k (i / 2 - 1)) t = _
    cases h0 : Nat.beq i 0
    · have hi : i ≠ 0 := fun e => by subst e; cases h0
      cases h1 : Nat.beq (i % 2) 1
      · simp only [cond_false]
        cases t with
        | nil => rfl
        | fill v => rfl
        | node v l r => show getP (pathF k (i / 2 - 1)) r = _; rw [ih r _ (by omega)]; simp only [PT.get, h0, h1, cond_false]
      · simp only [cond_false, cond_true]
        cases t with
        | nil => rfl
        | fill v => rfl
        | node v l r => show getP (pathF k (i / 2)) l = _; rw [ih l _ (by omega)]; simp only [PT.get, h0, h1, cond_false, cond_true]
    · simp only [cond_true]
      cases t with
      | nil => rfl
      | fill v => rfl
      | node v l r => simp only [PT.get, h0, cond_true]; rfl
theorem setP_eq {α : Type} (x : α) : ∀ (k : Nat) (t : PT α) (i : Nat), i < k → setP (pathF k i) t x = PT.setF k t i x := by
  intro k
  induction k with
  | zero => intro t i h; omega
  | succ k ih =>
    intro t i h
    show setP (bif Nat.beq i 0 then [] else bif Nat.beq (i % 2) 1 then true :: pathF k (i / 2) else false :: pathF k (i / 2 - 1)) t x = _
    have e : PT.setF (k + 1) t i x = (match t with
      | .nil => bif Nat.beq i 0 then .node (some x) .nil .nil else bif Nat.beq (i % 2) 1 then .node none (PT.setF k .nil (i / 2) x) .nil else .node none .nil (PT.setF k .nil (i / 2 - 1) x)
      | .fill v => bif Nat.beq i 0 then .node (some x) (.fill v) (.fill v) else bif Nat.beq (i % 2) 1 then .node (some v) (PT.setF k (.fill v) (i / 2) x) (.fill v) else .node (some v) (.fill v) (PT.setF k (.fill v) (i / 2 - 1) x)
      | .node v l r => bif Nat.beq i 0 then .node (some x) l r else bif Nat.beq (i % 2) 1 then .node v (PT.setF k l (i / 2) x) r else .node v l (PT.setF k r (i / 2 - 1) x)) := by cases t <;> rfl
    rw [e]
    cases h0 : Nat.beq i 0
    · have hi : i ≠ 0 := fun e => by subst e; cases h0
      cases h1 : Nat.beq (i % 2) 1
      · simp only [cond_false]
        cases t with
        | nil => show PT.node none .nil (setP (pathF k (i / 2 - 1)) .nil x) = _; rw [ih _ _ (by omega)]
        | fill v => show PT.node (some v) (.fill v) (setP (pathF k (i / 2 - 1)) (.fill v) x) = _; rw [ih _ _ (by omega)]
        | node v l r => show PT.node v l (setP (pathF k (i / 2 - 1)) r x) = _; rw [ih _ _ (by omega)]
      · simp only [cond_false, cond_true]
        cases t with
        | nil => show PT.node none (setP (pathF k (i / 2)) .nil x) .nil = _; rw [ih _ _ (by omega)]
        | fill v => show PT.node (some v) (setP (pathF k (i / 2)) (.fill v) x) (.fill v) = _; rw [ih _ _ (by omega)]
        | node v l r => show PT.node v (setP (pathF k (i / 2)) l x) r = _; rw [ih _ _ (by omega)]
    · simp only [cond_true]
      cases t <;> rfl
/-- The same, the way made ready once. -/
noncomputable def getB {α : Type} (p : List Bool) : Box (PT α → Option α) :=
  List.rec (motive := fun _ => Box (PT α → Option α)) ⟨fun t => PT.rec (motive := fun _ => Option α) none (fun v => some v) (fun v _ _ _ _ => v) t⟩
    (fun b _ ih => Bool.rec (motive := fun _ => Box (PT α → Option α)) ⟨fun t => PT.rec (motive := fun _ => Option α) none (fun v => some v) (fun _ _ r _ _ => ih.f r) t⟩ ⟨fun t => PT.rec (motive := fun _ => Option α) none (fun v => some v) (fun _ l _ _ _ => ih.f l) t⟩ b) p
theorem getB_eq {α : Type} : ∀ (p : List Bool) (t : PT α), (getB p).f t = getP p t := by
  intro p
  induction p with
  | nil => intro t; cases t <;> rfl
  | cons b p ih => intro t; cases b <;> cases t <;> first | rfl | exact ih _
noncomputable def setB {α : Type} (p : List Bool) : Box (PT α → α → PT α) :=
  List.rec (motive := fun _ => Box (PT α → α → PT α)) ⟨fun t x => PT.rec (motive := fun _ => PT α) (.node (some x) .nil .nil) (fun v => .node (some x) (.fill v) (.fill v)) (fun _ l r _ _ => .node (some x) l r) t⟩
    (fun b _ ih => Bool.rec (motive := fun _ => Box (PT α → α → PT α))
      ⟨fun t x => PT.rec (motive := fun _ => PT α) (.node none .nil (ih.f .nil x)) (fun v => .node (some v) (.fill v) (ih.f (.fill v) x)) (fun v l r _ _ => .node v l (ih.f r x)) t⟩
      ⟨fun t x => PT.rec (motive := fun _ => PT α) (.node none (ih.f .nil x) .nil) (fun v => .node (some v) (ih.f (.fill v) x) (.fill v)) (fun v l r _ _ => .node v (ih.f l x) r) t⟩ b) p
theorem setB_eq {α : Type} : ∀ (p : List Bool) (t : PT α) (x : α), (setB p).f t x = setP p t x := by
  intro p
  induction p with
  | nil => intro t x; cases t <;> rfl
  | cons b p ih =>
    intro t x
    cases b <;> cases t
    · show PT.node none .nil ((setB p).f .nil x) = _; rw [ih]; rfl
    · rename_i v; show PT.node (some v) (.fill v) ((setB p).f (.fill v) x) = _; rw [ih]; rfl
    · rename_i v l r; show PT.node v l ((setB p).f r x) = _; rw [ih]; rfl
    · show PT.node none ((setB p).f .nil x) .nil = _; rw [ih]; rfl
    · rename_i v; show PT.node (some v) ((setB p).f (.fill v) x) (.fill v) = _; rw [ih]; rfl
    · rename_i v l r; show PT.node v ((setB p).f l x) r = _; rw [ih]; rfl
noncomputable def lookS {α : Type} (d : Nat → α) (t : PT α) (i : Nat) : α := Option.rec (motive := fun _ => α) (d i) (fun v => v) ((getB (pathOf i)).f t)
theorem lookS_eq {α : Type} (d : Nat → α) (t : PT α) (i : Nat) : lookS d t i = look d t i := by
  unfold lookS look pathOf
  rw [getB_eq, getP_eq _ _ _ (Nat.lt_succ_self i)]
  cases t.get i <;> rfl
theorem setP_set {α : Type} (t : PT α) (i : Nat) (x : α) : (setB (pathOf i)).f t x = t.set i x := by rw [setB_eq]; exact setP_eq x (i + 1) t i (Nat.lt_succ_self i)
/-- A choice, without detours. -/
noncomputable def cnd {α : Type u} (b : Bool) (x y : α) : α := Bool.rec (motive := fun _ => α) y x b
theorem cnd_eq {α : Type u} (b : Bool) (x y : α) : cnd b x y = bif b then x else y := by cases b <;> rfl

/-! ### Operands, results -/
noncomputable def stOp (x : Operand) : Box ((B : Base) → St B → V) :=
  match x with
  | .tmp t => ⟨fun B s => Option.rec (motive := fun _ => V) (B.t t) (fun v => v) ((getB (pathOf t)).f s.t)⟩
  | .const v => ⟨fun _ _ => V.ofValue v⟩
  | x => ⟨fun _ s => opnd s x⟩
theorem stOp_eq (x : Operand) (B : Base) (s : St B) : (stOp x).f B s = opnd s x := by
  cases x <;> first | rfl | exact lookS_eq _ _ _
noncomputable def stPut (d : Option Tmp) : Box ((B : Base) → St B → V → St B) :=
  match d with
  | some d => ⟨fun _ s v => { s with t := (setB (pathOf d)).f s.t v }⟩
  | none => ⟨fun _ s _ => s⟩
theorem stPut_eq (d : Option Tmp) (B : Base) (s : St B) (v : V) : (stPut d).f B s v = s.put d v := by
  cases d with
  | none => rfl
  | some d => simp only [stPut, St.put, setP_set]

/-! ### Operations -/
/-- Two numbers, by what is done to them. -/
noncomputable def stInt (op : BinOp) : Box (Bool → Bool → IntKind → Int → Int → Tree V) :=
  match op with
  | .add => ⟨fun s s' k a b => .leaf (mkW (s && s') k (a + b))⟩
  | .sub => ⟨fun s s' k a b => .leaf (mkW (s && s') k (a - b))⟩
  | .mul => ⟨fun s s' k a b => .leaf (mkW (s && s') k (a * b))⟩
  | .eql => ⟨fun s s' _ a b => .leaf (mkQ (s && s') (eqF a b) (a == b))⟩
  | .neq => ⟨fun s s' _ a b => .leaf (mkQ (s && s') (!eqF a b) (a != b))⟩
  | .lss => ⟨fun s s' _ a b => .leaf (mkQ (s && s') (ltF a b) (decide (a < b)))⟩
  | .leq => ⟨fun s s' _ a b => .leaf (mkQ (s && s') (!ltF b a) (decide (a ≤ b)))⟩
  | .gtr => ⟨fun s s' _ a b => .leaf (mkQ (s && s') (ltF b a) (decide (a > b)))⟩
  | .geq => ⟨fun s s' _ a b => .leaf (mkQ (s && s') (!ltF a b) (decide (a ≥ b)))⟩
  | op => ⟨fun s s' k a b => evInt op s s' k a b⟩
theorem stInt_eq (op : BinOp) (s s' : Bool) (k : IntKind) (a b : Int) : (stInt op).f s s' k a b = evInt op s s' k a b := by
  cases op <;> simp only [stInt, evInt, intBit, intCmp, mkW_eq]
  · rw [mkQ_eq (eqF_eq a b)]
  · rw [mkQ_eq (quick := !eqF a b) (slow := a != b) (by rw [eqF_eq]; rfl)]
  · rw [mkQ_eq (ltF_eq a b)]
  · rw [mkQ_eq (quick := !ltF b a) (slow := decide (a ≤ b)) (by rw [ltF_eq]; by_cases h : a ≤ b <;> simp [h] <;> omega)]
  · rw [mkQ_eq (ltF_eq b a)]
  · rw [mkQ_eq (quick := !ltF a b) (slow := decide (a ≥ b)) (by rw [ltF_eq]; by_cases h : b ≤ a <;> simp [h] <;> omega)]
def kindF (k k' : IntKind) : Bool := Nat.beq k.ctorIdx k'.ctorIdx
theorem kindF_eq (k k' : IntKind) : kindF k k' = decide (k = k') := by cases k <;> cases k' <;> rfl
noncomputable def stBin (P : Program) (op : BinOp) (t : TypeId) : Box (V → V → Tree V) :=
  match isShift op with
  | true => ⟨fun x y => evBin P op t x y⟩
  | false => ⟨fun x y => match x with
    | .int s k a => match y with
      | .int s' k' b => cnd (kindF k k') ((stInt op).f s s' k a b) .stuck
      | _ => .stuck
    | x => evBin P op t x y⟩
theorem stBin_eq (P : Program) (op : BinOp) (t : TypeId) (x y : V) : (stBin P op t).f x y = evBin P op t x y := by
  unfold stBin
  cases h : isShift op
  · cases x <;> try rfl
    rename_i s k a
    cases y <;> try rfl
    rename_i s' k' b
    simp only [evBin, h, stInt_eq, kindF_eq, cnd_eq]
    by_cases e : k = k' <;> simp [e]
  · rfl
noncomputable def stIfc (P : Program) (op : BinOp) (t : TypeId) (x y : Operand) : Box (V → V → Tree V) :=
  match P.underlying t with
  | some (.interface _) => ⟨fun a b => match evIfc P op t x y a b with
    | some T => T
    | none => evBin P op t a b⟩
  | _ => stBin P op t
theorem stIfc_eq (P : Program) (op : BinOp) (t : TypeId) (x y : Operand) (a b : V) : some ((stIfc P op t x y).f a b) = (match evIfc P op t x y a b with
    | some T => some T
    | none => some (evBin P op t a b)) := by
  unfold stIfc
  split
  · dsimp only; cases evIfc P op t x y a b <;> rfl
  · rename_i h
    have : evIfc P op t x y a b = none := by
      unfold evIfc
      split
      · rename_i m hm; exact absurd hm (h _)
      · rfl
    rw [this, stBin_eq]
/-- The cell at a place. -/
noncomputable def nthO (o : Nat) : V → Option V := Nat.rec (motive := fun _ => V → Option V)
  (fun v => match v with | .cons h _ => some h | _ => none) (fun _ ih v => match v with | .cons _ t => ih t | _ => none) o
theorem nthO_eq : ∀ (o : Nat) (v : V), nthO o v = bif Nat.blt o v.len then some (v.nth o) else none := by
  intro o
  induction o with
  | zero =>
    intro v
    cases v <;> rfl
  | succ o ih =>
    intro v
    cases v <;> try rfl
    rename_i h t
    show nthO o t = bif Nat.blt (o + 1) (t.len + 1) then some (V.nth (.cons h t) (o + 1)) else none
    rw [ih t]
    rfl
noncomputable def takeO (z : Nat) : V → Option V := Nat.rec (motive := fun _ => V → Option V)
  (fun _ => some .nil) (fun _ ih v => match v with | .cons h t => (match ih t with | some r => some (.cons h r) | none => none) | _ => none) z
theorem takeO_eq : ∀ (z : Nat) (v : V), takeO z v = bif Nat.ble z v.len then some (v.take z) else none := by
  intro z
  induction z with
  | zero =>
    intro v
    have : Nat.ble 0 v.len = true := by cases v.len <;> rfl
    rw [this]
    cases v <;> rfl
  | succ z ih =>
    intro v
    cases v <;> try rfl
    rename_i h t
    show (match takeO z t with | some r => some (.cons h r) | none => none) = bif Nat.ble (z + 1) (t.len + 1) then some (V.take (.cons h t) (z + 1)) else none
    rw [ih t]
    have e : Nat.ble (z + 1) (t.len + 1) = Nat.ble z t.len := rfl
    rw [e]
    cases Nat.ble z t.len <;> rfl
noncomputable def dropO (o : Nat) : V → V := Nat.rec (motive := fun _ => V → V) (fun v => v) (fun _ ih v => match v with | .cons _ t => ih t | v => v) o
theorem dropO_eq : ∀ (o : Nat) (v : V), dropO o v = v.drop o := by
  intro o
  induction o with
  | zero => intro v; cases v <;> rfl
  | succ o ih =>
    intro v
    cases v <;> try rfl
    rename_i h t
    show dropO o t = V.drop (.cons h t) (o + 1)
    rw [ih t]; rfl
theorem drop_len : ∀ (o : Nat) (v : V), (v.drop o).len = v.len - o := by
  intro o
  induction o with
  | zero => intro v; cases v <;> rfl
  | succ o ih =>
    intro v
    cases v <;> try (simp [V.drop, V.len]; done)
    rename_i h t
    simp only [V.drop, V.len]
    rw [show Nat.beq (o + 1) 0 = false from rfl]
    simp only [cond_false, Nat.add_sub_cancel]
    rw [ih t]; omega
/-- A part of a row of cells. -/
noncomputable def stPart (P : Program) (t : TypeId) : Box (V → Nat → Option V) :=
  match tyAgg P t with
  | some true => match tySize P t with
    | some (z + 1) => ⟨fun cs o => match takeO (z + 1) (dropO o cs) with | some r => some (.agg r) | none => none⟩
    | _ => ⟨fun cs o => partOf P t cs o⟩
  | some false => ⟨fun cs o => nthO o cs⟩
  | none => ⟨fun _ _ => none⟩
theorem stPart_eq (P : Program) (t : TypeId) (cs : V) (o : Nat) : (stPart P t).f cs o = partOf P t cs o := by
  unfold stPart
  cases h : tyAgg P t with
  | none => simp only [partOf, h]
  | some b =>
    cases b with
    | false => simp only [partOf, h]; exact nthO_eq o cs
    | true =>
      dsimp only
      cases hz : tySize P t with
      | none => rfl
      | some z =>
        cases z with
        | zero => rfl
        | succ z =>
          simp only [partOf, h, hz, takeO_eq, dropO_eq, drop_len]
          have e : Nat.ble (z + 1) (cs.len - o) = Nat.ble (o + (z + 1)) cs.len := by
            cases h1 : Nat.ble (o + (z + 1)) cs.len
            · cases h2 : Nat.ble (z + 1) (cs.len - o)
              · rfl
              · have := Nat.le_of_ble_eq_true h2
                rw [Nat.ble_eq_true_of_le (by omega)] at h1; cases h1
            · have := Nat.le_of_ble_eq_true h1
              exact Nat.ble_eq_true_of_le (by omega)
          rw [e]
          cases Nat.ble (o + (z + 1)) cs.len <;> rfl
noncomputable def stLoad (P : Program) (t : TypeId) : Box ((Nat → Blk) → V → Tree V) := ⟨fun h x =>
  match x with
  | .ptr st b es i o => match h b with
    | .var cs => bif st then (match (stPart P t).f cs (i * es + o) with | some v => .leaf v | none => .stuck) else .stuck
    | .arr es' n get => bif Nat.beq es es' then atIdx st i n (match (stPart P t).f (get i) o with | some v => .leaf v | none => .stuck) else .stuck
    | _ => .stuck
  | .rptr _ _ _ get i o => match (stPart P t).f (get i) o with | some v => .leaf v | none => .stuck
  | _ => .stuck⟩
theorem stLoad_eq (P : Program) (t : TypeId) (h : Nat → Blk) (x : V) : (stLoad P t).f h x = evLoad P h t x := by
  have e : ∀ o : Option V, (match o with | some v => Tree.leaf v | none => .stuck) = Tree.ofOpt o := fun o => by cases o <;> rfl
  simp only [stLoad, evLoad, stPart_eq, e]
  rfl
noncomputable def stFieldAddr (P : Program) (t : TypeId) (f : Nat) : Box (V → Tree V) :=
  match fieldOff P t f with
  | some (off, _) => ⟨fun x => match x with
    | .ptr st b es i o => .leaf (.ptr st b es i (o + off))
    | .rptr st es n get i o => .leaf (.rptr st es n get i (o + off))
    | _ => .stuck⟩
  | none => ⟨fun _ => .stuck⟩
theorem stFieldAddr_eq (P : Program) (t : TypeId) (x : V) (f : Nat) : (stFieldAddr P t f).f x = evFieldAddr P t x f := by
  unfold stFieldAddr evFieldAddr
  cases fieldOff P t f <;> rfl
noncomputable def stField (P : Program) (t : TypeId) (f : Nat) : Box (V → Tree V) :=
  match P.underlying t with
  | some (.struct fields) => match fields[f]? with
    | some fd => ⟨fun x => match x with
      | .agg cs => match (stPart P fd.type).f cs fd.offset with | some v => .leaf v | none => .stuck
      | _ => .stuck⟩
    | none => ⟨fun _ => .stuck⟩
  | _ => ⟨fun _ => .stuck⟩
theorem stField_eq (P : Program) (t : TypeId) (x : V) (f : Nat) : (stField P t f).f x = evField P t x f := by
  have e : ∀ o : Option V, (match o with | some v => Tree.leaf v | none => .stuck) = Tree.ofOpt o := fun o => by cases o <;> rfl
  unfold stField evField
  split
  · rename_i fields hu
    simp only [hu]
    cases fields[f]? with
    | none => rfl
    | some fd => simp only [stPart_eq, e]; rfl
  · rename_i h
    split
    · rename_i fields hu; exact absurd hu (h fields)
    · rfl
noncomputable def stIndexAddr (P : Program) (t : TypeId) : Box (V → V → Tree V) :=
  match P.underlying t with
  | some (.slice e) => match tySize P e with
    | some z => ⟨fun x ix => match ix with
      | .int s _ j => match x with
        | .rsl st es n get => bif Nat.beq z es then atInt (st && s) j n fun q => .leaf (.rptr (st && s) es n get q 0) else .stuck
        | .osl st b es i n => bif Nat.beq z es then atInt (st && s) j n fun q => .leaf (.ptr (st && s) b es (i + q) 0) else .stuck
        | _ => .stuck
      | _ => .stuck⟩
    | none => ⟨fun x ix => evIndexAddr P t x ix⟩
  | _ => ⟨fun x ix => evIndexAddr P t x ix⟩
theorem stIndexAddr_eq (P : Program) (t : TypeId) (x ix : V) : (stIndexAddr P t).f x ix = evIndexAddr P t x ix := by
  unfold stIndexAddr
  split
  · rename_i e hu
    cases hz : tySize P e with
    | none => rfl
    | some z =>
      unfold evIndexAddr
      simp only [hu, hz]
      cases ix <;> rfl
  · rfl
noncomputable def stStore (P : Program) (t : TypeId) : Box ((Nat → Blk) → PT Blk → V → V → Tree (PT Blk)) :=
  match tySize P t with
  | some z => ⟨fun g h x v => bif Nat.beq v.cells.len z && (v.cells.allCell && v.solid) then
      match x with
      | .ptr st b es i o => (evStoreB (lookS g h b) st es i o z v).bnd fun blk => .leaf (h.set b blk)
      | _ => .stuck
    else .stuck⟩
  | none => ⟨fun _ _ _ _ => .stuck⟩
theorem stStore_eq (P : Program) (t : TypeId) (g : Nat → Blk) (h : PT Blk) (x v : V) : (stStore P t).f g h x v = evStore P g h t x v := by
  unfold stStore evStore
  cases tySize P t with
  | none => rfl
  | some z => simp only [lookS_eq, Tree.bnd_eq]; rfl

/-- Is a function one of these? -/
noncomputable def among (gs : List FuncId) (g : FuncId) : Bool := List.rec false (fun x _ ih => bif Nat.beq g x then true else ih) gs
noncomputable def argsS (l : List Operand) : Box ((B : Base) → St B → V) :=
  List.rec ⟨fun _ _ => .nil⟩ (fun x _ ih => ⟨fun B s => .cons ((stOp x).f B s) (ih.f B s)⟩) l
theorem argsS_eq (l : List Operand) (B : Base) (s : St B) : (argsS l).f B s = .ofList (l.map (opnd s)) := by
  induction l with
  | nil => rfl
  | cons x l ih => show V.cons ((stOp x).f B s) ((argsS l).f B s) = _; rw [ih, stOp_eq]; rfl
theorem ofList_app (l : List V) : (V.ofList l).app .nil = V.ofList l := by
  induction l with
  | nil => rfl
  | cons v l ih => show V.cons v ((V.ofList l).app .nil) = _; rw [ih]; rfl
theorem nil_app (v : V) : V.nil.app v = v := rfl

abbrev OperF := CallF → (B : Base) → St B → (St B → Tree (St B)) → Tree (St B)
/-- One operation as the text has it, with what comes behind it. -/
def slowOper (E : Env) (o : Oper) : OperF := fun call _ s k => (evOp E call s o.op).bind fun r => k ({ s with h := r.2.1, n := r.2.2 }.put o.dst r.1)
noncomputable def quietOper (T : (B : Base) → St B → Tree V) (d : Option Tmp) : OperF := fun _ B s k => (T B s).bnd fun v => k ((stPut d).f B s v)
theorem quietOper_eq {E : Env} {o : Oper} {T : (B : Base) → St B → Tree V} {call : CallF} {B : Base} {s : St B} {k : St B → Tree (St B)} (h : evQ E (opnd s) s.blk o.op = some (T B s)) : quietOper T o.dst call B s k = slowOper E o call B s k := by
  unfold quietOper slowOper evOp
  rw [h]
  simp only [Tree.bnd_eq, stPut_eq]
  generalize T B s = T'
  induction T' with
  | leaf a => rfl
  | stuck => rfl
  | node b t f iht ihf => simp only [Tree.bind]; rw [iht, ihf]
  | need p t ih => simp only [Tree.bind]; rw [ih]
  | all σ t ih => simp only [Tree.bind]; congr 1; funext x; exact ih x
  | given p t ih => simp only [Tree.bind]; rw [ih]
  | both t f iht ihf => simp only [Tree.bind]; rw [iht, ihf]
noncomputable def stCallOper (E : Env) (gs : List FuncId) (o : Oper) (c : Call) : Box OperF :=
  match c.callee with
  | .builtin b => match b with
    | .len => ⟨quietOper (fun B s => match evBuiltin E.P .len c.argTypes.toList ((argsS c.args.toList).f B s) with | some T => T | none => .stuck) o.dst⟩
    | _ => ⟨slowOper E o⟩
  | .value f => match f with
    | .func g => match among gs g with
      | false => ⟨fun call B s k => (call B.h (.inl g) ((argsS c.args.toList).f B s) s.h s.n).bnd fun r => k ((stPut o.dst).f B { s with h := r.2.1, n := r.2.2 } r.1)⟩
      | true => ⟨slowOper E o⟩
    | f => ⟨fun call B s k => match (stOp f).f B s with
      | .fn (.func g) first cap => bif among gs g then slowOper E o call B s k else
          (call B.h (.inl g) (first.app (((argsS c.args.toList).f B s).app cap)) s.h s.n).bnd fun r => k ((stPut o.dst).f B { s with h := r.2.1, n := r.2.2 } r.1)
      | .yld b => (call B.h (.inr b) ((argsS c.args.toList).f B s) s.h s.n).bnd fun r => k ((stPut o.dst).f B { s with h := r.2.1, n := r.2.2 } r.1)
      | _ => slowOper E o call B s k⟩
  | _ => ⟨slowOper E o⟩
noncomputable def stOper (E : Env) (gs : List FuncId) (o : Oper) : Box OperF :=
  match o.op with
  | .move x => ⟨fun _ B s k => k ((stPut o.dst).f B s ((stOp x).f B s))⟩
  | .assign x => ⟨fun _ B s k => k ((stPut o.dst).f B s ((stOp x).f B s))⟩
  | .load t a => ⟨quietOper (fun B s => (stLoad E.P t).f (lookS B.h s.h) ((stOp a).f B s)) o.dst⟩
  | .binOp op t x y _ => ⟨quietOper (fun B s => (stIfc E.P op t x y).f ((stOp x).f B s) ((stOp y).f B s)) o.dst⟩
  | .unOp op _ x => ⟨quietOper (fun B s => evUn op ((stOp x).f B s)) o.dst⟩
  | .fieldAddr t x f => ⟨quietOper (fun B s => (stFieldAddr E.P t f).f ((stOp x).f B s)) o.dst⟩
  | .field t x f => ⟨quietOper (fun B s => (stField E.P t f).f ((stOp x).f B s)) o.dst⟩
  | .indexAddr t x ix => ⟨quietOper (fun B s => (stIndexAddr E.P t).f ((stOp x).f B s).plain1 ((stOp ix).f B s)) o.dst⟩
  | .index t x ix => ⟨quietOper (fun B s => evIndex E.P t ((stOp x).f B s) ((stOp ix).f B s)) o.dst⟩
  | .extract x i => ⟨quietOper (fun B s => evExtract ((stOp x).f B s) i) o.dst⟩
  | .nilCheck x => ⟨quietOper (fun B s => evNilCheck ((stOp x).f B s)) o.dst⟩
  | .pick c x y => ⟨quietOper (fun B s => evPick ((stOp c).f B s) ((stOp x).f B s) ((stOp y).f B s)) o.dst⟩
  | .store t a x => ⟨fun _ B s k => ((stStore E.P t).f B.h s.h ((stOp a).f B s) ((stOp x).f B s)).bnd fun h => k ((stPut o.dst).f B { s with h := h } .undef)⟩
  | .call c => stCallOper E gs o c
  | _ => ⟨slowOper E o⟩
/-- Of functions that are none of these, nothing is known ahead. -/
def Among (E : Env) (gs : List FuncId) : Prop := ∀ g args, among gs g = false → E.Γ g args = none
theorem callee_none {E : Env} {gs : List FuncId} (hΓ : Among E gs) {ρ : Operand → V} {h : Nat → Blk} {c : Call} {f : Operand} (hc : c.callee = .value f) (hf : ∀ g out, callee (ρ f) (.ofList (c.args.toList.map ρ)) = some (g, out) → among gs g = false) :
    evQ E ρ h (.call c) = none ∧ evFrozen E ρ h f c = none := by
  simp only [evQ, evFrozen, hc]
  cases hcal : callee (ρ f) (.ofList (c.args.toList.map ρ)) with
  | none => exact ⟨rfl, rfl⟩
  | some r =>
    obtain ⟨g, out⟩ := r
    dsimp only
    rw [hΓ g _ (hf g out hcal), hΓ g _ (hf g out hcal)]
    refine ⟨rfl, ?_⟩
    cases out.clean
    · cases (freeze h out).clean <;> rfl
    · rfl
theorem stOper_eq {E : Env} {gs : List FuncId} (hΓ : Among E gs) (o : Oper) (call : CallF) (B : Base) (s : St B) (k : St B → Tree (St B)) : (stOper E gs o).f call B s k = slowOper E o call B s k := by
  unfold stOper
  have hblk : lookS B.h s.h = s.blk := funext fun b => lookS_eq _ _ _
  split
  case h_1 x ho => simp only [slowOper, ho, evOp, evQ, Tree.bind, stPut_eq, stOp_eq]
  case h_2 x ho => simp only [slowOper, ho, evOp, evQ, Tree.bind, stPut_eq, stOp_eq]
  case h_3 t a ho => dsimp only; exact quietOper_eq (by rw [ho]; simp only [evQ, stLoad_eq, stOp_eq, hblk])
  case h_4 op t x y _ ho => dsimp only; exact quietOper_eq (by rw [ho]; simp only [evQ, stOp_eq]; exact (stIfc_eq _ _ _ _ _ _ _).symm)
  case h_5 op _ x ho => dsimp only; exact quietOper_eq (by rw [ho]; simp only [evQ, stOp_eq])
  case h_6 t x f ho => dsimp only; exact quietOper_eq (by rw [ho]; simp only [evQ, stOp_eq, stFieldAddr_eq])
  case h_7 t x f ho => dsimp only; exact quietOper_eq (by rw [ho]; simp only [evQ, stOp_eq, stField_eq])
  case h_8 t x f ho => dsimp only; exact quietOper_eq (by rw [ho]; simp only [evQ, stOp_eq, stIndexAddr_eq])
  case h_9 t x ix ho => dsimp only; exact quietOper_eq (by rw [ho]; simp only [evQ, stOp_eq])
  case h_10 x i ho => dsimp only; exact quietOper_eq (by rw [ho]; simp only [evQ, stOp_eq])
  case h_11 x ho => dsimp only; exact quietOper_eq (by rw [ho]; simp only [evQ, stOp_eq])
  case h_12 c x y ho => dsimp only; exact quietOper_eq (by rw [ho]; simp only [evQ, stOp_eq])
  case h_13 t a x ho =>
    simp only [slowOper, ho, evOp, evQ, stStore_eq, stOp_eq, stPut_eq, Tree.bnd_eq]
    generalize evStore E.P B.h s.h t (opnd s a) (opnd s x) = T'
    induction T' with
    | leaf a => rfl
    | stuck => rfl
    | node b t f iht ihf => simp only [Tree.bind]; rw [iht, ihf]
    | need p t ih => simp only [Tree.bind]; rw [ih]
    | all σ t ih => simp only [Tree.bind]; congr 1; funext x; exact ih x
    | given p t ih => simp only [Tree.bind]; rw [ih]
    | both t f iht ihf => simp only [Tree.bind]; rw [iht, ihf]
  case h_14 c ho =>
    unfold stCallOper
    split
    case h_1 b hc =>
      split
      · dsimp only
        refine quietOper_eq ?_
        rw [ho]
        simp only [evQ, hc, argsS_eq]
        rfl
      · rfl
    case h_2 f hc =>
      split
      case h_1 g =>
        cases ha : among gs g
        · obtain ⟨e1, e2⟩ := callee_none hΓ (ρ := opnd s) (h := s.blk) hc (fun g' out h => by
            simp only [opnd, callee] at h
            injection h with h; injection h with h1 h2; subst h1; exact ha)
          simp only [slowOper, ho, evOp, e1, hc, e2, argsS_eq, Tree.bnd_eq, stPut_eq]
          simp only [calleeY, opnd, callee, nil_app, ofList_app]
        · rfl
      case h_2 f hf =>
        dsimp only
        rw [stOp_eq, argsS_eq]
        split
        · rename_i g first cap hv
          cases ha : among gs g
          · obtain ⟨e1, e2⟩ := callee_none hΓ (ρ := opnd s) (h := s.blk) hc (fun g' out h => by
              rw [hv] at h
              simp only [callee] at h
              injection h with h; injection h with h1 h2; subst h1; exact ha)
            simp only [cond_false, slowOper, ho, evOp, e1, hc, e2, Tree.bnd_eq, stPut_eq]
            rw [hv]
            simp only [calleeY, callee]
          · rfl
        · rename_i b hv
          obtain ⟨e1, e2⟩ := callee_none hΓ (ρ := opnd s) (h := s.blk) hc (fun g' out h => by
            rw [hv] at h
            simp only [callee] at h
            cases h)
          simp only [slowOper, ho, evOp, e1, hc, e2, Tree.bnd_eq, stPut_eq]
          rw [hv]
          simp only [calleeY]
        · rfl
    case h_3 => rfl
  case h_15 => rfl
noncomputable def stOps (E : Env) (gs : List FuncId) (ops : Array Oper) (l : List Oper) : Box (CallF → (B : Base) → St B → Tree (St B)) :=
  List.rec (motive := fun _ => Box (CallF → (B : Base) → St B → Tree (St B))) ⟨fun _ _ s => .leaf s⟩ (fun o _ ih => match o.guard with
    | none => ⟨fun call B s => (stOper E gs o).f call B s fun s' => ih.f call B s'⟩
    | some _ => ⟨fun call B s => match guardOf ops (lookS B.t s.t) o with
      | .bad => .stuck
      | .yes => (stOper E gs o).f call B s fun s' => ih.f call B s'
      | .no => ih.f call B ((stPut o.dst).f B s .undef)
      | .dyn d b want => match want with
        | true => .node b ((stOper E gs o).f call B (s.know d true) fun s' => ih.f call B s') (ih.f call B ((s.know d false).put o.dst .undef))
        | false => .node b (ih.f call B ((s.know d true).put o.dst .undef)) ((stOper E gs o).f call B (s.know d false) fun s' => ih.f call B s')⟩) l
theorem stOps_eq {E : Env} {gs : List FuncId} (hΓ : Among E gs) (ops : Array Oper) (call : CallF) (B : Base) : ∀ (l : List Oper) (s : St B), (stOps E gs ops l).f call B s = evOps E call ops l s := by
  intro l
  induction l with
  | nil => intro s; rfl
  | cons o rest ih =>
    intro s
    have go : ∀ s : St B, ((stOper E gs o).f call B s fun s' => (stOps E gs ops rest).f call B s') = (evOp E call s o.op).bind fun r => evOps E call ops rest ({ s with h := r.2.1, n := r.2.2 }.put o.dst r.1) := by
      intro s
      rw [stOper_eq hΓ]
      unfold slowOper
      congr 1
      funext r
      exact ih _
    have ht : lookS B.t s.t = s.tmp := funext fun b => lookS_eq _ _ _
    have e : (stOps E gs ops (o :: rest)).f call B s = (match o.guard with
      | none => (stOper E gs o).f call B s fun s' => (stOps E gs ops rest).f call B s'
      | some _ => match guardOf ops (lookS B.t s.t) o with
        | .bad => .stuck
        | .yes => (stOper E gs o).f call B s fun s' => (stOps E gs ops rest).f call B s'
        | .no => (stOps E gs ops rest).f call B ((stPut o.dst).f B s .undef)
        | .dyn d b want => match want with
          | true => .node b ((stOper E gs o).f call B (s.know d true) fun s' => (stOps E gs ops rest).f call B s') ((stOps E gs ops rest).f call B ((s.know d false).put o.dst .undef))
          | false => .node b ((stOps E gs ops rest).f call B ((s.know d true).put o.dst .undef)) ((stOper E gs o).f call B (s.know d false) fun s' => (stOps E gs ops rest).f call B s')) := by
      unfold stOps
      dsimp only
      cases o.guard <;> rfl
    rw [e]
    simp only [go]
    simp only [evOps, ih, ht, stPut_eq]
    cases hg : o.guard with
    | none => simp only [guardOf, hg]
    | some g => rfl

/-! ### Regions that draw their order -/
/-- Operations that change nothing, and look at no block but by loading. -/
def quietD : Op → Bool
  | .move _ | .assign _ | .load _ _ | .binOp .. | .unOp .. | .fieldAddr .. | .field .. | .indexAddr .. | .index .. | .extract .. | .pick .. => true
  | _ => false
/-- What a quiet operation comes to. -/
noncomputable def stTree (E : Env) (o : Op) : Box ((B : Base) → St B → Tree V) :=
  match o with
  | .move x => ⟨fun B s => .leaf ((stOp x).f B s)⟩
  | .assign x => ⟨fun B s => .leaf ((stOp x).f B s)⟩
  | .load t a => ⟨fun B s => (stLoad E.P t).f (lookS B.h s.h) ((stOp a).f B s)⟩
  | .binOp op t x y _ => ⟨fun B s => (stIfc E.P op t x y).f ((stOp x).f B s) ((stOp y).f B s)⟩
  | .unOp op _ x => ⟨fun B s => evUn op ((stOp x).f B s)⟩
  | .fieldAddr t x f => ⟨fun B s => (stFieldAddr E.P t f).f ((stOp x).f B s)⟩
  | .field t x f => ⟨fun B s => (stField E.P t f).f ((stOp x).f B s)⟩
  | .indexAddr t x ix => ⟨fun B s => (stIndexAddr E.P t).f ((stOp x).f B s).plain1 ((stOp ix).f B s)⟩
  | .index t x ix => ⟨fun B s => evIndex E.P t ((stOp x).f B s) ((stOp ix).f B s)⟩
  | .extract x i => ⟨fun B s => evExtract ((stOp x).f B s) i⟩
  | .pick c x y => ⟨fun B s => evPick ((stOp c).f B s) ((stOp x).f B s) ((stOp y).f B s)⟩
  | _ => ⟨fun _ _ => .stuck⟩
theorem opndK_nil {B : Base} (s : St B) (x : Operand) : opndK s [] x = opnd s x := by cases x <;> rfl
theorem stTree_eq {E : Env} {call : CallF} {B : Base} {s : St B} {nb sz nm : Nat} {o : Op} (h : quietD o = true) : evD E call s nb sz nm [] o = ((stTree E o).f B s).bind fun v => .leaf (v, none) := by
  have hblk : lookS B.h s.h = s.blk := funext fun b => lookS_eq _ _ _
  have hK : opndK s [] = opnd s := funext fun x => opndK_nil s x
  cases o <;> try (cases h; done)
  all_goals simp only [evD, evDQ, hK, stTree, stOp_eq, stLoad_eq, hblk, stFieldAddr_eq, stField_eq, stIndexAddr_eq]
  case binOp op t x y t' =>
    have := stIfc_eq E.P op t x y (opnd s x) (opnd s y)
    simp only [evQ]
    cases hi : evIfc E.P op t x y (opnd s x) (opnd s y) with
    | none => rw [hi] at this; injection this with this; rw [this]
    | some T => rw [hi] at this; injection this with this; rw [this]
  all_goals rfl
abbrev StepD' := CallF → Nat → List (Nat × Ft) → (B : Base) → St B → Tree (St B)
/-- A call in a drawing region: as it is, as a great one, or a small one. -/
noncomputable def bigStep (ops : Array Oper) (bf : List Nat) (nb j : Nat) (fps : List (Nat × Ft)) (o : Oper) {B : Base} (s : St B) (d : Tree (V × Option (Nat × Blk))) (T : Tree (V × PT Blk × Nat)) (pf : St B → V → St B) (k : List (Nat × Ft) → St B → Tree (St B)) : Tree (St B) :=
  bif (!argsClean s o.op || d.isStuck) && (!T.isStuck && (T.flat && dstOk s.N o)) then
    T.bnd fun r =>
      bif quietR s.n r && freeOf ops bf nb j fps quietFt then k ((j, quietFt) :: fps) (pf s r.1)
      else bif bigAt ops bf j o && freeOf ops bf nb j fps (bigFt r.2.1) then k ((j, bigFt r.2.1) :: fps) (pf { s with h := s.h.over r.2.1, n := r.2.2 } r.1)
      else bif freeOf ops bf nb j fps (foot s (nb + j) o.op) && (d.flat && dstOk s.N o) then d.bnd fun r => k ((j, foot s (nb + j) o.op) :: fps) (pf (s.wr r.2) r.1) else .stuck
  else bif freeOf ops bf nb j fps (foot s (nb + j) o.op) && (d.flat && dstOk s.N o) then d.bnd fun r => k ((j, foot s (nb + j) o.op) :: fps) (pf (s.wr r.2) r.1) else .stuck
noncomputable def stOpsD (E : Env) (ops : Array Oper) (bf : List Nat) (l : List Oper) : Nat → Box StepD' :=
  List.rec (motive := fun _ => Nat → Box StepD') (fun _ => ⟨fun _ _ _ _ s => .leaf s⟩) (fun o rest ih j => match o.guard with
    | none => match isBig o.op with
      | true => ⟨fun call nb fps B s => bigStep ops bf nb j fps o s (evD E call s nb ops.size (nb + j) [] o.op) (evOp E call s.sub o.op) ((stPut o.dst).f B) (fun fps s => (ih (j + 1)).f call nb fps B s)⟩
      | false => match quietD o.op with
        | true => ⟨fun call nb fps B s => match (stTree E o.op).f B s with
          | .leaf v => bif freeOf ops bf nb j fps (foot s (nb + j) o.op) && dstOk s.N o then (ih (j + 1)).f call nb ((j, foot s (nb + j) o.op) :: fps) B ((stPut o.dst).f B s v) else .stuck
          | _ => evOpsD E call ops bf nb (o :: rest) j fps [] s⟩
        | false => ⟨fun call nb fps B s => match evD E call s nb ops.size (nb + j) [] o.op with
          | .leaf r => bif freeOf ops bf nb j fps (foot s (nb + j) o.op) && dstOk s.N o then (ih (j + 1)).f call nb ((j, foot s (nb + j) o.op) :: fps) B ((stPut o.dst).f B (s.wr r.2) r.1) else .stuck
          | _ => evOpsD E call ops bf nb (o :: rest) j fps [] s⟩
    | some _ => ⟨fun call nb fps _ s => evOpsD E call ops bf nb (o :: rest) j fps [] s⟩) l
theorem stOpsD_eq (E : Env) (ops : Array Oper) (bf : List Nat) (call : CallF) (nb : Nat) (B : Base) : ∀ (l : List Oper) (j : Nat) (fps : List (Nat × Ft)) (s : St B), (stOpsD E ops bf l j).f call nb fps B s = evOpsD E call ops bf nb l j fps [] s := by
  intro l
  induction l with
  | nil => intro j fps s; rfl
  | cons o rest ih =>
    intro j fps s
    have hk : ∀ o : Oper, knOf ops o [] = [] := fun o => rfl
    have hk2 : knCut o [] = [] := by unfold knCut; cases o.dst <;> rfl
    have e1 : stOpsD E ops bf (o :: rest) j = (match o.guard with
    | none => match isBig o.op with
      | true => ⟨fun call nb fps B s => bigStep ops bf nb j fps o s (evD E call s nb ops.size (nb + j) [] o.op) (evOp E call s.sub o.op) ((stPut o.dst).f B) (fun fps s => (stOpsD E ops bf rest (j + 1)).f call nb fps B s)⟩
      | false => match quietD o.op with
        | true => ⟨fun call nb fps B s => match (stTree E o.op).f B s with
          | .leaf v => bif freeOf ops bf nb j fps (foot s (nb + j) o.op) && dstOk s.N o then (stOpsD E ops bf rest (j + 1)).f call nb ((j, foot s (nb + j) o.op) :: fps) B ((stPut o.dst).f B s v) else .stuck
          | _ => evOpsD E call ops bf nb (o :: rest) j fps [] s⟩
        | false => ⟨fun call nb fps B s => match evD E call s nb ops.size (nb + j) [] o.op with
          | .leaf r => bif freeOf ops bf nb j fps (foot s (nb + j) o.op) && dstOk s.N o then (stOpsD E ops bf rest (j + 1)).f call nb ((j, foot s (nb + j) o.op) :: fps) B ((stPut o.dst).f B (s.wr r.2) r.1) else .stuck
          | _ => evOpsD E call ops bf nb (o :: rest) j fps [] s⟩
    | some _ => ⟨fun call nb fps _ s => evOpsD E call ops bf nb (o :: rest) j fps [] s⟩) := rfl
    rw [e1]
    cases hg : o.guard with
    | some g => rfl
    | none =>
      dsimp only
      cases hb : isBig o.op
      · dsimp only
        cases hq : quietD o.op
        · dsimp only
          split
          · rename_i r hv
            rw [ih, stPut_eq]
            simp only [evOpsD, guardOf, hg, hb, hk, hk2, hv, Tree.flat, Bool.true_and, Bool.false_and, cond_false]
            rfl
          · rfl
        · dsimp only
          split
          · rename_i v hv
            have hD : evD E call s nb ops.size (nb + j) [] o.op = .leaf (v, none) := by rw [stTree_eq hq, hv]; rfl
            rw [ih, stPut_eq]
            simp only [evOpsD, guardOf, hg, hb, hk, hk2, hD, Tree.flat, Bool.true_and, Bool.false_and, cond_false]
            rfl
          · rfl
      · dsimp only
        simp only [bigStep, Tree.bnd_eq, ih, stPut_eq]
        simp only [evOpsD, guardOf, hg, hb, hk, hk2, Bool.true_and]

/-! ### Code -/
/-- One above the greatest number of a temporary that is written. -/
noncomputable def topOf (l : List Oper) : Nat := List.rec 0 (fun o _ ih => match o.dst with | some d => (bif Nat.ble ih (d + 1) then d + 1 else ih) | none => ih) l
theorem ble_dec (a b : Nat) : Nat.ble a b = decide (a ≤ b) := by
  cases h : Nat.ble a b
  · exact (decide_eq_false fun h' => by rw [Nat.ble_eq_true_of_le h'] at h; cases h).symm
  · exact (decide_eq_true (Nat.le_of_ble_eq_true h)).symm
theorem top_aux (a d N : Nat) : (Nat.blt d N && Nat.ble a N) = Nat.ble (bif Nat.ble a (d + 1) then d + 1 else a) N := by
  rw [blt_dec, ble_dec, ble_dec]
  by_cases h1 : a ≤ d + 1
  · simp only [h1, decide_true, cond_true, ble_dec]
    by_cases h2 : d < N
    · simp [h2, show d + 1 ≤ N by omega, show a ≤ N by omega]
    · simp [h2]; omega
  · simp only [h1, decide_false, cond_false, ble_dec]
    by_cases h2 : d < N
    · simp [h2]
    · simp [h2, show ¬ a ≤ N by omega]
theorem topOf_ok (N : Nat) : ∀ l : List Oper, l.all (dstOk N) = Nat.ble (topOf l) N := by
  intro l
  induction l with
  | nil => symm; exact Nat.ble_eq_true_of_le (Nat.zero_le N)
  | cons o l ih =>
    rw [List.all_cons, ih]
    have e : topOf (o :: l) = (match o.dst with | some d => (bif Nat.ble (topOf l) (d + 1) then d + 1 else topOf l) | none => topOf l) := rfl
    rw [e]
    unfold dstOk
    cases o.dst with
    | none => simp
    | some d => exact top_aux (topOf l) d N
noncomputable def setArgsS : V → Nat → PT V → PT V := fun v => V.rec (motive := fun _ => Nat → PT V → PT V)
  (fun _ T => T) (fun _ T => T) (fun _ T => T) (fun h _ _ ih i T => ih (i + 1) ((setB (pathOf i)).f T h)) (fun _ _ _ _ T => T) (fun _ _ _ T => T) (fun _ _ _ T => T) (fun _ _ _ T => T) (fun _ _ _ T => T)
  (fun _ _ _ _ _ _ T => T) (fun _ _ _ _ _ _ _ _ T => T) (fun _ T => T) (fun _ _ _ _ _ _ T => T) (fun _ _ _ _ _ _ T => T) (fun _ _ _ _ _ _ _ T => T) (fun _ T => T) (fun _ _ _ _ _ _ T => T) (fun _ T => T) (fun _ T => T) (fun _ T => T) (fun _ _ T => T) (fun _ _ T => T) (fun _ _ _ T => T) (fun _ _ _ T => T) (fun _ _ _ _ _ _ T => T) v
theorem setArgsS_eq : ∀ (v : V) (i : Nat) (T : PT V), setArgsS v i T = setArgs v i T := by
  intro v
  induction v with
  | cons h t ih1 ih2 => intro i T; show setArgsS t (i + 1) ((setB (pathOf i)).f T h) = setArgs t (i + 1) (T.set i h); rw [ih2, setP_set]
  | _ => intro i T; rfl
noncomputable def enterS (hb : Nat → Blk) (args : V) (ntmps : Nat) (h : PT Blk) (n : Nat) : St (Base.fn hb) := { t := setArgsS args 0 .nil, h, n, N := args.len + (ntmps - args.len) }
theorem enterS_eq (hb : Nat → Blk) (args : V) (ntmps : Nat) (h : PT Blk) (n : Nat) : enterS hb args ntmps h n = enter hb args ntmps h n := by unfold enterS enter; rw [setArgsS_eq]
/-- What is answered. -/
noncomputable def stResult (P : Program) (r : ResultVar) : Box ((B : Base) → St B → Tree V) :=
  match r with
  | .tmp t => ⟨fun B s => .leaf (lookS B.t s.t t)⟩
  | .cell a t => ⟨fun B s => (stLoad P t).f (lookS B.h s.h) (lookS B.t s.t a)⟩
noncomputable def stResults (P : Program) (l : List ResultVar) : Box ((B : Base) → St B → Tree V) :=
  List.rec (motive := fun _ => Box ((B : Base) → St B → Tree V)) ⟨fun _ _ => .leaf .nil⟩ (fun r _ ih => ⟨fun B s => ((stResult P r).f B s).bnd fun v => (ih.f B s).bnd fun vs => .leaf (.cons v vs)⟩) l
theorem stResults_eq (P : Program) (B : Base) (s : St B) : ∀ l : List ResultVar, (stResults P l).f B s = resultsOf P s l := by
  intro l
  have hblk : lookS B.h s.h = s.blk := funext fun b => lookS_eq _ _ _
  have hone : ∀ r, (stResult P r).f B s = resultOf P s r := fun r => by
    cases r <;> simp only [stResult, resultOf, lookS_eq, stLoad_eq, hblk]
  induction l with
  | nil => rfl
  | cons r l ih =>
    show (((stResult P r).f B s).bnd fun v => ((stResults P l).f B s).bnd fun vs => Tree.leaf (V.cons v vs)) = _
    simp only [Tree.bnd_eq, hone, ih, resultsOf]
noncomputable def stCall (E : Env) (g : FuncId) : Box (RecF → (Nat → Blk) → V → PT Blk → Nat → Tree (V × PT Blk × Nat)) :=
  match E.P.funcs[g]? with
  | some fn => match fn.body with
    | some c => ⟨fun rec_ hb args h n => (rec_ g c (Base.fn hb) (enterS hb args.plain fn.ntmps h n)).bnd fun x => match x.1 with
        | .exit _ => .stuck
        | _ => ((stResults E.P fn.results.toList).f _ x.2).bnd fun vs => .leaf ((single vs).plain, x.2.h, x.2.n)⟩
    | none => ⟨fun _ _ _ _ _ => .stuck⟩
  | none => ⟨fun _ _ _ _ _ => .stuck⟩
noncomputable def yieldS (E : Env) (rec_ : RecF) (hb : Nat → Blk) (b : Nat) (args : V) (h : PT Blk) (n : Nat) : Tree (V × PT Blk × Nat) :=
  match lookS hb h b with
  | .rng f ps asg bd row N st _ =>
    withNeed (bif (loopsOf asg ++ loopsOf bd).all fun c => (loopOf E f c).isNone then none else some (∀ c ∈ loopsOf asg ++ loopsOf bd, ∀ g, loopOf E f c = some g → InFn E.P f c))
    (bif (Nat.beq st 0 && (Nat.beq args.len ps.length && ps.all fun p => Nat.blt p N)) && (noRange asg && noRange bd) then
      (rec_ f asg ⟨row, hb⟩ { t := putArgs ps args .nil, h, n, N }).bnd fun x => match x.1 with
        | .normal => match lookS hb x.2.h b with
          | .rng f' ps' asg' bd' row' N' st' pd' => bif Nat.beq st' 0 then
              (rec_ f bd ⟨row, hb⟩ { x.2 with h := (setB (pathOf b)).f x.2.h (.rng f' ps' asg' bd' row' N' 1 pd') }).bnd fun y => match lookS hb y.2.h b with
                | .rng f2 ps2 asg2 bd2 row2 N2 st2 _ => bif Nat.beq st2 1 then
                    .leaf (.bool true y.1.isNormal, (setB (pathOf b)).f y.2.h (.rng f2 ps2 asg2 bd2 row2 N2 (bif y.1.isNormal then 0 else 2) (some y.1)), y.2.n) else .stuck
                | _ => .stuck
            else .stuck
          | _ => .stuck
        | _ => .stuck
    else .stuck)
  | _ => .stuck
theorem yieldS_eq (E : Env) (rec_ : RecF) (hb : Nat → Blk) (b : Nat) (args : V) (h : PT Blk) (n : Nat) : yieldS E rec_ hb b args h n = evYield E rec_ hb b args h n := by
  unfold yieldS evYield
  simp only [lookS_eq, Tree.bnd_eq, setP_set]
  rfl
noncomputable def callS (E : Env) (rec_ : RecF) : CallF := fun hb g args h n =>
  match g with
  | .inr b => yieldS E rec_ hb b args h n
  | .inl g => (stCall E g).f rec_ hb args h n
theorem callS_eq (E : Env) (rec_ : RecF) : callS E rec_ = evCall E rec_ := by
  funext hb g args h n
  cases g with
  | inr b => exact yieldS_eq E rec_ hb b args h n
  | inl g =>
    show (stCall E g).f rec_ hb args h n = _
    unfold stCall
    simp only [evCall]
    cases E.P.funcs[g]? with
    | none => rfl
    | some fn =>
      dsimp only
      cases fn.body with
      | none => rfl
      | some c =>
        simp only [Tree.bnd_eq, enterS_eq, stResults_eq]
        rfl
abbrev StepS := RecF → (B : Base) → St B → Tree (Ex × St B)
noncomputable def stRegion (E : Env) (gs : List FuncId) (ops : Array Oper) (draw : Bool) : Box StepS :=
  match draw with
  | false => ⟨fun rec_ B s => cnd (Nat.ble (topOf ops.toList) s.N) (((stOps E gs ops ops.toList).f (callS E rec_) B s).bnd fun s' => .leaf (.normal, s')) .stuck⟩
  | true => forceList (bfs ops.toList []) fun bf => match drawOk ops bf with
    | true => ⟨fun rec_ B s => ((stOpsD E ops bf ops.toList 0).f (callS E rec_) s.n [] B (s.keepNames ops)).bnd fun s' => .leaf (.normal, s')⟩
    | false => ⟨fun _ _ _ => .stuck⟩
theorem stRegion_eq {E : Env} {gs : List FuncId} (hΓ : Among E gs) (ops : Array Oper) (draw : Bool) (rec_ : RecF) (B : Base) (s : St B) : (stRegion E gs ops draw).f rec_ B s = evRegion E (evCall E rec_) ops draw s := by
  cases draw with
  | false => simp only [stRegion, evRegion, topOf_ok, stOps_eq hΓ, Tree.bnd_eq, callS_eq, cnd_eq]
  | true =>
    simp only [stRegion, evRegion, forceList_eq]
    cases drawOk ops (bfs ops.toList [])
    · rfl
    · simp only [cond_true, Tree.bnd_eq, callS_eq]
      rw [stOpsD_eq]
noncomputable def stStep (E : Env) (gs : List FuncId) (f : FuncId) (c : Code) : Box StepS :=
  match c with
  | .skip => ⟨fun _ _ s => .leaf (.normal, s)⟩
  | .label _ => ⟨fun _ _ s => .leaf (.normal, s)⟩
  | .exit id => ⟨fun _ _ s => .leaf (.exit id, s)⟩
  | .ret => ⟨fun _ _ s => .leaf (.ret, s)⟩
  | .scope b => ⟨fun rec_ B s => rec_ f b B s⟩
  | .region _ ops draw => match E.mg && ops.toList.any (fun o => o.guard.isSome) with
    | true => ⟨fun rec_ _ s => merged s fun s => (stRegion E gs ops draw).f rec_ _ s⟩
    | false => stRegion E gs ops draw
  | .seq a b => ⟨fun rec_ B s => (rec_ f a B s).bnd fun x => match x.1 with
    | .normal => rec_ f b B x.2
    | e => .leaf (e, x.2)⟩
  | .cond c a b => ⟨fun rec_ B s => match (stOp c).f B s with
    | .bool true t => match t with
      | true => rec_ f a B s
      | false => rec_ f b B s
    | .bool false t => match E.wayOf f c with
      | some true => .need (t = true) (rec_ f a B (s.knowAt c true))
      | some false => .need (t = false) (rec_ f b B (s.knowAt c false))
      | none => match E.mg with
        | true => merged s fun s => .node t (rec_ f a _ (s.knowAt c true)) (rec_ f b _ (s.knowAt c false))
        | false => .node t (rec_ f a B (s.knowAt c true)) (rec_ f b B (s.knowAt c false))
    | _ => .stuck⟩
  | .block id b => match E.mg with
    | true => ⟨fun rec_ _ s => mergedB s fun s => (rec_ f b _ s).bnd (leave id)⟩
    | false => ⟨fun rec_ B s => (rec_ f b B s).bnd (leave id)⟩
  | .loop b => match loopOf E f b with
    | some g => ⟨fun _ B s => g B s⟩
    | none => ⟨fun rec_ B s => (rec_ f b B s).bnd fun x => match x.1 with
      | .normal => rec_ f (.loop b) B x.2
      | e => .leaf (e, x.2)⟩
  | .rangeFunc g ps asg bd => ⟨fun rec_ B s => match calleeY ((stOp g).f B s) (.cons (.yld s.n) .nil) with
    | some (.inl g', args) => ((stCall E g').f rec_ B.h args (s.h.set s.n (.rng f ps.toList asg bd s.tmp s.N 0 none)) (s.n + 1)).bnd fun r =>
        match lookS B.h r.2.1 s.n with
        | .rng _ _ _ _ _ _ st pend => bif Nat.beq st 1 then .stuck else .leaf (pend.getD .normal, { s with h := r.2.1.set s.n .any, n := r.2.2 })
        | _ => .stuck
    | _ => .stuck⟩
  | _ => ⟨fun _ _ _ => .stuck⟩
theorem stStep_eq {E : Env} {gs : List FuncId} (hΓ : Among E gs) (f : FuncId) (c : Code) (rec_ : RecF) (B : Base) (s : St B) : (stStep E gs f c).f rec_ B s = evStep E rec_ f c B s := by
  cases c <;> simp only [stStep, evStep] <;> try rfl
  case region id ops draw =>
    cases E.mg && ops.toList.any (fun o => o.guard.isSome)
    · exact stRegion_eq hΓ ops draw rec_ B s
    · dsimp only
      congr 1
      funext s
      exact stRegion_eq hΓ ops draw rec_ _ s
  case seq a b => rw [Tree.bnd_eq]; rfl
  case cond c a b => rw [stOp_eq]; rfl
  case block id b =>
    cases E.mg
    · dsimp only; rw [Tree.bnd_eq]
    · dsimp only
      congr 1
      funext s
      rw [Tree.bnd_eq]
  case loop b =>
    cases loopOf E f b with
    | none => dsimp only; rw [Tree.bnd_eq]; rfl
    | some g => rfl
  case rangeFunc g ps asg bd =>
    rw [stOp_eq]
    cases calleeY (opnd s g) (.cons (.yld s.n) .nil) with
    | none => rfl
    | some r =>
      obtain ⟨g', args⟩ := r
      cases g' with
      | inr b => rfl
      | inl g' =>
        dsimp only
        rw [Tree.bnd_eq]
        have : (stCall E g').f rec_ B.h args (s.h.set s.n (.rng f ps.toList asg bd s.tmp s.N 0 none)) (s.n + 1) = evCall E rec_ B.h (.inl g') args (s.h.set s.n (.rng f ps.toList asg bd s.tmp s.N 0 none)) (s.n + 1) := by
          rw [← callS_eq]; rfl
        rw [this]
        simp only [lookS_eq]
        rfl
noncomputable def evS (E : Env) (gs : List FuncId) (k : Nat) : RecF := Nat.rec (motive := fun _ => RecF) (fun _ _ _ _ => .stuck) (fun _ ih f c B s => (stStep E gs f c).f ih B s) k
theorem evS_eq {E : Env} {gs : List FuncId} (hΓ : Among E gs) : ∀ k, evS E gs k = ev E k := by
  intro k
  induction k with
  | zero => rfl
  | succ k ih =>
    funext f c B s
    show (stStep E gs f c).f (evS E gs k) B s = evStep E (ev E k) f c B s
    rw [stStep_eq hΓ, ih]
noncomputable def evFnS (E : Env) (gs : List FuncId) (k : Nat) (g : FuncId) (args : V) : Tree V := (callS E (evS E gs k) (fun _ => .none) (.inl g) args .nil 0).bnd fun r => pubT (lookS (fun _ => .none) r.2.1) r.1
theorem evFnS_eq {E : Env} {gs : List FuncId} (hΓ : Among E gs) (k : Nat) (g : FuncId) (args : V) : evFnS E gs k g args = evFn E k g args := by
  unfold evFnS evFn
  rw [Tree.bnd_eq, callS_eq, evS_eq hΓ]
  congr 1
  funext r
  rw [show lookS (fun _ => Blk.none) r.2.1 = look (fun _ => .none) r.2.1 from funext fun b => lookS_eq _ _ _]
end Go.Fw
