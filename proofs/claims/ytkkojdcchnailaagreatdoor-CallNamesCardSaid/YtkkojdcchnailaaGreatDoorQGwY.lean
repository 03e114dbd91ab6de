/- Values that are pinned to literals at a loop's head; lists of cases; values that are literally the same. -/
import Derived.Test.YtkkojdcchnailaaGreatDoorQGwT
namespace Go.Fw

theorem HR.recell {base : Nat} {m : Nat → Option Nat} {F : Nat → Prop} {h h' : Nat → Blk} {n : Nat} {w : World} (hr : HR base m F h n w) {b : Nat} {cs cs' : V} (hb : h b = .var cs)
    (hc : ∀ xs, RL F w cs n m xs → RL F w cs' n m xs) (hh : ∀ c, h' c = if c = b then .var cs' else h c) : HR base m F h' n w := by
  refine ⟨hr.low, hr.fdom, fun c hcn => ?_, hr.dom, hr.new, hr.gl, hr.own, fun c c' B h1 h2 hne => ?_⟩
  · rw [hh]
    have := hr.blk c hcn
    by_cases e : c = b
    · subst e
      rw [if_pos rfl]
      rw [hb] at this
      obtain ⟨b', xs, el, ys, zs, k1, k2, k3, k4⟩ := this
      exact ⟨b', xs, el, ys, zs, k1, k2, k3, hc _ k4⟩
    · rw [if_neg e]; exact this
  · rw [hh, hh]
    rcases hr.inj c c' B h1 h2 hne with h | h
    · left
      rw [if_neg (fun e => by rw [e, hb] at h; cases h)]
      exact h
    · right
      rw [if_neg (fun e => by rw [e, hb] at h; cases h)]
      exact h
section
variable {B : Base}
/-- A variable's number, pinned: what it was, and the state in which it is a literal. -/
def St.pinVar (s : St B) (t : Nat) (kd : IntKind) (c : Int) : Option (Int × St B) :=
  match s.tmp t with
  | .ptr true bl _ 0 0 => match s.blk bl with
    | .var (.cons (.int _ k x) .nil) => if k = kd then some (x, { s with h := s.h.set bl (.var (.cons (.int true kd c) .nil)) }) else none
    | _ => none
  | _ => none
theorem pinVar_rel {lo base : Nat} {m : Nat → Option Nat} {F : Nat → Prop} {s s' : St B} {a : Act} {w : World} {t : Nat} {kd : IntKind} {c x : Int} (hr : Rel lo base m F s a w) (h : s.pinVar t kd c = some (x, s')) (hx : x = c) : s'.n = s.n ∧ Rel lo base m F s' a w := by
  subst hx
  unfold St.pinVar at h
  split at h
  · rename_i bl es heq
    split at h
    · rename_i st k y hbl
      split at h
      · rename_i hk
        subst hk
        injection h with h
        injection h with h1 h2
        subst h1; subst h2
        refine ⟨rfl, ⟨hr.hr.recell hbl (fun xs hxs => ?_) (fun c => look_set _ _ _ _ _), hr.defers, hr.size, hr.tmp⟩⟩
        simp only [RL, R] at hxs ⊢
        exact hxs
      · cases h
    · cases h
  · cases h
/-- The loop is walked from where a variable is pinned. -/
def pinG (E : Env) (k : Nat) (f : FuncId) (b : Code) (t : Nat) (kd : IntKind) (c : Int) : (B : Base) → St B → Tree (Ex × St B) := fun B s =>
  match s.pinVar t kd c with
  | some (x, s') => .need (x = c) (ev E k f (.loop b) B s')
  | none => .stuck
theorem pinG_ok {E : Env} (hE : E.Ok) (k : Nat) {f : FuncId} {b : Code} (t : Nat) (kd : IntKind) (c : Int) (hb : ∀ g, loopOf E f b = some g → InFn E.P f b) (hin : ∀ b' ∈ loopsOf b, InFn E.P f b') : LoopOk E.P b (pinG E k f b t kd c) := by
  intro B s Q hq ro lo base m F a w Qx hro hr hQ
  unfold pinG at hq
  split at hq
  · rename_i x s' hp
    obtain ⟨hx, hq⟩ := hq
    obtain ⟨hn, hr'⟩ := pinVar_rel hr hp hx
    refine ev_ok hE k ro f (.loop b) B s' lo base m F a w Q Qx (fun b' hb' g hg => ?_) hro hr' hq fun e s'' h1 m' F' a' w' h2 h3 => hQ e s'' h1 m' F' a' w' (by rw [hn] at h2; exact h2) h3
    simp only [loopsOf, List.mem_cons] at hb'
    rcases hb' with rfl | hb'
    · exact hb g hg
    · exact hin b' hb'
  · exact hq.elim
end
theorem pin_lp {E : Env} (hE : E.Ok) (k : Nat) {f : FuncId} {id : Nat} (t : Nat) (kd : IntKind) (c : Int) (h1 : oneLoop E.P f id = true) (hno : loopOf E f (loopAt E.P f id) = none) : Lp.Ok E.P ⟨f, id, pinG E k f (loopAt E.P f id) t kd c⟩ :=
  lp_ok h1 fun hin => pinG_ok hE k t kd c (fun g hg => by rw [hno] at hg; cases hg) hin

/-! ### Cases, one by one -/
def forBelow (n : Nat) (f : Nat → Bool) : Bool := Nat.rec true (fun k r => f k && r) n
theorem forBelow_of {n : Nat} {f : Nat → Bool} : forBelow n f = true → ∀ k, k < n → f k = true := by
  induction n with
  | zero => intro _ k h; omega
  | succ n ih =>
    intro h k hk
    have h : (f n && forBelow n f) = true := h
    simp only [Bool.and_eq_true] at h
    rcases Nat.lt_or_ge k n with h' | h'
    · exact ih h.2 k h'
    · have : k = n := by omega
      subst this; exact h.1
def allBelow (n : Nat) (f : Nat → Prop) : Prop := Nat.rec True (fun k r => f k ∧ r) n
theorem allBelow_of {n : Nat} {f : Nat → Prop} : allBelow n f → ∀ k, k < n → f k := by
  induction n with
  | zero => intro _ k h; omega
  | succ n ih =>
    intro h k hk
    have h : f n ∧ allBelow n f := h
    rcases Nat.lt_or_ge k n with h' | h'
    · exact ih h.2 k h'
    · have : k = n := by omega
      subst this; exact h.1
theorem allBelow_all {n : Nat} {f : Nat → Prop} (h : ∀ k, k < n → f k) : allBelow n f := by
  induction n with
  | zero => trivial
  | succ n ih => exact ⟨h n (Nat.lt_succ_self n), ih fun k hk => h k (by omega)⟩
/-- The same things are said of each: by the kernel. -/
theorem all_same {n : Nat} {f g : Nat → Prop} (h : allBelow n f = allBelow n g) (hg : ∀ k, k < n → g k) : ∀ k, k < n → f k := allBelow_of (by rw [h]; exact allBelow_all hg)
universe u
theorem all_eq {α : Type u} {n : Nat} {f g : Nat → α} (h : (allBelow n fun k => f k = g k) = (allBelow n fun k => f k = f k)) : ∀ k, k < n → f k = g k := all_same h fun _ _ => rfl

/-! ### What a tree asks -/
/-- All that is asked is one thing. -/
def Tree.asksAre {α : Type} (p : Prop) : Tree α → Prop
  | .leaf _ => True
  | .node _ t f => t.asksAre p ∧ f.asksAre p
  | .need q t => q = p ∧ t.asksAre p
  | _ => False
def Tree.asksRefl {α : Type} : Tree α → Prop
  | .leaf _ => True
  | .node _ t f => t.asksRefl ∧ f.asksRefl
  | .need q t => q = q ∧ t.asksRefl
  | _ => False
def Tree.easy {α : Type} : Tree α → Bool
  | .leaf _ => true
  | .node _ t f => t.easy && f.easy
  | .need _ t => t.easy
  | _ => false
theorem Tree.asksRefl_of {α : Type} : ∀ T : Tree α, T.easy = true → T.asksRefl := by
  intro T
  induction T with
  | leaf a => intro _; trivial
  | node b t f iht ihf => intro h; simp only [Tree.easy, Bool.and_eq_true] at h; exact ⟨iht h.1, ihf h.2⟩
  | need p t ih => intro h; exact ⟨rfl, ih h⟩
  | _ => intro h; cases h
theorem Tree.pre_of_asks {α : Type} {p : Prop} (hp : p) : ∀ T : Tree α, T.asksAre p → T.pre := by
  intro T
  induction T with
  | leaf a => intro _; trivial
  | node b t f iht ihf => intro h; exact ⟨fun _ => iht h.1, fun _ => ihf h.2⟩
  | need q t ih => intro h; obtain ⟨rfl, h⟩ := h; exact ⟨hp, ih h⟩
  | _ => intro h; exact h.elim

/-! ### Values that are literally the same -/
def sameN : Nat → Nat → Bool := Nat.beq
def sameI (a b : Int) : Bool := decide (a = b)
def sameK (a b : IntKind) : Bool := decide (a = b)
def sameS : List UInt8 → List UInt8 → Bool
  | [], [] => true
  | a :: l, b :: r => Nat.beq a.toNat b.toNat && sameS l r
  | _, _ => false
theorem sameS_eq : ∀ l r : List UInt8, sameS l r = true → l = r := by
  intro l
  induction l with
  | nil => intro r h; cases r with | nil => rfl | cons => cases h
  | cons a l ih =>
    intro r h
    cases r with
    | nil => cases h
    | cons b r =>
      simp only [sameS, Bool.and_eq_true] at h
      rw [UInt8.toNat_inj.1 (Nat.eq_of_beq_eq_true h.1), ih r h.2]
/-- The first stands for whatever the second does: all is literal. -/
def sameV : V → V → Bool
  | .cons h t, y => match y with | .cons h' t' => sameV h h' && sameV t t' | _ => false
  | .nil, y => match y with | .nil => true | _ => false
  | .int _ k n, y => match y with | .int _ k' n' => sameK k k' && sameI n n' | _ => false
  | .bool _ b, y => match y with | .bool _ b' => b == b' | _ => false
  | .str _ s, y => match y with | .str _ s' => sameS s s' | _ => false
  | .agg cs, y => match y with | .agg cs' => sameV cs cs' | _ => false
  | .tup cs, y => match y with | .tup cs' => sameV cs cs' | _ => false
  | .rsl _ es n get, y => match y with
    | .rsl _ es' n' get' => (Nat.beq es es' && Nat.beq n n') && allN n fun j => sameV (get j) (get' j)
    | _ => false
  | .nilsl, y => match y with | .nilsl => true | .rsl _ _ n _ => Nat.beq n 0 | _ => false
  | .nilptr, y => match y with | .nilptr => true | _ => false
  | .nilmap, y => match y with | .nilmap => true | _ => false
  | .nilif, y => match y with | .nilif => true | _ => false
  | _, _ => false
theorem allN_all {f : Nat → Bool} : ∀ {k : Nat}, allN k f = true → ∀ j, j < k → f j = true := by
  intro k
  induction k with
  | zero => intro _ j hj; omega
  | succ k ih =>
    intro h j hj
    have e : allN (k + 1) f = (allN k f && f k) := rfl
    rw [e, Bool.and_eq_true] at h
    by_cases e : j = k
    · subst e; exact h.2
    · exact ih h.1 j (by omega)
theorem sameV_R {F : Nat → Prop} {w : World} : ∀ (v v' : V), sameV v v' = true → ∀ (n : Nat) (m : Nat → Option Nat), (∀ x, R F w v n m x → R F w v' n m x) ∧ (∀ xs, RL F w v n m xs → RL F w v' n m xs) := by
  intro v
  induction v with
  | cons h t ih1 ih2 =>
    intro v' hs n m
    cases v' <;> simp only [sameV] at hs <;> try (cases hs; done)
    simp only [Bool.and_eq_true] at hs
    refine ⟨fun x h => by simp only [R] at h, fun xs h => ?_⟩
    simp only [RL] at h ⊢
    obtain ⟨x, r, rfl, h1, h2⟩ := h
    exact ⟨x, r, rfl, (ih1 _ hs.1 n m).1 _ h1, (ih2 _ hs.2 n m).2 _ h2⟩
  | nil =>
    intro v' hs n m
    cases v' <;> simp only [sameV] at hs <;> try (cases hs; done)
    exact ⟨fun _ h => h, fun _ h => h⟩
  | int st k q =>
    intro v' hs n m
    cases v' <;> simp only [sameV] at hs <;> try (cases hs; done)
    simp only [Bool.and_eq_true, sameK, sameI, decide_eq_true_eq] at hs
    obtain ⟨rfl, rfl⟩ := hs
    exact ⟨fun x h => by simp only [R] at h ⊢; exact h, fun xs h => by simp only [RL] at h⟩
  | bool st b =>
    intro v' hs n m
    cases v' <;> simp only [sameV] at hs <;> try (cases hs; done)
    obtain rfl := eq_of_beq hs
    exact ⟨fun x h => by simp only [R] at h ⊢; exact h, fun xs h => by simp only [RL] at h⟩
  | str st s =>
    intro v' hs n m
    cases v' <;> simp only [sameV] at hs <;> try (cases hs; done)
    obtain rfl := sameS_eq _ _ hs
    exact ⟨fun x h => by simp only [R] at h ⊢; exact h, fun xs h => by simp only [RL] at h⟩
  | agg cs ih =>
    intro v' hs n m
    cases v' <;> simp only [sameV] at hs <;> try (cases hs; done)
    refine ⟨fun x h => ?_, fun xs h => by simp only [RL] at h⟩
    simp only [R] at h ⊢
    obtain ⟨xs, rfl, h1⟩ := h
    exact ⟨xs, rfl, (ih _ hs n m).2 _ h1⟩
  | tup cs ih =>
    intro v' hs n m
    cases v' <;> simp only [sameV] at hs <;> try (cases hs; done)
    refine ⟨fun x h => ?_, fun xs h => by simp only [RL] at h⟩
    simp only [R] at h ⊢
    obtain ⟨xs, rfl, h1⟩ := h
    exact ⟨xs, rfl, (ih _ hs n m).2 _ h1⟩
  | rsl st es k get ih =>
    intro v' hs n m
    cases v' <;> simp only [sameV] at hs <;> try (cases hs; done)
    simp only [Bool.and_eq_true] at hs
    obtain ⟨⟨he, hk⟩, hall⟩ := hs
    obtain rfl := Nat.eq_of_beq_eq_true he
    obtain rfl := Nat.eq_of_beq_eq_true hk
    refine ⟨fun x h => ?_, fun xs h => by simp only [RL] at h⟩
    simp only [R] at h ⊢
    obtain ⟨a, cap, rfl, hkc, h⟩ := h
    refine ⟨a, cap, rfl, hkc, h.imp id ?_⟩
    rintro ⟨B, off, rfl, hF, c, el, fr, hc, hr⟩
    refine ⟨B, off, rfl, hF, c, el, fr, hc, fun j hj => ?_⟩
    obtain ⟨xs, h1, h2, h3⟩ := hr j hj
    exact ⟨xs, (ih j _ (allN_all hall j hj) 0 _).2 _ h1, h2, h3⟩
  | nilsl =>
    intro v' hs n m
    refine ⟨fun x h => ?_, fun xs h => by simp only [RL] at h⟩
    cases v' <;> simp only [sameV] at hs <;> try (cases hs; done)
    · obtain rfl := Nat.eq_of_beq_eq_true hs
      simp only [R] at h ⊢
      exact ⟨none, 0, h, Nat.le_refl _, .inl trivial⟩
    · exact h
  | nilptr => intro v' hs n m; cases v' <;> simp only [sameV] at hs <;> first | (cases hs; done) | exact ⟨fun _ h => h, fun _ h => h⟩
  | nilmap => intro v' hs n m; cases v' <;> simp only [sameV] at hs <;> first | (cases hs; done) | exact ⟨fun _ h => h, fun _ h => h⟩
  | nilif => intro v' hs n m; cases v' <;> simp only [sameV] at hs <;> first | (cases hs; done) | exact ⟨fun _ h => h, fun _ h => h⟩
  | _ => intro v' hs; simp only [sameV] at hs; cases hs

/-- What a call answers, where what its tree asks is known. -/
theorem meets_asks {E : Env} (hE : E.Ok) (k : Nat) {g : FuncId} {args v : V} (hhas : Has E.P g) {p : Prop} (hp : p) (ha : (evFn E k g args).asksAre p) (hc : (evFn E k g args).allClean = true) (hv : (evFn E k g args).join = v) : Meets E.P g args v :=
  meets_join hE k hhas (Tree.pre_of_asks hp _ ha) hc hv
theorem Meets.same {P : Program} {g : FuncId} {args v v' : V} (h : Meets P g args v) (hv : sameV v v' = true) : Meets P g args v' :=
  ⟨h.1, fun F w xs h1 h2 h3 => (h.2 F w xs h1 h2 h3).mono fun _ _ ⟨x, F', e1, e2, e3⟩ => ⟨x, F', e1, e2, (sameV_R _ _ hv 0 _).1 _ e3⟩⟩
theorem Meets.hard {P : Program} {g : FuncId} {args v : V} (h : Meets P g args v) : Meets P g args.soft v :=
  ⟨h.1, fun F w xs hfd hgl ha => h.2 F w xs hfd hgl (((R_soft args 0 _).2 _).1 ha)⟩
/-- The same for each of so many cases, in one breath of the kernel's. -/
theorem meets_below {N : Nat} {E : Nat → Env} {P : Program} (hP : ∀ c, (E c).P = P) (k : Nat) {g : FuncId} {args res : Nat → V} (hhas : Has P g) (p : Nat → Prop)
    (h1 : (forBelow N fun c => (evFn (E c) k g (args c)).easy && ((evFn (E c) k g (args c)).allClean && sameV (evFn (E c) k g (args c)).join (res c))) = true)
    (h2 : (allBelow N fun c => (evFn (E c) k g (args c)).asksAre (p c)) = (allBelow N fun c => (evFn (E c) k g (args c)).asksRefl)) {c : Nat} (hc : c < N) (hE : (E c).Ok) (hp : p c) : Meets P g (args c) (res c) := by
  have a1 := forBelow_of h1 c hc
  simp only [Bool.and_eq_true] at a1
  have a2 : (evFn (E c) k g (args c)).asksAre (p c) :=
    allBelow_of (f := fun c => (evFn (E c) k g (args c)).asksAre (p c)) (by rw [h2]; exact allBelow_all fun c' hc' => Tree.asksRefl_of _ (by have := forBelow_of h1 c' hc'; simp only [Bool.and_eq_true] at this; exact this.1)) c hc
  have := meets_asks hE k (v := (evFn (E c) k g (args c)).join) (by rw [hP]; exact hhas) hp a2 a1.2.1 rfl
  rw [hP] at this
  exact this.same a1.2.2
end Go.Fw
