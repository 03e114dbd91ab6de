/- The evaluator is sound: what it says of a piece of code, and of a call, the model does. -/
import Derived.Test.YtfealfofcjgihaaFwM
namespace Go.Fw

/-- As the model's rule for code; of a loop, from the head of a round on. -/
def wpX (P : Program) (c : Code) (Q : Exit → Act → World → Prop) (a : Act) (w : World) : Prop :=
  match c with
  | .loop b => LoopWp P b Q a w
  | c => c.wp P Q a w
theorem wpX.wp {P : Program} {c : Code} {Q : Exit → Act → World → Prop} {a : Act} {w : World} (h : wpX P c Q a w) : c.wp P Q a w := by
  cases c <;> first | exact LoopWp.wp h | exact h
def CodeOk (E : Env) (rec_ : FuncId → Code → St → Tree (Ex × St)) : Prop :=
  ∀ (f : FuncId) (c : Code) (s : St) (base : Nat) (m : Nat → Option Nat) (F : Nat → Prop) (a : Act) (w : World) (Q : Ex × St → Prop) (Qx : Exit → Act → World → Prop), Rel base m F s a w →
    (rec_ f c s).holds E.P Q → (∀ e s', Q (e, s') → ∀ m' F' a' w', Ext base m F s.n w m' F' s'.n w' → Rel base m' F' s' a' w' → Qx e.toExit a' w') → wpX E.P c Qx a w

section
variable {E : Env} {rec_ : FuncId → Code → St → Tree (Ex × St)}

theorem resultsOf_run {base : Nat} {m : Nat → Option Nat} {F : Nat → Prop} {s : St} {a : Act} {w : World} (hr : Rel base m F s a w) : ∀ (l : List ResultVar) (Q : V → Prop), (resultsOf E.P s l).holds E.P Q →
    ∃ vs xs, Q vs ∧ (l.mapM (m := Sem) fun | .tmp t => pure (a.tmps.getD t undef) | .cell b t => do loadVar t (← asAddr (a.tmps.getD b undef))).run E.P w = .ok xs w ∧ RL F w vs s.n m xs := by
  intro l
  induction l with
  | nil => intro Q hq; exact ⟨.nil, [], hq, by simp, by simp only [RL]⟩
  | cons r l ih =>
    intro Q hq
    simp only [resultsOf] at hq
    rw [Tree.holds_bind] at hq
    have one : ∀ Q' : V → Prop, (resultOf E.P s r).holds E.P Q' → ∃ v x, Q' v ∧ (match r with | .tmp t => pure (a.tmps.getD t undef) | .cell b t => do loadVar t (← asAddr (a.tmps.getD b undef)) : Sem Value).run E.P w = .ok x w ∧ R F w v s.n m x := by
      intro Q' hq'
      cases r with
      | tmp t => exact ⟨_, _, hq', rfl, hr.tmp t⟩
      | cell b t =>
        have hx := hr.tmp b
        obtain ⟨v, x, h1, h2, h3⟩ := evLoad_val (P := E.P) hr.hr hx Q' hq'
        refine ⟨v, x, h1, ?_, h3⟩
        dsimp only
        rw [← h2]
        generalize a.tmps.getD b undef = y at hx hq' ⊢
        simp only [resultOf] at hq'
        cases hs : s.tmp b <;> rw [hs] at hq' hx <;> try exact hq'.elim
        · rw [R_ptr] at hx; obtain ⟨_, B, rfl, _⟩ := hx; rfl
        · rw [R_rptr] at hx; obtain ⟨_, B, off, rfl, _⟩ := hx; rfl
    obtain ⟨v, x, h1, h2, h3⟩ := one _ hq
    rw [Tree.holds_bind] at h1
    obtain ⟨vs, xs, h4, h5, h6⟩ := ih _ h1
    refine ⟨.cons v vs, x :: xs, h4, ?_, ?_⟩
    · rw [List.mapM_cons]
      cases r with
      | tmp t =>
        simp only [pure_bind] at h2 ⊢
        have h2 : a.tmps.getD t undef = x := by injection h2
        rw [h2]
        simp only [Sem.run_bind, h5, Result.andThen_ok, Sem.run_pure]
      | cell b t =>
        dsimp only at h2 ⊢
        simp only [Sem.run_bind] at h2 ⊢
        rw [h2]
        simp only [Result.andThen_ok, h5, Sem.run_pure]
    · simp only [RL]; exact ⟨x, xs, rfl, h3, h6⟩

theorem results_run {base : Nat} {m : Nat → Option Nat} {F : Nat → Prop} {s : St} {a : Act} {w : World} (hr : Rel base m F s a w) (fn : Func) {Q : V → Prop} (hq : (resultsOf E.P s fn.results.toList).holds E.P Q) :
    ∃ vs x, Q vs ∧ (results fn a.tmps).run E.P w = .ok x w ∧ R F w (single vs) s.n m x := by
  obtain ⟨vs, xs, h1, h2, h3⟩ := resultsOf_run hr _ Q hq
  refine ⟨vs, if h : xs.toArray.size = 1 then xs.toArray[0] else .tuple xs.toArray, h1, ?_, ?_⟩
  · have hma : (fn.results.mapM (m := Sem) fun | .tmp t => pure (a.tmps.getD t undef) | .cell b t => do loadVar t (← asAddr (a.tmps.getD b undef))).run E.P w = .ok xs.toArray w := by
      have : (fn.results.mapM (m := Sem) fun | .tmp t => pure (a.tmps.getD t undef) | .cell b t => do loadVar t (← asAddr (a.tmps.getD b undef))) =
          List.toArray <$> (fn.results.toList.mapM fun | .tmp t => pure (a.tmps.getD t undef) | .cell b t => do loadVar t (← asAddr (a.tmps.getD b undef))) := by
        rw [Array.mapM_eq_mapM_toList]
      rw [this, Sem.run_map, h2]; rfl
    unfold results
    rw [Sem.run_bind]
    exact (congrArg (fun r => Result.andThen r _) hma).trans rfl
  · cases vs <;> try (simp only [RL] at h3; done)
    · simp only [RL] at h3; subst h3
      rw [dif_neg (by simp)]
      simp only [single, R]
      exact ⟨_, rfl, by simp only [RL]⟩
    · rename_i v t
      have h3' := h3
      simp only [RL] at h3
      obtain ⟨x, r, rfl, hv, ht⟩ := h3
      cases t <;> try (simp only [RL] at ht; done)
      · simp only [RL] at ht; subst ht
        rw [dif_pos (by simp)]
        exact hv
      · simp only [RL] at ht
        obtain ⟨y, r', rfl, _, _⟩ := ht
        rw [dif_neg (by simp)]
        simp only [single, R]
        exact ⟨_, rfl, h3'⟩

theorem setArgs_tmp {F : Nat → Prop} {w : World} {n : Nat} {m : Nat → Option Nat} : ∀ (args : V) (xs : List Value), RL F w args n m xs → ∀ (i : Nat) (T : PT V) (g : Nat → Value),
    (∀ j, R F w (T.get .junk j) n m (g j)) → ∀ j, R F w ((setArgs args i T).get .junk j) n m (if i ≤ j ∧ j < i + xs.length then xs.getD (j - i) Go.undef else g j) := by
  intro args
  induction args with
  | nil => intro xs h i T g hT j; simp only [RL] at h; subst h; simp only [setArgs]; rw [if_neg (by simp)]; exact hT j
  | cons a t _ ih =>
    intro xs h i T g hT j
    simp only [RL] at h
    obtain ⟨x, r, rfl, h1, h2⟩ := h
    have := ih r h2 (i + 1) (T.set i a) (fun j => if j = i then x else g j) (fun j => by
      by_cases e : j = i
      · subst e
        rw [if_pos rfl]
        rcases PT.get_set_eq V.junk a T j with h | h
        · rw [h]; exact h1
        · rw [h]; simp only [R]
      · rw [if_neg e, PT.get_set_ne _ _ _ _ _ (Ne.symm e)]; exact hT j) j
    simp only [setArgs]
    by_cases e : j = i
    · subst e
      rw [if_neg (by omega), if_pos rfl] at this
      rw [if_pos (by simp)]
      simpa using this
    · by_cases e2 : i + 1 ≤ j ∧ j < i + 1 + r.length
      · rw [if_pos e2] at this
        rw [if_pos (by simp; omega)]
        have : j - i = (j - (i + 1)) + 1 := by omega
        rw [this, List.getD_cons_succ]
        assumption
      · rw [if_neg e2, if_neg e] at this
        rw [if_neg (by simp; omega)]
        exact this
  | _ => intro xs h; simp only [RL] at h

theorem enter_rel {base : Nat} {m : Nat → Option Nat} {F : Nat → Prop} {h : PT Blk} {n : Nat} {w : World} (hr : HR base m F h n w) {args : V} {xs : Array Value} (ha : RL F w args n m xs.toList) (k : Nat) :
    Rel base m F (enter args k h n) { tmps := xs ++ Array.replicate (k - xs.size) undef, defers := [] } w := by
  have hlen : args.len = xs.size := by simpa using RL_len _ _ ha
  refine ⟨hr, rfl, ?_, fun i => ?_⟩
  · simp [enter, hlen]
  · have := setArgs_tmp args _ ha 0 (PT.full .junk 14) (fun _ => Go.undef) (fun j => by rw [PT.get_full]; simp only [R]) i
    simp only [enter, St.tmp]
    have e : (if 0 ≤ i ∧ i < 0 + xs.toList.length then xs.toList.getD (i - 0) Go.undef else Go.undef) = (xs ++ Array.replicate (k - xs.size) undef).getD i Go.undef := by
      simp only [Nat.zero_le, true_and, Nat.zero_add, Array.length_toList, Nat.sub_zero]
      by_cases hi : i < xs.size
      · rw [if_pos hi, Array.getD_eq_getD_getElem?, Array.getElem?_append_left hi, List.getD_eq_getElem?_getD, Array.getElem?_toList]
      · rw [if_neg hi, Array.getD_eq_getD_getElem?, Array.getElem?_append_right (by omega), Array.getElem?_replicate]
        split <;> rfl
    rw [← e]
    exact this

theorem evCall_ok (hE : E.Ok) (hrec : CodeOk E rec_) : CallOk E (evCall E rec_) := by
  intro g args h n base m F w xs Q K hr ha hq hK
  unfold evCall at hq
  cases hf : E.P.funcs[g]? with
  | none => rw [hf] at hq; exact hq.elim
  | some fn =>
    rw [hf] at hq
    dsimp only at hq
    cases hb : fn.body with
    | none => rw [hb] at hq; exact hq.elim
    | some c =>
      rw [hb] at hq
      dsimp only at hq
      rw [Tree.holds_bind] at hq
      refine ⟨⟨fn, c, hf, hb, hE.named g fn hf⟩, calls_of_wp hf hb ?_⟩
      refine wpX.wp (hrec g c (enter args fn.ntmps h n) base m F _ w _ _ (enter_rel hr ha fn.ntmps) hq fun e s' hQ m' F' a' w' h1 h2 => ?_)
      have fin : (resultsOf E.P s' fn.results.toList).holds E.P (fun vs => (Tree.leaf (single vs, s'.h, s'.n)).holds E.P Q) → ∃ v, (results fn a'.tmps).run E.P w' = .ok v w' ∧ K (.returned v) w' := by
        intro hq'
        obtain ⟨vs, x, k1, k2, k3⟩ := results_run h2 fn hq'
        exact ⟨x, k2, hK _ _ _ k1 m' F' w' x h1 h2.hr k3⟩
      cases e with
      | exit id => exact hQ.elim
      | normal => dsimp only at hQ; rw [Tree.holds_bind] at hQ; exact ⟨h2.defers, fin hQ⟩
      | ret => dsimp only at hQ; rw [Tree.holds_bind] at hQ; exact ⟨h2.defers, fin hQ⟩

theorem evStep_ok (hE : E.Ok) (hrec : CodeOk E rec_) : CodeOk E (evStep E rec_) := by
  intro f c s base m F a w Q Qx hr hq hK
  cases c <;> simp only [evStep] at hq <;> try (exact hq.elim)
  case skip => exact wp_skip (hK .normal s hq m F a w (Ext.refl _ _ _ _ _) hr)
  case label l => exact wp_label (hK .normal s hq m F a w (Ext.refl _ _ _ _ _) hr)
  case exit id => exact wp_exit (hK (.exit id) s hq m F a w (Ext.refl _ _ _ _ _) hr)
  case ret => exact wp_ret (hK .ret s hq m F a w (Ext.refl _ _ _ _ _) hr)
  case region id ops draw =>
    cases draw with
    | false =>
      dsimp only at hq
      cases hd : ops.toList.all (dstOk s.N)
      · rw [hd] at hq; exact hq.elim
      · rw [hd] at hq
        simp only [cond_true] at hq
        rw [Tree.holds_bind] at hq
        exact wp_region_list (evOps_wp hE (evCall_ok hE hrec) ops.toList s a w m F _ (fun o ho => List.all_eq_true.1 hd o ho) hr hq fun s' hs' m' F' a' w' h1 h2 => hK .normal s' hs' m' F' a' w' h1 h2)
    | true =>
      dsimp only at hq
      rw [forceList_eq] at hq
      cases hd : drawOk ops (bfs ops.toList [])
      · rw [hd] at hq; exact hq.elim
      · rw [hd] at hq
        simp only [cond_true] at hq
        rw [Tree.holds_bind] at hq
        exact evOpsD_wp hE (evCall_ok hE hrec) hr hd hq fun s' hs' m' F' a' w' h1 h2 => hK .normal s' hs' m' F' a' w' h1 h2
  case seq x y =>
    rw [Tree.holds_bind] at hq
    refine wp_seq (wpX.wp (hrec f x s base m F a w _ _ hr hq fun e s' hQ m' F' a' w' h1 h2 => ?_))
    cases e with
    | normal => exact wpX.wp (hrec f y s' base m' F' a' w' Q Qx h2 hQ fun e s'' hQ' m'' F'' a'' w'' h3 h4 => hK e s'' hQ' m'' F'' a'' w'' (h1.trans h3) h4)
    | exit id => exact hK (.exit id) s' hQ m' F' a' w' h1 h2
    | ret => exact hK .ret s' hQ m' F' a' w' h1 h2
  case cond c x y =>
    have hc := hr.opnd c
    have know : ∀ (c : Operand) {st t : Bool}, opnd s c = .bool st t → Rel base m F (s.knowAt c t) a w := by
      intro c st t h
      cases c with
      | tmp d => exact hr.know h
      | _ => exact hr
    have nAt : ∀ (c : Operand) (t : Bool), (s.knowAt c t).n = s.n := fun c t => by cases c <;> rfl
    cases hv : opnd s c <;> rw [hv] at hq hc <;> try exact hq.elim
    rename_i st t
    rw [R_bool] at hc
    cases st with
    | true =>
      cases t with
      | true => exact wp_cond_true hc (wpX.wp (hrec f x s base m F a w Q Qx hr hq hK))
      | false => exact wp_cond_false hc (wpX.wp (hrec f y s base m F a w Q Qx hr hq hK))
    | false =>
      cases t with
      | true => exact wp_cond_true hc (wpX.wp (hrec f x (s.knowAt c true) base m F a w Q Qx (know c hv) (hq.1 rfl) fun e s' hQ m' F' a' w' h1 h2 => hK e s' hQ m' F' a' w' (by rw [nAt] at h1; exact h1) h2))
      | false => exact wp_cond_false hc (wpX.wp (hrec f y (s.knowAt c false) base m F a w Q Qx (know c hv) (hq.2 rfl) fun e s' hQ m' F' a' w' h1 h2 => hK e s' hQ m' F' a' w' (by rw [nAt] at h1; exact h1) h2))
  case block id b =>
    rw [Tree.holds_bind] at hq
    refine wp_block (wpX.wp (hrec f b s base m F a w _ _ hr hq fun e s' hQ m' F' a' w' h1 h2 => ?_))
    cases e with
    | normal => exact hK .normal s' hQ m' F' a' w' h1 h2
    | ret => exact hK .ret s' hQ m' F' a' w' h1 h2
    | exit id' =>
      dsimp only at hQ
      simp only [Ex.toExit, Exit.inBlock]
      cases he : Nat.beq id' id
      · rw [he] at hQ
        have hne : id' ≠ id := fun e => by subst e; simp at he
        rw [if_neg hne]
        exact hK (.exit id') s' hQ m' F' a' w' h1 h2
      · rw [he] at hQ
        obtain rfl := Nat.eq_of_beq_eq_true he
        rw [if_pos rfl]
        exact hK .normal s' hQ m' F' a' w' h1 h2
  case loop b =>
    cases hd : isDyn E f b with
    | true =>
      rw [hd] at hq
      exact hq base m F a w Qx hr fun e s' hQ m' F' a' w' h1 h2 => hK e s' hQ m' F' a' w' h1 h2
    | false =>
      rw [hd] at hq
      dsimp only at hq
      rw [Tree.holds_bind] at hq
      refine LoopWp.round (wpX.wp (hrec f b s base m F a w _ _ hr hq fun e s' hQ m' F' a' w' h1 h2 => ?_))
      cases e with
      | normal => exact hrec f (.loop b) s' base m' F' a' w' Q Qx h2 hQ fun e s'' hQ' m'' F'' a'' w'' h3 h4 => hK e s'' hQ' m'' F'' a'' w'' (h1.trans h3) h4
      | exit id => exact hK (.exit id) s' hQ m' F' a' w' h1 h2
      | ret => exact hK .ret s' hQ m' F' a' w' h1 h2
end

theorem ev_ok {E : Env} (hE : E.Ok) : ∀ k, CodeOk E (ev E k) := by
  intro k
  induction k with
  | zero => intro f c s base m F a w Q Qx _ hq; exact hq.elim
  | succ k ih => rw [ev_succ]; exact evStep_ok hE ih

/-- ████ WHAT THE EVALUATOR SAYS OF A CALL, THE MODEL DOES ████ -/
theorem meets_of {E : Env} (hE : E.Ok) {k : Nat} {g : FuncId} {args v : V} (hhas : Has E.P g)
    (h : (evFn E k g args).holds E.P fun r => ∀ (F : Nat → Prop) (w : World) (n : Nat) (m : Nat → Option Nat) (x : Value), R F w r n m x → R F w v 0 (fun _ => none) x) : Meets E.P g args v := by
  refine ⟨hhas, fun F w xs hfd ha => ?_⟩
  unfold evFn at h
  rw [Tree.holds_bind] at h
  have hr : HR w.heap.size (fun _ => none) F (PT.full .none 20) 0 w :=
    ⟨Nat.le_refl _, hfd, fun b hb => absurd hb (Nat.not_lt_zero _), fun _ _ => rfl, fun b B hB => (by cases hB), fun b b' B hB => (by cases hB)⟩
  refine (evCall_ok hE (ev_ok hE k) g args _ 0 w.heap.size (fun _ => none) F w xs _ (fun e w' => ∃ x F', e = .returned x ∧ Later F w F' w' ∧ R F' w' v 0 (fun _ => none) x) hr ha h
    fun r h' n' hQ m' F' w' x h1 h2 h3 => ⟨x, F', rfl, ⟨h1.f, h1.back, fun B hB => h1.keep B (.inl hB), h1.size, fun _ => h2.fdom, h1.calm⟩, hQ F' w' n' m' x h3⟩).2
end Go.Fw
