/- The evaluator is sound: what it says of a piece of code, and of a call, the model does. -/
import Derived.Test.YtfealfofcjgihaaGwS
namespace Go.Fw

/-- As the model's rule for code; of a loop, from the head of a round on. -/
def wpX (P : Program) (c : Code) (Q : Exit → Act → World → Prop) (a : Act) (w : World) : Prop :=
  match c with
  | .loop b => LoopWp P b Q a w
  | c => c.wp P Q a w
theorem wpX.wp {P : Program} {c : Code} {Q : Exit → Act → World → Prop} {a : Act} {w : World} (h : wpX P c Q a w) : c.wp P Q a w := by
  cases c <;> first | exact LoopWp.wp h | exact h
def CodeOk (E : Env) (rec_ : RecF) : Prop :=
  ∀ (f : FuncId) (c : Code) (B : Base) (s : St B) (base : Nat) (m : Nat → Option Nat) (F : Nat → Prop) (a : Act) (w : World) (Q : Ex × St B → Prop) (Qx : Exit → Act → World → Prop), (∀ b ∈ loopsOf c, InFn E.P f b) → Rel base m F s a w →
    (rec_ f c B s).holds E.P Q → (∀ e s', Q (e, s') → ∀ m' F' a' w', Ext base m F s.n w m' F' s'.n w' → Rel base m' F' s' a' w' → Qx e.toExit a' w') → wpX E.P c Qx a w
/-- As 'merged' asks it. -/
theorem merged_ok {P : Program} {B : Base} {s : St B} {f : St s.bs → Tree (Ex × St s.bs)} {c : Code} {base : Nat} {m : Nat → Option Nat} {F : Nat → Prop} {a : Act} {w : World} {Q : Ex × St B → Prop} {Qx : Exit → Act → World → Prop} (hr : Rel base m F s a w)
    (hq : (merged s f).holds P Q) (hK : ∀ e s', Q (e, s') → ∀ m' F' a' w', Ext base m F s.n w m' F' s'.n w' → Rel base m' F' s' a' w' → Qx e.toExit a' w')
    (run : ∀ (Q' : Ex × St s.bs → Prop), Rel base m F s.sub a w → (f s.sub).holds P Q' → (∀ e s', Q' (e, s') → ∀ m' F' a' w', Ext base m F s.sub.n w m' F' s'.n w' → Rel base m' F' s' a' w' → Qx e.toExit a' w') → wpX P c Qx a w) : wpX P c Qx a w := by
  refine run _ (sub_rel hr) (merged_holds hq) fun e s' ⟨y, hy, he, hw⟩ m' F' a' w' h1 h2 => ?_
  dsimp only at he
  subst he
  exact hK y.1 (s.rebase y.2) hy m' F' a' w' ⟨h1.f, h1.back, h1.keep, h1.size, h1.sz, Nat.le_trans h1.le hw.1, h1.map, h1.calm⟩ (rebase_rel (hw.2 _ _ _ _ _ h2))

section
variable {E : Env} {rec_ : RecF} {B : Base}

theorem resultsOf_run {base : Nat} {m : Nat → Option Nat} {F : Nat → Prop} {s : St B} {a : Act} {w : World} (hr : Rel base m F s a w) : ∀ (l : List ResultVar) (Q : V → Prop), (resultsOf E.P s l).holds E.P Q →
    ∃ vs xs, Q vs ∧ (l.mapM (m := Sem) fun | .tmp t => pure (a.tmps.getD t undef) | .cell b t => do loadVar t (← asAddr (a.tmps.getD b undef))).run E.P w = .ok xs w ∧ RL F w vs s.n m xs := by
  intro l
  induction l with
  | nil => intro Q hq; exact ⟨.nil, [], hq, by simp, by simp only [RL]⟩
  | cons r l ih =>
    intro Q hq
    simp only [resultsOf] at hq
    rw [Tree.holds_bind] at hq
    have one : ∀ Q' : V → Prop, (resultOf E.P s r).holds E.P Q' → ∃ v x, Q' v ∧ (match r with | .tmp t => pure (a.tmps.getD t undef) | .cell b t => do loadVar t (← asAddr (a.tmps.getD b undef)) : Sem Value).run E.P w = .ok x w ∧ R F w v s.n m x := by
      intro Q' hq'
      cases r with
      | tmp t => exact ⟨_, _, hq', rfl, hr.tmp t⟩
      | cell b t =>
        have hx := hr.tmp b
        obtain ⟨v, x, h1, h2, h3⟩ := evLoad_val (P := E.P) hr.hr hx Q' hq'
        refine ⟨v, x, h1, ?_, h3⟩
        dsimp only
        rw [← h2]
        generalize a.tmps.getD b undef = y at hx hq' ⊢
        simp only [resultOf] at hq'
        cases hs : s.tmp b <;> rw [hs] at hq' hx <;> try exact hq'.elim
        · rw [R_ptr] at hx; obtain ⟨_, B, rfl, _⟩ := hx; rfl
        · rw [R_rptr] at hx; obtain ⟨_, B, off, rfl, _⟩ := hx; rfl
    obtain ⟨v, x, h1, h2, h3⟩ := one _ hq
    rw [Tree.holds_bind] at h1
    obtain ⟨vs, xs, h4, h5, h6⟩ := ih _ h1
    refine ⟨.cons v vs, x :: xs, h4, ?_, ?_⟩
    · rw [List.mapM_cons]
      cases r with
      | tmp t =>
        simp only [pure_bind] at h2 ⊢
        have h2 : a.tmps.getD t undef = x := by injection h2
        rw [h2]
        simp only [Sem.run_bind, h5, Result.andThen_ok, Sem.run_pure]
      | cell b t =>
        dsimp only at h2 ⊢
        simp only [Sem.run_bind] at h2 ⊢
        rw [h2]
        simp only [Result.andThen_ok, h5, Sem.run_pure]
    · simp only [RL]; exact ⟨x, xs, rfl, h3, h6⟩

theorem results_run {base : Nat} {m : Nat → Option Nat} {F : Nat → Prop} {s : St B} {a : Act} {w : World} (hr : Rel base m F s a w) (fn : Func) {Q : V → Prop} (hq : (resultsOf E.P s fn.results.toList).holds E.P Q) :
    ∃ vs x, Q vs ∧ (results fn a.tmps).run E.P w = .ok x w ∧ R F w (single vs) s.n m x := by
  obtain ⟨vs, xs, h1, h2, h3⟩ := resultsOf_run hr _ Q hq
  refine ⟨vs, if h : xs.toArray.size = 1 then xs.toArray[0] else .tuple xs.toArray, h1, ?_, ?_⟩
  · have hma : (fn.results.mapM (m := Sem) fun | .tmp t => pure (a.tmps.getD t undef) | .cell b t => do loadVar t (← asAddr (a.tmps.getD b undef))).run E.P w = .ok xs.toArray w := by
      have : (fn.results.mapM (m := Sem) fun | .tmp t => pure (a.tmps.getD t undef) | .cell b t => do loadVar t (← asAddr (a.tmps.getD b undef))) =
          List.toArray <$> (fn.results.toList.mapM fun | .tmp t => pure (a.tmps.getD t undef) | .cell b t => do loadVar t (← asAddr (a.tmps.getD b undef))) := by
        rw [Array.mapM_eq_mapM_toList]
      rw [this, Sem.run_map, h2]; rfl
    unfold results
    rw [Sem.run_bind]
    exact (congrArg (fun r => Result.andThen r _) hma).trans rfl
  · cases vs <;> try (simp only [RL] at h3; done)
    · simp only [RL] at h3; subst h3
      rw [dif_neg (by simp)]
      simp only [single, R]
      exact ⟨_, rfl, by simp only [RL]⟩
    · rename_i v t
      have h3' := h3
      simp only [RL] at h3
      obtain ⟨x, r, rfl, hv, ht⟩ := h3
      cases t <;> try (simp only [RL] at ht; done)
      · simp only [RL] at ht; subst ht
        rw [dif_pos (by simp)]
        exact hv
      · simp only [RL] at ht
        obtain ⟨y, r', rfl, _, _⟩ := ht
        rw [dif_neg (by simp)]
        simp only [single, R]
        exact ⟨_, rfl, h3'⟩

theorem setArgs_tmp {F : Nat → Prop} {w : World} {n : Nat} {m : Nat → Option Nat} : ∀ (args : V) (xs : List Value), RL F w args n m xs → ∀ (i : Nat) (d : Nat → V) (T : PT V) (g : Nat → Value),
    (∀ j, R F w (look d T j) n m (g j)) → ∀ j, R F w (look d (setArgs args i T) j) n m (if i ≤ j ∧ j < i + xs.length then xs.getD (j - i) Go.undef else g j) := by
  intro args
  induction args with
  | nil => intro xs h i d T g hT j; simp only [RL] at h; subst h; simp only [setArgs]; rw [if_neg (by simp)]; exact hT j
  | cons a t _ ih =>
    intro xs h i d T g hT j
    simp only [RL] at h
    obtain ⟨x, r, rfl, h1, h2⟩ := h
    have := ih r h2 (i + 1) d (T.set i a) (fun j => if j = i then x else g j) (fun j => by
      by_cases e : j = i
      · subst e
        rw [if_pos rfl]
        rw [look_set_eq]; exact h1
      · rw [if_neg e, look_set_ne _ _ _ e]; exact hT j) j
    simp only [setArgs]
    by_cases e : j = i
    · subst e
      rw [if_neg (by omega), if_pos rfl] at this
      rw [if_pos (by simp)]
      simpa using this
    · by_cases e2 : i + 1 ≤ j ∧ j < i + 1 + r.length
      · rw [if_pos e2] at this
        rw [if_pos (by simp; omega)]
        have : j - i = (j - (i + 1)) + 1 := by omega
        rw [this, List.getD_cons_succ]
        assumption
      · rw [if_neg e2, if_neg e] at this
        rw [if_neg (by simp; omega)]
        exact this
  | _ => intro xs h; simp only [RL] at h

theorem enter_rel {base : Nat} {m : Nat → Option Nat} {F : Nat → Prop} {hb : Nat → Blk} {h : PT Blk} {n : Nat} {w : World} (hr : HR base m F (look hb h) n w) {args : V} {xs : Array Value} (ha : RL F w args n m xs.toList) (k : Nat) :
    Rel base m F (enter hb args k h n) { tmps := xs ++ Array.replicate (k - xs.size) undef, defers := [] } w := by
  have hlen : args.len = xs.size := by simpa using RL_len _ _ ha
  refine ⟨hr, rfl, ?_, fun i => ?_⟩
  · simp [enter, hlen]
  · have := setArgs_tmp args _ ha 0 (fun _ => .junk) .nil (fun _ => Go.undef) (fun j => by show R F w .junk n m _; simp only [R]) i
    simp only [enter, St.tmp]
    have e : (if 0 ≤ i ∧ i < 0 + xs.toList.length then xs.toList.getD (i - 0) Go.undef else Go.undef) = (xs ++ Array.replicate (k - xs.size) undef).getD i Go.undef := by
      simp only [Nat.zero_le, true_and, Nat.zero_add, Array.length_toList, Nat.sub_zero]
      by_cases hi : i < xs.size
      · rw [if_pos hi, Array.getD_eq_getD_getElem?, Array.getElem?_append_left hi, List.getD_eq_getElem?_getD, Array.getElem?_toList]
      · rw [if_neg hi, Array.getD_eq_getD_getElem?, Array.getElem?_append_right (by omega), Array.getElem?_replicate]
        split <;> rfl
    rw [← e]
    exact this

theorem evCall_ok (hE : E.Ok) (hrec : CodeOk E rec_) : CallOk E (evCall E rec_) := by
  intro hb g args h n base m F w xs Q K hr ha hq hK
  unfold evCall at hq
  cases hf : E.P.funcs[g]? with
  | none => rw [hf] at hq; exact hq.elim
  | some fn =>
    rw [hf] at hq
    dsimp only at hq
    cases hbd : fn.body with
    | none => rw [hbd] at hq; exact hq.elim
    | some c =>
      rw [hbd] at hq
      dsimp only at hq
      rw [Tree.holds_bind] at hq
      refine ⟨⟨fn, c, hf, hbd, hE.named g fn hf⟩, calls_of_wp hf hbd ?_⟩
      refine wpX.wp (hrec g c _ (enter hb args fn.ntmps h n) base m F _ w _ _ (fun b hmem => ⟨fn, c, hf, hbd, hmem⟩) (enter_rel hr ha fn.ntmps) hq fun e s' hQ m' F' a' w' h1 h2 => ?_)
      have fin : (resultsOf E.P s' fn.results.toList).holds E.P (fun vs => (Tree.leaf (single vs, s'.h, s'.n)).holds E.P Q) → ∃ v, (results fn a'.tmps).run E.P w' = .ok v w' ∧ K (.returned v) w' := by
        intro hq'
        obtain ⟨vs, x, k1, k2, k3⟩ := results_run h2 fn hq'
        exact ⟨x, k2, hK _ _ _ k1 m' F' w' x h1 h2.hr k3⟩
      cases e with
      | exit id => exact hQ.elim
      | normal => dsimp only at hQ; rw [Tree.holds_bind] at hQ; exact ⟨h2.defers, fin hQ⟩
      | ret => dsimp only at hQ; rw [Tree.holds_bind] at hQ; exact ⟨h2.defers, fin hQ⟩

theorem evRegion_ok (hE : E.Ok) (hrec : CodeOk E rec_) {s : St B} {base : Nat} {m : Nat → Option Nat} {F : Nat → Prop} {a : Act} {w : World} {Q : Ex × St B → Prop} {Qx : Exit → Act → World → Prop} {id : Nat} {ops : Array Oper} {draw : Bool}
    (hr : Rel base m F s a w) (hq : (evRegion E (evCall E rec_) ops draw s).holds E.P Q) (hK : ∀ e s', Q (e, s') → ∀ m' F' a' w', Ext base m F s.n w m' F' s'.n w' → Rel base m' F' s' a' w' → Qx e.toExit a' w') :
    (Code.region id ops draw).wp E.P Qx a w := by
  unfold evRegion at hq
  cases draw with
  | false =>
    dsimp only at hq
    cases hd : ops.toList.all (dstOk s.N)
    · rw [hd] at hq; exact hq.elim
    · rw [hd] at hq
      simp only [cond_true] at hq
      rw [Tree.holds_bind] at hq
      exact wp_region_list (evOps_wp hE (evCall_ok hE hrec) ops.toList s a w m F _ (fun o ho => List.all_eq_true.1 hd o ho) hr hq fun s' hs' m' F' a' w' h1 h2 => hK .normal s' hs' m' F' a' w' h1 h2)
  | true =>
    dsimp only at hq
    rw [forceList_eq] at hq
    cases hd : drawOk ops (bfs ops.toList [])
    · rw [hd] at hq; exact hq.elim
    · rw [hd] at hq
      simp only [cond_true] at hq
      rw [Tree.holds_bind] at hq
      exact evOpsD_wp hE (evCall_ok hE hrec) hr hd hq fun s' hs' m' F' a' w' h1 h2 => hK .normal s' hs' m' F' a' w' h1 h2

theorem evStep_ok (hE : E.Ok) (hrec : CodeOk E rec_) : CodeOk E (evStep E rec_) := by
  intro f c B s base m F a w Q Qx hin hr hq hK
  cases c <;> simp only [evStep] at hq <;> try (exact hq.elim)
  case skip => exact wp_skip (hK .normal s hq m F a w (Ext.refl _ _ _ _ _) hr)
  case label l => exact wp_label (hK .normal s hq m F a w (Ext.refl _ _ _ _ _) hr)
  case exit id => exact wp_exit (hK (.exit id) s hq m F a w (Ext.refl _ _ _ _ _) hr)
  case ret => exact wp_ret (hK .ret s hq m F a w (Ext.refl _ _ _ _ _) hr)
  case region id ops draw =>
    split at hq
    · exact merged_ok hr hq hK fun Q' hr' hq' hK' => evRegion_ok hE hrec hr' hq' hK'
    · exact evRegion_ok hE hrec hr hq hK
  case seq x y =>
    rw [Tree.holds_bind] at hq
    have hx : ∀ b ∈ loopsOf x, InFn E.P f b := fun b hb => hin b (List.mem_append_left _ hb)
    have hy : ∀ b ∈ loopsOf y, InFn E.P f b := fun b hb => hin b (List.mem_append_right _ hb)
    refine wp_seq (wpX.wp (hrec f x B s base m F a w _ _ hx hr hq fun e s' hQ m' F' a' w' h1 h2 => ?_))
    cases e with
    | normal => exact wpX.wp (hrec f y B s' base m' F' a' w' Q Qx hy h2 hQ fun e s'' hQ' m'' F'' a'' w'' h3 h4 => hK e s'' hQ' m'' F'' a'' w'' (h1.trans h3) h4)
    | exit id => exact hK (.exit id) s' hQ m' F' a' w' h1 h2
    | ret => exact hK .ret s' hQ m' F' a' w' h1 h2
  case cond c x y =>
    have hx : ∀ b ∈ loopsOf x, InFn E.P f b := fun b hb => hin b (List.mem_append_left _ hb)
    have hy : ∀ b ∈ loopsOf y, InFn E.P f b := fun b hb => hin b (List.mem_append_right _ hb)
    have hc := hr.opnd c
    have know : ∀ {B : Base} {s : St B} (_ : Rel base m F s a w) (c : Operand) {st t : Bool}, opnd s c = .bool st t → Rel base m F (s.knowAt c t) a w := by
      intro B s hr c st t h
      cases c with
      | tmp d => exact hr.know h
      | _ => exact hr
    have nAt : ∀ {B : Base} (s : St B) (c : Operand) (t : Bool), (s.knowAt c t).n = s.n := fun s c t => by cases c <;> rfl
    have two : ∀ {B : Base} {s : St B} {Q : Ex × St B → Prop} {t : Bool}, Rel base m F s a w → opnd s c = .bool false t → (Tree.node t (rec_ f x B (s.knowAt c true)) (rec_ f y B (s.knowAt c false))).holds E.P Q →
        (∀ e s', Q (e, s') → ∀ m' F' a' w', Ext base m F s.n w m' F' s'.n w' → Rel base m' F' s' a' w' → Qx e.toExit a' w') → (Code.cond c x y).wp E.P Qx a w := by
      intro B s Q t hr hv hq hK
      have hc := hr.opnd c
      rw [hv, R_bool] at hc
      cases t with
      | true => exact wp_cond_true hc (wpX.wp (hrec f x B (s.knowAt c true) base m F a w Q Qx hx (know hr c hv) (hq.1 rfl) fun e s' hQ m' F' a' w' h1 h2 => hK e s' hQ m' F' a' w' (by rw [nAt] at h1; exact h1) h2))
      | false => exact wp_cond_false hc (wpX.wp (hrec f y B (s.knowAt c false) base m F a w Q Qx hy (know hr c hv) (hq.2 rfl) fun e s' hQ m' F' a' w' h1 h2 => hK e s' hQ m' F' a' w' (by rw [nAt] at h1; exact h1) h2))
    cases hv : opnd s c <;> rw [hv] at hq hc <;> try exact hq.elim
    rename_i st t
    rw [R_bool] at hc
    cases st with
    | true =>
      cases t with
      | true => exact wp_cond_true hc (wpX.wp (hrec f x B s base m F a w Q Qx hx hr hq hK))
      | false => exact wp_cond_false hc (wpX.wp (hrec f y B s base m F a w Q Qx hy hr hq hK))
    | false =>
      dsimp only at hq
      split at hq
      · have hv' : opnd s.sub c = .bool false t := by
          rw [← hv]
          cases c <;> rfl
        exact merged_ok hr hq hK fun Q' hr' hq' hK' => two hr' hv' hq' hK'
      · exact two hr hv hq hK
  case block id b =>
    have go : ∀ {B : Base} {s : St B} {Q : Ex × St B → Prop}, Rel base m F s a w → ((rec_ f b B s).bind (leave id)).holds E.P Q →
        (∀ e s', Q (e, s') → ∀ m' F' a' w', Ext base m F s.n w m' F' s'.n w' → Rel base m' F' s' a' w' → Qx e.toExit a' w') → (Code.block id b).wp E.P Qx a w := by
      intro B s Q hr hq hK
      rw [Tree.holds_bind] at hq
      refine wp_block (wpX.wp (hrec f b B s base m F a w _ _ hin hr hq fun e s' hQ m' F' a' w' h1 h2 => ?_))
      cases e with
      | normal => exact hK .normal s' hQ m' F' a' w' h1 h2
      | ret => exact hK .ret s' hQ m' F' a' w' h1 h2
      | exit id' =>
        simp only [leave] at hQ
        simp only [Ex.toExit, Exit.inBlock]
        cases he : Nat.beq id' id
        · rw [he] at hQ
          have hne : id' ≠ id := fun e => by subst e; simp at he
          rw [if_neg hne]
          exact hK (.exit id') s' hQ m' F' a' w' h1 h2
        · rw [he] at hQ
          obtain rfl := Nat.eq_of_beq_eq_true he
          rw [if_pos rfl]
          exact hK .normal s' hQ m' F' a' w' h1 h2
    split at hq
    · exact merged_ok hr hq hK fun Q' hr' hq' hK' => go hr' hq' hK'
    · exact go hr hq hK
  case loop b =>
    have hb : ∀ b' ∈ loopsOf b, InFn E.P f b' := fun b' h => hin b' (List.mem_cons_of_mem _ h)
    split at hq
    · rename_i g hg
      exact hE.lp f b g (hin b (List.mem_cons_self ..)) hg B s Q hq base m F a w Qx hr hK
    · rw [Tree.holds_bind] at hq
      refine LoopWp.round (wpX.wp (hrec f b B s base m F a w _ _ hb hr hq fun e s' hQ m' F' a' w' h1 h2 => ?_))
      cases e with
      | normal => exact hrec f (.loop b) B s' base m' F' a' w' Q Qx hin h2 hQ fun e s'' hQ' m'' F'' a'' w'' h3 h4 => hK e s'' hQ' m'' F'' a'' w'' (h1.trans h3) h4
      | exit id => exact hK (.exit id) s' hQ m' F' a' w' h1 h2
      | ret => exact hK .ret s' hQ m' F' a' w' h1 h2
end

theorem ev_ok {E : Env} (hE : E.Ok) : ∀ k, CodeOk E (ev E k) := by
  intro k
  induction k with
  | zero => intro f c B s base m F a w Q Qx _ _ hq; exact hq.elim
  | succ k ih => rw [ev_succ]; exact evStep_ok hE ih

/-- ████ WHAT THE EVALUATOR SAYS OF A CALL, THE MODEL DOES ████ -/
theorem meets_of {E : Env} (hE : E.Ok) {k : Nat} {g : FuncId} {args v : V} (hhas : Has E.P g)
    (h : (evFn E k g args).holds E.P fun r => ∀ (F : Nat → Prop) (w : World) (n : Nat) (m : Nat → Option Nat) (x : Value), R F w r n m x → R F w v 0 (fun _ => none) x) : Meets E.P g args v := by
  refine ⟨hhas, fun F w xs hfd hgl ha => ?_⟩
  unfold evFn at h
  rw [Tree.holds_bind] at h
  have hr : HR w.heap.size (fun _ => none) F (look (fun _ => .none) .nil) 0 w :=
    ⟨Nat.le_refl _, hfd, fun b hb => absurd hb (Nat.not_lt_zero _), fun b B hB => (by cases hB), fun _ _ => rfl, hgl, fun b B hB => (by cases hB), fun b b' B hB => (by cases hB)⟩
  refine (evCall_ok hE (ev_ok hE k) (fun _ => .none) g args .nil 0 w.heap.size (fun _ => none) F w xs _ (fun e w' => ∃ x F', e = .returned x ∧ Later F w F' w' ∧ R F' w' v 0 (fun _ => none) x) hr ha h
    fun r h' n' hQ m' F' w' x h1 h2 h3 => ⟨x, F', rfl, ⟨h1.f, h1.back, fun B hB => h1.keep B (.inl hB), h1.size, fun _ => h2.fdom, h1.calm⟩, hQ F' w' n' m' x h3⟩).2
end Go.Fw
