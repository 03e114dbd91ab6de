/- A region that draws its order: the proof that every order serves. -/
import Derived.Test.YtpeekgekmjldlaaDoorGwL
namespace Go.Fw

/-- A value that a step writes stays till it is written again. -/
theorem stays {α : Type} {f : Nat → α} {W : Nat → Prop} {N : Nat} (h : ∀ i, i < N → ¬ W i → f (i + 1) = f i) : ∀ a c, a ≤ c → c ≤ N → (∀ d, a ≤ d → d < c → ¬ W d) → f c = f a := by
  intro a c
  induction c with
  | zero => intro ha _ _; have : a = 0 := by omega
            subst this; rfl
  | succ c ih =>
    intro ha hc hw
    by_cases e : a = c + 1
    · subst e; rfl
    · rw [h c (by omega) (hw c (by omega) (by omega)), ih (by omega) (by omega) (fun d h1 h2 => hw d h1 (by omega))]

/-- What may be read in whatever order: 'W': who writes a place; 'L': who has been carried out. -/
theorem reads {α : Type} {f : Nat → α} {W : Nat → Prop} {N : Nat} {L : Nat → Prop} (h : ∀ i, i < N → ¬ W i → f (i + 1) = f i) {k i : Nat} (hk : k ≤ N) (hi : i < N)
    (hL : ∀ d, d < N → W d → (L d ↔ d < k)) (hlow : ∀ d, d < i → W d → L d) (hhigh : ∀ d, i ≤ d → d < N → W d → ¬ L d) : f k = f i := by
  rcases Nat.le_total k i with hki | hki
  · exact (stays h k i hki (by omega) fun d h1 h2 hw => by have := (hL d (by omega) hw).1 (hlow d h2 hw); omega).symm
  · exact stays h i k hki hk fun d h1 h2 hw => hhigh d h1 (by omega) hw ((hL d (by omega) hw).2 h2)

theorem cnt_lt (p q : Nat → Bool) (i : Nat) : ∀ (l : List Nat), (∀ j, q j = true → p j = true) → i ∈ l → p i = true → q i = false → (l.filter q).length < (l.filter p).length := by
  have le : ∀ (l : List Nat), (∀ j, q j = true → p j = true) → (l.filter q).length ≤ (l.filter p).length := by
    intro l h
    induction l with
    | nil => simp
    | cons x l ih =>
      simp only [List.filter_cons]
      cases hq : q x
      · cases hp : p x <;> simp <;> omega
      · rw [h x hq]; simpa using ih
  intro l
  induction l with
  | nil => intro _ h; cases h
  | cons x l ih =>
    intro h hi hp hq
    simp only [List.filter_cons]
    by_cases e : x = i
    · subst e
      rw [hp, hq]
      have := le l h
      simp; omega
    · have hi' : i ∈ l := by
        cases hi with
        | head => exact absurd rfl e
        | tail _ h => exact h
      have := ih h hi' hp hq
      cases hqx : q x
      · cases hpx : p x <;> simp <;> omega
      · rw [h x hqx]; simpa using this

section
variable {E : Env} {call : CallF} {ops : Array Oper} {bf : List Nat} {nb : Nat} {Bs : Base} {S : Nat → St Bs} {fp : Nat → Option (Bool × Nat)}

def WrT (ops : Array Oper) (t d : Nat) : Prop := ∃ o, ops[d]? = some o ∧ o.dst = some t
def WrB (fp : Nat → Option (Bool × Nat)) (b d : Nat) : Prop := fp d = some (true, b)

theorem put_tmp_ne {s : St Bs} {dst : Option Tmp} {v : V} {t : Nat} (h : dst ≠ some t) : (s.put dst v).tmp t = s.tmp t := by
  unfold St.put
  cases dst with
  | none => rfl
  | some d => exact look_set_ne _ _ _ (fun e => h (by rw [e]))
theorem wr_blk_ne {s : St Bs} {x : Option (Nat × Blk)} {b : Nat} (h : ∀ blk, x ≠ some (b, blk)) : (s.wr x).blk b = s.blk b := by
  cases x with
  | none => rfl
  | some q => obtain ⟨b', blk⟩ := q; exact look_set_ne _ _ _ (fun e => h blk (by rw [e]))
/-- What an operation writes is what its footprint says. -/
theorem evD_foot {s : St Bs} {nm : Nat} {kn : List (Nat × Bool)} {o : Op} {r : V × Option (Nat × Blk)} (hf : (evD E call s nm kn o).flat = true) (hr : (evD E call s nm kn o).holds E.P fun x => x = r) {b : Nat} {blk : Blk} (h2 : r.2 = some (b, blk)) :
    foot s nm o = some (true, b) := by
  obtain ⟨r', hp', e⟩ := Tree.All_holds _ hf evD_All hr
  subst e
  rcases hp' with hp' | ⟨b2, blk2, h3, h4⟩
  · rw [h2] at hp'; cases hp'
  · rw [h2] at h3; injection h3 with h3; injection h3 with h3 _; subst h3; exact h4

theorem Path.tmp (hp : Path E call ops bf nb S fp) (t : Nat) : ∀ i, i < ops.size → ¬ WrT ops t i → (S (i + 1)).tmp t = (S i).tmp t := by
  intro i hi hw
  have ho : ops[i]? = some ops[i] := Array.getElem?_eq_getElem hi
  have hne : ops[i].dst ≠ some t := fun e => hw ⟨ops[i], ho, e⟩
  rcases hp.step i _ ho with ⟨r, _, _, _, _, _, _, _, e, _⟩ | ⟨_, _, e, _⟩
  · rw [e, put_tmp_ne hne]; simp only [St.tmp, St.wr_t]
  · rw [e, put_tmp_ne hne]
theorem Path.blk (hp : Path E call ops bf nb S fp) (b : Nat) : ∀ i, i < ops.size → ¬ WrB fp b i → (S (i + 1)).blk b = (S i).blk b := by
  intro i hi hw
  have ho : ops[i]? = some ops[i] := Array.getElem?_eq_getElem hi
  rcases hp.step i _ ho with ⟨r, _, _, _, _, hf, hr, _, e, hfp⟩ | ⟨_, _, e, _⟩
  · rw [e]
    simp only [St.blk, St.put_h]
    exact wr_blk_ne fun blk h2 => hw (by rw [WrB, hfp, evD_foot hf hr h2])
  · rw [e]; simp only [St.blk, St.put_h]
theorem Path.fixed (hp : Path E call ops bf nb S fp) : ∀ i, i ≤ ops.size → (S i).n = (S 0).n ∧ (S i).N = (S 0).N := by
  intro i
  induction i with
  | zero => exact fun _ => ⟨rfl, rfl⟩
  | succ i ih =>
    intro hi
    obtain ⟨h1, h2⟩ := ih (by omega)
    have ho : ops[i]? = some ops[i] := Array.getElem?_eq_getElem (by omega)
    rcases hp.step i _ ho with ⟨r, _, _, _, _, _, _, _, e, _⟩ | ⟨_, _, e, _⟩
    · rw [e]
      exact ⟨by rw [St.put_n, St.wr_n, h1], by rw [St.put_N, St.wr_N, h2]⟩
    · rw [e]
      exact ⟨by rw [St.put_n, h1], by rw [St.put_N, h2]⟩

/-- Where a run in another order stands. -/
structure Inv (ops : Array Oper) (bf : List Nat) (S : Nat → St Bs) (fp : Nat → Option (Bool × Nat)) (L : Array Bool) (s : St Bs) : Prop where
  size : L.size = ops.size
  closed : ∀ d e, L.getD d false = true → (bf.getD d 0).testBit e = true → L.getD e false = true
  tmp : ∀ t, ∃ k, k ≤ ops.size ∧ s.tmp t = (S k).tmp t ∧ ∀ d, d < ops.size → WrT ops t d → (L.getD d false = true ↔ d < k)
  blk : ∀ b, ∃ k, k ≤ ops.size ∧ s.blk b = (S k).blk b ∧ ∀ d, d < ops.size → WrB fp b d → (L.getD d false = true ↔ d < k)
  n : s.n = (S 0).n
  N : s.N = (S 0).N

theorem getD_none (N d : Nat) : (Array.replicate N false).getD d false = false := by
  rw [Array.getD_eq_getD_getElem?, Array.getElem?_replicate]
  split <;> rfl
theorem Inv.start : Inv ops bf S fp (Array.replicate ops.size false) (S 0) where
  size := by simp
  closed d e h := by rw [getD_none] at h; cases h
  tmp t := ⟨0, Nat.zero_le _, rfl, fun d hd _ => by rw [getD_none]; simp⟩
  blk b := ⟨0, Nat.zero_le _, rfl, fun d hd _ => by rw [getD_none]; simp⟩
  n := rfl
  N := rfl

theorem tied_spec {x y : Oper} (h : tied ops x y = false) : (∀ d, x.dst = some d → d ∉ looks ops y ∧ y.dst ≠ some d) ∧ (∀ d, y.dst = some d → d ∉ looks ops x) := by
  unfold tied at h
  refine ⟨fun d hd => ?_, fun d hd => ?_⟩ <;> simp [hd] at h
  · exact h.1
  · exact h.2

/-- What holds of the edges. -/
structure Edges (ops : Array Oper) (bf : List Nat) : Prop where
  ties : ∀ i j x y, i < j → ops[i]? = some x → ops[j]? = some y → tied ops x y = true → (bf.getD j 0).testBit i = true
  edge : ∀ i o, ops[i]? = some o → ∀ e, (bf.getD i 0).testBit e = true → ∃ ed ∈ o.after.toList, Region.binds .any ed = true ∧ (e = ed.on ∨ (bf.getD ed.on 0).testBit e = true)
  back : ∀ i o, ops[i]? = some o → ∀ ed ∈ o.after.toList, Region.binds .any ed = true → ed.on < i

theorem backOk_spec : ∀ (l : List Oper) (j : Nat), backOk l j = true → ∀ i o, l[i]? = some o → ∀ ed ∈ o.after.toList, Region.binds .any ed = true → ed.on < j + i := by
  intro l
  induction l with
  | nil => intro j _ i o h; cases h
  | cons a l ih =>
    intro j h i o ho ed hed hb
    simp only [backOk, Bool.and_eq_true] at h
    cases i with
    | zero =>
      simp only [List.getElem?_cons_zero, Option.some.injEq] at ho
      subst ho
      have := List.all_eq_true.1 h.1 ed hed
      rw [hb] at this
      simpa [Nat.blt_eq] using this
    | succ i =>
      simp only [List.getElem?_cons_succ] at ho
      have := ih (j + 1) h.2 i o ho ed hed hb
      omega
theorem edges_of (h : drawOk ops (bfs ops.toList []) = true) : Edges ops (bfs ops.toList []) := by
  simp only [drawOk, Bool.and_eq_true] at h
  refine ⟨fun i j x y hij hx hy ht => ?_, fun i o ho => ?_, fun i o ho ed hed hb => ?_⟩
  · have hj : j < ops.size := (Array.getElem?_eq_some_iff.1 hy).1
    have h1 := List.all_eq_true.1 h.2 j (List.mem_range.2 hj)
    have h2 := List.all_eq_true.1 h1 i (List.mem_range.2 hij)
    rw [hx, hy] at h2
    simpa [ht] using h2
  · exact bfs_spec ops.toList ops.toList [] (by simp) (fun i => by simp) (fun i hi => absurd hi (Nat.not_lt_zero _)) i o (by simpa using ho)
  · have := backOk_spec ops.toList 0 h.1 i o (by simpa using ho) ed hed hb
    omega

section
variable {L : Array Bool} {s : St Bs} {i : Nat} {o : Oper}

theorem getD_set (hi : i < L.size) (d : Nat) : (L.setIfInBounds i true).getD d false = true ↔ d = i ∨ L.getD d false = true := by
  by_cases e : d = i
  · subst e; simp [Array.getD_eq_getD_getElem?, hi]
  · simp [Array.getD_eq_getD_getElem?, Array.getElem?_setIfInBounds_ne (Ne.symm e), e]

/-- Behind one more operation. -/
theorem Inv.next (hp : Path E call ops bf nb S fp) (he : Edges ops bf) (hv : Inv ops bf S fp L s) (hi : i < ops.size) (ho : ops[i]? = some o) (hn : L.getD i false = false)
    (hready : ∀ e, (bf.getD i 0).testBit e = true → L.getD e false = true) {v : V} {x : Option (Nat × Blk)} (hx : ∀ b blk, x = some (b, blk) → fp i = some (true, b))
    (hw : ∀ b, fp i = some (true, b) → ∃ blk, x = some (b, blk)) (hS : S (i + 1) = ((S i).wr x).put o.dst v) : Inv ops bf S fp (L.setIfInBounds i true) ((s.wr x).put o.dst v) := by
  have hiL : i < L.size := by rw [hv.size]; exact hi
  have high : ∀ d, L.getD d false = true → (bf.getD d 0).testBit i = true → False := fun d h1 h2 => by
    have := hv.closed d i h1 h2; rw [hn] at this; cases this
  refine ⟨by simp [hv.size], fun d e hd hb => ?_, fun t => ?_, fun b => ?_, by rw [St.put_n, St.wr_n, hv.n], by rw [St.put_N, St.wr_N, hv.N]⟩
  · rw [getD_set hiL] at hd ⊢
    rcases hd with rfl | hd
    · exact .inr (hready e hb)
    · exact .inr (hv.closed d e hd hb)
  · by_cases ht : o.dst = some t
    · refine ⟨i + 1, by omega, ?_, fun d hd hwr => ?_⟩
      · rw [hS]
        unfold St.put
        rw [ht]
        show look _ (PT.set _ _ _) _ = look _ (PT.set _ _ _) _
        rw [look_set_eq, look_set_eq]
      · rw [getD_set hiL]
        obtain ⟨o', ho', hd'⟩ := hwr
        constructor
        · rintro (rfl | h)
          · omega
          · rcases Nat.lt_or_ge i d with hlt | hge
            · exfalso
              refine high d h (he.ties i d o o' hlt ho ho' ?_)
              cases htt : tied ops o o' with
              | true => rfl
              | false => exact absurd hd' ((tied_spec htt).1 t ht).2
            · omega
        · intro hlt
          by_cases e : d = i
          · exact .inl e
          · right
            refine hready d (he.ties d i o' o (by omega) ho' ho ?_)
            cases htt : tied ops o' o with
            | true => rfl
            | false => exact absurd ht ((tied_spec htt).1 t hd').2
    · obtain ⟨k, hk, h1, h2⟩ := hv.tmp t
      refine ⟨k, hk, by rw [put_tmp_ne ht]; simp only [St.tmp, St.wr_t]; exact h1, fun d hd hwr => ?_⟩
      rw [getD_set hiL]
      have hne : d ≠ i := by
        rintro rfl
        obtain ⟨o', ho', hd'⟩ := hwr
        rw [ho] at ho'; injection ho' with ho'; subst ho'
        exact ht hd'
      simp only [hne, false_or]
      exact h2 d hd hwr
  · by_cases hb : fp i = some (true, b)
    · obtain ⟨blk, rfl⟩ := hw b hb
      refine ⟨i + 1, by omega, ?_, fun d hd hwr => ?_⟩
      · rw [hS]
        simp only [St.blk, St.put_h, St.wr]
        rw [look_set_eq, look_set_eq]
      · rw [getD_set hiL]
        constructor
        · rintro (rfl | h)
          · omega
          · rcases Nat.lt_or_ge i d with hlt | hge
            · exact absurd (hp.cl i d hlt hd (by rw [hb, show fp d = some (true, b) from hwr]; simp [clash])) (fun hbit => high d h hbit)
            · omega
        · intro hlt
          by_cases e : d = i
          · exact .inl e
          · exact .inr (hready d (hp.cl d i (by omega) hi (by rw [hb, show fp d = some (true, b) from hwr]; simp [clash])))
    · obtain ⟨k, hk, h1, h2⟩ := hv.blk b
      refine ⟨k, hk, ?_, fun d hd hwr => ?_⟩
      · rw [← h1]
        simp only [St.blk, St.put_h]
        exact wr_blk_ne fun blk e => hb (hx b blk e)
      · rw [getD_set hiL]
        have hne : d ≠ i := fun e => by subst e; exact hb hwr
        simp only [hne, false_or]
        exact h2 d hd hwr

/-- An operation that is ready reads what it reads in the text's order. -/
theorem Inv.reads (hp : Path E call ops bf nb S fp) (he : Edges ops bf) (hv : Inv ops bf S fp L s) (hi : i < ops.size) (ho : ops[i]? = some o) (hn : L.getD i false = false)
    (hready : ∀ e, (bf.getD i 0).testBit e = true → L.getD e false = true) :
    (∀ t ∈ looks ops o, s.tmp t = (S i).tmp t) ∧ (∀ w b, fp i = some (w, b) → s.blk b = (S i).blk b) := by
  have high : ∀ d, L.getD d false = true → (bf.getD d 0).testBit i = true → False := fun d h1 h2 => by
    have := hv.closed d i h1 h2; rw [hn] at this; cases this
  refine ⟨fun t ht => ?_, fun w b hf => ?_⟩
  · obtain ⟨k, hk, h1, h2⟩ := hv.tmp t
    rw [h1]
    refine Fw.reads (f := fun k => (S k).tmp t) (W := WrT ops t) (L := fun d => L.getD d false = true) (hp.tmp t) hk hi h2 (fun d hd hwr => ?_) (fun d h3 h4 hwr h5 => ?_)
    · obtain ⟨o', ho', hd'⟩ := hwr
      refine hready d (he.ties d i o' o hd ho' ho ?_)
      cases htt : tied ops o' o with
      | true => rfl
      | false => exact absurd ht ((tied_spec htt).1 t hd').1
    · obtain ⟨o', ho', hd'⟩ := hwr
      by_cases e : d = i
      · subst e; rw [hn] at h5; cases h5
      · refine high d h5 (he.ties i d o o' (by omega) ho ho' ?_)
        cases htt : tied ops o o' with
        | true => rfl
        | false => exact absurd ht ((tied_spec htt).2 t hd')
  · obtain ⟨k, hk, h1, h2⟩ := hv.blk b
    rw [h1]
    refine Fw.reads (f := fun k => (S k).blk b) (W := WrB fp b) (L := fun d => L.getD d false = true) (hp.blk b) hk hi h2 (fun d hd hwr => ?_) (fun d h3 h4 hwr h5 => ?_)
    · exact hready d (hp.cl d i hd hi (by rw [hf, show fp d = some (true, b) from hwr]; simp [clash]))
    · by_cases e : d = i
      · subst e; rw [hn] at h5; cases h5
      · exact high d h5 (hp.cl i d (by omega) h4 (by rw [hf, show fp d = some (true, b) from hwr]; simp [clash]))
end

/-- One operation of such a region, in the model's rule. -/
theorem evD_wp (hE : E.Ok) (hcall : CallOk E call) {lo base : Nat} {m : Nat → Option Nat} {F : Nat → Prop} {s : St Bs} {a : Act} {w : World} (hr : Rel lo base m F s a w) {o : Oper} {nm : Nat} {kn : List (Nat × Bool)} (hkn : KnOk s kn) {Q : V × Option (Nat × Blk) → Prop}
    {K : Act → World → Prop} {Qx : Exit → Act → World → Prop} (hq : (evD E call s nm kn o.op).holds E.P Q)
    (hK : ∀ v wr, Q (v, wr) → ∀ m' F' w' x, Ext base m F s.n w m' F' s.n w' → HR base m' F' (s.wr wr).blk s.n w' → R F' w' v s.n m' x → K (a.put o.dst x) w') : o.wp E.P a w K Qx := by
  have hopndK : ∀ x, R F w (opndK s kn x) s.n m (a.eval x) := by
    intro x
    cases x with
    | tmp t =>
      have := hr.tmp t
      simp only [opndK, Act.eval]
      rcases refine_ok hkn t with h | ⟨c, h1, h2⟩
      · rw [h]; exact this
      · rw [h2] at this; simp only [R] at this; rw [h1]; simp only [R]; exact this
    | const v => exact hr.opnd (.const v)
    | global g => exact hr.opnd (.global g)
    | func f => exact hr.opnd (.func f)
  have quiet : (evDQ E call s kn o.op).holds E.P Q → o.wp E.P a w K Qx := by
    intro hq
    unfold evDQ at hq
    cases hT : evQ E (opndK s kn) s.blk o.op with
    | none =>
      rw [hT] at hq
      dsimp only at hq
      unfold evVal at hq
      cases ho : o.op <;> rw [ho] at hq <;> try exact hq.elim
      rename_i c
      dsimp only at hq
      cases hcal : c.callee <;> rw [hcal] at hq <;> try exact hq.elim
      rename_i f
      dsimp only at hq
      cases hc : callee (opndK s kn f) (.ofList (c.args.toList.map (opndK s kn))) with
      | none => rw [hc] at hq; exact hq.elim
      | some r =>
        obtain ⟨g, args⟩ := r
        rw [hc] at hq
        dsimp only at hq
        cases hcl : args.clean
        · rw [hcl] at hq; exact hq.elim
        · rw [hcl] at hq
          simp only [cond_true] at hq
          rw [Tree.holds_bind] at hq
          have hargs : RL F w (.ofList (c.args.toList.map (opndK s kn))) s.n m (c.args.map a.eval).toList := by
            simpa using RL_operands (a := a) hopndK c.args.toList
          obtain ⟨ys, hy, hy2⟩ := callee_run (P := E.P) hc (hopndK f) hargs
          have hr0 : HR w.heap.size (fun _ => none) F (look (fun _ => .none) .nil) 0 w :=
            ⟨Nat.le_refl _, hr.hr.fdom, fun b hb => absurd hb (Nat.not_lt_zero _), fun b B hB => (by cases hB), fun _ _ => rfl, hr.hr.gl, fun b B hB => (by cases hB), fun b b' B hB => (by cases hB)⟩
          obtain ⟨hhas, hcalls⟩ := hcall (fun _ => .none) (.inl g) args .nil 0 w.heap.size (fun _ => none) F w ys _
            (fun e w'' => match e with | .returned v => K (a.put o.dst v) w'' | _ => False) hr0 ((R_clean args hcl s.n 0 m _).2 _ hy) hq
            (fun v h' n' hQ m' F' w' x h1 h2 h3 => by
              dsimp only at hQ
              cases hcv : v.clean
              · rw [hcv] at hQ; exact hQ.elim
              · rw [hcv] at hQ
                have hl : Later F w F' w' := ⟨h1.f, h1.back, fun B hB => h1.keep B (.inl hB), h1.size, fun _ => h2.fdom, h1.calm⟩
                exact hK v none hQ m F' w' x (hr.hr.ext hl) (hr.hr.later hl) ((R_clean v hcv n' s.n m' m).1 _ h3))
          obtain ⟨hrun, hys⟩ := hy2 w
          have hexec : (execOp a.eval o).run E.P w = .ok (.enter g ys) w := by
            simp only [execOp, ho, resolve, hcal, Sem.run_bind, hrun, Result.andThen_ok, invoke, run_callFunc hhas, hys]
          unfold Oper.wp
          rw [hexec]
          simp only [Oper.upon]
          refine hcalls.mono fun e w' he => ?_
          cases e with
          | returned v => exact he
          | panicked c => exact he.elim
          | outgrown => exact he.elim
    | some T =>
      rw [hT] at hq
      dsimp only at hq
      rw [Tree.holds_bind] at hq
      exact evQ_wp hE hr.hr hopndK hT hq fun v x w' F' h1 h2 h3 => hK v none h1 m F' w' x (hr.hr.ext h2) (hr.hr.later h2) h3
  have newO : ∀ (blk : Blk) (v : V) (X : Value) (ob : Obj), (∀ m', (∀ b, b < s.n → ∀ B, m b = some B → m' b = some B) → Ext base m F s.n w m' F s.n (w.alloc ob) → RB F (w.alloc ob) s.n m' blk (some w.heap.size)) → (execOp a.eval o).run E.P w = .ok (.value X) (w.alloc ob) →
      (nm < s.n → ∀ m', m' nm = some w.heap.size → R F (w.alloc ob) v s.n m' X) → (evNew s nm blk v).holds E.P Q → o.wp E.P a w K Qx := by
    intro blk v X ob hrb hrun hX hq
    unfold evNew at hq
    cases hlt : Nat.blt nm s.n
    · rw [hlt] at hq; exact hq.elim
    · rw [hlt] at hq
      simp only [cond_true] at hq
      have hlt' : nm < s.n := by simpa [Nat.blt_eq] using hlt
      have hb := hr.hr.blk nm hlt'
      cases hbl : s.blk nm <;> rw [hbl] at hq <;> try exact hq.elim
      rw [hbl] at hb
      have h0 : m nm = none := hb
      obtain ⟨h1, h2⟩ := hr.hr.layO (h' := (s.wr (some (nm, blk))).blk) (nm := nm) (n' := s.n) (o := ob) h0 (Nat.le_refl _) hlt' (fun b h3 h4 => by omega) (fun b => look_set _ _ _ _ _) (fun he => hrb _ he.map he)
      unfold Oper.wp
      rw [hrun]
      simp only [Oper.upon]
      exact hK _ _ hq _ F _ _ h2 h1 (hX hlt' _ (by simp))
  have new : ∀ (cs v : V) (X : Value) (xs : Array Value) (el : TypeId), RL F w cs s.n m xs.toList → (execOp a.eval o).run E.P w = .ok (.value X) (w.alloc (.cells xs el)) →
      (nm < s.n → ∀ m', m' nm = some w.heap.size → R F (w.alloc (.cells xs el)) v s.n m' X) → (evNew s nm (.var cs) v).holds E.P Q → o.wp E.P a w K Qx := fun cs v X xs el hrow hrun hX hq =>
    newO (.var cs) v X (.cells xs el) (fun m' hm he => ⟨_, xs, el, xs.toList, [], rfl, heap_alloc_new w _, by simp, he.row hrow⟩) hrun hX hq
  have ptr : nm < s.n → ∀ (w' : World) (m' : Nat → Option Nat), m' nm = some w.heap.size → R F w' (.ptr true nm 0 0 0) s.n m' (.pointer (some ⟨w.heap.size, 0, none⟩)) := fun hlt w' m' hm => by
    rw [R_ptr]; exact ⟨hlt, w.heap.size, by simp, hm⟩
  cases ho : o.op <;> rw [ho] at hq <;> try (exact quiet (by rw [ho]; exact hq))
  case alloc t =>
    simp only [evD] at hq
    cases hz : tyZero E.P t with
    | none => rw [hz] at hq; exact hq.elim
    | some cs =>
      rw [hz] at hq
      obtain ⟨z, hz1, hz2⟩ := tyZero_run (F := F) (w := w) (n := s.n) (m := m) hz
      exact new cs _ _ z.cells t hz2 (by simp only [execOp, ho, Instr.alloc, Sem.run_bind, hz1, Result.andThen_ok]; rfl) (fun hlt m' hm => ptr hlt _ m' hm) hq
  case box t x =>
    simp only [evD] at hq
    cases hs : (opndK s kn x).solid
    · rw [hs] at hq; exact hq.elim
    · rw [hs] at hq
      exact new _ _ _ (a.eval x).cells t (RL_cells _ _ (hopndK x) hs) (by simp only [execOp, ho]; rfl) (fun hlt m' hm => ptr hlt _ m' hm) hq
  case buildSlice t len parts =>
    simp only [evD] at hq
    cases hz : evBuildRow E.P t len (parts.toList.map fun p => (p.1, opndK s kn p.2)) with
    | none => rw [hz] at hq; exact hq.elim
    | some zc =>
      obtain ⟨z, cs⟩ := zc
      rw [hz] at hq
      obtain ⟨outc, e, hrun, hrow, hsz⟩ := run_buildSlice (E := E) ho hopndK hz
      exact new _ _ _ outc e hrow hrun (fun hlt m' hm => by rw [R_osl]; exact ⟨hlt, _, len, rfl, Nat.le_refl _, .inr ⟨w.heap.size, outc, e, (0, 0), by rw [Nat.zero_mul], hm, heap_alloc_new w _, by rw [Nat.zero_add, hsz]; exact Nat.le_refl _⟩⟩) hq
  case makeMap t r =>
    simp only [evD] at hq
    cases hz : evMakeMap E.P t (r.map (opndK s kn)) with
    | none => rw [hz] at hq; exact hq.elim
    | some blk =>
      rw [hz] at hq
      obtain ⟨hrun0, kd, rfl⟩ := makeMap_run (F := F) (w := w) (n := s.n) (m := m) (X := r.map a.eval) hz (fun v hv => by
        cases r with
        | none => cases hv
        | some y => injection hv with hv; subst hv; exact ⟨_, rfl, hopndK y⟩) (fun hv => by cases r with | none => rfl | some y => cases hv)
      exact newO _ _ _ (.map #[] 0) (fun m' _ _ => RB_newMap (heap_alloc_new w _)) (by simp only [execOp, ho, Sem.run_bind, hrun0, Result.andThen_ok]; rfl) (fun hlt m' hm => by simp only [R]; exact ⟨hlt, _, rfl, hm⟩) hq
  case mapUpdate t mx k x =>
    simp only [evD] at hq
    cases hz : evMapPut E.P s.blk t (opnd s mx) (opndK s kn k) (true, opndK s kn x) with
    | none => rw [hz] at hq; exact hq.elim
    | some bb =>
      obtain ⟨b, blk⟩ := bb
      rw [hz] at hq
      obtain ⟨w', hrun0, k1, k2⟩ := (mapPut_run hr.hr (hr.opnd mx) (hopndK k) hz).1 _ rfl (hopndK x)
      have hrun : (execOp a.eval o).run E.P w = .ok .skip w' := by
        simp only [execOp, ho, Sem.run_bind, hrun0, Result.andThen_ok, Sem.run_pure]
      unfold Oper.wp
      rw [hrun]
      simp only [Oper.upon]
      exact hK _ _ hq m F w' _ k2 (k1 _ (fun c => look_set _ _ _ _ _)) (by simp only [R])
  case insert t mx k x =>
    simp only [evD] at hq
    cases hz : evMapPut E.P s.blk t (opnd s mx) (opndK s kn k) (true, opndK s kn x) with
    | none => rw [hz] at hq; exact hq.elim
    | some bb =>
      obtain ⟨b, blk⟩ := bb
      rw [hz] at hq
      obtain ⟨w', hrun0, k1, k2⟩ := (mapPut_run hr.hr (hr.opnd mx) (hopndK k) hz).1 _ rfl (hopndK x)
      have hrun : (execOp a.eval o).run E.P w = .ok .skip w' := by
        simp only [execOp, ho, Sem.run_bind, hrun0, Result.andThen_ok, Sem.run_pure]
      unfold Oper.wp
      rw [hrun]
      simp only [Oper.upon]
      exact hK _ _ hq m F w' _ k2 (k1 _ (fun c => look_set _ _ _ _ _)) (by simp only [R])
  case load t ax =>
    simp only [evD] at hq
    rw [Tree.holds_bind] at hq
    exact wp_of_val (by simp only [execOp, ho]) (evLoad_val hr.hr (hr.opnd ax)) hq fun v x w' F' h1 h2 h3 => hK v none h1 m F' w' x (hr.hr.ext h2) (hr.hr.later h2) h3
  rename_i t ax xx
  simp only [evD, evStoreD] at hq
  cases hz : tySize E.P t with
  | none => rw [hz] at hq; exact hq.elim
  | some z =>
    rw [hz] at hq
    dsimp only at hq
    cases h1 : Nat.beq (opndK s kn xx).cells.len z
    · rw [h1] at hq; exact hq.elim
    · cases h2 : (opndK s kn xx).cells.allCell
      · rw [h1, h2] at hq; exact hq.elim
      · cases h3 : (opndK s kn xx).solid
        · rw [h1, h2, h3] at hq; exact hq.elim
        · rw [h1, h2, h3] at hq
          simp only [Bool.and_self, cond_true] at hq
          have hax := hr.opnd ax
          have hxx := hopndK xx
          cases hva : opnd s ax <;> rw [hva] at hq <;> try exact hq.elim
          rename_i st b es i' o'
          have hlen : (a.eval xx).cells.size = z := by
            have := RL_len _ _ (RL_cells _ _ hxx h3)
            rw [Nat.eq_of_beq_eq_true h1] at this
            simpa using this.symm
          rw [hva, R_ptr] at hax
          obtain ⟨hb, B, hae, hB⟩ := hax
          dsimp only at hq
          rw [Tree.holds_bind] at hq
          obtain ⟨blk, w', k1, k2, k3, k4⟩ := evStoreB_run hr.hr hb hB hxx h3 hlen h2 hq
          have hrun : (execOp a.eval o).run E.P w = .ok .skip w' := by
            simp only [execOp, ho, Sem.run_bind, Instr.storeAt, hae, Instr.sureAddr, pure_bind, storeVar, tySize_run hz, Result.andThen_ok]
            rw [if_neg (by simp [hlen])]
            simp only [k2, Result.andThen_ok, Sem.run_pure]
          unfold Oper.wp
          rw [hrun]
          simp only [Oper.upon]
          exact hK _ _ k1 m F w' _ k4 (k3 _ (fun c => look_set _ _ _ _ _)) (by simp only [R])

theorem evStoreB_flat (blk : Blk) (st : Bool) (es i o z : Nat) (v : V) : (evStoreB blk st es i o z v).flat = true := by
  unfold evStoreB
  cases blk with
  | none => rfl
  | any => rfl
  | rng => rfl
  | mapV => rfl
  | var cs => dsimp only; cases (st && Nat.ble (i * es + o + z) cs.len) <;> rfl
  | arr es' n get =>
    dsimp only
    cases (Nat.beq es es' && (Nat.ble (o + z) es && v.clean))
    · rfl
    · simp only [cond_true, atIdx]
      cases st with
      | false => rfl
      | true => dsimp only; cases Nat.blt i n <;> rfl
theorem evD_nodefer {E : Env} {call : CallF} {Bs : Base} {s : St Bs} {nm : Nat} {kn : List (Nat × Bool)} {o : Op} {Q : V × Option (Nat × Blk) → Prop} (hq : (evD E call s nm kn o).holds E.P Q) : ∀ c, o ≠ .defer c := by
  intro c e
  subst e
  exact hq
theorem any_wp {ro : Option Nat} (hE : E.Ok) (hcall : CallOk E call) (hp : Path E call ops bf nb S fp) (he : Edges ops bf) {lo base : Nat} {Qx : Exit → Act → World → Prop} :
    ∀ (fuel : Nat) (L : Array Bool) (s : St Bs) (a : Act) (w : World) (m : Nat → Option Nat) (F : Nat → Prop), Inv ops bf S fp L s → Rel lo base m F s a w →
    ((List.range ops.size).filter fun i => !L.getD i false).length ≤ fuel →
    (∀ m' F' a' w', Ext base m F s.n w m' F' s.n w' → Rel lo base m' F' (S ops.size) a' w' → Qx .normal a' w') → wpAnyIn (fen ro) 0 E.P .any ops Qx fuel L a w := by
  -- where nothing is ready, all has been carried out
  have done : ∀ (L : Array Bool) (s : St Bs), Inv ops bf S fp L s → Region.ready .any ops L = [] → ∀ i, i < ops.size → L.getD i false = true := by
    intro L s hv hnil i
    induction i using Nat.strongRecOn with
    | _ i ih =>
      intro hi
      cases hL : L.getD i false with
      | true => rfl
      | false =>
        exfalso
        have hmem : i ∈ Region.ready .any ops L := by
          unfold Region.ready
          rw [List.mem_filter]
          refine ⟨List.mem_range.2 hi, ?_⟩
          have ho : ops[i]? = some ops[i] := Array.getElem?_eq_getElem hi
          have hL' : L.getD i true = false := by
            have hlt : i < L.size := by rw [hv.size]; exact hi
            simp [Array.getD_eq_getD_getElem?, hlt] at hL ⊢; exact hL
          simp only [hL', Bool.not_false, Bool.true_and, ho, Option.map_some, Option.getD_some]
          rw [← Array.all_toList, List.all_eq_true]
          intro ed hed
          cases hb : Region.binds .any ed with
          | false => rfl
          | true =>
            have hlt := he.back i _ ho ed hed hb
            simp [ih ed.on hlt (by omega)]
        rw [hnil] at hmem
        cases hmem
  have final : ∀ (L : Array Bool) (s : St Bs) (a : Act) (w : World) (m : Nat → Option Nat) (F : Nat → Prop), Inv ops bf S fp L s → Rel lo base m F s a w → (∀ i, i < ops.size → L.getD i false = true) →
      Rel lo base m F (S ops.size) a w := by
    intro L s a w m F hv hr hall
    have hfix := hp.fixed ops.size (Nat.le_refl _)
    have ht : ∀ t, s.tmp t = (S ops.size).tmp t := by
      intro t
      obtain ⟨k, hk, h1, h2⟩ := hv.tmp t
      rw [h1]
      exact (stays (f := fun k => (S k).tmp t) (hp.tmp t) k ops.size hk (Nat.le_refl _) fun d h3 h4 hw => by have := (h2 d h4 hw).1 (hall d h4); omega).symm
    have hb : ∀ b, s.blk b = (S ops.size).blk b := by
      intro b
      obtain ⟨k, hk, h1, h2⟩ := hv.blk b
      rw [h1]
      exact (stays (f := fun k => (S k).blk b) (hp.blk b) k ops.size hk (Nat.le_refl _) fun d h3 h4 hw => by have := (h2 d h4 hw).1 (hall d h4); omega).symm
    have hn : (S ops.size).n = s.n := by rw [hfix.1, hv.n]
    refine ⟨?_, hr.defers, by rw [hr.size, hv.N, hfix.2], fun i => by rw [← ht, hn]; exact hr.tmp i⟩
    rw [hn]
    exact ⟨hr.hr.low, hr.hr.fdom, fun b hbn => by have := hr.hr.blk b hbn; rw [show s.blk b = (S ops.size).blk b from hb b] at this; exact this, hr.hr.dom, hr.hr.new, hr.hr.gl, hr.hr.own, fun b b' B h1 h2 hne => by rw [← hb b, ← hb b']; exact hr.hr.inj b b' B h1 h2 hne⟩
  intro fuel
  induction fuel with
  | zero =>
    intro L s a w m F hv hr hcnt hK
    have hall : ∀ i, i < ops.size → L.getD i false = true := by
      intro i hi
      cases hL : L.getD i false with
      | true => rfl
      | false =>
        exfalso
        have hnil : ((List.range ops.size).filter fun i => !L.getD i false) = [] := List.eq_nil_of_length_eq_zero (by omega)
        have : i ∈ ((List.range ops.size).filter fun i => !L.getD i false) := by
          rw [List.mem_filter]; exact ⟨List.mem_range.2 hi, by simp only [hL, Bool.not_false]⟩
        rw [hnil] at this
        cases this
    refine ⟨?_, hK m F a w (Ext.refl _ _ _ _ _) (final L s a w m F hv hr hall)⟩
    unfold Region.ready
    rw [List.filter_eq_nil_iff]
    intro i hi
    have hi' := List.mem_range.1 hi
    have hlt : i < L.size := by rw [hv.size]; exact hi'
    have h1 := hall i hi'
    have hL' : L.getD i true = true := by simp [Array.getD_eq_getD_getElem?, hlt] at h1 ⊢; exact h1
    simp [hL']
  | succ fuel ih =>
    intro L s a w m F hv hr hcnt hK
    refine ⟨fun hnil => hK m F a w (Ext.refl _ _ _ _ _) (final L s a w m F hv hr (done L s hv hnil)), fun i hmem => ?_⟩
    unfold Region.ready at hmem
    rw [List.mem_filter] at hmem
    obtain ⟨hi, hcond⟩ := hmem
    have hi := List.mem_range.1 hi
    have hlt : i < L.size := by rw [hv.size]; exact hi
    have ho : ops[i]? = some ops[i] := Array.getElem?_eq_getElem hi
    simp only [ho, Option.map_some, Option.getD_some, Bool.and_eq_true, Bool.not_eq_true'] at hcond
    obtain ⟨hL, hedges⟩ := hcond
    have hn : L.getD i false = false := by simp [Array.getD_eq_getD_getElem?, hlt] at hL ⊢; exact hL
    have hready : ∀ e, (bf.getD i 0).testBit e = true → L.getD e false = true := by
      intro e hbit
      obtain ⟨ed, h1, h2, h3⟩ := he.edge i _ ho e hbit
      rw [← Array.all_toList, List.all_eq_true] at hedges
      have := hedges ed h1
      rw [h2] at this
      have hon : L.getD ed.on false = true := by simpa using this
      rcases h3 with rfl | h3
      · exact hon
      · exact hv.closed _ _ hon h3
    obtain ⟨hrt, hrb⟩ := hv.reads hp he hi ho hn hready
    have hcnt' : ((List.range ops.size).filter fun j => !(L.setIfInBounds i true).getD j false).length ≤ fuel := by
      have := cnt_lt (fun j => !L.getD j false) (fun j => !(L.setIfInBounds i true).getD j false) i (List.range ops.size) (fun j hj => by
        by_cases e : L.getD j false = true
        · have := (getD_set hlt j).2 (.inr e); simp only [this, Bool.not_true] at hj; cases hj
        · simp at e; simp [e]) (List.mem_range.2 hi) (by simp only [hn, Bool.not_false]) (by have := (getD_set hlt i).2 (.inl rfl); simp only [this, Bool.not_true])
      omega
    have hN : s.N = (S i).N := by rw [hv.N, (hp.fixed i (by omega)).2]
    have hnn : s.n = (S i).n := by rw [hv.n, (hp.fixed i (by omega)).1]
    unfold wpOpIn
    rw [ho]
    dsimp only
    rcases hp.step i _ ho with ⟨r, kn, hw, hkn, hknl, hf, hh, hd, hS, hfp⟩ | ⟨hw, hd, hS, hfp⟩
    · rw [← truth_congr hrt] at hw
      rw [if_pos (yielded_of hr hw)]
      have hkn' : KnOk s kn := fun p hp => by rw [hrt p.1 (hknl p hp)]; exact hkn p hp
      have hopnd : ∀ x ∈ ops[i].op.operands, opnd s x = opnd (S i) x := fun x hx => opnd_congr fun t e => hrt t (by
        subst e
        simp only [looks, List.mem_append, List.mem_filterMap]
        exact .inl ⟨.tmp t, by simpa using hx, rfl⟩)
      have hev : evD E call s (nb + i) kn ops[i].op = evD E call (S i) (nb + i) kn ops[i].op := evD_congr hnn hopnd fun w b hfo => hrb w b (by rw [hfp, hfo])
      rw [← hev] at hh hf
      refine wpIn_of_wp (evD_wp hE hcall hr hkn' hh fun v wr hvr m' F' w' x h1 h2 h3 => ?_) (evD_nodefer hh)
      subst hvr
      have hr' : Rel lo base m' F' (s.wr wr) a w' := by
        refine ⟨by rw [St.wr_n]; exact h2, Marks.ext hr.defers h1, by rw [St.wr_N]; exact hr.size, fun i => ?_⟩
        rw [St.wr_n]
        simp only [St.tmp, St.wr_t]
        exact h1.val (hr.tmp i)
      have hr'' := hr'.put (dst := ops[i].dst) (v := v) (x := x) (by rw [St.wr_n]; exact h3) (by rw [St.wr_N, hN]; exact dst_lt hd)
      have hfoot : foot s (nb + i) ops[i].op = foot (S i) (nb + i) ops[i].op := by
        unfold foot
        cases hop : ops[i].op <;> try rfl
        case slice t ax lo hi mx => dsimp only; rw [hopnd ax (by rw [hop]; simp [Op.operands])]
        case lookup t ax ix ok => dsimp only; rw [hopnd ax (by rw [hop]; simp [Op.operands])]
        case mapUpdate t ax k x => dsimp only; rw [hopnd ax (by rw [hop]; simp [Op.operands])]
        case insert t ax k x => dsimp only; rw [hopnd ax (by rw [hop]; simp [Op.operands])]
        · rename_i t ax; dsimp only; rw [hopnd ax (by rw [hop]; simp [Op.operands])]
        · rename_i t ax xx; dsimp only; rw [hopnd ax (by rw [hop]; simp [Op.operands])]
        · rename_i t t' ax; dsimp only; rw [hopnd ax (by rw [hop]; simp [Op.operands])]
      have newWr : ∀ {cs : Blk} {u : V}, (evNew s (nb + i) cs u).holds E.P (fun x => x = (v, wr)) → ∃ blk, wr = some (nb + i, blk) := by
        intro cs u h
        unfold evNew at h
        cases hlt : Nat.blt (nb + i) s.n
        · rw [hlt] at h; exact h.elim
        · rw [hlt] at h
          simp only [cond_true] at h
          cases hbl : s.blk (nb + i) <;> rw [hbl] at h <;> first | exact h.elim | (injection h with _ h; exact ⟨_, h.symm⟩)
      have hinv := hv.next hp he hi ho hn hready (v := v) (x := wr) (fun b blk e => by rw [hfp, ← hfoot]; exact evD_foot hf hh e) (fun b hb => by
        rw [hfp, ← hfoot] at hb
        cases hop : ops[i].op <;> rw [hop] at hb <;> simp only [foot] at hb <;> try (cases hb; done)
        case slice t ax lo hi mx => cases hax : opnd s ax <;> rw [hax] at hb <;> simp at hb
        case lookup t ax ix ok => cases hax : opnd s ax <;> rw [hax] at hb <;> simp at hb
        case makeMap t r =>
          simp only [Option.some.injEq, Prod.mk.injEq, true_and] at hb
          subst hb
          rw [hop] at hh
          simp only [evD] at hh
          cases hz : evMakeMap E.P t (r.map (opndK s kn)) with
          | none => rw [hz] at hh; exact hh.elim
          | some blk => rw [hz] at hh; exact newWr hh
        case mapUpdate t ax k x =>
          rw [hop] at hh
          simp only [evD] at hh
          cases hz : evMapPut E.P s.blk t (opnd s ax) (opndK s kn k) (true, opndK s kn x) with
          | none => rw [hz] at hh; exact hh.elim
          | some bb =>
            rw [hz] at hh
            rw [evMapPut_mp hz] at hb
            simp only [Option.some.injEq, Prod.mk.injEq, true_and] at hb
            subst hb
            injection hh with _ e
            exact ⟨_, e.symm⟩
        case insert t ax k x =>
          rw [hop] at hh
          simp only [evD] at hh
          cases hz : evMapPut E.P s.blk t (opnd s ax) (opndK s kn k) (true, opndK s kn x) with
          | none => rw [hz] at hh; exact hh.elim
          | some bb =>
            rw [hz] at hh
            rw [evMapPut_mp hz] at hb
            simp only [Option.some.injEq, Prod.mk.injEq, true_and] at hb
            subst hb
            injection hh with _ e
            exact ⟨_, e.symm⟩
        · rename_i t
          simp only [Option.some.injEq, Prod.mk.injEq, true_and] at hb
          subst hb
          rw [hop] at hh
          simp only [evD] at hh
          cases hz : tyZero E.P t with
          | none => rw [hz] at hh; exact hh.elim
          | some cs => rw [hz] at hh; exact newWr hh
        case buildSlice t len ps =>
          simp only [Option.some.injEq, Prod.mk.injEq, true_and] at hb
          subst hb
          rw [hop] at hh
          simp only [evD] at hh
          cases hz : evBuildRow E.P t len (ps.toList.map fun p => (p.1, opndK s kn p.2)) with
          | none => rw [hz] at hh; exact hh.elim
          | some zc => rw [hz] at hh; exact newWr hh
        · rename_i t ax
          simp only [Option.some.injEq, Prod.mk.injEq, true_and] at hb
          subst hb
          rw [hop] at hh
          simp only [evD] at hh
          cases hz : (opndK s kn ax).solid
          · rw [hz] at hh; exact hh.elim
          · rw [hz] at hh; exact newWr hh
        · rename_i t ax
          cases hax : opnd s ax <;> rw [hax] at hb <;> simp at hb
        · rename_i t ax xx
          cases hax : opnd s ax <;> rw [hax] at hb <;> try (cases hb; done)
          simp only [Option.some.injEq, Prod.mk.injEq, true_and] at hb
          subst hb
          rw [hop] at hh
          simp only [evD, evStoreD] at hh
          cases hz : tySize E.P t with
          | none => rw [hz] at hh; exact hh.elim
          | some z =>
            rw [hz] at hh
            dsimp only at hh
            cases hc : (Nat.beq (opndK s kn xx).cells.len z && ((opndK s kn xx).cells.allCell && (opndK s kn xx).solid))
            · rw [hc] at hh; exact hh.elim
            · rw [hc, hax] at hh
              simp only [cond_true] at hh
              rw [Tree.holds_bind] at hh
              obtain ⟨blk, _, e⟩ := Tree.pick _ (evStoreB_flat _ _ _ _ _ _ _) hh
              injection e with _ e
              exact ⟨blk, e.symm⟩
        · rename_i t t' ax
          cases hax : opnd s ax <;> rw [hax] at hb <;> simp at hb) hS
      refine ih (L.setIfInBounds i true) ((s.wr wr).put ops[i].dst v) _ _ m' F' hinv hr'' hcnt' fun m'' F'' a' w'' h4 h5 => hK m'' F'' a' w'' (h1.trans ?_) h5
      rw [St.put_n, St.wr_n] at h4
      exact h4
    · rw [← truth_congr hrt] at hw
      rw [if_neg (by rw [yielded_of hr hw]; simp)]
      refine ⟨fun _ _ => trivial, ?_⟩
      have hr'' := hr.put (dst := ops[i].dst) (v := .undef) (x := Go.undef) (by simp only [R]) (by rw [hN]; exact dst_lt hd)
      have hinv := hv.next hp he hi ho hn hready (v := .undef) (x := none) (fun b blk e => by cases e) (fun b hb => by rw [hfp] at hb; cases hb) hS
      refine ih (L.setIfInBounds i true) (s.put ops[i].dst .undef) _ _ m F hinv hr'' hcnt' fun m'' F'' a' w'' h4 h5 => hK m'' F'' a' w'' ?_ h5
      rw [St.put_n] at h4
      exact h4

theorem noneRange_look (g : Nat → Blk) (h : PT Blk) (n k j : Nat) : look g (noneRange h n k) j = if n ≤ j ∧ j < n + k then .none else look g h j := by
  induction k with
  | zero => rw [if_neg (by omega)]; rfl
  | succ k ih =>
    show look g ((noneRange h n k).set (n + k) .none) j = _
    rw [look_set, ih]
    by_cases e : j = n + k
    · rw [if_pos e, if_pos (by omega)]
    · rw [if_neg e]
      by_cases e2 : n ≤ j ∧ j < n + k
      · rw [if_pos e2, if_pos (by omega)]
      · rw [if_neg e2, if_neg (by omega)]
theorem keep_rel {lo base : Nat} {m : Nat → Option Nat} {F : Nat → Prop} {s : St Bs} {a : Act} {w : World} (hr : Rel lo base m F s a w) : Rel lo base m F (s.keepNames ops) a w ∧ s.n ≤ (s.keepNames ops).n := by
  unfold St.keepNames
  cases ops.toList.any lays
  · exact ⟨hr, Nat.le_refl _⟩
  · simp only [cond_true]
    have hext : Ext base m F s.n w m F (s.n + ops.size) w := ⟨fun _ h => h, fun _ h => .inl h, fun _ _ => rfl, Nat.le_refl _, Sizes.refl w, Own.refl m w, by omega, fun _ _ _ h => h, Calm.refl w⟩
    refine ⟨⟨⟨hr.hr.low, hr.hr.fdom, fun b hb => ?_, hr.hr.dom, fun b hb => hr.hr.new b (Nat.le_trans (Nat.le_add_right _ _) hb), hr.hr.gl, hr.hr.own, fun b b' C h1 h2 hne => ?_⟩, hr.defers, hr.size, fun i => hext.val (hr.tmp i)⟩, by omega⟩
    · simp only [St.blk]
      rw [noneRange_look]
      by_cases e : s.n ≤ b ∧ b < s.n + ops.size
      · rw [if_pos e]
        exact hr.hr.new b e.1
      rw [if_neg e]
      have hbn : b < s.n := by
        have hb' : b < s.n + ops.size := hb
        omega
      exact RB_ext hext (fun _ _ => rfl) (hr.hr.blk b hbn)
    · simp only [St.blk]
      have hb1 := hr.hr.lt (b := b) (by rw [h1]; simp)
      have hb2 := hr.hr.lt (b := b') (by rw [h2]; simp)
      rw [noneRange_look, noneRange_look, if_neg (by omega), if_neg (by omega)]
      exact hr.hr.inj b b' C h1 h2 hne
theorem evOpsD_wp {ro : Option Nat} (hE : E.Ok) (hcall : CallOk E call) {lo base : Nat} {m : Nat → Option Nat} {F : Nat → Prop} {s : St Bs} {a : Act} {w : World} (hr : Rel lo base m F s a w) (hok : drawOk ops (bfs ops.toList []) = true)
    {id : Nat} {Q : St Bs → Prop} {Qx : Exit → Act → World → Prop} (hq : (evOpsD E call ops (bfs ops.toList []) s.n ops.toList 0 [] [] (s.keepNames ops)).holds E.P Q)
    (hK : ∀ s', Q s' → ∀ m' F' a' w', Ext base m F s.n w m' F' s'.n w' → Rel lo base m' F' s' a' w' → Qx .normal a' w') : (Code.region id ops true).wpIn (fen ro) 0 E.P Qx a w := by
  obtain ⟨S, fp, h0, h1, h2, h3, h4⟩ := path_of _ _ _ _ _ _ (fun p hp => by cases hp) hq
  obtain ⟨hkr, hkn⟩ := keep_rel (ops := ops) hr
  have hlen : ops.toList.length = ops.size := by simp
  simp only [Nat.zero_add, hlen] at h1 h2 h3 h4
  have hp : Path E call ops (bfs ops.toList []) s.n S fp := ⟨fun i o ho => h2 i o (by simpa using ho), fun i j hij hj hc => h4 i j hij hj hc⟩
  have hr' : Rel lo base m F (S 0) a { w with drawn := w.drawn + 1 } := by
    rw [h0]
    have hext : Ext base m F (s.keepNames ops).n w m F (s.keepNames ops).n { w with drawn := w.drawn + 1 } := ⟨fun _ h => h, fun _ h => .inl h, fun _ _ => rfl, Nat.le_refl _, Sizes.of_keep (fun _ _ => rfl), Own.of_keep (fun _ _ => rfl), Nat.le_refl _, fun _ _ _ h => h, ⟨rfl, rfl, rfl⟩⟩
    refine ⟨⟨hkr.hr.low, hkr.hr.fdom, fun b hb => RB_ext hext (fun _ _ => rfl) (hkr.hr.blk b hb), hkr.hr.dom, hkr.hr.new, hkr.hr.gl.mono hext.sz (fun _ h => h) (fun _ _ => rfl), hkr.hr.own, hkr.hr.inj⟩, Marks.ext hkr.defers hext, hkr.size, fun i => hext.val (hkr.tmp i)⟩
  refine wpIn_region_any hE.mixed ?_
  have hfix := hp.fixed ops.size (Nat.le_refl _)
  refine any_wp hE hcall hp (edges_of hok) ops.size _ (S 0) a _ m F Inv.start hr' ?_ fun m' F' a' w' hx hrel => ?_
  · exact Nat.le_trans (List.length_filter_le _ _) (by simp)
  · refine hK (S ops.size) h1 m' F' a' w' ?_ hrel
    rw [hfix.1, h0]
    rw [h0] at hx
    exact ⟨hx.f, hx.back, hx.keep, hx.size, Sizes.trans (Sizes.of_keep (fun _ _ => rfl)) hx.sz, Own.trans (w1 := { w with drawn := w.drawn + 1 }) (Own.of_keep (fun _ _ => rfl)) hx.ow (Nat.le_refl _), Nat.le_trans hkn hx.le, fun b hb => hx.map b (Nat.lt_of_lt_of_le hb hkn), ⟨hx.calm.os, hx.calm.tape, hx.calm.output⟩⟩
end
end Go.Fw
