/- Each operation of the evaluator in the model's own rule for an operation. -/
import Derived.Test.YtfealfofcjgihaaGwI
namespace Go.Fw

section
variable {base : Nat} {m : Nat → Option Nat} {F : Nat → Prop} {h : Nat → Blk} {n : Nat} {w : World} {ρ : Operand → V} {a : Act}

theorem optV {lo : Option Operand} (hρ : ∀ x, R F w (ρ x) n m (a.eval x)) :
    (∀ b, lo.map ρ = some b → ∃ x, lo.map a.eval = some x ∧ R F w b n m x) ∧ (lo.map ρ = none → lo.map a.eval = none) := by
  cases lo with
  | none => exact ⟨(fun b hb => by cases hb), fun _ => rfl⟩
  | some x => exact ⟨(fun b hb => by simp only [Option.map_some, Option.some.injEq] at hb; subst hb; exact ⟨_, rfl, hρ x⟩), fun hb => by cases hb⟩

theorem exec_builtin {P : Program} {o : Oper} {c : Call} {b : Builtin} {sem : Sem Value} (ho : o.op = .call c) (hcal : c.callee = .builtin b)
    (hb : ∀ consts ty, builtin b c.argTypes ty consts (c.args.map a.eval) = (do pure (.value (← sem)))) (w : World) :
    (execOp a.eval o).run P w = ((sem.run P w).andThen fun x w => .ok (.value x) w) := by
  simp only [execOp, ho, resolve, hcal, pure_bind, invoke, hb, Sem.run_bind, Sem.run_pure]
theorem wp_of_run {E : Env} {o : Oper} {sem : Sem Value} {T : Tree V} {Q : V → Prop} {K : Act → World → Prop} {Qx : Exit → Act → World → Prop}
    (hx : (execOp a.eval o).run E.P w = ((sem.run E.P w).andThen fun x w => .ok (.value x) w)) (hv : Val E.P F w n m T sem) (hq : T.holds E.P Q)
    (hK : ∀ v x w' F', Q v → Later F w F' w' → R F' w' v n m x → K (a.put o.dst x) w') : o.wp E.P a w K Qx := by
  obtain ⟨v, x, h1, h2, h3⟩ := hv Q hq
  unfold Oper.wp
  rw [hx]
  simp only [h2, Result.andThen_ok, Oper.upon]
  exact hK v x w F h1 (Later.refl F w) h3

theorem wp_builtin {E : Env} {o : Oper} {c : Call} {b : Builtin} {T : Tree V} {Q : V → Prop} {K : Act → World → Prop} {Qx : Exit → Act → World → Prop}
    (ho : o.op = .call c) (hcal : c.callee = .builtin b) (hρ : ∀ x, R F w (ρ x) n m (a.eval x)) (hT : evBuiltin E.P b c.argTypes.toList (.ofList (c.args.toList.map ρ)) = some T) (hq : T.holds E.P Q)
    (hK : ∀ v x w' F', Q v → Later F w F' w' → R F' w' v n m x → K (a.put o.dst x) w') : o.wp E.P a w K Qx := by
  have hargs := RL_operands (a := a) hρ c.args.toList
  cases b <;> try (cases hT; done)
  · simp only [evBuiltin, Option.some.injEq] at hT
    subst hT
    cases hts : c.argTypes.toList with
    | nil => rw [hts] at hq; exact hq.elim
    | cons t ts =>
      rw [hts] at hq
      cases hal : c.args.toList with
      | nil => rw [hal] at hq; exact hq.elim
      | cons x xs =>
        rw [hal] at hq
        simp only [List.map_cons, V.ofList] at hq
        have h0 : c.argTypes[0]? = some t := by rw [← Array.getElem?_toList, hts]; rfl
        have h1 : (c.args.map a.eval)[0]? = some (a.eval x) := by rw [← Array.getElem?_toList, Array.toList_map, hal]; rfl
        exact wp_of_run (exec_builtin (sem := Builtin.len_ c.argTypes o.type (c.args.map a.eval)) ho hcal (fun consts ty => by
            simp only [builtin, Builtin.len_]) w) (evLen_val h0 h1 (hρ x)) hq hK
  · simp only [evBuiltin, Option.some.injEq] at hT
    subst hT
    cases hal : c.args.toList with
    | nil => rw [hal] at hq; exact hq.elim
    | cons x xs =>
      rw [hal] at hq hargs
      simp only [List.map_cons, V.ofList, RL] at hq hargs
      obtain ⟨y, r, e, hy, hr⟩ := hargs
      injection e with e1 e2
      subst e1; subst e2
      refine wp_of_run (exec_builtin (sem := Builtin.max_ c.argTypes o.type (c.args.map a.eval)) ho hcal (fun consts ty => rfl) w) ?_ hq hK
      have := evMinMax_val (P := E.P) (less := false) _ _ hr _ _ hy
      intro Q' hq'
      obtain ⟨v, z, k1, k2, k3⟩ := this Q' hq'
      refine ⟨v, z, k1, ?_, k3⟩
      simp only [Builtin.max_, Array.toList_map, hal, List.map_cons]
      exact k2
  · simp only [evBuiltin, Option.some.injEq] at hT
    subst hT
    cases hal : c.args.toList with
    | nil => rw [hal] at hq; exact hq.elim
    | cons x xs =>
      rw [hal] at hq hargs
      simp only [List.map_cons, V.ofList, RL] at hq hargs
      obtain ⟨y, r, e, hy, hr⟩ := hargs
      injection e with e1 e2
      subst e1; subst e2
      refine wp_of_run (exec_builtin (sem := Builtin.min_ c.argTypes o.type (c.args.map a.eval)) ho hcal (fun consts ty => rfl) w) ?_ hq hK
      have := evMinMax_val (P := E.P) (less := true) _ _ hr _ _ hy
      intro Q' hq'
      obtain ⟨v, z, k1, k2, k3⟩ := this Q' hq'
      refine ⟨v, z, k1, ?_, k3⟩
      simp only [Builtin.min_, Array.toList_map, hal, List.map_cons]
      exact k2

theorem wp_meets {E : Env} {o : Oper} {c : Call} {f : Operand} {g : FuncId} {out v : V} {Q : V → Prop} {K : Act → World → Prop} {Qx : Exit → Act → World → Prop}
    (ho : o.op = .call c) (hcal : c.callee = .value f) (hρ : ∀ x, R F w (ρ x) n m (a.eval x)) (hc : callee (ρ f) (.ofList (c.args.toList.map ρ)) = some (g, out))
    (hm : Meets E.P g out v) (hcl : out.clean = true) (hcv : v.clean = true) (hfd : ∀ B, F B → B < w.heap.size) (hgl : GOk F w) (hq : Q v)
    (hK : ∀ v x w' F', Q v → Later F w F' w' → R F' w' v n m x → K (a.put o.dst x) w') : o.wp E.P a w K Qx := by
  obtain ⟨hhas, hm⟩ := hm
  obtain ⟨ys, h1, h2⟩ := exec_call (P := E.P) ho hcal hρ hc hhas
  unfold Oper.wp
  rw [h2]
  simp only [Oper.upon]
  refine (hm F w ys hfd hgl ((R_clean out hcl n 0 m _).2 _ h1)).mono fun e w' he => ?_
  obtain ⟨x, F', rfl, hl, hR⟩ := he
  exact hK v x w' F' hq hl ((R_clean v hcv 0 n _ m).1 _ hR)

theorem evQ_wp {E : Env} (hE : E.Ok) {o : Oper} {T : Tree V} {Q : V → Prop} {K : Act → World → Prop} {Qx : Exit → Act → World → Prop}
    (hr : HR base m F h n w) (hρ : ∀ x, R F w (ρ x) n m (a.eval x)) (hT : evQ E ρ h o.op = some T) (hq : T.holds E.P Q)
    (hK : ∀ v x w' F', Q v → Later F w F' w' → R F' w' v n m x → K (a.put o.dst x) w') : o.wp E.P a w K Qx := by
  cases ho : o.op <;> rw [ho] at hT <;> simp only [evQ] at hT <;> try (cases hT; done)
  case move x => injection hT with hT; subst hT; exact wp_of_val (sem := pure (a.eval x)) (by simp only [execOp, ho]; rfl) (Val.leaf rfl (hρ x)) hq hK
  case assign x => injection hT with hT; subst hT; exact wp_of_val (sem := pure (a.eval x)) (by simp only [execOp, ho]; rfl) (Val.leaf rfl (hρ x)) hq hK
  case pick c x y =>
    injection hT with hT; subst hT
    exact wp_of_val (sem := do pure (if ← asBool (a.eval c) then a.eval x else a.eval y)) (by simp only [execOp, ho, bind_assoc, pure_bind]) (evPick_val (hρ c) (hρ x) (hρ y)) hq hK
  case build t parts =>
    injection hT with hT; subst hT
    refine wp_of_val (sem := Instr.build t (parts.map fun p => (p.1, a.eval p.2))) (by simp only [execOp, ho]) (evBuild_val ?_) hq hK
    simpa using Parts_operands (a := a) hρ parts.toList
  case buildSlice t len parts => injection hT with hT; subst hT; exact wp_buildSlice ho hρ hq hr.fdom hK
  case load t x => injection hT with hT; subst hT; exact wp_of_val (by simp only [execOp, ho]) (evLoad_val hr (hρ x)) hq hK
  case nilCheck x =>
    injection hT with hT; subst hT
    obtain ⟨h1, h2, h3, h4, h5⟩ := evNilCheck_val (hρ x) Q hq
    refine wp_of_val (sem := pure (a.eval x)) (T := .leaf (ρ x)) ?_ (Val.leaf rfl (hρ x)) h1 hK
    simp only [execOp, ho]
    rfl
  case binOp op t x y yt => injection hT with hT; subst hT; exact wp_of_val (sem := do eqGuard op t x y (a.eval x) (a.eval y); binOp op t (a.eval x) (a.eval y)) (by simp only [execOp, ho]) (evBin_val (hρ x) (hρ y)) hq hK
  case unOp op t x => injection hT with hT; subst hT; exact wp_of_val (by simp only [execOp, ho]) (evUn_val (hρ x)) hq hK
  case convert src dst x => injection hT with hT; subst hT; exact wp_of_val (by simp only [execOp, ho]) (evConv_val hr (hρ x)) hq hK
  case makeFunc f first cap =>
    injection hT with hT; subst hT
    refine wp_of_val (sem := Instr.makeFunc f (first.map a.eval) (cap.map a.eval)) (by simp only [execOp, ho]) (Val.leaf rfl ?_) hq hK
    simp only [R]
    refine ⟨_, _, rfl, ?_, ?_⟩
    · simpa using RL_operands (a := a) hρ first.toList
    · simpa using RL_operands (a := a) hρ cap.toList
  case slice t x lo hi mx =>
    injection hT with hT; subst hT
    exact wp_of_val (by simp only [execOp, ho]) (evSlice_val hr (hρ x) (optV hρ).1 (optV hρ).2 (optV hρ).1 (optV hρ).2 (optV hρ).2) hq hK
  case fieldAddr s x f => injection hT with hT; subst hT; exact wp_of_val (by simp only [execOp, ho]) (evFieldAddr_val (hρ x)) hq hK
  case field t x f => injection hT with hT; subst hT; exact wp_of_val (by simp only [execOp, ho]) (evField_val (hρ x)) hq hK
  case indexAddr t x ix => injection hT with hT; subst hT; exact wp_of_val (by simp only [execOp, ho]) (evIndexAddr_val (hρ x) (hρ ix)) hq hK
  case index t x ix => injection hT with hT; subst hT; exact wp_of_val (by simp only [execOp, ho]) (evIndex_val (hρ x) (hρ ix)) hq hK
  case extract x i => injection hT with hT; subst hT; exact wp_of_val (by simp only [execOp, ho]) (evExtract_val (hρ x)) hq hK
  case call c =>
    cases hcal : c.callee with
    | builtin b => rw [hcal] at hT; exact wp_builtin ho hcal hρ hT hq hK
    | invoke r nm => rw [hcal] at hT; cases hT
    | value f =>
      rw [hcal] at hT
      dsimp only at hT
      cases hc : callee (ρ f) (.ofList (c.args.toList.map ρ)) with
      | none => rw [hc] at hT; cases hT
      | some r =>
        obtain ⟨g, args⟩ := r
        rw [hc] at hT
        dsimp only at hT
        cases hkn : args.known
        case true => rw [hkn] at hT; cases hT
        rw [hkn] at hT
        simp only [cond_false] at hT
        cases hg : E.Γ g args with
        | none => rw [hg] at hT; cases hT
        | some ans =>
          rw [hg] at hT
          cases ans with
          | sure v =>
            dsimp only at hT
            cases h1 : args.clean
            · rw [h1] at hT; cases hT
            · cases h2 : v.clean
              · rw [h1, h2] at hT; cases hT
              · rw [h1, h2] at hT
                injection hT with hT; subst hT
                exact wp_meets ho hcal hρ hc (hE.sure _ _ _ hg) h1 h2 hr.fdom hr.gl hq hK
          | where_ p v =>
            dsimp only at hT
            cases h1 : args.clean
            · rw [h1] at hT; cases hT
            · cases h2 : v.clean
              · rw [h1, h2] at hT; cases hT
              · rw [h1, h2] at hT
                injection hT with hT; subst hT
                exact wp_meets ho hcal hρ hc (hE.where_ _ _ _ _ hg hq.1) h1 h2 hr.fdom hr.gl hq.2 hK

/-! ### Operations with an effect -/
/-- A new block is laid, under a name that stands for none. -/
theorem HR.lay (hr : HR base m F h n w) {h' : Nat → Blk} {nm n' : Nat} {cs : V} {xs : Array Value} (el : TypeId) (hrow : RL F w cs n m xs.toList) (hnm : m nm = none) (hn : n ≤ n') (hlt : nm < n')
    (hnew : ∀ b, n ≤ b → b < n' → b = nm) (hh : ∀ b, h' b = if b = nm then .var cs else h b) :
    HR base (fun b => if b = nm then some w.heap.size else m b) F h' n' (w.alloc (.cells xs el)) ∧
      Ext base m F n w (fun b => if b = nm then some w.heap.size else m b) F n' (w.alloc (.cells xs el)) := by
  have keep : ∀ B, B < w.heap.size → (w.alloc (.cells xs el)).heap[B]? = w.heap[B]? := fun B hB => heap_alloc_old w _ B hB
  have hext : Ext base m F n w (fun b => if b = nm then some w.heap.size else m b) F n' (w.alloc (.cells xs el)) :=
    ⟨fun _ h => h, fun _ h => .inl h, fun B hB => keep B (hB.elim (fun h => Nat.lt_of_lt_of_le h hr.low) (hr.fdom B)), by simp, Sizes.of_keep keep, hn,
      fun b hb B hB => by
        rw [if_neg (fun e => by rw [e, hnm] at hB; cases hB)]
        exact hB, ⟨rfl, rfl, rfl⟩⟩
  refine ⟨⟨Nat.le_trans hr.low (by simp), fun B hB => by have := hr.fdom B hB; simp; omega, fun b hb => ?_, fun b B hB => ?_, fun b hb => ?_, hr.gl.mono hext.sz (fun _ h => h) (fun B hB => keep B (hr.fdom B hB)), fun b B hB => ?_, fun b b' B h1 h2 hne => ?_⟩, hext⟩
  · rw [hh b]
    by_cases e : b = nm
    · subst e
      rw [if_pos rfl, if_pos rfl]
      exact ⟨_, xs, el, xs.toList, [], rfl, heap_alloc_new w _, by simp, hext.row hrow⟩
    · rw [if_neg e, if_neg e]
      have hbn : b < n := by
        rcases Nat.lt_or_ge b n with h1 | h1
        · exact h1
        · exact absurd (hnew b h1 hb) e
      exact RB_ext hext (fun B hB => keep B (hr.dom b B hB)) (hr.blk b hbn)
  · by_cases e : b = nm
    · rw [if_pos e] at hB; injection hB with hB; subst hB; simp
    · rw [if_neg e] at hB; have := hr.dom b B hB; simp; omega
  · rw [if_neg (by omega)]
    exact hr.new b (by omega)
  · by_cases e : b = nm
    · rw [if_pos e] at hB; injection hB with hB; subst hB
      exact ⟨hr.low, fun hF => absurd (hr.fdom _ hF) (Nat.lt_irrefl _)⟩
    · rw [if_neg e] at hB; exact hr.own b B hB
  · by_cases e1 : b = nm <;> by_cases e2 : b' = nm
    · exact absurd (e1.trans e2.symm) hne
    · rw [if_pos e1] at h1; rw [if_neg e2] at h2
      injection h1 with h1; subst h1
      exact absurd (hr.blockLt h2) (Nat.lt_irrefl _)
    · rw [if_neg e1] at h1; rw [if_pos e2] at h2
      injection h2 with h2; subst h2
      exact absurd (hr.blockLt h1) (Nat.lt_irrefl _)
    · rw [if_neg e1] at h1; rw [if_neg e2] at h2
      rw [hh b, hh b', if_neg e1, if_neg e2]
      exact hr.inj b b' B h1 h2 hne
theorem HR.push (hr : HR base m F h n w) {h' : Nat → Blk} {cs : V} {xs : Array Value} (el : TypeId) (hrow : RL F w cs n m xs.toList) (hh : ∀ b, h' b = if b = n then .var cs else h b) :
    HR base (fun b => if b = n then some w.heap.size else m b) F h' (n + 1) (w.alloc (.cells xs el)) ∧
      Ext base m F n w (fun b => if b = n then some w.heap.size else m b) F (n + 1) (w.alloc (.cells xs el)) :=
  hr.lay el hrow (hr.new n (Nat.le_refl _)) (by omega) (by omega) (fun b h1 h2 => by omega) hh
end
end Go.Fw
