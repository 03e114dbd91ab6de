/- Each operation of the evaluator in the model's own rule for an operation. -/
import Derived.Test.YtkkojdcchnailaaGreatDoorQGwI
namespace Go.Fw

section
variable {base : Nat} {m : Nat → Option Nat} {F : Nat → Prop} {h : Nat → Blk} {n : Nat} {w : World} {ρ : Operand → V} {a : Act}

theorem optV {lo : Option Operand} (hρ : ∀ x, R F w (ρ x) n m (a.eval x)) :
    (∀ b, lo.map ρ = some b → ∃ x, lo.map a.eval = some x ∧ R F w b n m x) ∧ (lo.map ρ = none → lo.map a.eval = none) := by
  cases lo with
  | none => exact ⟨(fun b hb => by cases hb), fun _ => rfl⟩
  | some x => exact ⟨(fun b hb => by simp only [Option.map_some, Option.some.injEq] at hb; subst hb; exact ⟨_, rfl, hρ x⟩), fun hb => by cases hb⟩

theorem exec_builtin {P : Program} {o : Oper} {c : Call} {b : Builtin} {sem : Sem Value} (ho : o.op = .call c) (hcal : c.callee = .builtin b)
    (hb : ∀ consts ty, builtin b c.argTypes ty consts (c.args.map a.eval) = (do pure (.value (← sem)))) (w : World) :
    (execOp a.eval o).run P w = ((sem.run P w).andThen fun x w => .ok (.value x) w) := by
  simp only [execOp, ho, resolve, hcal, pure_bind, invoke, hb, Sem.run_bind, Sem.run_pure]
theorem wp_of_run {E : Env} {o : Oper} {sem : Sem Value} {T : Tree V} {Q : V → Prop} {K : Act → World → Prop} {Qx : Exit → Act → World → Prop}
    (hx : (execOp a.eval o).run E.P w = ((sem.run E.P w).andThen fun x w => .ok (.value x) w)) (hv : Val E.P F w n m T sem) (hq : T.holds E.P Q)
    (hK : ∀ v x w' F', Q v → Later F w F' w' → R F' w' v n m x → K (a.put o.dst x) w') : o.wp E.P a w K Qx := by
  obtain ⟨v, x, h1, h2, h3⟩ := hv Q hq
  unfold Oper.wp
  rw [hx]
  simp only [h2, Result.andThen_ok, Oper.upon]
  exact hK v x w F h1 (Later.refl F w) h3

theorem wp_builtin {E : Env} {o : Oper} {c : Call} {b : Builtin} {T : Tree V} {Q : V → Prop} {K : Act → World → Prop} {Qx : Exit → Act → World → Prop}
    (ho : o.op = .call c) (hcal : c.callee = .builtin b) (hρ : ∀ x, R F w (ρ x) n m (a.eval x)) (hT : evBuiltin E.P b c.argTypes.toList (.ofList (c.args.toList.map ρ)) = some T) (hq : T.holds E.P Q)
    (hK : ∀ v x w' F', Q v → Later F w F' w' → R F' w' v n m x → K (a.put o.dst x) w') : o.wp E.P a w K Qx := by
  have hargs := RL_operands (a := a) hρ c.args.toList
  cases b <;> try (cases hT; done)
  · simp only [evBuiltin, Option.some.injEq] at hT
    subst hT
    cases hts : c.argTypes.toList with
    | nil => rw [hts] at hq; exact hq.elim
    | cons t ts =>
      rw [hts] at hq
      cases hal : c.args.toList with
      | nil => rw [hal] at hq; exact hq.elim
      | cons x xs =>
        rw [hal] at hq
        simp only [List.map_cons, V.ofList] at hq
        have h0 : c.argTypes[0]? = some t := by rw [← Array.getElem?_toList, hts]; rfl
        have h1 : (c.args.map a.eval)[0]? = some (a.eval x) := by rw [← Array.getElem?_toList, Array.toList_map, hal]; rfl
        exact wp_of_run (exec_builtin (sem := Builtin.cap_ c.argTypes o.type (c.args.map a.eval)) ho hcal (fun consts ty => by
            simp only [builtin, Builtin.cap_]) w) (evCap_val h0 h1 (hρ x)) hq hK
  · simp only [evBuiltin, Option.some.injEq] at hT
    subst hT
    cases hts : c.argTypes.toList with
    | nil => rw [hts] at hq; exact hq.elim
    | cons t ts =>
      rw [hts] at hq
      cases hal : c.args.toList with
      | nil => rw [hal] at hq; exact hq.elim
      | cons x xs =>
        rw [hal] at hq
        simp only [List.map_cons, V.ofList] at hq
        have h0 : c.argTypes[0]? = some t := by rw [← Array.getElem?_toList, hts]; rfl
        have h1 : (c.args.map a.eval)[0]? = some (a.eval x) := by rw [← Array.getElem?_toList, Array.toList_map, hal]; rfl
        exact wp_of_run (exec_builtin (sem := Builtin.len_ c.argTypes o.type (c.args.map a.eval)) ho hcal (fun consts ty => by
            simp only [builtin, Builtin.len_]) w) (evLen_val h0 h1 (hρ x)) hq hK
  · simp only [evBuiltin, Option.some.injEq] at hT
    subst hT
    cases hal : c.args.toList with
    | nil => rw [hal] at hq; exact hq.elim
    | cons x xs =>
      rw [hal] at hq hargs
      simp only [List.map_cons, V.ofList, RL] at hq hargs
      obtain ⟨y, r, e, hy, hr⟩ := hargs
      injection e with e1 e2
      subst e1; subst e2
      refine wp_of_run (exec_builtin (sem := Builtin.max_ c.argTypes o.type (c.args.map a.eval)) ho hcal (fun consts ty => rfl) w) ?_ hq hK
      have := evMinMax_val (P := E.P) (less := false) _ _ hr _ _ hy
      intro Q' hq'
      obtain ⟨v, z, k1, k2, k3⟩ := this Q' hq'
      refine ⟨v, z, k1, ?_, k3⟩
      simp only [Builtin.max_, Array.toList_map, hal, List.map_cons]
      exact k2
  · simp only [evBuiltin, Option.some.injEq] at hT
    subst hT
    cases hal : c.args.toList with
    | nil => rw [hal] at hq; exact hq.elim
    | cons x xs =>
      rw [hal] at hq hargs
      simp only [List.map_cons, V.ofList, RL] at hq hargs
      obtain ⟨y, r, e, hy, hr⟩ := hargs
      injection e with e1 e2
      subst e1; subst e2
      refine wp_of_run (exec_builtin (sem := Builtin.min_ c.argTypes o.type (c.args.map a.eval)) ho hcal (fun consts ty => rfl) w) ?_ hq hK
      have := evMinMax_val (P := E.P) (less := true) _ _ hr _ _ hy
      intro Q' hq'
      obtain ⟨v, z, k1, k2, k3⟩ := this Q' hq'
      refine ⟨v, z, k1, ?_, k3⟩
      simp only [Builtin.min_, Array.toList_map, hal, List.map_cons]
      exact k2

theorem wp_meets {E : Env} {o : Oper} {c : Call} {f : Operand} {g : FuncId} {out v : V} {Q : V → Prop} {K : Act → World → Prop} {Qx : Exit → Act → World → Prop}
    (ho : o.op = .call c) (hcal : c.callee = .value f) (hρ : ∀ x, R F w (ρ x) n m (a.eval x)) (hc : callee (ρ f) (.ofList (c.args.toList.map ρ)) = some (g, out))
    (hm : Meets E.P g out v) (hcl : out.clean = true) (hcv : v.clean = true) (hfd : ∀ B, F B → B < w.heap.size) (hgl : GOk F w) (hq : Q v)
    (hK : ∀ v x w' F', Q v → Later F w F' w' → R F' w' v n m x → K (a.put o.dst x) w') : o.wp E.P a w K Qx := by
  obtain ⟨hhas, hm⟩ := hm
  obtain ⟨ys, h1, h2⟩ := exec_call (P := E.P) ho hcal hρ hc hhas
  unfold Oper.wp
  rw [h2]
  simp only [Oper.upon]
  refine (hm F w ys hfd hgl ((R_clean out hcl n 0 m _).2 _ h1)).mono fun e w' he => ?_
  obtain ⟨x, F', rfl, hl, hR⟩ := he
  exact hK v x w' F' hq hl ((R_clean v hcv 0 n _ m).1 _ hR)

/-- A value without rows stands for itself, whatever stays. -/
theorem R_rowless {F F' : Nat → Prop} {w : World} : ∀ (v : V), v.clean = true → v.rowless = true → ∀ (n n' : Nat) (m m' : Nat → Option Nat),
    (∀ x, R F w v n m x → R F' w v n' m' x) ∧ (∀ xs, RL F w v n m xs → RL F' w v n' m' xs) := by
  intro v
  induction v with
  | cons h t ih1 ih2 =>
    intro hc hl n n' m m'
    simp only [V.clean, V.rowless, Bool.and_eq_true] at hc hl
    refine ⟨fun x h => by simp only [R] at h, fun xs h => ?_⟩
    simp only [RL] at h ⊢
    obtain ⟨x, r, rfl, h1, h2⟩ := h
    exact ⟨x, r, rfl, (ih1 hc.1 hl.1 n n' m m').1 _ h1, (ih2 hc.2 hl.2 n n' m m').2 _ h2⟩
  | agg cs ih =>
    intro hc hl n n' m m'
    refine ⟨fun x h => ?_, fun xs h => by simp only [RL] at h⟩
    simp only [R] at h ⊢
    obtain ⟨xs, rfl, h1⟩ := h
    exact ⟨xs, rfl, (ih hc hl n n' m m').2 _ h1⟩
  | tup cs ih =>
    intro hc hl n n' m m'
    refine ⟨fun x h => ?_, fun xs h => by simp only [RL] at h⟩
    simp only [R] at h ⊢
    obtain ⟨xs, rfl, h1⟩ := h
    exact ⟨xs, rfl, (ih hc hl n n' m m').2 _ h1⟩
  | fn f a b ih1 ih2 =>
    intro hc hl n n' m m'
    simp only [V.clean, V.rowless, Bool.and_eq_true] at hc hl
    refine ⟨fun x h => ?_, fun xs h => by simp only [RL] at h⟩
    simp only [R] at h ⊢
    obtain ⟨xs, ys, rfl, h1, h2⟩ := h
    exact ⟨xs, ys, rfl, (ih1 hc.1 hl.1 n n' m m').2 _ h1, (ih2 hc.2 hl.2 n n' m m').2 _ h2⟩
  | ptr st b es i o => intro hc; cases hc
  | osl st b es i k => intro hc; cases hc
  | osp st b es i k c => intro hc; cases hc
  | yld b => intro hc; cases hc
  | mp b => intro hc; cases hc
  | rptr st es k get i o => intro _ hl; cases hl
  | rsl st es k get => intro _ hl; cases hl
  | rmp st kd has get => intro _ hl; cases hl
  | nil => intro _ _ n n' m m'; exact ⟨fun x h => by simp only [R] at h, fun xs h => by simp only [RL] at h ⊢; exact h⟩
  | junk => intro _ _ n n' m m'; exact ⟨fun x h => by simp only [R], fun xs h => by simp only [RL] at h⟩
  | _ => intro _ _ n n' m m'; exact ⟨fun x h => by simp only [R] at h ⊢; exact h, fun xs h => by simp only [RL] at h⟩
theorem freezeW_R (hr : HR base m F h n w) {x : V} {X : Value} (hx : R F w x n m X) (hn : ∀ p, frNeedW h x = some p → p) : R (fun B => F B ∨ ∃ b, m b = some B) w (freezeW h x) n m X := by
  have base' : R (fun B => F B ∨ ∃ b, m b = some B) w x n m X := (R_mono (Sizes.refl w) (fun B h => .inl h) (fun _ _ => rfl) x n n m m (Nat.le_refl _) (fun _ _ _ h => h)).1 X hx
  unfold freezeW
  split
  · rename_i st b es i k
    split
    · rename_i cs hb
      cases hst : st
      · exact base'
      cases hc : cs.clean
      · rw [hst] at base'; exact base'
      cases hle : Nat.ble ((i + k) * es) cs.len
      · rw [hst] at base'; exact base'
      simp only [Bool.and_self, cond_true]
      have hle' := Nat.le_of_ble_eq_true hle
      rw [R_osl] at hx
      obtain ⟨hbn, a, cap, rfl, hk, hrow⟩ := hx
      have hblk := hr.blk b hbn
      rw [hb] at hblk
      obtain ⟨B', xs, el', ys, zs, hm, hcell, hsp, hrl⟩ := hblk
      rw [R_rsl]
      refine ⟨a, cap, rfl, hk, ?_⟩
      rcases hrow with h0 | ⟨B, c, el, fr, rfl, hB, hcc, hz⟩
      · exact .inl (by omega)
      right
      obtain rfl : B = B' := by rw [hB] at hm; injection hm
      refine ⟨B, i * es, rfl, .inr ⟨b, hB⟩, xs, el', (0, 0), hcell, fun j hj => ?_⟩
      have hrl0 := (R_clean cs hc n 0 m (fun _ => none)).2 _ hrl
      have hlen := RL_len _ _ hrl
      rw [hlen] at hle'
      have hpl := prefix_len hsp
      have hjk : (i + j + 1) * es ≤ (i + k) * es := Nat.mul_le_mul_right es (by omega)
      rw [Nat.add_mul, Nat.one_mul] at hjk
      refine ⟨(ys.drop ((i + j) * es)).take es, ?_, ?_, fun q hq => ?_⟩
      · exact (R_mono (Sizes.refl w) (fun B h => .inl h) (fun _ _ => rfl) _ 0 0 _ _ (Nat.le_refl _) (fun _ _ _ h => h)).2 _ (RL_take _ _ (RL_drop _ _ hrl0 _) _)
      · simp; omega
      · rw [List.getElem?_take_of_lt hq, List.getElem?_drop, ← Nat.add_mul]
        exact prefix_get hsp (by omega)
    · rename_i es' K get hb
      cases he : Nat.beq es es'
      · exact base'
      simp only [cond_true]
      have hik : i + k ≤ K := by
        cases hs : (st && Nat.ble (i + k) K)
        · refine hn _ ?_
          simp only [frNeedW, hb, he, hs, cond_true, cond_false]
        · simp only [Bool.and_eq_true] at hs
          exact Nat.le_of_ble_eq_true hs.2
      obtain rfl := Nat.eq_of_beq_eq_true he
      rw [R_osl] at hx
      obtain ⟨hbn, a, cap, rfl, hk, hrow⟩ := hx
      rw [R_rsl]
      refine ⟨a, cap, rfl, hk, ?_⟩
      rcases hrow with h0 | ⟨B, c, el, fr, rfl, hB, hcc, hz⟩
      · exact .inl (by omega)
      have hblk := hr.blk b hbn
      rw [hb] at hblk
      rcases hblk with ⟨h0, _⟩ | ⟨B', c', el', hm, hcell, hz', hall⟩
      · exact .inl (by omega)
      right
      obtain rfl : B = B' := by rw [hB] at hm; injection hm
      refine ⟨B, i * es, rfl, .inr ⟨b, hB⟩, c', el', (0, 0), hcell, fun j hj => ?_⟩
      obtain ⟨xs, g1, g2, g3⟩ := hall (i + j) (by omega)
      refine ⟨xs, ?_, g2, fun q hq => ?_⟩
      · exact (R_mono (Sizes.refl w) (fun B h => .inl h) (fun _ _ => rfl) _ 0 0 _ _ (Nat.le_refl _) (fun _ _ _ h => h)).2 _ g1
      · rw [← Nat.add_mul]; exact g3 q hq
    · exact base'
  · exact base'
theorem freezeV_R (hr : HR base m F h n w) {x : V} {X : Value} (hx : R F w x n m X) (hn : ∀ p, frNeedV h x = some p → p) : R (fun B => F B ∨ ∃ b, m b = some B) w (freezeV h x) n m X := freezeW_R hr (R_plain1 hx) hn
theorem bothP_left {p q : Option Prop} (h : ∀ r, bothP p q = some r → r) : ∀ r, p = some r → r := by
  intro r hr; subst hr
  cases q with
  | none => exact h r rfl
  | some q => exact (h _ rfl).1
theorem bothP_right {p q : Option Prop} (h : ∀ r, bothP p q = some r → r) : ∀ r, q = some r → r := by
  intro r hr; subst hr
  cases p with
  | none => exact h r rfl
  | some p => exact (h _ rfl).2
theorem freeze_R (hr : HR base m F h n w) : ∀ (v : V), (∀ p, frNeed h v = some p → p) → (∀ x, R F w v n m x → R (fun B => F B ∨ ∃ b, m b = some B) w (freeze h v) n m x) ∧ (∀ xs, RL F w v n m xs → RL (fun B => F B ∨ ∃ b, m b = some B) w (freeze h v) n m xs) := by
  have keep : ∀ v, (∀ x, R F w v n m x → R (fun B => F B ∨ ∃ b, m b = some B) w v n m x) ∧ (∀ xs, RL F w v n m xs → RL (fun B => F B ∨ ∃ b, m b = some B) w v n m xs) :=
    fun v => R_mono (Sizes.refl w) (fun B h => .inl h) (fun _ _ => rfl) v n n m m (Nat.le_refl _) (fun _ _ _ h => h)
  intro v
  induction v with
  | cons a t ih1 ih2 =>
    intro hn
    refine ⟨fun x hx => by simp only [R] at hx, fun xs hx => ?_⟩
    simp only [RL] at hx
    obtain ⟨x, r, rfl, h1, h2⟩ := hx
    simp only [freeze, RL]
    exact ⟨x, r, rfl, (ih1 (bothP_left hn)).1 _ h1, (ih2 (bothP_right hn)).2 _ h2⟩
  | agg cs ih =>
    intro hn
    refine ⟨fun x hx => ?_, fun xs hx => by simp only [RL] at hx⟩
    simp only [R] at hx
    obtain ⟨xs, rfl, h1⟩ := hx
    simp only [freeze, R]
    exact ⟨xs, rfl, (ih hn).2 _ h1⟩
  | osl st b es i k => exact fun hn => ⟨fun x hx => freezeV_R hr hx hn, fun xs hx => by simp only [RL] at hx⟩
  | osp st b es i k c => exact fun hn => ⟨fun x hx => freezeV_R hr hx hn, fun xs hx => by simp only [RL] at hx⟩
  | _ => intro hn; exact keep _
theorem R_scrub {F : Nat → Prop} {w : World} {n : Nat} {m : Nat → Option Nat} : ∀ (v : V), v.scrub.clean = true ∧ v.scrub.len = v.len ∧ (∀ x, R F w v n m x → R F w v.scrub n m x) ∧ (∀ xs, RL F w v n m xs → RL F w v.scrub n m xs) := by
  intro v
  induction v with
  | cons a t ih1 ih2 =>
    refine ⟨by simp only [V.scrub, V.clean, ih1.1, ih2.1, Bool.and_self], by simp only [V.scrub, V.len, ih2.2.1], fun x hx => by simp only [R] at hx, fun xs hx => ?_⟩
    simp only [V.scrub, RL] at hx ⊢
    obtain ⟨x, r, rfl, h1, h2⟩ := hx
    exact ⟨x, r, rfl, ih1.2.2.1 _ h1, ih2.2.2.2 _ h2⟩
  | agg cs ih =>
    refine ⟨by simp only [V.scrub, V.clean, ih.1], rfl, fun x hx => ?_, fun xs hx => by simp only [RL] at hx⟩
    simp only [V.scrub, R] at hx ⊢
    obtain ⟨xs, rfl, h1⟩ := hx
    exact ⟨xs, rfl, ih.2.2.2 _ h1⟩
  | tup cs ih =>
    refine ⟨by simp only [V.scrub, V.clean, ih.1], rfl, fun x hx => ?_, fun xs hx => by simp only [RL] at hx⟩
    simp only [V.scrub, R] at hx ⊢
    obtain ⟨xs, rfl, h1⟩ := hx
    exact ⟨xs, rfl, ih.2.2.2 _ h1⟩
  | fn f a b ih1 ih2 =>
    refine ⟨by simp only [V.scrub, V.clean, ih1.1, ih2.1, Bool.and_self], rfl, fun x hx => ?_, fun xs hx => by simp only [RL] at hx⟩
    simp only [V.scrub, R] at hx ⊢
    obtain ⟨xs, ys, rfl, h1, h2⟩ := hx
    exact ⟨xs, ys, rfl, ih1.2.2.2 _ h1, ih2.2.2.2 _ h2⟩
  | ptr st b es i o => exact ⟨rfl, rfl, fun x hx => by simp only [V.scrub, R], fun xs hx => by simp only [RL] at hx⟩
  | osl st b es i k => exact ⟨rfl, rfl, fun x hx => by simp only [V.scrub, R], fun xs hx => by simp only [RL] at hx⟩
  | osp st b es i k c => exact ⟨rfl, rfl, fun x hx => by simp only [V.scrub, R], fun xs hx => by simp only [RL] at hx⟩
  | yld b => exact ⟨rfl, rfl, fun x hx => by simp only [V.scrub, R], fun xs hx => by simp only [RL] at hx⟩
  | mp b => exact ⟨rfl, rfl, fun x hx => by simp only [V.scrub, R], fun xs hx => by simp only [RL] at hx⟩
  | _ => exact ⟨rfl, rfl, fun x hx => hx, fun xs hx => hx⟩
/-- A row's cells, as they stay. -/
theorem scrub_RL {F F' : Nat → Prop} (hF : ∀ B, F B → F' B) {v : V} {xs : List Value} (h : RL F w v n m xs) : RL F' w v.scrub 0 (fun _ => none) xs :=
  (R_mono (Sizes.refl w) hF (fun _ _ => rfl) _ 0 0 _ _ (Nat.le_refl _) (fun _ _ _ h => h)).2 _ ((R_clean _ (R_scrub (F := F) (w := w) (n := n) (m := m) v).1 n 0 m _).2 _ ((R_scrub v).2.2.2 _ h))
theorem fzLeafW_R (hr : HR base m F h n w) {g : V → V} (hg : ∀ v xs, RL F w v n m xs → RL (fun B => F B ∨ ∃ b, m b = some B) w (g v) n m xs) {x : V} {X : Value} (hx : R F w x n m X) :
    R (fun B => F B ∨ ∃ b, m b = some B) w (fzLeafW h g x) n m X := by
  have base' : R (fun B => F B ∨ ∃ b, m b = some B) w x n m X := (R_mono (Sizes.refl w) (fun B h => .inl h) (fun _ _ => rfl) x n n m m (Nat.le_refl _) (fun _ _ _ h => h)).1 X hx
  unfold fzLeafW
  split
  · rename_i st b es i o
    split
    · rename_i cs hb
      cases st
      · exact base'
      simp only [cond_true]
      rw [R_ptr] at hx
      obtain ⟨hbn, B, rfl, hB⟩ := hx
      have hblk := hr.blk b hbn
      rw [hb] at hblk
      obtain ⟨B', xs, el', ys, zs, hm, hcell, hsp, hrl⟩ := hblk
      obtain rfl : B = B' := by rw [hB] at hm; injection hm
      rw [R_rptr]
      refine ⟨by omega, B, 0, by simp, .inr ⟨b, hB⟩, xs, el', (0, 0), hcell, fun j hj => ?_⟩
      obtain rfl : j = 0 := by omega
      refine ⟨ys, scrub_RL (fun _ h => h) (hg _ _ hrl), (RL_len _ _ hrl).symm, fun q hq => ?_⟩
      rw [RL_len _ _ hrl] at hq
      simp only [Nat.zero_mul, Nat.zero_add]
      exact prefix_get hsp hq
    · rename_i es' K get hb
      cases hc : (Nat.beq es es' && (st && Nat.blt i K))
      · exact base'
      simp only [Bool.and_eq_true] at hc
      obtain ⟨he, -, hlt⟩ := hc
      obtain rfl := Nat.eq_of_beq_eq_true he
      have hlt' : i < K := by simpa [Nat.blt_eq] using hlt
      simp only [cond_true]
      rw [R_ptr] at hx
      obtain ⟨hbn, B, rfl, hB⟩ := hx
      have hblk := hr.blk b hbn
      rw [hb] at hblk
      rcases hblk with ⟨h0, _⟩ | ⟨B', c', el', hm, hcell, hz', hall⟩
      · omega
      obtain rfl : B = B' := by rw [hB] at hm; injection hm
      rw [R_rptr]
      refine ⟨hlt', B, 0, by simp, .inr ⟨b, hB⟩, c', el', (0, 0), hcell, fun j hj => ?_⟩
      obtain ⟨xs, g1, g2, g3⟩ := hall j hj
      refine ⟨xs, ?_, g2, fun q hq => ?_⟩
      · exact (R_mono (Sizes.refl w) (fun B h => .inl h) (fun _ _ => rfl) _ 0 0 _ _ (Nat.le_refl _) (fun _ _ _ h => h)).2 _ g1
      · rw [Nat.zero_add]; exact g3 q hq
    · exact base'
  · rename_i st b es i k
    split
    · rename_i cs hb
      cases hc : (st && Nat.ble ((i + k) * es) cs.len)
      · exact base'
      simp only [Bool.and_eq_true] at hc
      have hle' := Nat.le_of_ble_eq_true hc.2
      simp only [cond_true]
      rw [R_osl] at hx
      obtain ⟨hbn, a, cap, rfl, hk, hrow⟩ := hx
      have hblk := hr.blk b hbn
      rw [hb] at hblk
      obtain ⟨B', xs, el', ys, zs, hm, hcell, hsp, hrl⟩ := hblk
      rw [R_rsl]
      refine ⟨a, cap, rfl, hk, ?_⟩
      rcases hrow with h0 | ⟨B, c, el, fr, rfl, hB, hcc, hz⟩
      · exact .inl (by omega)
      right
      obtain rfl : B = B' := by rw [hB] at hm; injection hm
      refine ⟨B, i * es, rfl, .inr ⟨b, hB⟩, xs, el', (0, 0), hcell, fun j hj => ?_⟩
      have hlen := RL_len _ _ hrl
      rw [hlen] at hle'
      have hpl := prefix_len hsp
      have hjk : (i + j + 1) * es ≤ (i + k) * es := Nat.mul_le_mul_right es (by omega)
      rw [Nat.add_mul, Nat.one_mul] at hjk
      refine ⟨(ys.drop ((i + j) * es)).take es, RL_take _ _ (RL_drop _ _ (scrub_RL (fun _ h => h) (hg _ _ hrl)) _) _, ?_, fun q hq => ?_⟩
      · simp; omega
      · rw [List.getElem?_take_of_lt hq, List.getElem?_drop, ← Nat.add_mul]
        exact prefix_get hsp (by omega)
    · rename_i es' K get hb
      cases hc : (Nat.beq es es' && (st && Nat.ble (i + k) K))
      · exact base'
      simp only [Bool.and_eq_true] at hc
      obtain ⟨he, -, hlt⟩ := hc
      have hik := Nat.le_of_ble_eq_true hlt
      obtain rfl := Nat.eq_of_beq_eq_true he
      simp only [cond_true]
      rw [R_osl] at hx
      obtain ⟨hbn, a, cap, rfl, hk, hrow⟩ := hx
      rw [R_rsl]
      refine ⟨a, cap, rfl, hk, ?_⟩
      rcases hrow with h0 | ⟨B, c, el, fr, rfl, hB, hcc, hz⟩
      · exact .inl (by omega)
      have hblk := hr.blk b hbn
      rw [hb] at hblk
      rcases hblk with ⟨h0, _⟩ | ⟨B', c', el', hm, hcell, hz', hall⟩
      · exact .inl (by omega)
      right
      obtain rfl : B = B' := by rw [hB] at hm; injection hm
      refine ⟨B, i * es, rfl, .inr ⟨b, hB⟩, c', el', (0, 0), hcell, fun j hj => ?_⟩
      obtain ⟨xs, g1, g2, g3⟩ := hall (i + j) (by omega)
      refine ⟨xs, ?_, g2, fun q hq => ?_⟩
      · exact (R_mono (Sizes.refl w) (fun B h => .inl h) (fun _ _ => rfl) _ 0 0 _ _ (Nat.le_refl _) (fun _ _ _ h => h)).2 _ g1
      · rw [← Nat.add_mul]; exact g3 q hq
    · exact base'
  · rename_i b
    split
    · rename_i kd st f ks hb
      simp only [R] at hx
      obtain ⟨hbn, B, rfl, hB⟩ := hx
      have hblk := hr.blk b hbn
      rw [hb] at hblk
      obtain ⟨B', es, clock, e, hcell, hE, hf⟩ := hblk
      obtain rfl : B = B' := by rw [hB] at e; injection e
      simp only [R]
      refine ⟨B, rfl, .inr ⟨b, hB⟩, es, clock, hcell, hE.ent, fun k hk => ⟨(hf k hk).1, fun v hv => ?_⟩⟩
      exact (R_mono (Sizes.refl w) (fun B h => .inl h) (fun _ _ => rfl) _ 0 0 _ _ (Nat.le_refl _) (fun _ _ _ h => h)).1 _ ((R_clean _ (R_scrub (F := F) (w := w) (n := n) (m := m) (f k).2).1 n 0 m _).1 _ ((R_scrub (f k).2).2.2.1 _ ((hf k hk).2 v hv)))
    · exact base'
  · exact base'
theorem fzLeaf_R (hr : HR base m F h n w) {g : V → V} (hg : ∀ v xs, RL F w v n m xs → RL (fun B => F B ∨ ∃ b, m b = some B) w (g v) n m xs) {x : V} {X : Value} (hx : R F w x n m X) :
    R (fun B => F B ∨ ∃ b, m b = some B) w (fzLeaf h g x) n m X := fzLeafW_R hr hg (R_plain1 hx)
theorem fz_R (hr : HR base m F h n w) : ∀ (k : Nat) (v : V), (∀ x, R F w v n m x → R (fun B => F B ∨ ∃ b, m b = some B) w (fz h k v) n m x) ∧ (∀ xs, RL F w v n m xs → RL (fun B => F B ∨ ∃ b, m b = some B) w (fz h k v) n m xs) := by
  intro k
  induction k with
  | zero => exact fun v => R_mono (Sizes.refl w) (fun B h => .inl h) (fun _ _ => rfl) v n n m m (Nat.le_refl _) (fun _ _ _ h => h)
  | succ k ihk =>
    intro v
    have leaf : ∀ v x, R F w v n m x → R (fun B => F B ∨ ∃ b, m b = some B) w (fzLeaf h (fz h k) v) n m x := fun v x hx => fzLeaf_R hr (fun v => (ihk v).2) hx
    show (∀ x, R F w v n m x → R (fun B => F B ∨ ∃ b, m b = some B) w (v.leaves (fzLeaf h (fz h k))) n m x) ∧ (∀ xs, RL F w v n m xs → RL (fun B => F B ∨ ∃ b, m b = some B) w (v.leaves (fzLeaf h (fz h k))) n m xs)
    generalize fz h k = g at leaf
    induction v with
    | cons a t ih1 ih2 =>
      refine ⟨fun x hx => by simp only [R] at hx, fun xs hx => ?_⟩
      simp only [V.leaves, RL] at hx ⊢
      obtain ⟨x, r, rfl, h1, h2⟩ := hx
      exact ⟨x, r, rfl, ih1.1 _ h1, ih2.2 _ h2⟩
    | agg cs ih =>
      refine ⟨fun x hx => ?_, fun xs hx => by simp only [RL] at hx⟩
      simp only [V.leaves, R] at hx ⊢
      obtain ⟨xs, rfl, h1⟩ := hx
      exact ⟨xs, rfl, ih.2 _ h1⟩
    | tup cs ih =>
      refine ⟨fun x hx => ?_, fun xs hx => by simp only [RL] at hx⟩
      simp only [V.leaves, R] at hx ⊢
      obtain ⟨xs, rfl, h1⟩ := hx
      exact ⟨xs, rfl, ih.2 _ h1⟩
    | fn f a b ih1 ih2 =>
      refine ⟨fun x hx => ?_, fun xs hx => by simp only [RL] at hx⟩
      simp only [V.leaves, R] at hx ⊢
      obtain ⟨xs, ys, rfl, h1, h2⟩ := hx
      exact ⟨xs, ys, rfl, ih1.2 _ h1, ih2.2 _ h2⟩
    | nil => exact ⟨fun x hx => by simp only [R] at hx, fun xs hx => by simp only [RL] at hx; subst hx; simp only [V.leaves, fzLeaf, V.plain1, fzLeafW, RL]⟩
    | _ => exact ⟨fun x hx => leaf _ x hx, fun xs hx => by simp only [RL] at hx⟩
theorem withNeed_holds {α : Type} {P : Program} {p : Option Prop} {T : Tree α} {Q : α → Prop} (h : (withNeed p T).holds P Q) : (∀ r, p = some r → r) ∧ T.holds P Q := by
  cases p with
  | none => exact ⟨fun r h => (by cases h), h⟩
  | some p => exact ⟨fun r h' => by injection h' with h'; subst h'; exact h.1, h.2⟩
theorem wp_frozen {E : Env} {o : Oper} {c : Call} {f : Operand} {g : FuncId} {out v : V} {Q : V → Prop} {K : Act → World → Prop} {Qx : Exit → Act → World → Prop}
    (ho : o.op = .call c) (hcal : c.callee = .value f) (hρ : ∀ x, R F w (ρ x) n m (a.eval x)) (hc : callee (ρ f) (.ofList (c.args.toList.map ρ)) = some (g, out))
    (hm : Meets E.P g (freeze h out) v) (hfn : ∀ p, frNeed h out = some p → p) (hcl : (freeze h out).clean = true) (hcv : v.clean = true) (hrl : v.rowless = true) (hr : HR base m F h n w) (hq : Q v)
    (hK : ∀ v x w' F', Q v → Later F w F' w' → R F' w' v n m x → K (a.put o.dst x) w') : o.wp E.P a w K Qx := by
  obtain ⟨hhas, hm⟩ := hm
  obtain ⟨ys, h1, h2⟩ := exec_call (P := E.P) ho hcal hρ hc hhas
  unfold Oper.wp
  rw [h2]
  simp only [Oper.upon]
  have hfd : ∀ B, (F B ∨ ∃ b, m b = some B) → B < w.heap.size := fun B hB => hB.elim (hr.fdom B) fun ⟨b, hb⟩ => hr.dom b B hb
  refine (hm (fun B => F B ∨ ∃ b, m b = some B) w ys hfd (hr.gl.mono (Sizes.refl w) (fun B h => .inl h) (fun _ _ => rfl)) ((R_clean _ hcl n 0 m _).2 _ ((freeze_R hr _ hfn).2 _ h1))).mono fun e w' he => ?_
  obtain ⟨x, F', rfl, hl, hR⟩ := he
  exact hK v x w' F hq ⟨fun _ h => h, fun _ h => .inl h, hl.keep, hl.size, fun h B hB => Nat.lt_of_lt_of_le (h B hB) hl.size, hl.calm⟩ ((R_rowless v hcv hrl 0 n _ m).1 _ hR)

/-! ### Maps -/
theorem mkSame_eq {a b : MK} (h : mkSame a b = true) : a = b := by
  cases a <;> cases b <;> first | (cases h; done) | rfl | (simp only [mkSame, decide_eq_true_eq] at h; rw [h])
theorem mkOf_run {P : Program} {kt : TypeId} {kd : MK} (h : mkOf P kt = some kd) : ∃ d, P.underlying kt = some d ∧ kd.of d = true := by
  unfold mkOf at h
  split at h
  · rename_i k hu; injection h with h; subst h; exact ⟨_, hu, by simp [MK.of]⟩
  · rename_i hu; injection h with h; subst h; exact ⟨_, hu, rfl⟩
  · cases h
theorem keyOf_run {kd : MK} {x : V} {X : Value} {sk : Bool} {key : Value} (h : keyOf kd x = some (sk, key)) (hx : R F w x n m X) : X = key ∧ kd.is key = true := by
  cases x <;> try (cases h; done)
  · rename_i st k q
    cases kd <;> try (cases h; done)
    rename_i k'
    simp only [keyOf] at h
    split at h
    · rename_i hk
      subst hk
      injection h with h; injection h with h1 h2; subst h2
      simp only [R] at hx
      exact ⟨hx, by simp [MK.is]⟩
    · cases h
  · rename_i st q
    cases kd <;> try (cases h; done)
    injection h with h; injection h with h1 h2; subst h2
    simp only [R] at hx
    exact ⟨hx, rfl⟩
theorem zeroV_run {P : Program} {t : TypeId} {z : V} (h : zeroV P t = some z) : ∃ zv, (zeroValue t).run P w = .ok zv w ∧ R F w z n m zv := by
  unfold zeroV at h
  cases hi : P.info? t with
  | none => rw [hi] at h; cases h
  | some i =>
    rw [hi] at h
    dsimp only at h
    cases hz : i.zero with
    | none => rw [hz] at h; cases h
    | some zv =>
      rw [hz] at h
      injection h with h; subst h
      exact ⟨zv, by simp only [zeroValue, typeInfo, Sem.run_bind, run_program, Result.andThen_ok, hi, hz, Sem.run_pure], R_const zv⟩
theorem foundV_R {st has : Bool} {v z : V} {o : Option Value} {zv : Value} (h1 : has = o.isSome) (h2 : ∀ x, o = some x → R F w v n m x) (hz : R F w z n m zv) : R F w (foundV st has v z) n m (o.getD zv) := by
  subst h1
  have key : R F w (bif o.isSome then v else z) n m (o.getD zv) := by
    cases o with
    | none => exact hz
    | some x => exact h2 x rfl
  cases st with
  | false => exact mergeOne_R key
  | true => cases o with
    | none => exact hz
    | some x => exact h2 x rfl
theorem withOk_R {ok st has : Bool} {v : V} {x : Value} (h : R F w v n m x) : R F w (withOk ok st has v) n m (if ok then .tuple #[x, .bool has] else x) := by
  cases ok with
  | false => exact h
  | true =>
    simp only [withOk, if_true, R, RL]
    exact ⟨_, rfl, x, _, rfl, h, _, _, rfl, by rw [mkBool_eq, R_bool], rfl⟩
theorem evLookup_val {P : Program} (hr : HR base m F h n w) {t : TypeId} {x ix : V} {X IX : Value} {ok : Bool} (hx : R F w x n m X) (hi : R F w ix n m IX) : Val P F w n m (evLookup P h t x ix ok) (Instr.lookup t X IX ok) := by
  unfold evLookup
  split
  case h_2 => exact Val.stuck
  rename_i kt et hu
  split
  case h_2 => exact Val.stuck
  rename_i kd z hkd hz
  split
  case h_2 => exact Val.stuck
  rename_i sk key hk
  obtain ⟨d, hd, hof⟩ := mkOf_run hkd
  obtain ⟨zv, hzr, hzR⟩ := zeroV_run (F := F) (w := w) (n := n) (m := m) hz
  obtain ⟨rfl, his⟩ := keyOf_run hk hi
  split
  · simp only [R] at hx
    subst hx
    exact Val.leaf (run_look_nil hu hd hof his hzr ok) (withOk_R hzR)
  · rename_i b
    simp only [R] at hx
    obtain ⟨hbn, B, rfl, hB⟩ := hx
    have hblk := hr.blk b hbn
    split
    case h_2 => exact Val.stuck
    rename_i kd' st f ks hb
    cases hs : mkSame kd kd'
    · exact Val.stuck
    obtain rfl := mkSame_eq hs
    rw [hb] at hblk
    obtain ⟨B', es, clock, e, hcell, hE, hf⟩ := hblk
    obtain rfl : B = B' := by rw [hB] at e; injection e
    obtain ⟨h1, h2⟩ := hf IX his
    have := run_look (P := P) hu hd hof hcell hE.ent his hzr ok
    refine Val.leaf this ?_
    rw [h1]
    exact withOk_R (foundV_R rfl h2 hzR)
  · rename_i st kd' has get
    cases hs : mkSame kd kd'
    · exact Val.stuck
    obtain rfl := mkSame_eq hs
    simp only [R] at hx
    obtain ⟨B, rfl, _, es, clock, hcell, hE, hf⟩ := hx
    obtain ⟨h1, h2⟩ := hf IX his
    have := run_look (P := P) hu hd hof hcell hE his hzr ok
    refine Val.leaf this ?_
    rw [h1]
    exact withOk_R (foundV_R rfl (fun v hv => (R_mono (Sizes.refl w) (fun B h => h) (fun _ _ => rfl) _ 0 n (fun _ => none) m (Nat.zero_le _) (fun b hb => absurd hb (Nat.not_lt_zero _))).1 _ (h2 v hv)) hzR)
  · exact Val.stuck
theorem evQ_wp {E : Env} (hE : E.Ok) {o : Oper} {T : Tree V} {Q : V → Prop} {K : Act → World → Prop} {Qx : Exit → Act → World → Prop}
    (hr : HR base m F h n w) (hρ : ∀ x, R F w (ρ x) n m (a.eval x)) (hT : evQ E ρ h o.op = some T) (hq : T.holds E.P Q)
    (hK : ∀ v x w' F', Q v → Later F w F' w' → R F' w' v n m x → K (a.put o.dst x) w') : o.wp E.P a w K Qx := by
  cases ho : o.op <;> rw [ho] at hT <;> simp only [evQ] at hT <;> try (cases hT; done)
  case move x => injection hT with hT; subst hT; exact wp_of_val (sem := pure (a.eval x)) (by simp only [execOp, ho]; rfl) (Val.leaf rfl (hρ x)) hq hK
  case assign x => injection hT with hT; subst hT; exact wp_of_val (sem := pure (a.eval x)) (by simp only [execOp, ho]; rfl) (Val.leaf rfl (hρ x)) hq hK
  case pick c x y =>
    injection hT with hT; subst hT
    exact wp_of_val (sem := do pure (if ← asBool (a.eval c) then a.eval x else a.eval y)) (by simp only [execOp, ho, bind_assoc, pure_bind]) (evPick_val (hρ c) (hρ x) (hρ y)) hq hK
  case build t parts =>
    injection hT with hT; subst hT
    refine wp_of_val (sem := Instr.build t (parts.map fun p => (p.1, a.eval p.2))) (by simp only [execOp, ho]) (evBuild_val ?_) hq hK
    simpa using Parts_operands (a := a) hρ parts.toList
  case load t x => injection hT with hT; subst hT; exact wp_of_val (by simp only [execOp, ho]) (evLoad_val hr (hρ x)) hq hK
  case nilCheck x =>
    injection hT with hT; subst hT
    obtain ⟨h1, h2, h3, h4, h5⟩ := evNilCheck_val (hρ x) Q hq
    refine wp_of_val (sem := pure (a.eval x)) (T := .leaf (ρ x)) ?_ (Val.leaf rfl (hρ x)) h1 hK
    simp only [execOp, ho]
    rfl
  case binOp op t x y yt =>
    cases hb : evIfc E.P op t x y (ρ x) (ρ y) with
    | some T' =>
      rw [hb] at hT
      injection hT with hT; subst hT
      exact wp_of_val (sem := do eqGuard op t x y (a.eval x) (a.eval y); binOp op t (a.eval x) (a.eval y)) (by simp only [execOp, ho]) (evIfc_val hb (hρ x) (hρ y) (fun v h => by subst h; rfl) (fun v h => by subst h; rfl)) hq hK
    | none =>
      rw [hb] at hT
      injection hT with hT; subst hT
      exact wp_of_val (sem := do eqGuard op t x y (a.eval x) (a.eval y); binOp op t (a.eval x) (a.eval y)) (by simp only [execOp, ho]) (evBin_val (hρ x) (hρ y)) hq hK
  case unOp op t x => injection hT with hT; subst hT; exact wp_of_val (by simp only [execOp, ho]) (evUn_val (hρ x)) hq hK
  case convert src dst x =>
    cases hb : evBytes E.P src dst (ρ x) with
    | some T' =>
      rw [hb] at hT
      injection hT with hT; subst hT
      exact wp_bytes ho hρ hb hq hK
    | none =>
      rw [hb] at hT
      injection hT with hT; subst hT
      exact wp_of_val (by simp only [execOp, ho]) (evConv_val hr (hρ x)) hq hK
  case makeFunc f first cap =>
    injection hT with hT; subst hT
    refine wp_of_val (sem := Instr.makeFunc f (first.map a.eval) (cap.map a.eval)) (by simp only [execOp, ho]) (Val.leaf rfl ?_) hq hK
    simp only [R]
    refine ⟨_, _, rfl, ?_, ?_⟩
    · simpa using RL_operands (a := a) hρ first.toList
    · simpa using RL_operands (a := a) hρ cap.toList
  case slice t x lo hi mx =>
    injection hT with hT; subst hT
    exact wp_of_val (by simp only [execOp, ho]) (evSlice_val hr (hρ x) (optV hρ).1 (optV hρ).2 (optV hρ).1 (optV hρ).2 (optV hρ).1 (optV hρ).2) hq hK
  case fieldAddr s x f => injection hT with hT; subst hT; exact wp_of_val (by simp only [execOp, ho]) (evFieldAddr_val (hρ x)) hq hK
  case field t x f => injection hT with hT; subst hT; exact wp_of_val (by simp only [execOp, ho]) (evField_val (hρ x)) hq hK
  case indexAddr t x ix => injection hT with hT; subst hT; exact wp_of_val (by simp only [execOp, ho]) (evIndexAddr_val (R_plain1 (hρ x)) (hρ ix)) hq hK
  case index t x ix => injection hT with hT; subst hT; exact wp_of_val (by simp only [execOp, ho]) (evIndex_val (hρ x) (hρ ix)) hq hK
  case lookup t x ix ok => injection hT with hT; subst hT; exact wp_of_val (by simp only [execOp, ho]) (evLookup_val hr (hρ x) (hρ ix)) hq hK
  case extract x i => injection hT with hT; subst hT; exact wp_of_val (by simp only [execOp, ho]) (evExtract_val (hρ x)) hq hK
  case call c =>
    cases hcal : c.callee with
    | builtin b => rw [hcal] at hT; exact wp_builtin ho hcal hρ hT hq hK
    | invoke r nm => rw [hcal] at hT; cases hT
    | value f =>
      rw [hcal] at hT
      dsimp only at hT
      cases hc : callee (ρ f) (.ofList (c.args.toList.map ρ)) with
      | none => rw [hc] at hT; cases hT
      | some r =>
        obtain ⟨g, args⟩ := r
        rw [hc] at hT
        dsimp only at hT
        cases hg : E.Γ g args with
        | none => rw [hg] at hT; cases hT
        | some ans =>
          rw [hg] at hT
          cases ans with
          | sure v =>
            dsimp only at hT
            cases h1 : args.clean
            · rw [h1] at hT; cases hT
            · cases h2 : v.clean
              · rw [h1, h2] at hT; cases hT
              · rw [h1, h2] at hT
                injection hT with hT; subst hT
                exact wp_meets ho hcal hρ hc (hE.sure _ _ _ hg) h1 h2 hr.fdom hr.gl hq hK
          | where_ p v =>
            dsimp only at hT
            cases h1 : args.clean
            · rw [h1] at hT; cases hT
            · cases h2 : v.clean
              · rw [h1, h2] at hT; cases hT
              · rw [h1, h2] at hT
                injection hT with hT; subst hT
                exact wp_meets ho hcal hρ hc (hE.where_ _ _ _ _ hg hq.1) h1 h2 hr.fdom hr.gl hq.2 hK
theorem evFrozen_wp {E : Env} (hE : E.Ok) {o : Oper} {c : Call} {f : Operand} {T : Tree V} {Q : V → Prop} {K : Act → World → Prop} {Qx : Exit → Act → World → Prop}
    (ho : o.op = .call c) (hcal : c.callee = .value f) (hr : HR base m F h n w) (hρ : ∀ x, R F w (ρ x) n m (a.eval x)) (hT : evFrozen E ρ h f c = some T) (hq : T.holds E.P Q)
    (hK : ∀ v x w' F', Q v → Later F w F' w' → R F' w' v n m x → K (a.put o.dst x) w') : o.wp E.P a w K Qx := by
  unfold evFrozen at hT
  cases hc : callee (ρ f) (.ofList (c.args.toList.map ρ)) with
  | none => rw [hc] at hT; cases hT
  | some r =>
    obtain ⟨g, args⟩ := r
    rw [hc] at hT
    dsimp only at hT
    cases h1 : args.clean
    case true => rw [h1] at hT; cases hT
    cases h0 : (freeze h args).clean
    · rw [h1, h0] at hT; cases hT
    rw [h1, h0] at hT
    simp only [cond_true, cond_false] at hT
    cases hg : E.Γ g (freeze h args) with
    | none => rw [hg] at hT; cases hT
    | some ans =>
      rw [hg] at hT
      cases ans with
      | sure v =>
        dsimp only at hT
        cases h2 : v.clean
        · rw [h2] at hT; cases hT
        cases h3 : v.rowless
        · rw [h2, h3] at hT; cases hT
        rw [h2, h3] at hT
        injection hT with hT; subst hT
        obtain ⟨hfn, hq⟩ := withNeed_holds hq
        exact wp_frozen ho hcal hρ hc (hE.sure _ _ _ hg) hfn h0 h2 h3 hr hq hK
      | where_ p v =>
        dsimp only at hT
        cases h2 : v.clean
        · rw [h2] at hT; cases hT
        cases h3 : v.rowless
        · rw [h2, h3] at hT; cases hT
        rw [h2, h3] at hT
        injection hT with hT; subst hT
        obtain ⟨hfn, hq⟩ := withNeed_holds hq
        exact wp_frozen ho hcal hρ hc (hE.where_ _ _ _ _ hg hq.1) hfn h0 h2 h3 hr hq.2 hK

/-! ### Operations with an effect -/
/-- A new block is laid, under a name that stands for none. -/
theorem HR.layO (hr : HR base m F h n w) {h' : Nat → Blk} {nm n' : Nat} {blk : Blk} {o : Obj} (hnm : m nm = none) (hn : n ≤ n') (hlt : nm < n')
    (hnew : ∀ b, n ≤ b → b < n' → b = nm) (hh : ∀ b, h' b = if b = nm then blk else h b)
    (hblk : Ext base m F n w (fun b => if b = nm then some w.heap.size else m b) F n' (w.alloc o) → RB F (w.alloc o) n' (fun b => if b = nm then some w.heap.size else m b) blk (some w.heap.size)) :
    HR base (fun b => if b = nm then some w.heap.size else m b) F h' n' (w.alloc o) ∧
      Ext base m F n w (fun b => if b = nm then some w.heap.size else m b) F n' (w.alloc o) := by
  have keep : ∀ B, B < w.heap.size → (w.alloc o).heap[B]? = w.heap[B]? := fun B hB => heap_alloc_old w _ B hB
  have hext : Ext base m F n w (fun b => if b = nm then some w.heap.size else m b) F n' (w.alloc o) :=
    ⟨fun _ h => h, fun _ h => .inl h, fun B hB => keep B (hB.elim (fun h => Nat.lt_of_lt_of_le h hr.low) (hr.fdom B)), by simp, Sizes.of_keep keep,
      ⟨fun B hB _ => keep B hB, fun b B hb hB => by
        by_cases e : b = nm
        · rw [if_pos e] at hb; injection hb with hb; omega
        · rw [if_neg e] at hb; exact ⟨b, hb⟩⟩, hn,
      fun b hb B hB => by
        rw [if_neg (fun e => by rw [e, hnm] at hB; cases hB)]
        exact hB, ⟨rfl, rfl, rfl⟩⟩
  refine ⟨⟨Nat.le_trans hr.low (by simp), fun B hB => by have := hr.fdom B hB; simp; omega, fun b hb => ?_, fun b B hB => ?_, fun b hb => ?_, hr.gl.mono hext.sz (fun _ h => h) (fun B hB => keep B (hr.fdom B hB)), fun b B hB => ?_, fun b b' B h1 h2 hne => ?_⟩, hext⟩
  · rw [hh b]
    by_cases e : b = nm
    · subst e
      rw [if_pos rfl, if_pos rfl]
      exact hblk hext
    · rw [if_neg e, if_neg e]
      have hbn : b < n := by
        rcases Nat.lt_or_ge b n with h1 | h1
        · exact h1
        · exact absurd (hnew b h1 hb) e
      exact RB_ext hext (fun B hB => keep B (hr.dom b B hB)) (hr.blk b hbn)
  · by_cases e : b = nm
    · rw [if_pos e] at hB; injection hB with hB; subst hB; simp
    · rw [if_neg e] at hB; have := hr.dom b B hB; simp; omega
  · rw [if_neg (by omega)]
    exact hr.new b (by omega)
  · by_cases e : b = nm
    · rw [if_pos e] at hB; injection hB with hB; subst hB
      exact ⟨hr.low, fun hF => absurd (hr.fdom _ hF) (Nat.lt_irrefl _)⟩
    · rw [if_neg e] at hB; exact hr.own b B hB
  · by_cases e1 : b = nm <;> by_cases e2 : b' = nm
    · exact absurd (e1.trans e2.symm) hne
    · rw [if_pos e1] at h1; rw [if_neg e2] at h2
      injection h1 with h1; subst h1
      exact absurd (hr.blockLt h2) (Nat.lt_irrefl _)
    · rw [if_neg e1] at h1; rw [if_pos e2] at h2
      injection h2 with h2; subst h2
      exact absurd (hr.blockLt h1) (Nat.lt_irrefl _)
    · rw [if_neg e1] at h1; rw [if_neg e2] at h2
      rw [hh b, hh b', if_neg e1, if_neg e2]
      exact hr.inj b b' B h1 h2 hne
theorem HR.lay (hr : HR base m F h n w) {h' : Nat → Blk} {nm n' : Nat} {cs : V} {xs : Array Value} (el : TypeId) (hrow : RL F w cs n m xs.toList) (hnm : m nm = none) (hn : n ≤ n') (hlt : nm < n')
    (hnew : ∀ b, n ≤ b → b < n' → b = nm) (hh : ∀ b, h' b = if b = nm then .var cs else h b) :
    HR base (fun b => if b = nm then some w.heap.size else m b) F h' n' (w.alloc (.cells xs el)) ∧
      Ext base m F n w (fun b => if b = nm then some w.heap.size else m b) F n' (w.alloc (.cells xs el)) :=
  hr.layO hnm hn hlt hnew hh fun he => ⟨_, xs, el, xs.toList, [], rfl, heap_alloc_new w _, by simp, he.row hrow⟩
theorem HR.push (hr : HR base m F h n w) {h' : Nat → Blk} {cs : V} {xs : Array Value} (el : TypeId) (hrow : RL F w cs n m xs.toList) (hh : ∀ b, h' b = if b = n then .var cs else h b) :
    HR base (fun b => if b = n then some w.heap.size else m b) F h' (n + 1) (w.alloc (.cells xs el)) ∧
      Ext base m F n w (fun b => if b = n then some w.heap.size else m b) F (n + 1) (w.alloc (.cells xs el)) :=
  hr.lay el hrow (hr.new n (Nat.le_refl _)) (by omega) (by omega) (fun b h1 h2 => by omega) hh
end
end Go.Fw
