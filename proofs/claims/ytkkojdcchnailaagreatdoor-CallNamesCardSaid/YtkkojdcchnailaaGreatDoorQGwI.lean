/- A later world; new memory; stores; and each operation that changes nothing, in the model's own rule for an operation. -/
import Derived.Test.YtkkojdcchnailaaGreatDoorQGwH
import Derived.Laws.CopyRow
import Derived.Lib.ConvBytes
import Derived.Laws.AppendOwn
namespace Go.Fw

/-- A later world in which all memory that there was is as it was. -/
structure Later (F : Nat → Prop) (w : World) (F' : Nat → Prop) (w' : World) : Prop where
  f : ∀ B, F B → F' B
  back : ∀ B, F' B → F B ∨ w.heap.size ≤ B
  keep : ∀ B, B < w.heap.size → w'.heap[B]? = w.heap[B]?
  size : w.heap.size ≤ w'.heap.size
  dom : (∀ B, F B → B < w.heap.size) → ∀ B, F' B → B < w'.heap.size
  calm : Calm w w'

theorem Later.refl (F : Nat → Prop) (w : World) : Later F w F w :=
  ⟨fun _ h => h, fun _ h => .inl h, fun _ _ => rfl, Nat.le_refl _, fun h => h, Calm.refl w⟩
theorem Later.trans {F F1 F2 : Nat → Prop} {w w1 w2 : World} (h : Later F w F1 w1) (h' : Later F1 w1 F2 w2) : Later F w F2 w2 where
  f B hB := h'.f B (h.f B hB)
  back B hB := (h'.back B hB).elim (fun hB => h.back B hB) (fun hB => .inr (Nat.le_trans h.size hB))
  keep B hB := by rw [h'.keep B (Nat.lt_of_lt_of_le hB h.size), h.keep B hB]
  size := Nat.le_trans h.size h'.size
  dom hd := h'.dom (h.dom hd)
  calm := h.calm.trans h'.calm
theorem heap_alloc_old (w : World) (o : Obj) (B : Nat) (h : B < w.heap.size) : (w.alloc o).heap[B]? = w.heap[B]? := by
  simp only [World.alloc, Array.getElem?_push]
  rw [if_neg (by omega)]
theorem heap_alloc_new (w : World) (o : Obj) : (w.alloc o).heap[w.heap.size]? = some o := by
  simp only [World.alloc, Array.getElem?_push_size]
theorem Later.alloc (F : Nat → Prop) (w : World) (o : Obj) : Later F w (fun B => F B ∨ B = w.heap.size) (w.alloc o) where
  f _ h := .inl h
  back B h := h.imp id (fun h => by omega)
  keep B hB := heap_alloc_old w o B hB
  size := by simp
  dom hd B hB := by
    simp only [World.size_alloc]
    rcases hB with h | h
    · have := hd B h; omega
    · omega
  calm := ⟨rfl, rfl, rfl⟩

theorem heap_lt {w : World} {B : Nat} {o : Obj} (h : w.heap[B]? = some o) : B < w.heap.size := by
  rcases Nat.lt_or_ge B w.heap.size with h' | h'
  · exact h'
  · rw [Array.getElem?_eq_none h'] at h; cases h

section
variable {base : Nat} {m : Nat → Option Nat} {F F' : Nat → Prop} {h : Nat → Blk} {n : Nat} {w w' : World}

theorem HR.lt (hr : HR base m F h n w) {b : Nat} (hb : m b ≠ none) : b < n := by
  rcases Nat.lt_or_ge b n with h' | h'
  · exact h'
  · exact absurd (hr.new b h') hb
theorem HR.ext (hr : HR base m F h n w) (hl : Later F w F' w') : Ext base m F n w m F' n w' where
  f := hl.f
  back B hB := hl.back B hB
  keep B hB := hl.keep B (hB.elim (fun h => Nat.lt_of_lt_of_le h hr.low) (hr.fdom B))
  size := hl.size
  sz := Sizes.of_keep hl.keep
  ow := Own.of_keep hl.keep
  le := Nat.le_refl _
  map _ _ _ h := h
  calm := hl.calm
theorem HR.blockLt (hr : HR base m F h n w) {b B : Nat} (hb : m b = some B) : B < w.heap.size := by
  exact hr.dom b B hb
theorem RB_ext {m' : Nat → Option Nat} {n' : Nat} {blk : Blk} {B : Option Nat} (he : Ext base m F n w m' F' n' w') (hk : ∀ b, B = some b → w'.heap[b]? = w.heap[b]?) (hb : RB F w n m blk B) : RB F' w' n' m' blk B := by
  cases blk with
  | none => exact hb
  | any => exact hb
  | var cs =>
    obtain ⟨b, xs, el, ys, zs, e, hc, hsp, hr⟩ := hb
    exact ⟨b, xs, el, ys, zs, e, by rw [hk b e]; exact hc, hsp, he.row hr⟩
  | arr es k get =>
    rcases hb with h0 | ⟨b, c, el, e, hc, hs, hr⟩
    · exact .inl h0
    refine .inr ⟨b, c, el, e, by rw [hk b e]; exact hc, hs, fun j hj => ?_⟩
    obtain ⟨xs, h1, h2, h3⟩ := hr j hj
    exact ⟨xs, (R_mono he.sz he.f (fun B hB => he.keep B (.inr hB)) (get j) 0 0 _ _ (Nat.le_refl _) (fun _ _ _ h => h)).2 _ h1, h2, h3⟩
  | iter mb since seen last =>
    obtain ⟨r, x, e, hc, h1⟩ := hb
    refine ⟨r, x, e, by rw [hk r e]; exact hc, ?_⟩
    cases mb with
    | none => exact h1
    | some b => obtain ⟨y, h2, h3, h4⟩ := h1; exact ⟨y, Nat.lt_of_lt_of_le h2 he.le, h3, he.map b h2 y h4⟩
  | mapV kd st f ks =>
    obtain ⟨b, es, clock, e, hc, hE, hf⟩ := hb
    exact ⟨b, es, clock, e, by rw [hk b e]; exact hc, hE, fun k hk' => ⟨(hf k hk').1, fun v hv => he.val ((hf k hk').2 v hv)⟩⟩
  | rng f ps asg bd row N st pend =>
    obtain ⟨l, r, e, hc, h1, h2, h3, h4, h5, h6, h7⟩ := hb
    exact ⟨l, r, e, by rw [hk l e]; exact hc, h1, h2, h3, h4, h5, h6, fun i => he.val (h7 i)⟩
theorem HR.later (hr : HR base m F h n w) (hl : Later F w F' w') : HR base m F' h n w' where
  low := Nat.le_trans hr.low hl.size
  fdom := hl.dom hr.fdom
  blk b hb := RB_ext (hr.ext hl) (fun B hB => hl.keep B (hr.blockLt hB)) (hr.blk b hb)
  dom b B hB := Nat.lt_of_lt_of_le (hr.dom b B hB) hl.size
  new := hr.new
  gl := hr.gl.mono (Sizes.of_keep hl.keep) hl.f fun B hB => hl.keep B (hr.fdom B hB)
  own b B hB := ⟨(hr.own b B hB).1, fun hF => (hl.back B hF).elim (hr.own b B hB).2 (fun h => absurd (hr.blockLt hB) (Nat.not_lt.2 h))⟩
  inj := hr.inj
end

/-! ### What a function answers -/
/-- A function of the program, with a body. -/
def Has (P : Program) (g : FuncId) : Prop := ∃ fn c, P.funcs[g]? = some fn ∧ fn.body = some c ∧ (fn.name == "runtime.NumGoroutine") = false
/-- The function 'g' answers 'v' to 'args', and leaves all memory as it was. -/
def Meets (P : Program) (g : FuncId) (args v : V) : Prop :=
  Has P g ∧ ∀ (F : Nat → Prop) (w : World) (xs : Array Value), (∀ B, F B → B < w.heap.size) → GOk F w → RL F w args 0 (fun _ => none) xs.toList →
    Calls P g xs w fun e w' => ∃ x F', e = .returned x ∧ Later F w F' w' ∧ R F' w' v 0 (fun _ => none) x
/-- What is said of a loop is so. -/
def LoopOk (P : Program) (body : Code) (g : (B : Base) → St B → Tree (Ex × St B)) : Prop :=
  ∀ (B : Base) (s : St B) (Q : Ex × St B → Prop), (g B s).holds P Q → SemLoop P body s Q
theorem loops_all : ∀ (c b : Code), b ∈ loopsOf c → b ∈ loopsAll c := by
  intro c
  induction c with
  | seq x y ihx ihy =>
    intro b hb
    simp only [loopsOf, loopsAll, List.mem_append] at hb ⊢
    exact hb.imp (ihx b) (ihy b)
  | cond c x y ihx ihy =>
    intro b hb
    simp only [loopsOf, loopsAll, List.mem_append] at hb ⊢
    exact hb.imp (ihx b) (ihy b)
  | block id x ih => exact ih
  | scope x ih => exact ih
  | loop x ih =>
    intro b hb
    simp only [loopsOf, loopsAll, List.mem_cons] at hb ⊢
    exact hb.imp id (ih b)
  | _ => intro b hb; simp only [loopsOf] at hb; cases hb
structure Env.Ok (E : Env) : Prop where
  mixed : E.P.follows .mixedOrders = true
  named : ∀ (g : FuncId) fn, E.P.funcs[g]? = some fn → (fn.name == "runtime.NumGoroutine") = false
  sure : ∀ g args v, E.Γ g args = some (.sure v) → Meets E.P g args v
  where_ : ∀ g args p v, E.Γ g args = some (.where_ p v) → p → Meets E.P g args v
  lp : ∀ f body g, InFn E.P f body → loopOf E f body = some g → LoopOk E.P body g

theorem run_callFunc {P : Program} {g : FuncId} (h : Has P g) (args : Array Value) (w : World) : (callFunc g args).run P w = .ok (.enter g args) w := by
  obtain ⟨fn, c, hf, hb, hn⟩ := h
  simp only [callFunc, Sem.run_bind, run_program, Result.andThen_ok, hf, hn, Bool.false_eq_true, if_false, hb, Option.isNone_some, Sem.run_pure]

section
variable {base : Nat} {m : Nat → Option Nat} {F : Nat → Prop} {h : Nat → Blk} {n : Nat} {w : World} {ρ : Operand → V} {a : Act}

theorem RL_operands (hρ : ∀ x, R F w (ρ x) n m (a.eval x)) : ∀ (l : List Operand), RL F w (.ofList (l.map ρ)) n m (l.map a.eval) := by
  intro l
  induction l with
  | nil => simp only [List.map_nil, V.ofList, RL]
  | cons x l ih => simp only [List.map_cons, V.ofList, RL]; exact ⟨_, _, rfl, hρ x, ih⟩
theorem Parts_operands (hρ : ∀ x, R F w (ρ x) n m (a.eval x)) : ∀ (l : List (Nat × Operand)), Parts F w n m (l.map fun p => (p.1, ρ p.2)) (l.map fun p => (p.1, a.eval p.2)) := by
  intro l
  induction l with
  | nil => exact .nil
  | cons x l ih => exact .cons (hρ x.2) ih
theorem callee_run {P : Program} {f : V} {x : Value} {args : V} {xs : Array Value} {g : FuncId} {out : V} (hc : callee f args = some (g, out)) (hf : R F w f n m x)
    (ha : RL F w args n m xs.toList) : ∃ ys : Array Value, RL F w out n m ys.toList ∧
      ∀ w, ((Deferred.ofValue x xs).run P w) = .ok { target := .fn (.func g) (match x with | .func _ _ c => c | _ => #[]), args := (match x with | .func _ f _ => f | _ => #[]) ++ xs } w ∧
        ys = (match x with | .func _ f _ => f | _ => #[]) ++ xs ++ (match x with | .func _ _ c => c | _ => #[]) := by
  unfold callee at hc
  cases f <;> try (cases hc; done)
  rename_i f first cap
  cases f <;> try (cases hc; done)
  simp only [Option.some.injEq, Prod.mk.injEq] at hc
  obtain ⟨rfl, rfl⟩ := hc
  simp only [R] at hf
  obtain ⟨fs, cs, rfl, h1, h2⟩ := hf
  refine ⟨fs ++ xs ++ cs, ?_, fun w => ⟨rfl, rfl⟩⟩
  simp only [Array.toList_append, List.append_assoc]
  exact RL_app _ _ h1 _ _ (RL_app _ _ ha _ _ h2)
theorem exec_call {P : Program} {o : Oper} {c : Call} {f : Operand} {g : FuncId} {out : V} (ho : o.op = .call c) (hcal : c.callee = .value f)
    (hρ : ∀ x, R F w (ρ x) n m (a.eval x)) (hc : callee (ρ f) (.ofList (c.args.toList.map ρ)) = some (g, out)) (hg : Has P g) :
    ∃ ys : Array Value, RL F w out n m ys.toList ∧ (execOp a.eval o).run P w = .ok (.enter g ys) w := by
  have ha : RL F w (.ofList (c.args.toList.map ρ)) n m (c.args.map a.eval).toList := by
    simpa using RL_operands (a := a) hρ c.args.toList
  obtain ⟨ys, h1, h2⟩ := callee_run (P := P) hc (hρ f) ha
  refine ⟨ys, h1, ?_⟩
  obtain ⟨hrun, hys⟩ := h2 w
  simp only [execOp, ho, resolve, hcal, Sem.run_bind, hrun, Result.andThen_ok, invoke, run_callFunc hg, hys]

theorem wp_of_val {E : Env} {o : Oper} {sem : Sem Value} {T : Tree V} {Q : V → Prop} {K : Act → World → Prop} {Qx : Exit → Act → World → Prop}
    (hx : execOp a.eval o = (do pure (.value (← sem)) : Sem Next)) (hv : Val E.P F w n m T sem) (hq : T.holds E.P Q)
    (hK : ∀ v x w' F', Q v → Later F w F' w' → R F' w' v n m x → K (a.put o.dst x) w') : o.wp E.P a w K Qx := by
  obtain ⟨v, x, h1, h2, h3⟩ := hv Q hq
  unfold Oper.wp
  rw [hx]
  simp only [Sem.run_bind, h2, Result.andThen_ok, Sem.run_pure, Oper.upon]
  exact hK v x w F h1 (Later.refl F w) h3

theorem RL_rep {zero : V} {z : List Value} (hz : RL F w zero n m z) : ∀ k, RL F w (rep k zero) n m (List.replicate k z).flatten := by
  intro k
  induction k with
  | zero => simp only [rep, List.replicate_zero, List.flatten_nil, RL]
  | succ k ih =>
    have e : rep (k + 1) zero = zero.app (rep k zero) := rfl
    rw [e, List.replicate_succ, List.flatten_cons]
    exact RL_app _ _ hz _ _ ih
theorem replicate_flatten_get (z : List Value) (k i : Nat) (_hz : 0 < z.length) (hi : i < k * z.length) : (List.replicate k z).flatten[i]? = z[i % z.length]? := by
  induction k generalizing i with
  | zero => simp at hi
  | succ k ih =>
    rw [List.replicate_succ, List.flatten_cons]
    by_cases h1 : i < z.length
    · rw [List.getElem?_append_left h1, Nat.mod_eq_of_lt h1]
    · have e : i % z.length = (i - z.length) % z.length := Nat.mod_eq_sub_mod (by omega)
      have hk : i - z.length < k * z.length := by rw [Nat.add_mul, Nat.one_mul] at hi; omega
      rw [List.getElem?_append_right (by omega), ih (i - z.length) hk, e]
theorem range_flatten (z : Array Value) (k : Nat) : ((Array.range (k * z.size)).map fun i => z[i % z.size]!) = (List.replicate k z.toList).flatten.toArray := by
  apply Array.ext'
  apply List.ext_getElem?
  intro i
  by_cases hi : i < k * z.size
  · have hz : 0 < z.size := by
      rcases Nat.eq_zero_or_pos z.size with h | h
      · rw [h, Nat.mul_zero] at hi; omega
      · exact h
    have hm : i % z.size < z.size := Nat.mod_lt _ hz
    rw [List.toList_toArray, replicate_flatten_get z.toList k i (by simpa using hz) (by simpa using hi)]
    simp only [Array.length_toList, Array.toList_map, Array.toList_range, List.getElem?_map, List.getElem?_range hi, Option.map_some, Array.getElem?_toList]
    rw [Array.getElem?_eq_getElem hm, getElem!_pos z _ hm]
  · rw [List.getElem?_eq_none (by simp; omega), List.getElem?_eq_none (by simp [List.length_flatten]; omega)]

/-- What a new slice's block holds. -/
theorem run_buildSlice {E : Env} {o : Oper} {t : TypeId} {len : Nat} {parts : Array (Nat × Operand)} {z : Nat} {cs : V}
    (ho : o.op = .buildSlice t len parts) (hρ : ∀ x, R F w (ρ x) n m (a.eval x)) (hq : evBuildRow E.P t len (parts.toList.map fun p => (p.1, ρ p.2)) = some (z, cs)) :
    ∃ (outc : Array Value) (e : TypeId), (execOp a.eval o).run E.P w = .ok (.value (.slice (some ⟨w.heap.size, 0, none⟩) len len)) (w.alloc (.cells outc e)) ∧ RL F w cs n m outc.toList ∧ outc.size = len * z := by
  unfold evBuildRow at hq
  cases hu : E.P.underlying t with
  | none => rw [hu] at hq; cases hq
  | some d =>
    rw [hu] at hq
    cases d <;> try (cases hq; done)
    rename_i e
    dsimp only at hq
    cases hz : tySize E.P e with
    | none => rw [hz] at hq; cases hq
    | some z' =>
      rw [hz] at hq
      cases hzero : tyZero E.P e with
      | none => rw [hzero] at hq; cases hq
      | some zero =>
        rw [hzero] at hq
        dsimp only at hq
        obtain ⟨zv, hzv, hzr⟩ := tyZero_run (F := F) (w := w) (n := n) (m := m) hzero
        rw [RL_len _ _ hzr] at hq
        cases h1 : Nat.beq zv.cells.toList.length z'
        · rw [h1] at hq; cases hq
        · cases h2 : Nat.ble (len * z') 16777216
          · rw [h1, h2] at hq; cases hq
          · rw [h1, h2] at hq
            simp only [Bool.and_self, cond_true] at hq
            have h1' : zv.cells.size = z' := by simpa using Nat.eq_of_beq_eq_true h1
            have h2' := Nat.le_of_ble_eq_true h2
            have hparts : Parts F w n m (parts.toList.map fun p => (p.1, ρ p.2)) (parts.map fun p => (p.1, a.eval p.2)).toList := by
              simpa using Parts_operands (a := a) hρ parts.toList
            cases hf : fillRow E.P (fun i => some (i * z', z')) (rep len zero) (parts.toList.map fun p => (p.1, ρ p.2)) with
            | none => rw [hf] at hq; cases hq
            | some cs' =>
              rw [hf] at hq
              dsimp only at hq
              injection hq with hq
              injection hq with e1 e2
              subst e1; subst e2
              obtain ⟨outc, g1, g2, g3⟩ := fillRow_run _ _ hparts _ _ (List.replicate len zv.cells.toList).flatten.toArray hf (by simpa using RL_rep hzr len)
              have hsize : outc.size = len * z' := by rw [g3]; simp [List.length_flatten, h1']
              have hzeros : ∀ zz : Array Value, (len * z' ≠ 0 → zz = zv.cells) →
                  ((Array.range (len * z')).map fun i => zz[i % zz.size]!) = (List.replicate len zv.cells.toList).flatten.toArray := by
                intro zz hzz
                by_cases h0 : len * z' = 0
                · rw [h0]
                  have : (List.replicate len zv.cells.toList).flatten = [] := by
                    apply List.eq_nil_of_length_eq_zero
                    simp [List.length_flatten, h1', h0]
                  rw [this]; simp
                · rw [hzz h0, ← h1', range_flatten]
              refine ⟨outc, e, ?_, g2, hsize⟩
              simp only [execOp, ho, Instr.buildSlice, Sem.run_bind, run_underlying hu, Result.andThen_ok, tySize_run hz]
              rw [if_neg (show ¬ len * z' > 2 ^ 24 by omega)]
              by_cases h0 : len * z' = 0
              · simp only [h0, if_true, pure_bind]
                have := hzeros #[] (fun h => absurd h0 h)
                rw [h0] at this
                rw [this, g1]
                rfl
              · simp only [h0, if_false, Sem.run_bind, hzv, Result.andThen_ok, pure_bind]
                rw [hzeros zv.cells (fun _ => rfl), g1]
                rfl
theorem wp_bytes {E : Env} {o : Oper} {src dst : TypeId} {x : Operand} {T : Tree V} {Q : V → Prop} {K : Act → World → Prop} {Qx : Exit → Act → World → Prop}
    (ho : o.op = .convert src dst x) (hρ : ∀ x, R F w (ρ x) n m (a.eval x)) (hT : evBytes E.P src dst (ρ x) = some T) (hq : T.holds E.P Q)
    (hK : ∀ v x w' F', Q v → Later F w F' w' → R F' w' v n m x → K (a.put o.dst x) w') : o.wp E.P a w K Qx := by
  unfold evBytes at hT
  split at hT
  · rename_i st s hx
    split at hT
    · rename_i hs
      split at hT
      · rename_i e hd
        split at hT
        · rename_i he
          injection hT with hT; subst hT
          have hv := hρ x
          rw [hx, R_str] at hv
          have hrun := Lib.run_convert_string_bytes (P := E.P) w src dst e ⟨s.toArray⟩ hs hd he
          have hrun2 : (execOp a.eval o).run E.P w = .ok (.value (.slice (some ⟨w.heap.size, 0, none⟩) s.length (grownCap w s.length 0 e))) (Lib.bytesWorld w e ⟨s.toArray⟩) := by
            simp only [execOp, ho, Sem.run_bind, hv, hrun, Result.andThen_ok, Sem.run_pure]
            rfl
          unfold Oper.wp
          rw [hrun2]
          simp only [Oper.upon]
          have hcalm : Calm w (Lib.bytesWorld w e ⟨s.toArray⟩) := ⟨rfl, rfl, rfl⟩
          have hsz : (Lib.bytesWorld w e ⟨s.toArray⟩).heap.size = w.heap.size + 1 := Lib.bytesWorld_size w e _
          refine hK _ _ _ (fun B => F B ∨ B = w.heap.size) hq ⟨fun _ h => .inl h, fun B h => h.elim .inl fun h => .inr (by omega), fun B hB => Lib.bytesWorld_at_old w e _ B hB, by omega, fun hd B hB => ?_, hcalm⟩ ?_
          · rcases hB with h | h
            · have := hd B h; omega
            · omega
          · rw [R_rsl]
            refine ⟨_, _, rfl, grownCap_ge w s.length 0 e, .inr ⟨w.heap.size, 0, rfl, .inr rfl, _, _, _, Lib.bytesWorld_at_new w e _, fun j hj => ⟨[.int .u8 (Int.ofNat (s.getD j 0).toNat)], ?_, rfl, fun q hq => ?_⟩⟩⟩
            · simp only [RL, R]
              exact ⟨_, _, rfl, rfl, rfl⟩
            · obtain rfl : q = 0 := by omega
              simp [Lib.bytesCells, Array.getElem?_append, hj, List.getD]
        · cases hT
      · cases hT
    · cases hT
  · cases hT
end
end Go.Fw
