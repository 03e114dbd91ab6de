/- Each operation that changes nothing: the evaluator's answer stands for the model's. -/
import Derived.Test.YtkkojdcchnailaaGreatDoorQGwD
namespace Go.Fw

/-- Where a tree of values holds, the model's operation answers, and the world stays. -/
def Val (P : Program) (F : Nat → Prop) (w : World) (n : Nat) (m : Nat → Option Nat) (T : Tree V) (sem : Sem Value) : Prop :=
  ∀ Q : V → Prop, T.holds P Q → ∃ v x, Q v ∧ sem.run P w = .ok x w ∧ R F w v n m x

section
variable {P : Program} {F : Nat → Prop} {w : World} {n : Nat} {m : Nat → Option Nat}

theorem Val.leaf {v : V} {sem : Sem Value} {x : Value} (h : sem.run P w = .ok x w) (hv : R F w v n m x) : Val P F w n m (.leaf v) sem :=
  fun _ hq => ⟨v, x, hq, h, hv⟩
theorem Val.stuck {sem : Sem Value} : Val P F w n m .stuck sem := fun _ hq => hq.elim
theorem Val.need {p : Prop} {T : Tree V} {sem : Sem Value} (h : p → Val P F w n m T sem) : Val P F w n m (.need p T) sem :=
  fun Q hq => h hq.1 Q hq.2

theorem R_int {st : Bool} {k : IntKind} {a : Int} {x : Value} : R F w (.int st k a) n m x ↔ x = .int k a := by simp only [R]
theorem R_bool {st : Bool} {a : Bool} {x : Value} : R F w (.bool st a) n m x ↔ x = .bool a := by simp only [R]
theorem R_str {st : Bool} {a : List UInt8} {x : Value} : R F w (.str st a) n m x ↔ x = .string ⟨a.toArray⟩ := by simp only [R]

theorem notZero_val {st : Bool} {y : Int} {T : Tree V} {sem : Sem Value} (h : y ≠ 0 → Val P F w n m T sem) : Val P F w n m (notZero st y T) sem := by
  unfold notZero
  cases st with
  | false => exact Val.need h
  | true =>
    dsimp only
    split
    · exact Val.stuck
    · rename_i hne
      exact h fun e => hne (by rw [e]; rfl)
theorem notNeg_val {st : Bool} {y : Int} {T : Nat → Tree V} {sem : Sem Value} (h : ¬ y < 0 → Val P F w n m (T y.toNat) sem) : Val P F w n m (notNeg st y T) sem := by
  unfold notNeg
  cases st with
  | false => exact Val.need fun h0 => h (by omega)
  | true =>
    dsimp only
    split
    · rename_i q; exact h (by simp)
    · exact Val.stuck
theorem atInt_val {st : Bool} {j : Int} {k : Nat} {T : Nat → Tree V} {sem : Sem Value} (h : 0 ≤ j → j < k → Val P F w n m (T j.toNat) sem) : Val P F w n m (atInt st j k T) sem := by
  unfold atInt
  cases st with
  | false => exact Val.need fun h0 => h h0.1 h0.2
  | true =>
    dsimp only
    split
    · rename_i q
      cases hq : Nat.blt q k
      · exact Val.stuck
      · have : q < k := by simpa [Nat.blt_eq] using hq
        exact h (by simp) (by simpa using this)
    · exact Val.stuck
theorem uptoInt_val {st : Bool} {j : Int} {k : Nat} {T : Nat → Tree V} {sem : Sem Value} (h : 0 ≤ j → j ≤ k → Val P F w n m (T j.toNat) sem) : Val P F w n m (uptoInt st j k T) sem := by
  unfold uptoInt
  cases st with
  | false => exact Val.need fun h0 => h h0.1 h0.2
  | true =>
    dsimp only
    split
    · rename_i q
      cases hq : Nat.ble q k
      · exact Val.stuck
      · have : q ≤ k := by simpa [Nat.ble_eq] using hq
        exact h (by simp) (by simpa using this)
    · exact Val.stuck
theorem atIdx_val {st : Bool} {i k : Nat} {T : Tree V} {sem : Sem Value} (h : i < k → Val P F w n m T sem) : Val P F w n m (atIdx st i k T) sem := by
  unfold atIdx
  cases st with
  | false => exact Val.need h
  | true =>
    dsimp only
    cases hq : Nat.blt i k
    · exact Val.stuck
    · exact h (by simpa [Nat.blt_eq] using hq)

/-! ### Numbers -/
theorem evInt_val {op : BinOp} {s s' : Bool} {k : IntKind} {a b : Int} (t : TypeId) (hs : isShift op = false) :
    Val P F w n m (evInt op s s' k a b) (binOp op t (.int k a) (.int k b)) := by
  have e : ∀ k', binOp op t (.int k a) (.int k' b) = if k ≠ k' then stuck "BinOp: operands of different kinds" else
      match op with
      | .add | .sub | .mul => Op.intArith op k a b
      | .quo | .rem => Op.intDiv op k a b
      | .and | .or | .xor | .andNot => Op.intBits op k a b
      | _ => Op.intCmp op a b := by
    intro k'; cases op <;> first | (cases hs; done) | rfl
  rw [e k, if_neg (by simp)]
  cases op <;> first | (cases hs; done) | skip
  case add => exact Val.leaf rfl (by rw [mkInt_eq, R_int])
  case sub => exact Val.leaf rfl (by rw [mkInt_eq, R_int])
  case mul => exact Val.leaf rfl (by rw [mkInt_eq, R_int])
  case quo => exact notZero_val fun h => Val.leaf (by simp [Op.intDiv, h]; rfl) (by rw [mkInt_eq, R_int])
  case rem => exact notZero_val fun h => Val.leaf (by simp [Op.intDiv, h]; rfl) (by rw [mkInt_eq, R_int])
  case and => exact Val.leaf rfl (by rw [mkInt_eq, R_int])
  case or => exact Val.leaf rfl (by rw [mkInt_eq, R_int])
  case xor => exact Val.leaf rfl (by rw [mkInt_eq, R_int])
  case andNot => exact Val.leaf rfl (by rw [mkInt_eq, R_int])
  all_goals exact Val.leaf rfl (by rw [mkBool_eq, R_bool])
theorem evShift_val {op : BinOp} {s s' : Bool} {k k' : IntKind} {a b : Int} (t : TypeId) (hs : isShift op = true) :
    Val P F w n m (evShift op s s' k a b) (binOp op t (.int k a) (.int k' b)) := by
  cases op <;> first | (cases hs; done) | skip
  · exact notNeg_val fun h => Val.leaf (by show (Op.shift .shl k a k' b).run P w = _; simp only [Op.shift, if_neg h]; rfl) (by rw [mkInt_eq, R_int])
  · exact notNeg_val fun h => Val.leaf (by show (Op.shift .shr k a k' b).run P w = _; simp only [Op.shift, if_neg h]; rfl) (by rw [mkInt_eq, R_int])

/-! ### A part of a row -/
theorem tyAgg_run {t : TypeId} {b : Bool} (h : tyAgg P t = some b) : (isAgg t).run P w = .ok b w := by
  unfold tyAgg at h
  unfold isAgg
  cases hu : P.underlying t with
  | none => rw [hu] at h; cases h
  | some d =>
    rw [hu] at h
    simp only [Sem.run_bind, run_underlying hu, Result.andThen_ok]
    cases d <;> simp_all <;> rfl
theorem tySize_run {t : TypeId} {z : Nat} (h : tySize P t = some z) : (sizeOf t).run P w = .ok z w := by
  unfold tySize at h
  cases hi : P.info? t with
  | none => rw [hi] at h; cases h
  | some i => rw [hi] at h; injection h with h; subst h; rw [run_sizeOf w hi]; simp [Program.cellsOf, hi]
theorem R_agg {cs : V} {x : Value} : R F w (.agg cs) n m x ↔ ∃ xs, x = .agg xs ∧ RL F w cs n m xs.toList := by simp only [R]

/-- A part of a row of cells, as the model has it. -/
theorem partOf_list {t : TypeId} {cs : V} {o : Nat} {v : V} {xs : List Value} (h : partOf P t cs o = some v) (hr : RL F w cs n m xs) :
    (tyAgg P t = some true ∧ ∃ z, tySize P t = some z ∧ o + z ≤ xs.length ∧ R F w v n m (.agg ((xs.drop o).take z).toArray)) ∨
    (tyAgg P t = some false ∧ ∃ x, xs[o]? = some x ∧ R F w v n m x) := by
  unfold partOf at h
  cases ha : tyAgg P t with
  | none => rw [ha] at h; cases h
  | some b =>
    rw [ha] at h
    cases b with
    | true =>
      dsimp only at h
      cases hz : tySize P t with
      | none => rw [hz] at h; cases h
      | some z =>
        rw [hz] at h
        dsimp only at h
        rw [RL_len cs xs hr] at h
        cases hle : Nat.ble (o + z) xs.length
        · rw [hle] at h; cases h
        · rw [hle] at h
          injection h with h
          subst h
          refine .inl ⟨rfl, z, rfl, Nat.le_of_ble_eq_true hle, ?_⟩
          rw [R_agg]
          exact ⟨_, rfl, RL_take _ _ (RL_drop cs xs hr o) z⟩
    | false =>
      dsimp only at h
      rw [RL_len cs xs hr] at h
      cases hle : Nat.blt o xs.length
      · rw [hle] at h; cases h
      · rw [hle] at h
        injection h with h
        subst h
        have hlt : o < xs.length := by simpa [Nat.blt_eq] using hle
        exact .inr ⟨rfl, xs[o], List.getElem?_eq_getElem hlt, RL_nth cs xs hr o _ (List.getElem?_eq_getElem hlt)⟩
theorem partOf_run {t : TypeId} {cs : V} {o : Nat} {v : V} {xs : Array Value} (h : partOf P t cs o = some v) (hr : RL F w cs n m xs.toList) :
    ∃ x, (part t xs o).run P w = .ok x w ∧ R F w v n m x := by
  rcases partOf_list h hr with ⟨ha, z, hz, hle, hv⟩ | ⟨ha, x, hx, hv⟩
  · refine ⟨_, ?_, hv⟩
    unfold part
    simp only [Sem.run_bind, tyAgg_run ha, Result.andThen_ok, if_true, tySize_run hz]
    have e : xs.extract o (o + z) = ((xs.toList.drop o).take z).toArray := by
      apply Array.ext'
      simp [Array.toList_extract, List.extract_eq_take_drop]
    rw [e]; rfl
  · refine ⟨x, ?_, hv⟩
    unfold part
    have hx' : xs[o]? = some x := by simpa using hx
    simp only [Sem.run_bind, tyAgg_run ha, Result.andThen_ok, Bool.false_eq_true, if_false, hx']
    rfl
theorem ofOpt_val {o : Option V} {sem : Sem Value} (h : ∀ v, o = some v → ∃ x, sem.run P w = .ok x w ∧ R F w v n m x) : Val P F w n m (.ofOpt o) sem := by
  cases o with
  | none => exact Val.stuck
  | some v => obtain ⟨x, hx, hv⟩ := h v rfl; exact Val.leaf hx hv

theorem evField_val {t : TypeId} {a : V} {x : Value} {f : Nat} (h : R F w a n m x) : Val P F w n m (evField P t a f) (Instr.field t x f) := by
  unfold evField
  cases hu : P.underlying t with
  | none => exact Val.stuck
  | some d =>
    cases d <;> try exact Val.stuck
    rename_i fields
    dsimp only
    cases hf : fields[f]? with
    | none => exact Val.stuck
    | some fd =>
      dsimp only
      cases a <;> try exact Val.stuck
      rename_i cs
      rw [R_agg] at h
      obtain ⟨xs, rfl, hr⟩ := h
      refine ofOpt_val fun v hv => ?_
      obtain ⟨x, hx, hR⟩ := partOf_run hv hr
      refine ⟨x, ?_, hR⟩
      simp only [Instr.field, Sem.run_bind, run_underlying hu, Result.andThen_ok, hf, asAgg, Sem.run_pure, hx]

theorem evExtract_val {a : V} {x : Value} {i : Nat} (h : R F w a n m x) : Val P F w n m (evExtract a i) (Instr.extract x i) := by
  cases a <;> try exact Val.stuck
  rename_i vs
  simp only [R] at h
  obtain ⟨xs, rfl, hr⟩ := h
  show Val P F w n m (bif Nat.blt i vs.len then .leaf (vs.nth i) else .stuck) _
  rw [RL_len vs _ hr]
  cases hle : Nat.blt i xs.toList.length
  · exact Val.stuck
  · have hlt : i < xs.toList.length := by simpa [Nat.blt_eq] using hle
    have hx := List.getElem?_eq_getElem hlt
    refine Val.leaf (x := xs.toList[i]) ?_ (RL_nth vs _ hr i _ hx)
    have hx' : xs[i]? = some xs.toList[i] := by simp
    simp only [Instr.extract, hx', Sem.run_pure]

theorem R_ptr {st : Bool} {b es i o : Nat} {x : Value} : R F w (.ptr st b es i o) n m x ↔ b < n ∧ ∃ B, x = .pointer (some ⟨B, i * es + o, none⟩) ∧ m b = some B := by simp only [R]
/-- What an abstract row of elements reads as. -/
def RRow (F : Nat → Prop) (w : World) (es k : Nat) (get : Nat → V) (B off : Nat) : Prop :=
  F B ∧ ∃ c el fr, w.heap[B]? = some (.cells c el fr) ∧ ∀ j, j < k → ∃ xs, RL F w (get j) 0 (fun _ => none) xs ∧ xs.length = es ∧ ∀ q, q < es → c[off + j * es + q]? = xs[q]?
theorem R_rptr {st : Bool} {es k : Nat} {get : Nat → V} {i o : Nat} {x : Value} :
    R F w (.rptr st es k get i o) n m x ↔ i < k ∧ ∃ B off, x = .pointer (some ⟨B, off + i * es + o, none⟩) ∧ RRow F w es k get B off := by simp only [R, RRow]
theorem R_rsl {st : Bool} {es k : Nat} {get : Nat → V} {x : Value} :
    R F w (.rsl st es k get) n m x ↔ ∃ a cap, x = .slice a k cap ∧ k ≤ cap ∧ (k = 0 ∨ ∃ B off, a = some ⟨B, off, none⟩ ∧ RRow F w es k get B off) := by simp only [R, RRow]
theorem R_osp {F : Nat → Prop} {w : World} {n : Nat} {m : Nat → Option Nat} {x : Value} {st : Bool} {b es i k c0 : Nat} :
    R F w (.osp st b es i k c0) n m x ↔ b < n ∧ ∃ a cap, x = .slice a k cap ∧ k ≤ c0 ∧ c0 ≤ cap ∧ (cap = 0 ∨ ∃ B c el fr, a = some ⟨B, i * es, none⟩ ∧ m b = some B ∧ w.heap[B]? = some (.cells c el fr) ∧ (i + cap) * es ≤ c.size) := by
  simp only [R]
theorem R_esl {F : Nat → Prop} {w : World} {n : Nat} {m : Nat → Option Nat} {x : Value} {nn : Bool} {es : Nat} :
    R F w (.esl nn es) n m x ↔ ∃ a, x = .slice a 0 0 ∧ (nn = true → a ≠ none) := by
  simp only [R]
theorem R_osl {st : Bool} {b es i k : Nat} {x : Value} :
    R F w (.osl st b es i k) n m x ↔ b < n ∧ ∃ a cap, x = .slice a k cap ∧ k ≤ cap ∧ (cap = 0 ∨ ∃ B c el fr, a = some ⟨B, i * es, none⟩ ∧ m b = some B ∧ w.heap[B]? = some (.cells c el fr) ∧ (i + cap) * es ≤ c.size) := by simp only [R]

end
end Go.Fw
