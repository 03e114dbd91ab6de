/- Addresses, loads, slices, lengths, tests of likeness, and structs made: the evaluator's answer stands for the model's. -/
import Derived.Test.YtkkojdcchnailaaGreatDoorQGwE
import Derived.Test.YtkkojdcchnailaaGreatDoorQGwFm
namespace Go.Fw

section
variable {P : Program} {F : Nat → Prop} {w : World} {n : Nat} {m : Nat → Option Nat}

theorem add_plain (B o k : Nat) : Addr.add ⟨B, o, none⟩ k = ⟨B, o + k, none⟩ := by
  unfold Addr.add
  split
  · rename_i h; subst h; rfl
  · rfl

theorem evNilCheck_val {a : V} {x : Value} (h : R F w a n m x) :
    ∀ Q : V → Prop, (evNilCheck a).holds P Q → Q a ∧ (x ≠ .pointer none ∧ x ≠ .nilIface ∧ x ≠ .nilFunc ∧ ∀ nm f c, x ≠ .func (.method nm) f c) := by
  intro Q hq
  cases a <;> try exact hq.elim
  · rename_i st b es i o
    rw [R_ptr] at h
    obtain ⟨_, B, rfl, _⟩ := h
    exact ⟨hq, by simp, by simp, by simp, by simp⟩
  · rw [R_rptr] at h
    obtain ⟨_, B, off, rfl, _⟩ := h
    exact ⟨hq, by simp, by simp, by simp, by simp⟩
  · rename_i f first cap
    cases f <;> try exact hq.elim
    simp only [R] at h
    obtain ⟨xs, ys, rfl, _⟩ := h
    exact ⟨hq, by simp, by simp, by simp, by simp⟩

theorem evFieldAddr_val {s : TypeId} {a : V} {x : Value} {f : Nat} (h : R F w a n m x) :
    Val P F w n m (evFieldAddr P s a f) (Instr.fieldAt s x f) := by
  unfold evFieldAddr
  cases ho : fieldOff P s f with
  | none => exact Val.stuck
  | some r =>
    obtain ⟨off, ft⟩ := r
    dsimp only
    unfold fieldOff at ho
    cases hu : P.underlying s with
    | none => rw [hu] at ho; cases ho
    | some d =>
      rw [hu] at ho
      cases d <;> try (cases ho; done)
      rename_i fields
      dsimp only at ho
      cases hf : fields[f]? with
      | none => rw [hf] at ho; cases ho
      | some fd =>
        rw [hf] at ho
        dsimp only at ho
        split at ho
        · rename_i z hz
          injection ho with ho
          injection ho with h1 h2
          subst h1
          have hrun : ∀ B o, (Instr.fieldAt s (.pointer (some ⟨B, o, none⟩)) f).run P w = .ok (.pointer (some ⟨B, o + fd.offset, none⟩)) w := by
            intro B o
            simp only [Instr.fieldAt, Sem.run_bind, run_underlying hu, Result.andThen_ok, hf, Instr.sureAddr, Sem.run_pure, fieldPlace, tySize_run hz]
            rw [if_neg (by omega)]
            simp only [Sem.run_pure, Result.andThen_ok, add_plain]
          cases a <;> try exact Val.stuck
          · rename_i st b es i o
            rw [R_ptr] at h
            obtain ⟨hb, B, rfl, hB⟩ := h
            refine Val.leaf (hrun _ _) ?_
            rw [R_ptr]
            exact ⟨hb, B, by simp only [Nat.add_assoc], hB⟩
          · rw [R_rptr] at h
            obtain ⟨hi, B, o', rfl, hrow⟩ := h
            refine Val.leaf (hrun _ _) ?_
            rw [R_rptr]
            exact ⟨hi, B, o', by simp only [Nat.add_assoc], hrow⟩
        · cases ho

theorem allB_at {f : Nat → Bool} : ∀ {k : Nat}, allB k f = true → ∀ j, j < k → f j = true := by
  intro k
  induction k with
  | zero => intro _ j hj; omega
  | succ k ih =>
    intro h j hj
    have e : allB (k + 1) f = (allB k f && f k) := rfl
    rw [e, Bool.and_eq_true] at h
    by_cases e : j = k
    · subst e; exact h.2
    · exact ih h.1 j (by omega)
/-- An array that lies in a row that is only read, element for element. -/
theorem view_rows {st : Bool} {es n' : Nat} {get : Nat → V} {i o : Nat} {x : Value} (h : R F w (.rptr st es n' get i o) n m x) {len z : Nat} (hle : o + len * z ≤ (get i).len) :
    ∃ B off, x = .pointer (some ⟨B, off, none⟩) ∧ F B ∧ ∃ c el fr, w.heap[B]? = some (.cells c el fr) ∧
      ∀ q, q < len → ∃ xs, RL F w (elemAt (get i) o z q) 0 (fun _ => none) xs ∧ xs.length = z ∧ ∀ p, p < z → c[off + q * z + p]? = xs[p]? := by
  rw [R_rptr] at h
  obtain ⟨hi, B, off, rfl, hF, c, el, fr, hc, hrow⟩ := h
  obtain ⟨xs0, h0, hl, hq⟩ := hrow i hi
  rw [RL_len _ _ h0, hl] at hle
  refine ⟨B, off + i * es + o, rfl, hF, c, el, fr, hc, fun q hqn => ⟨(xs0.drop (o + q * z)).take z, RL_take _ _ (RL_drop _ _ h0 _) _, ?_, fun p hp => ?_⟩⟩
  · have hmul : (q + 1) * z ≤ len * z := Nat.mul_le_mul_right _ hqn
    rw [Nat.add_mul, Nat.one_mul] at hmul
    rw [List.length_take, List.length_drop, hl]
    omega
  · have hmul : (q + 1) * z ≤ len * z := Nat.mul_le_mul_right _ hqn
    rw [Nat.add_mul, Nat.one_mul] at hmul
    rw [List.getElem?_take_of_lt hp, List.getElem?_drop, ← hq (o + q * z + p) (by omega)]
    congr 1
    omega
theorem selR_RL {row : Nat → V} {j : Nat} {F : Nat → Prop} {w : World} {n : Nat} {m : Nat → Option Nat} : ∀ (k : Nat), selOk row j (k + 1) = true → j ≤ k → ∀ xs, RL F w (row j) n m xs → RL F w (selR row j (k + 1)) n m xs := by
  intro k
  induction k with
  | zero => intro _ hj xs h; have : j = 0 := by omega
            subst this; exact h
  | succ k ih =>
    intro hok hj xs h
    have e : selR row j (k + 1 + 1) = mergeV (Nat.beq j (k + 1)) (row (k + 1)) (selR row j (k + 1)) := rfl
    have hsame : sameRow (row (k + 1)) (selR row j (k + 1)) = true := allB_at hok k (by show k < k + 1 + 1 - 1; omega)
    rw [e]
    refine (mergeV_R (Nat.beq j (k + 1)) (row (k + 1)) (selR row j (k + 1)) n m).2 hsame xs ?_
    by_cases hjk : j = k + 1
    · subst hjk; rw [Nat.beq_refl]; exact h
    · have : Nat.beq j (k + 1) = false := by
        cases hb : Nat.beq j (k + 1)
        · rfl
        · exact absurd (Nat.eq_of_beq_eq_true hb) hjk
      rw [this]
      refine ih ?_ (by omega) xs h
      have e2 : selOk row j (k + 1 + 1) = (selOk row j (k + 1) && sameRow (row (k + 1)) (selR row j (k + 1))) := rfl
      rw [e2, Bool.and_eq_true] at hok
      exact hok.1
theorem selV_R {row : Nat → V} {j : Nat} {F : Nat → Prop} {w : World} {n : Nat} {m : Nat → Option Nat} : ∀ (k : Nat), j ≤ k → ∀ x, R F w (row j) n m x → R F w (selV row j (k + 1)) n m x := by
  intro k
  induction k with
  | zero => intro hj x h; have : j = 0 := by omega
            subst this; exact h
  | succ k ih =>
    intro hj x h
    have e : selV row j (k + 1 + 1) = mergeOne (Nat.beq j (k + 1)) (row (k + 1)) (selV row j (k + 1)) := rfl
    rw [e]
    refine mergeOne_R ?_
    by_cases hjk : j = k + 1
    · subst hjk; rw [Nat.beq_refl]; exact h
    · have : Nat.beq j (k + 1) = false := by
        cases hb : Nat.beq j (k + 1)
        · rfl
        · exact absurd (Nat.eq_of_beq_eq_true hb) hjk
      rw [this]
      exact ih (by omega) x h
theorem evIndexAddr_val {t : TypeId} {a ia : V} {x ix : Value} (h : R F w a n m x) (hi : R F w ia n m ix) :
    Val P F w n m (evIndexAddr P t a ia) (Instr.indexAt t x ix) := by
  unfold evIndexAddr
  cases ia <;> try exact Val.stuck
  rename_i s k j
  rw [R_int] at hi
  subst hi
  dsimp only
  cases hu : P.underlying t with
  | none => exact Val.stuck
  | some d =>
    cases d <;> try exact Val.stuck
    · rename_i e
      dsimp only
      cases hz : tySize P e with
      | none => exact Val.stuck
      | some z =>
        dsimp only
        have hrun : ∀ (B o len cap : Nat), 0 ≤ j → j < len → (Instr.indexAt t (.slice (some ⟨B, o, none⟩) len cap) (.int k j)).run P w = .ok (.pointer (some ⟨B, o + j.toNat * z, none⟩)) w := by
          intro B o len cap h1 h2
          simp only [Instr.indexAt, asIntOf, Sem.run_bind, Sem.run_pure, run_underlying hu, Result.andThen_ok]
          rw [if_pos ⟨h1, h2⟩]
          simp only [Sem.run_bind, tySize_run hz, Result.andThen_ok, Sem.run_pure, add_plain]
        cases a <;> try exact Val.stuck
        · rename_i st es len get
          dsimp only
          cases he : Nat.beq z es
          · exact Val.stuck
          · have he' : z = es := Nat.eq_of_beq_eq_true he
            subst he'
            refine atInt_val fun h1 h2 => ?_
            rw [R_rsl] at h
            obtain ⟨a, cap, rfl, hc, h⟩ := h
            rcases h with h | ⟨B, off, rfl, hrow⟩
            · omega
            · refine Val.leaf (hrun _ _ _ _ h1 h2) ?_
              rw [R_rptr]
              exact ⟨by omega, B, off, rfl, hrow⟩
        · rename_i st b es i len
          dsimp only
          cases he : Nat.beq z es
          · exact Val.stuck
          · have he' : z = es := Nat.eq_of_beq_eq_true he
            subst he'
            refine atInt_val fun h1 h2 => ?_
            rw [R_osl] at h
            obtain ⟨hb, a, cap, rfl, hc, h⟩ := h
            rcases h with h | ⟨B, _, _, _, rfl, hB, _⟩
            · omega
            · refine Val.leaf (hrun _ _ _ _ h1 h2) ?_
              rw [R_ptr]
              exact ⟨hb, B, by simp only [Nat.add_mul, Nat.add_zero], hB⟩
    · rename_i len e
      dsimp only
      cases hz : tySize P e with
      | none => exact Val.stuck
      | some z =>
        dsimp only
        cases s with
        | false =>
          dsimp only
          cases a <;> try exact Val.stuck
          rename_i st es n' get i o
          dsimp only
          cases hc : (st && Nat.ble (o + len * z) (get i).len) && selOk (elemAt (get i) o z) j.toNat len
          · exact Val.stuck
          simp only [cond_true]
          refine atInt_val fun h1 h2 => ?_
          simp only [Bool.and_eq_true] at hc
          obtain ⟨B, off, rfl, hF, c, el, fr, hcell, hrow⟩ := view_rows h (Nat.le_of_ble_eq_true hc.1.2)
          have hrun : (Instr.indexAt t (.pointer (some ⟨B, off, none⟩)) (.int k j)).run P w = .ok (.pointer (some ⟨B, off + j.toNat * z, none⟩)) w := by
            simp only [Instr.indexAt, asIntOf, Sem.run_bind, Sem.run_pure, run_underlying hu, Result.andThen_ok, Instr.sureAddr]
            rw [if_pos ⟨h1, h2⟩]
            simp only [Sem.run_bind, tySize_run hz, Result.andThen_ok, Sem.run_pure, add_plain]
          have hjn : j.toNat < len := by omega
          refine Val.leaf hrun ?_
          rw [R_rptr]
          obtain ⟨k, hk⟩ : ∃ k, len = k + 1 := ⟨len - 1, by omega⟩
          obtain ⟨xs, hx, hl, hp⟩ := hrow j.toNat hjn
          refine ⟨by omega, B, off + j.toNat * z, by rw [Nat.zero_mul]; rfl, hF, c, el, fr, hcell, fun q hq => ⟨xs, ?_, hl, fun p hpz => ?_⟩⟩
          · rw [hk] at hc ⊢
            exact selR_RL k hc.2 (by omega) xs hx
          · have : q = 0 := by omega
            subst this
            rw [Nat.zero_mul, Nat.add_zero]
            exact hp p hpz
        | true =>
          dsimp only
          refine atInt_val fun h1 h2 => ?_
          have hrun : ∀ (B o : Nat), (Instr.indexAt t (.pointer (some ⟨B, o, none⟩)) (.int k j)).run P w = .ok (.pointer (some ⟨B, o + j.toNat * z, none⟩)) w := by
            intro B o
            simp only [Instr.indexAt, asIntOf, Sem.run_bind, Sem.run_pure, run_underlying hu, Result.andThen_ok, Instr.sureAddr]
            rw [if_pos ⟨h1, h2⟩]
            simp only [Sem.run_bind, tySize_run hz, Result.andThen_ok, Sem.run_pure, add_plain]
          cases a <;> try exact Val.stuck
          · rename_i st b es i o
            rw [R_ptr] at h
            obtain ⟨hb, B, rfl, hB⟩ := h
            refine Val.leaf (hrun _ _) ?_
            rw [R_ptr]
            exact ⟨hb, B, by simp only [Nat.add_assoc], hB⟩
          · rw [R_rptr] at h
            obtain ⟨hi, B, o', rfl, hrow⟩ := h
            refine Val.leaf (hrun _ _) ?_
            rw [R_rptr]
            exact ⟨hi, B, o', by simp only [Nat.add_assoc], hrow⟩

theorem evIndex_val {t : TypeId} {a ia : V} {x ix : Value} (h : R F w a n m x) (hi : R F w ia n m ix) : Val P F w n m (evIndex P t a ia) (Instr.index t x ix) := by
  unfold evIndex
  cases ia <;> try exact Val.stuck
  rename_i s k j
  rw [R_int] at hi
  subst hi
  dsimp only
  cases hu : P.underlying t with
  | none => exact Val.stuck
  | some d =>
    cases d <;> try exact Val.stuck
    · dsimp only
      cases a <;> try exact Val.stuck
      rename_i st l
      dsimp only
      refine atInt_val fun h1 h2 => ?_
      rw [R_str] at h
      subst h
      have hlt : j.toNat < l.length := by omega
      refine Val.leaf (x := .int .u8 (l.getD j.toNat 0).toNat) ?_ (by rw [mkInt_eq, R_int])
      have hb : (ByteArray.mk l.toArray)[j.toNat]? = some (l.getD j.toNat 0) := by
        have hs : (ByteArray.mk l.toArray).size = l.length := by simp [ByteArray.size]
        rw [getElem?_pos _ _ (by rw [hs]; exact hlt)]
        congr 1
        simp only [List.getD, List.getElem?_eq_getElem hlt, Option.getD_some]
        rfl
      simp only [Instr.index, asIntOf, Sem.run_bind, Sem.run_pure, run_underlying hu, Result.andThen_ok, if_pos h1, hb]
    · rename_i len e
      dsimp only
      cases hz : tySize P e with
      | none => exact Val.stuck
      | some z =>
        dsimp only
        cases s with
        | false =>
          dsimp only
          cases a <;> try exact Val.stuck
          rename_i cs
          dsimp only
          cases hc : Nat.blt 0 len && allB len fun k => (partOf P e cs (k * z)).isSome
          · exact Val.stuck
          simp only [cond_true]
          simp only [Bool.and_eq_true] at hc
          refine atInt_val fun h1 h2 => ?_
          have hjn : j.toNat < len := by omega
          rw [R_agg] at h
          obtain ⟨xs, rfl, hr⟩ := h
          have hsome := allB_at hc.2 j.toNat hjn
          cases hp : partOf P e cs (j.toNat * z) with
          | none => rw [hp] at hsome; cases hsome
          | some v =>
            obtain ⟨x, hx, hR⟩ := partOf_run hp hr
            refine Val.leaf (x := x) ?_ ?_
            · simp only [Instr.index, asIntOf, Sem.run_bind, Sem.run_pure, run_underlying hu, Result.andThen_ok]
              rw [if_pos ⟨h1, h2⟩]
              simp only [Sem.run_bind, tySize_run hz, Result.andThen_ok, hx]
            · obtain ⟨k, hk⟩ : ∃ k, len = k + 1 := ⟨len - 1, by omega⟩
              rw [hk]
              refine selV_R k (by omega) x ?_
              rw [hp]
              exact hR
        | true =>
          dsimp only
          refine atInt_val fun h1 h2 => ?_
          cases a <;> try exact Val.stuck
          rename_i cs
          rw [R_agg] at h
          obtain ⟨xs, rfl, hr⟩ := h
          refine ofOpt_val fun v hv => ?_
          obtain ⟨x, hx, hR⟩ := partOf_run hv hr
          refine ⟨x, ?_, hR⟩
          simp only [Instr.index, asIntOf, Sem.run_bind, Sem.run_pure, run_underlying hu, Result.andThen_ok]
          rw [if_pos ⟨h1, h2⟩]
          simp only [Sem.run_bind, tySize_run hz, Result.andThen_ok, hx]

end
end Go.Fw
