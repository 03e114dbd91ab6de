/- Addresses, loads, slices, lengths, tests of likeness, and structs made: the evaluator's answer stands for the model's. -/
import Derived.Test.YtpeekgekmjldlaaDoorGwE
namespace Go.Fw

section
variable {P : Program} {F : Nat → Prop} {w : World} {n : Nat} {m : Nat → Option Nat}

theorem R_ptr {st : Bool} {b es i o : Nat} {x : Value} : R F w (.ptr st b es i o) n m x ↔ b < n ∧ ∃ B, x = .pointer (some ⟨B, i * es + o, none⟩) ∧ m b = some B := by simp only [R]
/-- What an abstract row of elements reads as. -/
def RRow (F : Nat → Prop) (w : World) (es k : Nat) (get : Nat → V) (B off : Nat) : Prop :=
  F B ∧ ∃ c el fr, w.heap[B]? = some (.cells c el fr) ∧ ∀ j, j < k → ∃ xs, RL F w (get j) 0 (fun _ => none) xs ∧ xs.length = es ∧ ∀ q, q < es → c[off + j * es + q]? = xs[q]?
theorem R_rptr {st : Bool} {es k : Nat} {get : Nat → V} {i o : Nat} {x : Value} :
    R F w (.rptr st es k get i o) n m x ↔ i < k ∧ ∃ B off, x = .pointer (some ⟨B, off + i * es + o, none⟩) ∧ RRow F w es k get B off := by simp only [R, RRow]
theorem R_rsl {st : Bool} {es k : Nat} {get : Nat → V} {x : Value} :
    R F w (.rsl st es k get) n m x ↔ ∃ a cap, x = .slice a k cap ∧ k ≤ cap ∧ (k = 0 ∨ ∃ B off, a = some ⟨B, off, none⟩ ∧ RRow F w es k get B off) := by simp only [R, RRow]
theorem R_osl {st : Bool} {b es i k : Nat} {x : Value} :
    R F w (.osl st b es i k) n m x ↔ b < n ∧ ∃ a cap, x = .slice a k cap ∧ k ≤ cap ∧ (cap = 0 ∨ ∃ B c el fr, a = some ⟨B, i * es, none⟩ ∧ m b = some B ∧ w.heap[B]? = some (.cells c el fr) ∧ (i + cap) * es ≤ c.size) := by simp only [R]

theorem add_plain (B o k : Nat) : Addr.add ⟨B, o, none⟩ k = ⟨B, o + k, none⟩ := by
  unfold Addr.add
  split
  · rename_i h; subst h; rfl
  · rfl

theorem evNilCheck_val {a : V} {x : Value} (h : R F w a n m x) :
    ∀ Q : V → Prop, (evNilCheck a).holds P Q → Q a ∧ (x ≠ .pointer none ∧ x ≠ .nilIface ∧ x ≠ .nilFunc ∧ ∀ nm f c, x ≠ .func (.method nm) f c) := by
  intro Q hq
  cases a <;> try exact hq.elim
  · rename_i st b es i o
    rw [R_ptr] at h
    obtain ⟨_, B, rfl, _⟩ := h
    exact ⟨hq, by simp, by simp, by simp, by simp⟩
  · rw [R_rptr] at h
    obtain ⟨_, B, off, rfl, _⟩ := h
    exact ⟨hq, by simp, by simp, by simp, by simp⟩
  · rename_i f first cap
    cases f <;> try exact hq.elim
    simp only [R] at h
    obtain ⟨xs, ys, rfl, _⟩ := h
    exact ⟨hq, by simp, by simp, by simp, by simp⟩

theorem evFieldAddr_val {s : TypeId} {a : V} {x : Value} {f : Nat} (h : R F w a n m x) :
    Val P F w n m (evFieldAddr P s a f) (Instr.fieldAt s x f) := by
  unfold evFieldAddr
  cases ho : fieldOff P s f with
  | none => exact Val.stuck
  | some r =>
    obtain ⟨off, ft⟩ := r
    dsimp only
    unfold fieldOff at ho
    cases hu : P.underlying s with
    | none => rw [hu] at ho; cases ho
    | some d =>
      rw [hu] at ho
      cases d <;> try (cases ho; done)
      rename_i fields
      dsimp only at ho
      cases hf : fields[f]? with
      | none => rw [hf] at ho; cases ho
      | some fd =>
        rw [hf] at ho
        dsimp only at ho
        split at ho
        · rename_i z hz
          injection ho with ho
          injection ho with h1 h2
          subst h1
          have hrun : ∀ B o, (Instr.fieldAt s (.pointer (some ⟨B, o, none⟩)) f).run P w = .ok (.pointer (some ⟨B, o + fd.offset, none⟩)) w := by
            intro B o
            simp only [Instr.fieldAt, Sem.run_bind, run_underlying hu, Result.andThen_ok, hf, Instr.sureAddr, Sem.run_pure, fieldPlace, tySize_run hz]
            rw [if_neg (by omega)]
            simp only [Sem.run_pure, Result.andThen_ok, add_plain]
          cases a <;> try exact Val.stuck
          · rename_i st b es i o
            rw [R_ptr] at h
            obtain ⟨hb, B, rfl, hB⟩ := h
            refine Val.leaf (hrun _ _) ?_
            rw [R_ptr]
            exact ⟨hb, B, by simp only [Nat.add_assoc], hB⟩
          · rw [R_rptr] at h
            obtain ⟨hi, B, o', rfl, hrow⟩ := h
            refine Val.leaf (hrun _ _) ?_
            rw [R_rptr]
            exact ⟨hi, B, o', by simp only [Nat.add_assoc], hrow⟩
        · cases ho

theorem evIndexAddr_val {t : TypeId} {a ia : V} {x ix : Value} (h : R F w a n m x) (hi : R F w ia n m ix) :
    Val P F w n m (evIndexAddr P t a ia) (Instr.indexAt t x ix) := by
  unfold evIndexAddr
  cases ia <;> try exact Val.stuck
  rename_i s k j
  rw [R_int] at hi
  subst hi
  dsimp only
  cases hu : P.underlying t with
  | none => exact Val.stuck
  | some d =>
    cases d <;> try exact Val.stuck
    · rename_i e
      dsimp only
      cases hz : tySize P e with
      | none => exact Val.stuck
      | some z =>
        dsimp only
        have hrun : ∀ (B o len cap : Nat), 0 ≤ j → j < len → (Instr.indexAt t (.slice (some ⟨B, o, none⟩) len cap) (.int k j)).run P w = .ok (.pointer (some ⟨B, o + j.toNat * z, none⟩)) w := by
          intro B o len cap h1 h2
          simp only [Instr.indexAt, asIntOf, Sem.run_bind, Sem.run_pure, run_underlying hu, Result.andThen_ok]
          rw [if_pos ⟨h1, h2⟩]
          simp only [Sem.run_bind, tySize_run hz, Result.andThen_ok, Sem.run_pure, add_plain]
        cases a <;> try exact Val.stuck
        · rename_i st es len get
          dsimp only
          cases he : Nat.beq z es
          · exact Val.stuck
          · have he' : z = es := Nat.eq_of_beq_eq_true he
            subst he'
            refine atInt_val fun h1 h2 => ?_
            rw [R_rsl] at h
            obtain ⟨a, cap, rfl, hc, h⟩ := h
            rcases h with h | ⟨B, off, rfl, hrow⟩
            · omega
            · refine Val.leaf (hrun _ _ _ _ h1 h2) ?_
              rw [R_rptr]
              exact ⟨by omega, B, off, rfl, hrow⟩
        · rename_i st b es i len
          dsimp only
          cases he : Nat.beq z es
          · exact Val.stuck
          · have he' : z = es := Nat.eq_of_beq_eq_true he
            subst he'
            refine atInt_val fun h1 h2 => ?_
            rw [R_osl] at h
            obtain ⟨hb, a, cap, rfl, hc, h⟩ := h
            rcases h with h | ⟨B, _, _, _, rfl, hB, _⟩
            · omega
            · refine Val.leaf (hrun _ _ _ _ h1 h2) ?_
              rw [R_ptr]
              exact ⟨hb, B, by simp only [Nat.add_mul, Nat.add_zero], hB⟩
    · rename_i len e
      dsimp only
      cases hz : tySize P e with
      | none => exact Val.stuck
      | some z =>
        dsimp only
        cases s with
        | false => exact Val.stuck
        | true =>
          dsimp only
          refine atInt_val fun h1 h2 => ?_
          have hrun : ∀ (B o : Nat), (Instr.indexAt t (.pointer (some ⟨B, o, none⟩)) (.int k j)).run P w = .ok (.pointer (some ⟨B, o + j.toNat * z, none⟩)) w := by
            intro B o
            simp only [Instr.indexAt, asIntOf, Sem.run_bind, Sem.run_pure, run_underlying hu, Result.andThen_ok, Instr.sureAddr]
            rw [if_pos ⟨h1, h2⟩]
            simp only [Sem.run_bind, tySize_run hz, Result.andThen_ok, Sem.run_pure, add_plain]
          cases a <;> try exact Val.stuck
          · rename_i st b es i o
            rw [R_ptr] at h
            obtain ⟨hb, B, rfl, hB⟩ := h
            refine Val.leaf (hrun _ _) ?_
            rw [R_ptr]
            exact ⟨hb, B, by simp only [Nat.add_assoc], hB⟩
          · rw [R_rptr] at h
            obtain ⟨hi, B, o', rfl, hrow⟩ := h
            refine Val.leaf (hrun _ _) ?_
            rw [R_rptr]
            exact ⟨hi, B, o', by simp only [Nat.add_assoc], hrow⟩

theorem evIndex_val {t : TypeId} {a ia : V} {x ix : Value} (h : R F w a n m x) (hi : R F w ia n m ix) : Val P F w n m (evIndex P t a ia) (Instr.index t x ix) := by
  unfold evIndex
  cases ia <;> try exact Val.stuck
  rename_i s k j
  rw [R_int] at hi
  subst hi
  dsimp only
  cases hu : P.underlying t with
  | none => exact Val.stuck
  | some d =>
    cases d <;> try exact Val.stuck
    · dsimp only
      cases a <;> try exact Val.stuck
      rename_i st l
      dsimp only
      refine atInt_val fun h1 h2 => ?_
      rw [R_str] at h
      subst h
      have hlt : j.toNat < l.length := by omega
      refine Val.leaf (x := .int .u8 (l.getD j.toNat 0).toNat) ?_ (by rw [mkInt_eq, R_int])
      have hb : (ByteArray.mk l.toArray)[j.toNat]? = some (l.getD j.toNat 0) := by
        have hs : (ByteArray.mk l.toArray).size = l.length := by simp [ByteArray.size]
        rw [getElem?_pos _ _ (by rw [hs]; exact hlt)]
        congr 1
        simp only [List.getD, List.getElem?_eq_getElem hlt, Option.getD_some]
        rfl
      simp only [Instr.index, asIntOf, Sem.run_bind, Sem.run_pure, run_underlying hu, Result.andThen_ok, if_pos h1, hb]
    · rename_i len e
      dsimp only
      cases hz : tySize P e with
      | none => exact Val.stuck
      | some z =>
        dsimp only
        cases s with
        | false => exact Val.stuck
        | true =>
          dsimp only
          refine atInt_val fun h1 h2 => ?_
          cases a <;> try exact Val.stuck
          rename_i cs
          rw [R_agg] at h
          obtain ⟨xs, rfl, hr⟩ := h
          refine ofOpt_val fun v hv => ?_
          obtain ⟨x, hx, hR⟩ := partOf_run hv hr
          refine ⟨x, ?_, hR⟩
          simp only [Instr.index, asIntOf, Sem.run_bind, Sem.run_pure, run_underlying hu, Result.andThen_ok]
          rw [if_pos ⟨h1, h2⟩]
          simp only [Sem.run_bind, tySize_run hz, Result.andThen_ok, hx]

end
end Go.Fw
