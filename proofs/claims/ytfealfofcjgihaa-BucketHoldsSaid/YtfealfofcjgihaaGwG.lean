/- Loads; tests of likeness; numbers' and strings' operations; structs and slices made: the evaluator's answer stands for the model's. -/
import Derived.Test.YtfealfofcjgihaaGwF
import Derived.Laws.BytesString
import Derived.Laws.StructEq
import Derived.Laws.Strings
namespace Go.Fw

section
variable {P : Program} {F : Nat → Prop} {w : World} {n : Nat} {m : Nat → Option Nat}

/-! ### Loads -/
theorem loadVar_run {t : TypeId} {cs : V} {o : Nat} {v : V} {xs : List Value} {B off : Nat} {c : Array Value} {el : TypeId} {fr : Nat × Nat}
    (h : partOf P t cs o = some v) (hr : RL F w cs n m xs) (hb : w.heap[B]? = some (.cells c el fr)) (hc : ∀ q, q < xs.length → c[off + q]? = xs[q]?) :
    ∃ x, (loadVar t ⟨B, off + o, none⟩).run P w = .ok x w ∧ R F w v n m x := by
  rcases partOf_list h hr with ⟨ha, z, hz, hle, hv⟩ | ⟨ha, x, hx, hv⟩
  · refine ⟨_, ?_, hv⟩
    unfold loadVar
    simp only [Sem.run_bind, tyAgg_run ha, Result.andThen_ok, if_true, tySize_run hz]
    have hl : ((xs.drop o).take z).length = z := by simp; omega
    have := run_loadCells_list (P := P) w ⟨B, off + o, none⟩ ((xs.drop o).take z) (fun j v hj => by
      have hjz : j < z := by
        rcases Nat.lt_or_ge j z with h | h
        · exact h
        · rw [List.getElem?_eq_none (by omega)] at hj; cases hj
      rw [List.getElem?_take_of_lt hjz, List.getElem?_drop] at hj
      rw [add_plain]
      simp only [World.cell?, hb, Option.isSome_none, Bool.false_eq_true, if_false]
      rw [Nat.add_assoc, hc (o + j) (by omega)]
      exact hj)
    rw [hl] at this
    rw [this]; rfl
  · refine ⟨x, ?_, hv⟩
    unfold loadVar
    simp only [Sem.run_bind, tyAgg_run ha, Result.andThen_ok, Bool.false_eq_true, if_false]
    have ho : o < xs.length := by
      rcases Nat.lt_or_ge o xs.length with h | h
      · exact h
      · rw [List.getElem?_eq_none h] at hx; cases hx
    have hcell : w.cell? ⟨B, off + o, none⟩ = some x := by
      simp only [World.cell?, hb, Option.isSome_none, Bool.false_eq_true, if_false]
      rw [hc o ho]; exact hx
    simp only [load, Sem.run, hcell]

theorem evLoad_val {base : Nat} {h : Nat → Blk} {t : TypeId} {a : V} {x : Value} (hr : HR base m F h n w) (ha : R F w a n m x) : Val P F w n m (evLoad P h t a) (Instr.loadAt t x) := by
  unfold evLoad
  cases a <;> try exact Val.stuck
  · rename_i st b es i o
    rw [R_ptr] at ha
    obtain ⟨hb, B, rfl, hB⟩ := ha
    have hblk := hr.blk b hb
    dsimp only
    cases hh : h b with
    | none => exact Val.stuck
    | any => exact Val.stuck
    | var cs =>
      rw [hh] at hblk
      obtain ⟨B', xs, el, ys, zs, hm, hcell, hsp, hrow⟩ := hblk
      obtain rfl : B = B' := by rw [hB] at hm; injection hm
      dsimp only
      cases st with
      | false => exact Val.stuck
      | true =>
        refine ofOpt_val fun v hv => ?_
        obtain ⟨x, hx, hR⟩ := loadVar_run (off := 0) hv hrow hcell (fun q hq => by rw [Nat.zero_add]; exact prefix_get hsp hq)
        refine ⟨x, ?_, hR⟩
        simp only [Instr.loadAt, Instr.sureAddr, Sem.run_bind, Sem.run_pure, Result.andThen_ok]
        rw [Nat.zero_add] at hx
        exact hx
    | arr es' k get =>
      rw [hh] at hblk
      dsimp only
      cases he : Nat.beq es es'
      · exact Val.stuck
      · obtain rfl := Nat.eq_of_beq_eq_true he
        refine atIdx_val fun hi => ofOpt_val fun v hv => ?_
        obtain ⟨B', c, el, hm, hcell, hsz, hrow⟩ := hblk.resolve_left (fun h0 => by have := h0.1; omega)
        obtain rfl : B = B' := by rw [hB] at hm; injection hm
        obtain ⟨xs, h1, h2, h3⟩ := hrow i hi
        obtain ⟨x, hx, hR⟩ := loadVar_run (off := i * es) hv h1 hcell (fun q hq => h3 q (by omega))
        refine ⟨x, ?_, (R_mono (Sizes.refl w) (fun _ h => h) (fun _ _ => rfl) v 0 n _ m (Nat.zero_le _) (fun b hb => absurd hb (Nat.not_lt_zero _))).1 x hR⟩
        simp only [Instr.loadAt, Instr.sureAddr, Sem.run_bind, Sem.run_pure, Result.andThen_ok]
        exact hx
  · rename_i st es k get i o
    rw [R_rptr] at ha
    obtain ⟨hi, B, off, rfl, hF, c, el, fr, hcell, hrow⟩ := ha
    refine ofOpt_val fun v hv => ?_
    obtain ⟨xs, h1, h2, h3⟩ := hrow i hi
    obtain ⟨x, hx, hR⟩ := loadVar_run (off := off + i * es) hv h1 hcell (fun q hq => h3 q (by omega))
    refine ⟨x, ?_, (R_mono (Sizes.refl w) (fun _ h => h) (fun _ _ => rfl) v 0 n _ m (Nat.zero_le _) (fun b hb => absurd hb (Nat.not_lt_zero _))).1 x hR⟩
    simp only [Instr.loadAt, Instr.sureAddr, Sem.run_bind, Sem.run_pure, Result.andThen_ok]
    exact hx

/-! ### Likeness -/
theorem evEq_run : ∀ (d : Nat),
    (∀ (t : TypeId) (a b : V) (s r : Bool) (D : Nat) (x y : Value), evEq P d t a b = some (s, r) → R F w a n m x → R F w b n m y → (Op.equalIn (d + D) t x y).run P w = .ok r w) ∧
    (∀ (fs : List Field) (a b : V) (s r : Bool) (D : Nat) (xs ys : Array Value), evEqFields P d fs a b = some (s, r) → RL F w a n m xs.toList → RL F w b n m ys.toList →
      (Op.eqFields (d + D) xs ys fs).run P w = .ok r w) := by
  intro d
  induction d with
  | zero => exact ⟨(fun t a b s r D x y h => by unfold evEq at h; cases h), (fun fs a b s r D xs ys h => by unfold evEqFields at h; cases h)⟩
  | succ d ih =>
    refine ⟨fun t a b s r D x y h hx hy => ?_, fun fs a b s r D xs ys h hx hy => ?_⟩
    · rw [Nat.add_right_comm]
      unfold evEq at h
      cases hu : P.underlying t with
      | none => rw [hu] at h; cases h
      | some dd =>
        rw [hu] at h
        cases dd <;> try (cases h; done)
        · dsimp only at h
          cases a <;> try (cases h; done)
          cases b <;> try (cases h; done)
          injection h with h; injection h with _ h; subst h
          rw [R_bool] at hx hy; subst hx; subst hy
          exact run_equalIn_bool' w _ t _ _ hu
        · dsimp only at h
          cases a <;> try (cases h; done)
          cases b <;> try (cases h; done)
          dsimp only at h
          split at h
          · rename_i hk; subst hk
            injection h with h; injection h with _ h; subst h
            rw [R_int] at hx hy; subst hx; subst hy
            exact run_equalIn_int w _ t _ _ _ _ hu
          · cases h
        · dsimp only at h
          cases a <;> try (cases h; done)
          cases b <;> try (cases h; done)
          injection h with h; injection h with _ h; subst h
          rw [R_str] at hx hy; subst hx; subst hy
          rw [run_equalIn_string w _ t _ _ hu]
          simp only [ByteArray.toList_eq]
        · dsimp only at h
          cases a <;> try (cases h; done)
          cases b <;> try (cases h; done)
          dsimp only at h
          split at h
          · cases h
          · rename_i fields _ _ hp
            rw [R_agg] at hx hy
            obtain ⟨xs, rfl, hx⟩ := hx
            obtain ⟨ys, rfl, hy⟩ := hy
            have hf : P.fieldsOf t = fields := by simp only [Program.fieldsOf, hu]
            rw [run_equalIn_struct w _ t xs ys (by rw [hf]; exact hu) (by simpa using hp), hf]
            exact ih.2 _ _ _ s r D xs ys h hx hy
    · rw [Nat.add_right_comm]
      cases fs with
      | nil => unfold evEqFields at h; injection h with h; injection h with _ h; subst h; simp only [Op.eqFields, Sem.run_pure]
      | cons f fs =>
        unfold evEqFields at h
        split at h
        · cases h
        · rename_i hname
          cases hpa : partOf P f.type a f.offset with
          | none => rw [hpa] at h; cases h
          | some va =>
            rw [hpa] at h
            cases hpb : partOf P f.type b f.offset with
            | none => rw [hpb] at h; cases h
            | some vb =>
              rw [hpb] at h
              dsimp only at h
              obtain ⟨x, hx1, hx2⟩ := partOf_run hpa hx
              obtain ⟨y, hy1, hy2⟩ := partOf_run hpb hy
              cases he : evEq P d f.type va vb with
              | none => rw [he] at h; cases h
              | some r1 =>
                obtain ⟨s1, r1⟩ := r1
                rw [he] at h
                cases hes : evEqFields P d fs a b with
                | none => rw [hes] at h; cases h
                | some r2 =>
                  obtain ⟨s2, r2⟩ := r2
                  rw [hes] at h
                  injection h with h; injection h with _ h; subst h
                  have e1 := ih.1 f.type va vb s1 r1 (D + 1) x y he hx2 hy2
                  have e2 := ih.2 fs a b s2 r2 (D + 1) xs ys hes hx hy
                  rw [← Nat.add_assoc] at e1 e2
                  simp only [Op.eqFields, if_pos hname, Sem.run_bind, hx1, hy1, Result.andThen_ok, e1, Sem.run_ite, e2, Sem.run_pure]
                  cases r1 <;> simp
theorem evEqOp_val {op : BinOp} {t : TypeId} {a b : V} {x y : Value} (hx : R F w a n m x) (hy : R F w b n m y)
    (he : ∀ r, (Op.equalIn 10000 t x y).run P w = .ok r w → (binOp .eql t x y).run P w = .ok (.bool r) w ∧ (binOp .neq t x y).run P w = .ok (.bool (!r)) w) :
    Val P F w n m (evEqOp P op t a b) (binOp op t x y) := by
  unfold evEqOp
  cases h : evEq P 20 t a b with
  | none => exact Val.stuck
  | some r =>
    obtain ⟨s, r⟩ := r
    have e := (evEq_run 20).1 t a b s r 9980 x y h hx hy
    obtain ⟨h1, h2⟩ := he r e
    cases op <;> first
      | exact Val.leaf h1 (by rw [mkBool_eq, R_bool])
      | exact Val.leaf h2 (by rw [mkBool_eq, R_bool])
      | exact Val.stuck
theorem str_toList (a : List UInt8) : (ByteArray.mk a.toArray).toList = a := by rw [ByteArray.toList_eq]
theorem evStr_val {op : BinOp} {s s' : Bool} {a b : List UInt8} (t : TypeId) :
    Val P F w n m (evStr op s s' a b) (binOp op t (.string ⟨a.toArray⟩) (.string ⟨b.toArray⟩)) := by
  have e : binOp op t (.string ⟨a.toArray⟩) (.string ⟨b.toArray⟩) = Op.stringOp op ⟨a.toArray⟩ ⟨b.toArray⟩ := by cases op <;> rfl
  rw [e]
  have hadd : a.length + b.length ≤ 9223372036854775807 → (Op.stringOp .add ⟨a.toArray⟩ ⟨b.toArray⟩).run P w = .ok (.string ⟨(a ++ b).toArray⟩) w := by
    intro hle
    have hs : ∀ l : List UInt8, (ByteArray.mk l.toArray).size = l.length := fun l => by simp [ByteArray.size]
    have hmax : IntKind.i64.max = 9223372036854775807 := by decide
    simp only [Op.stringOp, hs, hmax]
    rw [if_neg (by omega)]
    simp only [Sem.run_pure]
    congr 2
  cases op <;> first
    | exact Val.stuck
    | exact Val.leaf rfl (by rw [mkBool_eq, R_bool, str_toList, str_toList])
    | skip
  unfold evStr
  dsimp only
  cases s && s' with
  | true =>
    dsimp only
    cases hle : Nat.ble (a.length + b.length) 9223372036854775807
    · exact Val.stuck
    · exact Val.leaf (hadd (Nat.le_of_ble_eq_true hle)) (by rw [R_str])
  | false => exact Val.need fun hle => Val.leaf (hadd hle) (by rw [R_str])

/-- A test or a sum of two values, with the guard ahead of it. -/
theorem evBin_val {op : BinOp} {t : TypeId} {a b : V} {x y : Value} {ox oy : Operand} (hx : R F w a n m x) (hy : R F w b n m y) :
    Val P F w n m (evBin P op t a b) (do eqGuard op t ox oy x y; binOp op t x y) := by
  have plain : (∀ z, (eqGuard op t ox oy x y).run P w = .ok z w) → Val P F w n m (evBin P op t a b) (binOp op t x y) →
      Val P F w n m (evBin P op t a b) (do eqGuard op t ox oy x y; binOp op t x y) := by
    intro hg h Q hq
    obtain ⟨v, r, h1, h2, h3⟩ := h Q hq
    exact ⟨v, r, h1, by simp only [Sem.run_bind, hg (), Result.andThen_ok, h2], h3⟩
  have gint : ∀ k a k' b, x = .int k a → y = .int k' b → ∀ z, (eqGuard op t ox oy x y).run P w = .ok z w := by
    intro k a k' b hx hy z; subst hx; subst hy; cases op <;> rfl
  cases a <;> try exact fun _ hq => hq.elim
  · rename_i s k a
    rw [R_int] at hx
    cases b <;> try exact fun _ hq => hq.elim
    rename_i s' k' b
    rw [R_int] at hy
    refine plain (gint _ _ _ _ hx hy) ?_
    subst hx; subst hy
    unfold evBin
    dsimp only
    cases hs : isShift op with
    | true => exact evShift_val t hs
    | false =>
      dsimp only
      split
      · rename_i hk; subst hk; exact evInt_val t hs
      · exact Val.stuck
  · rename_i s a
    have hx0 := hx
    rw [R_bool] at hx
    refine plain (fun z => by subst hx; cases op <;> cases y <;> rfl) ?_
    refine evEqOp_val hx0 hy fun r hr => ?_
    subst hx
    constructor
    · cases y <;> simp only [binOp, Op.equal, Op.maxDepth, Sem.run_bind, hr, Result.andThen_ok, Sem.run_pure]
    · cases y <;> simp only [binOp, Op.equal, Op.maxDepth, Sem.run_bind, hr, Result.andThen_ok, Sem.run_pure]
  · rename_i s a
    rw [R_str] at hx
    cases b <;> try exact fun _ hq => hq.elim
    rename_i s' b
    rw [R_str] at hy
    refine plain (fun z => by subst hx; subst hy; cases op <;> rfl) ?_
    subst hx; subst hy
    exact evStr_val t
  · rename_i cs
    unfold evBin
    dsimp only
    split
    · exact Val.stuck
    · rename_i hgt
      have hgt : P.eqGuardType P.depth t = false := by simpa using hgt
      have hx0 := hx
      rw [R_agg] at hx
      obtain ⟨xs, rfl, _⟩ := hx
      intro Q hq
      have h := evEqOp_val (P := P) (op := op) (t := t) hx0 hy (fun r hr => by
        constructor
        · cases y <;> simp only [binOp, Op.equal, Op.maxDepth, Sem.run_bind, hr, Result.andThen_ok, Sem.run_pure]
        · cases y <;> simp only [binOp, Op.equal, Op.maxDepth, Sem.run_bind, hr, Result.andThen_ok, Sem.run_pure])
      obtain ⟨v, r, h1, h2, h3⟩ := h Q hq
      refine ⟨v, r, h1, ?_, h3⟩
      have hg : (eqGuard op t ox oy (.agg xs) y).run P w = .ok () w := by
        cases y <;> first
          | exact run_eqGuard_agg w op t ox oy xs _ hgt
          | (cases op <;> rfl)
      simp only [Sem.run_bind, hg, Result.andThen_ok, h2]

theorem evUn_val {op : UnOp} {a : V} {x : Value} (h : R F w a n m x) : Val P F w n m (evUn op a) (Op.unary op x) := by
  cases a <;> try exact Val.stuck
  · rename_i s k a
    rw [R_int] at h; subst h
    cases op <;> first
      | exact Val.stuck
      | exact Val.leaf rfl (by rw [mkInt_eq, R_int])
  · rename_i s b
    rw [R_bool] at h; subst h
    cases op <;> first
      | exact Val.stuck
      | exact Val.leaf rfl (by rw [mkBool_eq, R_bool])
theorem bytesOf_row : ∀ (cs : V) (xs : List Value) (st : Bool) (l : List UInt8), bytesOf cs = some (st, l) → RL F w cs n m xs → ∃ ns : List Int, xs = ns.map (Value.int .u8) ∧ l = ns.map fun v => UInt8.ofNat v.toNat := by
  intro cs
  induction cs with
  | nil => intro xs st l h hr; simp only [bytesOf, Option.some.injEq, Prod.mk.injEq] at h; simp only [RL] at hr; exact ⟨[], by rw [hr]; rfl, h.2.symm⟩
  | cons a t _ ih =>
    intro xs st l h hr
    cases a <;> try (simp only [bytesOf] at h; cases h; done)
    rename_i s k v _
    cases k <;> try (simp only [bytesOf] at h; cases h; done)
    have h : (match bytesOf t with | some (s', l) => some (s && s', UInt8.ofNat v.toNat :: l) | none => none) = some (st, l) := h
    simp only [RL] at hr
    obtain ⟨x, r, rfl, h1, h2⟩ := hr
    rw [R_int] at h1
    subst h1
    split at h
    · rename_i s' l' hb
      simp only [Option.some.injEq, Prod.mk.injEq] at h
      obtain ⟨ns, rfl, h4⟩ := ih r s' l' hb h2
      exact ⟨v :: ns, rfl, by rw [← h.2, h4]; rfl⟩
    · cases h
  | _ => intro xs st l h; simp only [bytesOf] at h; cases h
theorem foldl_push (ns : List Int) : ∀ (b : ByteArray), ns.foldl (fun r n => r.push (UInt8.ofNat n.toNat)) b = ⟨(b.data.toList ++ ns.map fun v => UInt8.ofNat v.toNat).toArray⟩ := by
  induction ns with
  | nil => intro b; simp
  | cons n ns ih =>
    intro b
    rw [List.foldl_cons, ih]
    congr 2
    simp [ByteArray.push]
theorem evText_val {base : Nat} {h : Nat → Blk} {e : TypeId} {a : V} {x : Value} (hr : HR base m F h n w) (ha : R F w a n m x) : Val P F w n m (evText P h e a) (do match ← underlying e with | .int .u8 => Conv.bytesToString x | .int .i32 => Conv.runesToString x | _ => stuck "Convert: a slice of what to string?") := by
  unfold evText
  split
  · rename_i hu
    cases a <;> try exact Val.stuck
    rename_i st b es i k
    rw [R_osl] at ha
    obtain ⟨hb, ad, cap, rfl, hk, hrow⟩ := ha
    have hblk := hr.blk b hb
    dsimp only
    cases hh : h b <;> try exact Val.stuck
    rename_i cs
    rw [hh] at hblk
    obtain ⟨B', xs0, el, xs, zs, hm, hcell, hsp, hrl⟩ := hblk
    dsimp only
    cases st with
    | false => exact Val.stuck
    | true =>
      cases he : Nat.beq es 1
      · exact Val.stuck
      · cases hle : Nat.ble (i + k) cs.len
        · exact Val.stuck
        · obtain rfl := Nat.eq_of_beq_eq_true he
          have hle' := Nat.le_of_ble_eq_true hle
          rw [RL_len _ _ hrl] at hle'
          simp only [Bool.and_self, cond_true]
          cases hby : bytesOf ((cs.drop i).take k) with
          | none => exact Val.stuck
          | some r =>
            obtain ⟨s, l⟩ := r
            dsimp only
            obtain ⟨ns, h1, h2⟩ := bytesOf_row _ _ s l hby (RL_take _ _ (RL_drop _ _ hrl i) k)
            refine Val.leaf (x := .string ⟨l.toArray⟩) ?_ (by rw [R_str])
            simp only [Sem.run_bind, run_underlying hu, Result.andThen_ok]
            have hkl : ns.length = k := by
              have := congrArg List.length h1
              simp at this
              omega
            have hend : ∀ b, b = ByteArray.empty → (Value.string (ns.foldl (fun r n => r.push (UInt8.ofNat n.toNat)) b)) = .string ⟨l.toArray⟩ := by
              intro b hb
              rw [foldl_push, h2, hb]
              rfl
            rcases hrow with h0 | ⟨B, _, _, _, rfl, hB, _⟩
            · have hns : ns = [] := List.eq_nil_of_length_eq_zero (by omega)
              have hk0 : k = 0 := by omega
              subst hns
              subst hk0
              cases ad with
              | none => simp only [Conv.bytesToString, Sem.run_pure]; rw [h2]; rfl
              | some ad =>
                rw [run_bytesToString w ad 0 cap [] (by simpa using run_loadCells_list (P := P) w ad [] (fun j v hj => by cases hj))]
                rw [hend _ rfl]
            · obtain rfl : B' = B := by rw [hB] at hm; injection hm with hm; exact hm.symm
              rw [run_bytesToString w _ k cap ns (by
                have := run_loadCells_list (P := P) w ⟨B', i * 1, none⟩ (ns.map (Value.int .u8)) (fun j v hj => by
                  rw [← h1, List.getElem?_take] at hj
                  split at hj
                  · rw [List.getElem?_drop] at hj
                    rw [add_plain]
                    simp only [World.cell?, hcell, Nat.mul_one]
                    have hlt : i + j < xs.length := by
                      rcases Nat.lt_or_ge (i + j) xs.length with h | h
                      · exact h
                      · rw [List.getElem?_eq_none h] at hj; cases hj
                    simpa [prefix_get hsp hlt] using hj
                  · cases hj)
                simpa [hkl] using this)]
              rw [hend _ rfl]
  · exact Val.stuck
theorem evConvP_val {src dst : TypeId} {a : V} {x : Value} {ds : TypeDesc} (hs : P.underlying src = some ds) (h : R F w a n m x) : Val P F w n m (evConvP P dst a) (convert src dst x) := by
  unfold evConvP
  cases hd : P.underlying dst with
  | none => exact Val.stuck
  | some dd =>
    cases dd <;> try exact Val.stuck
    · dsimp only
      cases a <;> try exact Val.stuck
      rename_i k s k' a
      rw [R_int] at h; subst h
      refine Val.leaf (x := .int k (k.wrap a)) ?_ (by rw [mkInt_eq, R_int])
      simp only [convert, Sem.run_bind, run_underlying hs, run_underlying hd, Result.andThen_ok, Conv.intToInt, Sem.run_pure]
    · dsimp only
      cases a <;> try exact Val.stuck
      rename_i s a
      rw [R_str] at h; subst h
      refine Val.leaf (x := .string ⟨a.toArray⟩) ?_ (by rw [R_str])
      simp only [convert, Sem.run_bind, run_underlying hs, run_underlying hd, Result.andThen_ok, Sem.run_pure]
theorem evConv_val {base : Nat} {hb0 : Nat → Blk} {src dst : TypeId} {a : V} {x : Value} (hr : HR base m F hb0 n w) (h : R F w a n m x) : Val P F w n m (evConv P hb0 src dst a) (convert src dst x) := by
  unfold evConv
  split
  · exact Val.stuck
  · rename_i e hs
    split
    · rename_i hd
      intro Q hq
      obtain ⟨v, y, h1, h2, h3⟩ := evText_val (e := e) hr h Q hq
      refine ⟨v, y, h1, ?_, h3⟩
      rw [← h2]
      have hx : ∃ ad len cap, x = .slice ad len cap := by
        unfold evText at hq
        split at hq
        · cases a <;> try exact hq.elim
          rw [R_osl] at h
          obtain ⟨_, ad, cap, rfl, _⟩ := h
          exact ⟨_, _, _, rfl⟩
        · exact hq.elim
      obtain ⟨ad, len, cap, rfl⟩ := hx
      simp only [convert, Sem.run_bind, run_underlying hs, run_underlying hd, Result.andThen_ok]
      rfl
    · exact Val.stuck
  · rename_i hs
    exact evConvP_val hs h
theorem evPick_val {c a b : V} {z x y : Value} (hc : R F w c n m z) (hx : R F w a n m x) (hy : R F w b n m y) :
    Val P F w n m (evPick c a b) (do pure (if ← asBool z then x else y)) := by
  cases c <;> try exact Val.stuck
  rename_i s r
  rw [R_bool] at hc; subst hc
  have ht : ∀ r : Bool, (do pure (if ← asBool (.bool r) then x else y) : Sem Value).run P w = .ok (if r then x else y) w := fun r => by
    simp only [asBool, pure_bind, Sem.run_pure]
  cases s with
  | true =>
    cases r with
    | true => exact Val.leaf (ht true) hx
    | false => exact Val.leaf (ht false) hy
  | false =>
    intro Q hq
    cases r with
    | true => exact ⟨a, x, hq.1 rfl, ht true, hx⟩
    | false => exact ⟨b, y, hq.2 rfl, ht false, hy⟩
end
end Go.Fw
