/- Structs and slices made, cut and measured; the least and the greatest: the evaluator's answer stands for the model's. A later world; new memory; stores; and each operation that changes nothing, in the model's own rule for an operation. Each operation of the evaluator in the model's own rule for an operation. Blocks that are turned, forgotten, or told anew; and append. Appending: the evaluator's answer stands for the model's. -/
import Derived.Test.YtdgjneondmmgdaaGreatDoorFb
import Derived.Laws.CopyRow
import Derived.Lib.ConvBytes
import Derived.Laws.AppendOwn
import Derived.Laws.Append
set_option linter.unusedSimpArgs false
set_option linter.unusedVariables false
namespace Go.Fw

section
variable {P : Program} {F : Nat → Prop} {w : World} {n : Nat} {m : Nat → Option Nat}

theorem tyZero_run {t : TypeId} {cs : V} (h : tyZero P t = some cs) : ∃ z, (zeroValue t).run P w = .ok z w ∧ RL F w cs n m z.cells.toList := by
  unfold tyZero at h
  cases hi : P.info? t with
  | none => rw [hi] at h; cases h
  | some i =>
    rw [hi] at h
    dsimp only at h
    cases hz : i.zero with
    | none => rw [hz] at h; cases h
    | some z =>
      rw [hz] at h
      injection h with h
      subst h
      refine ⟨z, by simp only [zeroValue, Sem.run_bind, run_typeInfo w hi, Result.andThen_ok, hz, Sem.run_pure], ?_⟩
      unfold V.ofValue
      split
      · exact RL_leaves _
      · rename_i hne
        have hc : z.cells = #[z] := by cases z <;> first | rfl | exact absurd rfl (hne _)
        rw [hc]
        have hr := R_leaf (F := F) (w := w) (n := n) (m := m) z
        cases ho : V.ofLeaf z with
        | agg cs => exfalso; unfold V.ofLeaf at ho; split at ho <;> first | (cases ho; done) | (split at ho <;> cases ho)
        | _ =>
          rw [ho] at hr
          simp only [V.cells, RL]
          exact ⟨z, [], rfl, hr, rfl⟩

/-- The parts of a struct or an array, one by one. -/
inductive Parts (F : Nat → Prop) (w : World) (n : Nat) (m : Nat → Option Nat) : List (Nat × V) → List (Nat × Value) → Prop
  | nil : Parts F w n m [] []
  | cons {i : Nat} {v : V} {x : Value} {l : List (Nat × V)} {r : List (Nat × Value)} (h : R F w v n m x) (hr : Parts F w n m l r) : Parts F w n m ((i, v) :: l) ((i, x) :: r)

theorem foldl_set (vs : List Value) : ∀ (k : Nat) (cs : Array Value) (o : Nat), 
    ((vs.zipIdx k).foldl (fun cs (c, j) => cs.setIfInBounds (o + j) c) cs).toList = spliceL cs.toList (o + k) vs := by
  induction vs with
  | nil =>
    intro k cs o
    simp only [List.zipIdx_nil, List.foldl_nil]
    apply List.ext_getElem?
    intro j
    by_cases hj : j < cs.toList.length
    · rw [spliceL_get _ _ _ _ hj]
      rw [if_neg (by simp only [List.length_nil]; omega)]
    · rw [List.getElem?_eq_none (by omega), List.getElem?_eq_none (by rw [spliceL_length]; omega)]
  | cons v vs ih =>
    intro k cs o
    simp only [List.zipIdx_cons, List.foldl_cons]
    rw [ih (k + 1) _ o]
    apply List.ext_getElem?
    intro j
    have hlen : (cs.setIfInBounds (o + k) v).toList.length = cs.toList.length := by simp
    by_cases hj : j < cs.toList.length
    · rw [spliceL_get _ _ _ _ (by rw [hlen]; exact hj), spliceL_get _ _ _ _ hj]
      simp only [List.length_cons]
      by_cases h1 : o + (k + 1) ≤ j ∧ j < o + (k + 1) + vs.length
      · rw [if_pos h1, if_pos (by omega)]
        have : j - (o + k) = (j - (o + (k + 1))) + 1 := by omega
        rw [this, List.getElem?_cons_succ]
      · rw [if_neg h1]
        by_cases h2 : j = o + k
        · subst h2
          rw [if_pos (by omega)]
          simp only [Nat.sub_self, List.getElem?_cons_zero, Array.getElem?_toList]
          rw [Array.getElem?_setIfInBounds_self_of_lt (by simpa using hj)]
        · rw [if_neg (by omega)]
          simp only [Array.getElem?_toList]
          rw [Array.getElem?_setIfInBounds_ne (by omega)]
    · rw [List.getElem?_eq_none (by rw [spliceL_length, hlen]; omega), List.getElem?_eq_none (by rw [spliceL_length]; omega)]

theorem fill_cons (place : Nat → Option (Nat × Nat)) (cells : Array Value) (i : Nat) (v : Value) (rest : List (Nat × Value)) (off z : Nat) (hp : place i = some (off, z))
    (h1 : v.cells.size = z) (h2 : off + z ≤ cells.size) :
    Instr.fill place cells ((i, v) :: rest) = Instr.fill place (spliceL cells.toList off v.cells.toList).toArray rest := by
  simp only [Instr.fill, hp]
  rw [if_neg (by simp [h1]; omega)]
  congr 1
  apply Array.ext'
  have := foldl_set v.cells.toList 0 cells off
  simp only [Nat.add_zero] at this
  rw [← this]
  rw [← Array.toList_zipIdx, Array.foldl_toList]
theorem fillRow_run {place : Nat → Option (Nat × Nat)} : ∀ (l : List (Nat × V)) (r : List (Nat × Value)), Parts F w n m l r → ∀ (cs : V) (out : V) (cells : Array Value),
    fillRow P place cs l = some out → RL F w cs n m cells.toList →
    ∃ outc, Instr.fill place cells r = some outc ∧ RL F w out n m outc.toList ∧ outc.size = cells.size := by
  intro l r h
  induction h with
  | nil => intro cs out cells hf hr; simp only [fillRow] at hf; injection hf with hf; subst hf; exact ⟨cells, rfl, hr, rfl⟩
  | @cons i v x l r hv hlr ih =>
    intro cs out cells hf hr
    simp only [fillRow] at hf
    cases hp : place i with
    | none => rw [hp] at hf; cases hf
    | some q =>
      obtain ⟨off, z⟩ := q
      rw [hp] at hf
      dsimp only at hf
      cases hsol : v.solid
      · rw [hsol] at hf; cases hf
      rw [hsol, Bool.true_and] at hf
      have hcells := RL_cells v x hv hsol
      rw [RL_len _ _ hcells, RL_len _ _ hr] at hf
      cases h1 : Nat.beq x.cells.toList.length z
      · rw [h1] at hf; cases hf
      · cases h2 : Nat.ble (off + z) cells.toList.length
        · rw [h1, h2] at hf; cases hf
        · rw [h1, h2] at hf
          have h1' : x.cells.size = z := by simpa using Nat.eq_of_beq_eq_true h1
          have h2' : off + z ≤ cells.size := by simpa using Nat.le_of_ble_eq_true h2
          obtain ⟨outc, g1, g2, g3⟩ := ih (cs.splice off v.cells) out (spliceL cells.toList off x.cells.toList).toArray hf
            (by simpa using RL_splice cs _ hr off v.cells _ hcells)
          refine ⟨outc, ?_, g2, ?_⟩
          · rw [fill_cons place cells i x r off z hp h1' h2']; exact g1
          · rw [g3]; simp [spliceL_length]
theorem places_run (w : World) : ∀ (fields : List Field), (∀ f ∈ fields, ∃ z, tySize P f.type = some z) →
    (fields.mapM (m := Sem) fun f => do pure (f.offset, ← sizeOf f.type)).run P w = .ok (fields.map fun f => (f.offset, (tySize P f.type).getD 0)) w := by
  intro fields
  induction fields with
  | nil => intro _; simp
  | cons f fs ih =>
    intro h
    obtain ⟨z, hz⟩ := h f (by simp)
    rw [List.mapM_cons]
    simp only [Sem.run_bind, tySize_run hz, Result.andThen_ok, Sem.run_pure, ih (fun g hg => h g (List.mem_cons_of_mem _ hg)), List.map_cons, hz, Option.getD_some]
theorem evBuild_val {t : TypeId} {l : List (Nat × V)} {r : Array (Nat × Value)} (h : Parts F w n m l r.toList) : Val P F w n m (evBuild P t l) (Instr.build t r) := by
  unfold evBuild
  cases hz : tyZero P t with
  | none => exact Val.stuck
  | some zero =>
    obtain ⟨z, hz1, hz2⟩ := tyZero_run (F := F) (w := w) (n := n) (m := m) hz
    dsimp only
    cases hu : P.underlying t with
    | none => exact Val.stuck
    | some d =>
      cases d <;> try exact Val.stuck
      · rename_i len e
        dsimp only
        cases hs : tySize P e with
        | none => exact Val.stuck
        | some q =>
          dsimp only
          cases hf : fillRow P (fun i => some (i * q, q)) zero l with
          | none => exact Val.stuck
          | some cs =>
            obtain ⟨outc, g1, g2, _⟩ := fillRow_run _ _ h _ _ _ hf hz2
            refine Val.leaf (x := .agg outc) ?_ (by rw [R_agg]; exact ⟨_, rfl, g2⟩)
            simp only [Instr.build, Sem.run_bind, hz1, run_underlying hu, Result.andThen_ok, tySize_run hs, g1, Sem.run_pure]
      · rename_i fields
        dsimp only
        cases ha : fields.toList.all fun f => (tySize P f.type).isSome
        · exact Val.stuck
        · simp only [cond_true]
          cases hf : fillRow P (fieldSpot P fields) zero l with
          | none => exact Val.stuck
          | some cs =>
            have hall : ∀ f ∈ fields.toList, ∃ z, tySize P f.type = some z := fun f hf => Option.isSome_iff_exists.1 (List.all_eq_true.1 ha f hf)
            have hpl := places_run (P := P) w fields.toList hall
            have hfun : (fun i => (fields.toList.map fun f => (f.offset, (tySize P f.type).getD 0)).toArray[i]?) = (fieldSpot P fields) := by
              funext i
              simp only [List.getElem?_toArray, List.getElem?_map, Array.getElem?_toList, fieldSpot]
              cases fields[i]? <;> rfl
            obtain ⟨outc, g1, g2, _⟩ := fillRow_run _ _ h _ _ _ hf hz2
            refine Val.leaf (x := .agg outc) ?_ (by rw [R_agg]; exact ⟨_, rfl, g2⟩)
            have hma : (fields.mapM (m := Sem) fun f => do pure (f.offset, ← sizeOf f.type)).run P w = .ok (fields.toList.map fun f => (f.offset, (tySize P f.type).getD 0)).toArray w := by
              have : (fields.mapM (m := Sem) fun f => do pure (f.offset, ← sizeOf f.type)) = List.toArray <$> (fields.toList.mapM fun f => do pure (f.offset, ← sizeOf f.type)) := by
                rw [Array.mapM_eq_mapM_toList]
              rw [this, Sem.run_map, hpl]; rfl
            simp only [Instr.build, Sem.run_bind, hz1, run_underlying hu, Result.andThen_ok, hma]
            rw [hfun, g1]
            simp only [Sem.run_pure]

theorem R_plain1 {v : V} {x : Value} (h : R F w v n m x) : R F w v.plain1 n m x := by
  cases v <;> try exact h
  rw [R_osp] at h
  obtain ⟨hb, a, cap, e, h1, h2, h3⟩ := h
  show R F w (.osl _ _ _ _ _) n m x
  rw [R_osl]
  exact ⟨hb, a, cap, e, by omega, h3⟩
/-! ### Slices cut -/
theorem sliceBound_ok {k : IntKind} {j : Int} {y : Nat} (code : BoundsCode) (h0 : 0 ≤ j) (h1 : j ≤ y) : Instr.sliceBound (.int k j) y code = pure j.toNat := by
  simp only [Instr.sliceBound, asIntOf, pure_bind]
  rw [if_pos ⟨h0, h1⟩]
theorem evBounds_val {st : Bool} {k cap : Nat} {lo hi : Option V} {vlo vhi : Option Value} {isSlice : Bool} {T : Bool → Nat → Nat → Tree V} {f : Nat × Nat × Nat → Sem Value}
    (hk : k ≤ cap) (hlo : ∀ a, lo = some a → ∃ x, vlo = some x ∧ R F w a n m x) (hlo0 : lo = none → vlo = none) (hhi : ∀ a, hi = some a → ∃ x, vhi = some x ∧ R F w a n m x) (hhi0 : hi = none → vhi = none)
    (h : ∀ st a b, a ≤ b → b ≤ k → (lo = none → a = 0) → Val P F w n m (T st a b) (f (a, b, cap))) :
    Val P F w n m (evBounds st k lo hi T) (Instr.sliceBounds isSlice k cap vlo vhi none >>= f) := by
  have hlow : ∀ st b, b ≤ k → Val P F w n m (match lo with | none => T st 0 b | some (.int s _ j) => uptoInt (st && s) j b fun q => T (st && s) q b | some _ => .stuck)
      ((match vlo with
          | some v => (do let l ← Instr.sliceBound v b (if (none : Option Value).isSome then .slice3C else .sliceB); pure (l, b, cap))
          | none => pure (0, b, cap)) >>= f) := by
    intro st b hb
    cases lo with
    | none =>
      rw [hlo0 rfl]
      intro Q hq
      obtain ⟨v, x, h1, h2, h3⟩ := h st 0 b (Nat.zero_le _) hb (fun _ => rfl) Q hq
      exact ⟨v, x, h1, by simp only [pure_bind]; exact h2, h3⟩
    | some a =>
      obtain ⟨x, rfl, hx⟩ := hlo a rfl
      cases a <;> try exact Val.stuck
      rename_i s kk j
      rw [R_int] at hx
      subst hx
      refine uptoInt_val fun h0 h1 => ?_
      intro Q hq
      obtain ⟨v, x, h1', h2, h3⟩ := h (st && s) j.toNat b (by omega) hb (fun h => by cases h) Q hq
      refine ⟨v, x, h1', ?_, h3⟩
      simp only [sliceBound_ok _ h0 h1, pure_bind]
      exact h2
  unfold evBounds
  cases hi with
  | none =>
    rw [hhi0 rfl]
    intro Q hq
    obtain ⟨v, x, h1, h2, h3⟩ := hlow st k (Nat.le_refl _) Q hq
    refine ⟨v, x, h1, ?_, h3⟩
    simp only [Instr.sliceBounds, pure_bind]
    exact h2
  | some a =>
    obtain ⟨x, rfl, hx⟩ := hhi a rfl
    cases a <;> try exact Val.stuck
    rename_i s kk j
    rw [R_int] at hx
    subst hx
    refine uptoInt_val fun h0 h1 => ?_
    intro Q hq
    obtain ⟨v, x, h1', h2, h3⟩ := hlow (st && s) j.toNat (by omega) Q hq
    refine ⟨v, x, h1', ?_, h3⟩
    simp only [Instr.sliceBounds, pure_bind, sliceBound_ok _ h0 (show j ≤ (cap : Int) by omega)]
    exact h2

theorem hasCells_run {base : Nat} {hb0 : Nat → Blk} (hr : HR base m F hb0 n w) {b B k : Nat} (hbn : b < n) (hB : m b = some B) (h : hasCells (hb0 b) k = true) : ∃ c el, w.heap[B]? = some (.cells c el (0, 0)) ∧ k ≤ c.size := by
  have hblk := hr.blk b hbn
  cases hh : hb0 b <;> rw [hh] at h hblk <;> try (cases h; done)
  rename_i cs
  obtain ⟨B', xs, el, ys, zs, hm, hcell, hsp, hrow⟩ := hblk
  obtain rfl : B = B' := by rw [hB] at hm; injection hm
  refine ⟨xs, el, hcell, ?_⟩
  have h1 := Nat.le_of_ble_eq_true h
  rw [RL_len _ _ hrow] at h1
  exact Nat.le_trans h1 (prefix_len hsp)
theorem evSlice0_val {t : TypeId} {a : V} {x : Value} {lo hi : Option V} {mx : V} {vlo vhi vmx : Option Value} (ha : R F w a n m x)
    (hlo0 : lo = none → vlo = none) (hhi : ∀ a, hi = some a → ∃ x, vhi = some x ∧ R F w a n m x) (hmx : ∃ x, vmx = some x ∧ R F w mx n m x) :
    Val P F w n m (evSlice0 P t a lo hi mx) (Instr.sliceAt t x vlo vhi vmx) := by
  unfold evSlice0
  cases lo with
  | some _ => exact Val.stuck
  | none =>
    cases hi with
    | none => exact Val.stuck
    | some hi =>
      dsimp only
      cases hz : isZeroV hi && isZeroV mx
      · exact Val.stuck
      simp only [cond_true]
      cases hu : P.underlying t with
      | none => exact Val.stuck
      | some d =>
        cases d <;> try exact Val.stuck
        dsimp only
        simp only [Bool.and_eq_true] at hz
        obtain ⟨yh, hyh, rh⟩ := hhi hi rfl
        obtain ⟨ym, hym, rm⟩ := hmx
        have zero : ∀ (v : V) (y : Value), isZeroV v = true → R F w v n m y → ∃ k, y = .int k 0 := by
          intro v y hv hy
          cases v <;> try (cases hv; done)
          rename_i st k i
          cases st <;> try (cases hv; done)
          cases i <;> try (cases hv; done)
          rename_i c
          have := Nat.eq_of_beq_eq_true hv
          subst this
          rw [R_int] at hy
          exact ⟨k, hy⟩
        obtain ⟨kh, rfl⟩ := zero _ _ hz.1 rh
        obtain ⟨km, rfl⟩ := zero _ _ hz.2 rm
        rename_i e
        cases hsz : tySize P e with
        | none => exact Val.stuck
        | some z =>
          dsimp only
          rw [hlo0 rfl, hyh, hym]
          have hrun : ∀ (ad : Option Addr) (l c : Nat), (Instr.sliceAt t (.slice ad l c) none (some (.int kh 0)) (some (.int km 0))).run P w = .ok (.slice ad 0 0) w := by
            intro ad l c
            simp [Instr.sliceAt, Instr.slice, Instr.sliceBounds, Instr.sliceBound, asIntOf, Sem.run_bind, run_underlying hu, Result.andThen_ok, tySize_run hsz]
          have pos : ∀ {st : Bool} {k : Nat}, (st && Nat.blt 0 k) = true → 0 < k := by
            intro st k h
            simp only [Bool.and_eq_true, Nat.blt_eq] at h
            exact h.2
          cases a <;> try exact Val.stuck
          case rsl =>
            rw [R_rsl] at ha
            obtain ⟨ad, c, rfl, _, hrow⟩ := ha
            refine Val.leaf (hrun ad _ c) ?_
            rw [R_esl]
            refine ⟨ad, rfl, fun h => ?_⟩
            have := pos h
            rcases hrow with h0 | ⟨B, off, rfl, _⟩
            · omega
            · simp
          case osl =>
            rw [R_osl] at ha
            obtain ⟨_, ad, c, rfl, hk, hrow⟩ := ha
            refine Val.leaf (hrun ad _ c) ?_
            rw [R_esl]
            refine ⟨ad, rfl, fun h => ?_⟩
            have := pos h
            rcases hrow with h0 | ⟨B, c0, el, fr, rfl, _⟩
            · omega
            · simp
          case osp =>
            rw [R_osp] at ha
            obtain ⟨_, ad, c, rfl, hk, hk2, hrow⟩ := ha
            refine Val.leaf (hrun ad _ c) ?_
            rw [R_esl]
            refine ⟨ad, rfl, fun h => ?_⟩
            have := pos h
            rcases hrow with h0 | ⟨B, c0, el, fr, rfl, _⟩
            · omega
            · simp
          case nilsl =>
            simp only [R] at ha
            subst ha
            exact Val.leaf (hrun none 0 0) (by simp only [R])
          case esl =>
            rw [R_esl] at ha
            obtain ⟨ad, rfl, hne⟩ := ha
            exact Val.leaf (hrun ad 0 0) (by rw [R_esl]; exact ⟨ad, rfl, hne⟩)
theorem plain1_osl {a : V} {x : Value} {st : Bool} {b es i k : Nat} (ha : R F w a n m x) (h : a.plain1 = .osl st b es i k) : R F w (.osl st b es i k) n m x := by
  cases a <;> simp only [V.plain1] at h <;> try (cases h; done)
  · injection h with h1 h2 h3 h4 h5; subst h1; subst h2; subst h3; subst h4; subst h5; exact ha
  · injection h with h1 h2 h3 h4 h5; subst h1; subst h2; subst h3; subst h4; subst h5
    rw [R_osp] at ha
    obtain ⟨hb, a, cap, e, h1, h2, h3⟩ := ha
    rw [R_osl]
    exact ⟨hb, a, cap, e, by omega, h3⟩
theorem evSlice3_val {t : TypeId} {a : V} {x : Value} {lo hi mx : V} {xl xh xm : Value} (ha : R F w a n m x) (hlo : R F w lo n m xl) (hhi : R F w hi n m xh) (hmx : R F w mx n m xm) :
    Val P F w n m (evSlice3 P t a lo hi mx) (Instr.sliceAt t x (some xl) (some xh) (some xm)) := by
  unfold evSlice3
  cases hu : P.underlying t with
  | none => exact Val.stuck
  | some d =>
    cases d <;> try exact Val.stuck
    rename_i e
    dsimp only
    cases hz : tySize P e with
    | none => exact Val.stuck
    | some z =>
      dsimp only
      cases hp : a.plain1 <;> try exact Val.stuck
      rename_i st bl es i k
      dsimp only
      cases he : Nat.beq z es
      · exact Val.stuck
      · obtain rfl := Nat.eq_of_beq_eq_true he
        simp only [cond_true]
        have ha' := plain1_osl ha hp
        rw [R_osl] at ha'
        obtain ⟨hbn, ad, cap, rfl, hk, hrow⟩ := ha'
        cases mx <;> try exact Val.stuck
        rename_i s kk j
        rw [R_int] at hmx
        subst hmx
        dsimp only
        refine uptoInt_val fun h0 h1 => ?_
        unfold evBounds
        dsimp only
        cases hi <;> try exact Val.stuck
        rename_i s2 k2 j2
        rw [R_int] at hhi
        subst hhi
        dsimp only
        refine uptoInt_val fun h2 h3 => ?_
        cases lo <;> try exact Val.stuck
        rename_i s3 k3 j3
        rw [R_int] at hlo
        subst hlo
        dsimp only
        refine uptoInt_val fun h4 h5 => ?_
        have hjc : j ≤ (cap : Int) := by omega
        refine Val.leaf (x := .slice (if j.toNat = j3.toNat then ad else ad.map (·.add (j3.toNat * z))) (j2.toNat - j3.toNat) (j.toNat - j3.toNat)) ?_ ?_
        · simp only [Instr.sliceAt, Instr.slice, Sem.run_bind, run_underlying hu, Result.andThen_ok, tySize_run hz, Instr.sliceBounds, sliceBound_ok _ h0 hjc, sliceBound_ok _ h2 h3, sliceBound_ok _ h4 h5, pure_bind, Sem.run_pure]
        · rw [R_osl]
          refine ⟨hbn, _, _, rfl, by omega, ?_⟩
          by_cases hab : j.toNat - j3.toNat = 0
          · exact .inl hab
          · right
            rcases hrow with h0' | ⟨B, c0, el0, fr0, rfl, hB, hc0, hz0⟩
            · omega
            · rw [if_neg (by omega)]
              have e : i + j3.toNat + (j.toNat - j3.toNat) = i + j.toNat := by omega
              refine ⟨B, c0, el0, fr0, by simp only [Option.map_some, add_plain, Nat.add_mul], hB, hc0, ?_⟩
              rw [e]
              exact Nat.le_trans (Nat.mul_le_mul_right z (by omega)) hz0
theorem evSlice_val {base : Nat} {hb0 : Nat → Blk} {t : TypeId} {a : V} {x : Value} {lo hi mx : Option V} {vlo vhi vmx : Option Value} (hr : HR base m F hb0 n w) (ha : R F w a n m x)
    (hlo : ∀ a, lo = some a → ∃ x, vlo = some x ∧ R F w a n m x) (hlo0 : lo = none → vlo = none) (hhi : ∀ a, hi = some a → ∃ x, vhi = some x ∧ R F w a n m x) (hhi0 : hi = none → vhi = none)
    (hmx : ∀ a, mx = some a → ∃ x, vmx = some x ∧ R F w a n m x) (hmx0 : mx = none → vmx = none) :
    Val P F w n m (evSlice P hb0 t a lo hi mx) (Instr.sliceAt t x vlo vhi vmx) := by
  unfold evSlice
  cases mx with
  | some mx =>
    dsimp only
    obtain ⟨xm, rfl, hm'⟩ := hmx mx rfl
    have h0 := evSlice0_val (P := P) (t := t) (mx := mx) (vmx := some xm) ha hlo0 hhi ⟨xm, rfl, hm'⟩
    cases hs : evSlice0 P t a lo hi mx <;> rw [hs] at h0 <;> try exact h0
    cases lo with
    | none => exact Val.stuck
    | some lo =>
      cases hi with
      | none => exact Val.stuck
      | some hi =>
        obtain ⟨xl, rfl, hl'⟩ := hlo lo rfl
        obtain ⟨xh, rfl, hh'⟩ := hhi hi rfl
        exact evSlice3_val ha hl' hh' hm'
  | none =>
    rw [hmx0 rfl]
    dsimp only
    cases hu : P.underlying t with
    | none => exact Val.stuck
    | some d =>
      cases d <;> try exact Val.stuck
      · dsimp only
        cases a <;> try exact Val.stuck
        rename_i st l
        rw [R_str] at ha
        subst ha
        have hsz : (ByteArray.mk l.toArray).size = l.length := by simp [ByteArray.size]
        have h := evBounds_val (P := P) (F := F) (w := w) (n := n) (m := m) (st := st) (k := l.length) (cap := l.length) (lo := lo) (hi := hi) (vlo := vlo) (vhi := vhi) (isSlice := false)
          (T := fun st a b => .leaf (.str st ((l.drop a).take (b - a)))) (f := fun r => pure (.string ((ByteArray.mk l.toArray).extract r.1 r.2.1))) (Nat.le_refl _) hlo hlo0 hhi hhi0
          (fun st a b h1 h2 hz0 => Val.leaf (x := .string ⟨((l.drop a).take (b - a)).toArray⟩) (by
            simp only [Sem.run_pure]
            congr 2
            apply ByteArray.ext
            apply Array.ext'
            simp [ByteArray.data_extract, List.extract_eq_take_drop]) (by rw [R_str]))
        intro Q hq
        obtain ⟨v, x, h1, h2, h3⟩ := h Q hq
        refine ⟨v, x, h1, ?_, h3⟩
        simp only [Instr.sliceAt, Instr.slice, Sem.run_bind, run_underlying hu, Result.andThen_ok, Option.isSome_none, Bool.false_eq_true, if_false, hsz]
        simpa only [Sem.run_bind] using h2
      · rename_i arr
        dsimp only
        cases a <;> try exact Val.stuck
        rename_i st bl es i o
        dsimp only
        cases hua : P.underlying arr with
        | none => exact Val.stuck
        | some da =>
          cases da <;> try exact Val.stuck
          rename_i len e
          dsimp only
          cases hz : tySize P e with
          | none => exact Val.stuck
          | some z =>
            dsimp only
            cases he : Nat.beq (i * es + o) ((i * es + o) / z * z)
            · exact Val.stuck
            cases hcs : hasCells (hb0 bl) (i * es + o + len * z)
            · exact Val.stuck
            · have he := Nat.eq_of_beq_eq_true he
              simp only [Bool.and_self, cond_true]
              rw [R_ptr] at ha
              obtain ⟨hbn, B, rfl, hB⟩ := ha
              obtain ⟨hc0, el0, hcell0, hsz0⟩ := hasCells_run hr hbn hB hcs
              generalize (i * es + o) / z = q0 at he ⊢
              rw [he]
              have h := evBounds_val (P := P) (F := F) (w := w) (n := n) (m := m) (st := st) (k := len) (cap := len) (lo := lo) (hi := hi) (vlo := vlo) (vhi := vhi) (isSlice := false)
                (T := fun st a b => .leaf (.osl st bl z (q0 + a) (b - a)))
                (f := fun r => pure (.slice (some (if r.2.2 = r.1 then (⟨B, q0 * z, none⟩ : Addr) else Addr.add ⟨B, q0 * z, none⟩ (r.1 * z))) (r.2.1 - r.1) (r.2.2 - r.1))) (Nat.le_refl _) hlo hlo0 hhi hhi0
                (fun st a b h1 h2 hz0 => Val.leaf (x := .slice (some (if len = a then (⟨B, q0 * z, none⟩ : Addr) else Addr.add ⟨B, q0 * z, none⟩ (a * z))) (b - a) (len - a)) (by simp only [Sem.run_pure]) (by
                  rw [R_osl]
                  refine ⟨hbn, _, _, rfl, by omega, ?_⟩
                  by_cases hab : len - a = 0
                  · exact .inl hab
                  · right
                    rw [if_neg (by omega)]
                    refine ⟨B, hc0, el0, (0, 0), by rw [add_plain, Nat.add_mul], hB, hcell0, ?_⟩
                    have e : q0 + a + (len - a) = q0 + len := by omega
                    rw [e, Nat.add_mul, ← he]
                    exact hsz0))
              intro Q hq
              obtain ⟨v, x, h1, h2, h3⟩ := h Q hq
              refine ⟨v, x, h1, ?_, h3⟩
              simp only [Instr.sliceAt, Instr.slice, Sem.run_bind, run_underlying hu, run_underlying hua, Result.andThen_ok, asAddr, pure_bind, Sem.run_pure]
              simp only [Sem.run_bind] at h2
              simp only [tySize_run hz, Result.andThen_ok]
              exact h2
      · rename_i e
        dsimp only
        cases a <;> try exact Val.stuck
        · rename_i st es k get
          dsimp only
          cases hz : tySize P e with
          | none => exact Val.stuck
          | some z =>
            dsimp only
            cases he : Nat.beq z es
            · exact Val.stuck
            · obtain rfl := Nat.eq_of_beq_eq_true he
              simp only [cond_true]
              rw [R_rsl] at ha
              obtain ⟨ad, cap, rfl, hk, hrow⟩ := ha
              have h := evBounds_val (P := P) (F := F) (w := w) (n := n) (m := m) (st := st) (k := k) (cap := cap) (lo := lo) (hi := hi) (vlo := vlo) (vhi := vhi) (isSlice := true)
                (T := fun st a b => .leaf (.rsl st z (b - a) fun j => get (a + j)))
                (f := fun r => pure (.slice (if r.2.2 = r.1 then ad else ad.map (·.add (r.1 * z))) (r.2.1 - r.1) (r.2.2 - r.1))) hk hlo hlo0 hhi hhi0
                (fun st a b h1 h2 hz0 => Val.leaf (x := .slice (if cap = a then ad else ad.map (·.add (a * z))) (b - a) (cap - a)) (by simp only [Sem.run_pure]) (by
                  rw [R_rsl]
                  refine ⟨_, _, rfl, by omega, ?_⟩
                  by_cases hab : b - a = 0
                  · exact .inl hab
                  · right
                    rcases hrow with h0 | ⟨B, off, rfl, hF, c, el, fr, hc, hr⟩
                    · omega
                    · rw [if_neg (by omega)]
                      refine ⟨B, off + a * z, by simp only [Option.map_some, add_plain], hF, c, el, fr, hc, fun j hj => ?_⟩
                      obtain ⟨xs, g1, g2, g3⟩ := hr (a + j) (by omega)
                      refine ⟨xs, g1, g2, fun q hq => ?_⟩
                      rw [← g3 q hq]
                      congr 1
                      rw [Nat.add_mul]
                      omega))
              intro Q hq
              obtain ⟨v, x, h1, h2, h3⟩ := h Q hq
              refine ⟨v, x, h1, ?_, h3⟩
              simp only [Instr.sliceAt, Instr.slice, Sem.run_bind, run_underlying hu, Result.andThen_ok]
              simp only [Sem.run_bind] at h2
              simp only [tySize_run hz, Result.andThen_ok]
              exact h2
        · rename_i st bl es i k
          dsimp only
          cases hz : tySize P e with
          | none => exact Val.stuck
          | some z =>
            dsimp only
            cases he : Nat.beq z es
            · exact Val.stuck
            · obtain rfl := Nat.eq_of_beq_eq_true he
              simp only [cond_true]
              rw [R_osl] at ha
              obtain ⟨hbn, ad, cap, rfl, hk, hrow⟩ := ha
              have h := evBounds_val (P := P) (F := F) (w := w) (n := n) (m := m) (st := st) (k := k) (cap := cap) (lo := lo) (hi := hi) (vlo := vlo) (vhi := vhi) (isSlice := true)
                (T := fun st a b => .leaf (ospB lo st bl z i k a b))
                (f := fun r => pure (.slice (if r.2.2 = r.1 then ad else ad.map (·.add (r.1 * z))) (r.2.1 - r.1) (r.2.2 - r.1))) hk hlo hlo0 hhi hhi0
                (fun st a b h1 h2 hzz => Val.leaf (x := .slice (if cap = a then ad else ad.map (·.add (a * z))) (b - a) (cap - a)) (by simp only [Sem.run_pure]) (by
                  have ho : R F w (.osl st bl z (i + a) (b - a)) n m (.slice (if cap = a then ad else ad.map (·.add (a * z))) (b - a) (cap - a)) := by
                    rw [R_osl]
                    refine ⟨hbn, _, _, rfl, by omega, ?_⟩
                    by_cases hab : cap - a = 0
                    · exact .inl hab
                    · right
                      rcases hrow with h0 | ⟨B, c0, el0, fr0, rfl, hB, hc0, hz0⟩
                      · omega
                      · rw [if_neg (by omega)]
                        have e : i + a + (cap - a) = i + cap := by omega
                        exact ⟨B, c0, el0, fr0, by simp only [Option.map_some, add_plain, Nat.add_mul], hB, hc0, by rw [e]; exact hz0⟩
                  unfold ospB
                  cases lo with
                  | some _ => exact ho
                  | none =>
                    have := hzz rfl
                    subst this
                    dsimp only
                    unfold ospOf
                    cases hcc : (st && Nat.beq b k)
                    · rw [R_osl] at ho
                      obtain ⟨g1, g2, g3, g4, g5, g6⟩ := ho
                      simp only [cond_false]
                      rw [R_osp]
                      injection g4 with g41 g42 g43
                      refine ⟨hbn, g2, g3, by rw [g41, g42, g43]; rfl, h2, by rw [← g43]; omega, ?_⟩
                      simpa using g6
                    · simpa using ho))
              intro Q hq
              obtain ⟨v, x, h1, h2, h3⟩ := h Q hq
              refine ⟨v, x, h1, ?_, h3⟩
              simp only [Instr.sliceAt, Instr.slice, Sem.run_bind, run_underlying hu, Result.andThen_ok]
              simp only [Sem.run_bind] at h2
              simp only [tySize_run hz, Result.andThen_ok]
              exact h2
        · rename_i st bl es i k c0
          dsimp only
          cases hz : tySize P e with
          | none => exact Val.stuck
          | some z =>
            dsimp only
            cases he : Nat.beq z es
            · exact Val.stuck
            · obtain rfl := Nat.eq_of_beq_eq_true he
              simp only [cond_true]
              rw [R_osp] at ha
              obtain ⟨hbn, ad, cap, rfl, hk, hk2, hrow⟩ := ha
              have main : ∀ kk, kk ≤ cap → (Instr.sliceBounds true k cap vlo vhi none = Instr.sliceBounds true kk cap vlo vhi none) → Val P F w n m (evBounds st kk lo hi fun st a b => .leaf (.osl st bl z (i + a) (b - a))) (Instr.sliceAt t (.slice ad k cap) vlo vhi none) := by
                intro kk hkk hsame
                have h := evBounds_val (P := P) (F := F) (w := w) (n := n) (m := m) (st := st) (k := kk) (cap := cap) (lo := lo) (hi := hi) (vlo := vlo) (vhi := vhi) (isSlice := true)
                  (T := fun st a b => .leaf (.osl st bl z (i + a) (b - a)))
                  (f := fun r => pure (.slice (if r.2.2 = r.1 then ad else ad.map (·.add (r.1 * z))) (r.2.1 - r.1) (r.2.2 - r.1))) hkk hlo hlo0 hhi hhi0
                  (fun st a b h1 h2 _ => Val.leaf (x := .slice (if cap = a then ad else ad.map (·.add (a * z))) (b - a) (cap - a)) (by simp only [Sem.run_pure]) (by
                    rw [R_osl]
                    refine ⟨hbn, _, _, rfl, by omega, ?_⟩
                    by_cases hab : cap - a = 0
                    · exact .inl hab
                    · right
                      rcases hrow with h0 | ⟨B, c0, el0, fr0, rfl, hB, hc0, hz0⟩
                      · omega
                      · rw [if_neg (by omega)]
                        have e : i + a + (cap - a) = i + cap := by omega
                        exact ⟨B, c0, el0, fr0, by simp only [Option.map_some, add_plain, Nat.add_mul], hB, hc0, by rw [e]; exact hz0⟩))
                intro Q hq
                obtain ⟨v, x, h1, h2, h3⟩ := h Q hq
                refine ⟨v, x, h1, ?_, h3⟩
                simp only [Instr.sliceAt, Instr.slice, Sem.run_bind, run_underlying hu, Result.andThen_ok]
                rw [hsame]
                simp only [Sem.run_bind] at h2
                simp only [tySize_run hz, Result.andThen_ok]
                exact h2
              cases hi with
              | none => exact main k (by omega) rfl
              | some hi =>
                obtain ⟨xh, rfl, _⟩ := hhi hi rfl
                exact main c0 hk2 rfl
        · dsimp only
          cases hz : tySize P e with
          | none => exact Val.stuck
          | some z =>
            dsimp only
            simp only [R] at ha
            subst ha
            have h := evBounds_val (P := P) (F := F) (w := w) (n := n) (m := m) (st := true) (k := 0) (cap := 0) (lo := lo) (hi := hi) (vlo := vlo) (vhi := vhi) (isSlice := true)
              (T := fun _ _ _ => .leaf .nilsl)
              (f := fun r => pure (.slice (if r.2.2 = r.1 then none else (none : Option Addr).map (·.add (r.1 * z))) (r.2.1 - r.1) (r.2.2 - r.1))) (Nat.le_refl _) hlo hlo0 hhi hhi0
              (fun st a b h1 h2 _ => Val.leaf (x := .slice none 0 0) (by
                obtain rfl : a = 0 := by omega
                obtain rfl : b = 0 := by omega
                simp only [Sem.run_pure]; rfl) (by simp only [R]))
            intro Q hq
            obtain ⟨v, x, h1, h2, h3⟩ := h Q hq
            refine ⟨v, x, h1, ?_, h3⟩
            simp only [Instr.sliceAt, Instr.slice, Sem.run_bind, run_underlying hu, Result.andThen_ok]
            simp only [Sem.run_bind] at h2
            simp only [tySize_run hz, Result.andThen_ok]
            exact h2
        · rename_i nn es
          dsimp only
          cases hz : tySize P e with
          | none => exact Val.stuck
          | some z =>
            dsimp only
            simp only [R] at ha
            obtain ⟨ad, rfl, hnn⟩ := ha
            have h := evBounds_val (P := P) (F := F) (w := w) (n := n) (m := m) (st := true) (k := 0) (cap := 0) (lo := lo) (hi := hi) (vlo := vlo) (vhi := vhi) (isSlice := true)
              (T := fun _ _ _ => .leaf (.esl nn es))
              (f := fun r => pure (.slice (if r.2.2 = r.1 then ad else ad.map (·.add (r.1 * z))) (r.2.1 - r.1) (r.2.2 - r.1))) (Nat.le_refl _) hlo hlo0 hhi hhi0
              (fun st a b h1 h2 _ => Val.leaf (x := .slice ad 0 0) (by
                obtain rfl : a = 0 := by omega
                obtain rfl : b = 0 := by omega
                simp only [Sem.run_pure]; rfl) (by simp only [R]; exact ⟨ad, rfl, hnn⟩))
            intro Q hq
            obtain ⟨v, x, h1, h2, h3⟩ := h Q hq
            refine ⟨v, x, h1, ?_, h3⟩
            simp only [Instr.sliceAt, Instr.slice, Sem.run_bind, run_underlying hu, Result.andThen_ok]
            simp only [Sem.run_bind] at h2
            simp only [tySize_run hz, Result.andThen_ok]
            exact h2
      · rename_i len e
        dsimp only
        cases a <;> try exact Val.stuck
        · rename_i st bl es i o
          dsimp only
          cases hz : tySize P e with
          | none => exact Val.stuck
          | some z =>
            dsimp only
            cases he : Nat.beq (i * es + o) ((i * es + o) / z * z)
            · exact Val.stuck
            cases hcs : hasCells (hb0 bl) (i * es + o + len * z)
            · exact Val.stuck
            · have he := Nat.eq_of_beq_eq_true he
              simp only [Bool.and_self, cond_true]
              rw [R_ptr] at ha
              obtain ⟨hbn, B, rfl, hB⟩ := ha
              obtain ⟨hc0, el0, hcell0, hsz0⟩ := hasCells_run hr hbn hB hcs
              generalize (i * es + o) / z = q0 at he ⊢
              rw [he]
              have h := evBounds_val (P := P) (F := F) (w := w) (n := n) (m := m) (st := st) (k := len) (cap := len) (lo := lo) (hi := hi) (vlo := vlo) (vhi := vhi) (isSlice := false)
                (T := fun st a b => .leaf (.osl st bl z (q0 + a) (b - a)))
                (f := fun r => pure (.slice (some (if r.2.2 = r.1 then (⟨B, q0 * z, none⟩ : Addr) else Addr.add ⟨B, q0 * z, none⟩ (r.1 * z))) (r.2.1 - r.1) (r.2.2 - r.1))) (Nat.le_refl _) hlo hlo0 hhi hhi0
                (fun st a b h1 h2 hz0 => Val.leaf (x := .slice (some (if len = a then (⟨B, q0 * z, none⟩ : Addr) else Addr.add ⟨B, q0 * z, none⟩ (a * z))) (b - a) (len - a)) (by simp only [Sem.run_pure]) (by
                  rw [R_osl]
                  refine ⟨hbn, _, _, rfl, by omega, ?_⟩
                  by_cases hab : len - a = 0
                  · exact .inl hab
                  · right
                    rw [if_neg (by omega)]
                    refine ⟨B, hc0, el0, (0, 0), by rw [add_plain, Nat.add_mul], hB, hcell0, ?_⟩
                    have e : q0 + a + (len - a) = q0 + len := by omega
                    rw [e, Nat.add_mul, ← he]
                    exact hsz0))
              intro Q hq
              obtain ⟨v, x, h1, h2, h3⟩ := h Q hq
              refine ⟨v, x, h1, ?_, h3⟩
              simp only [Instr.sliceAt, Instr.sureAddr, Sem.run_bind, run_underlying hu, Result.andThen_ok, pure_bind, Sem.run_pure]
              simp only [Sem.run_bind] at h2
              simp only [tySize_run hz, Result.andThen_ok]
              exact h2
        · rename_i st es n' get i o
          dsimp only
          cases hz : tySize P e with
          | none => exact Val.stuck
          | some z =>
            dsimp only
            cases hle : Nat.ble (o + len * z) (get i).len
            · exact Val.stuck
            · simp only [cond_true]
              obtain ⟨B, off, rfl, hF, c0, el0, fr0, hcell, hrow⟩ := view_rows ha (Nat.le_of_ble_eq_true hle)
              have h := evBounds_val (P := P) (F := F) (w := w) (n := n) (m := m) (st := st) (k := len) (cap := len) (lo := lo) (hi := hi) (vlo := vlo) (vhi := vhi) (isSlice := false)
                (T := fun st a b => .leaf (.rsl st z (b - a) fun q => elemAt (get i) o z (a + q)))
                (f := fun r => pure (.slice (some (if r.2.2 = r.1 then (⟨B, off, none⟩ : Addr) else Addr.add ⟨B, off, none⟩ (r.1 * z))) (r.2.1 - r.1) (r.2.2 - r.1))) (Nat.le_refl _) hlo hlo0 hhi hhi0
                (fun st a b h1 h2 hz0 => Val.leaf (x := .slice (some (if len = a then (⟨B, off, none⟩ : Addr) else Addr.add ⟨B, off, none⟩ (a * z))) (b - a) (len - a)) (by simp only [Sem.run_pure]) (by
                  rw [R_rsl]
                  refine ⟨_, _, rfl, by omega, ?_⟩
                  by_cases hab : b - a = 0
                  · exact .inl hab
                  · right
                    rw [if_neg (by omega)]
                    refine ⟨B, off + a * z, by rw [add_plain], hF, c0, el0, fr0, hcell, fun q hq => ?_⟩
                    obtain ⟨xs, g1, g2, g3⟩ := hrow (a + q) (by omega)
                    refine ⟨xs, g1, g2, fun p hp => ?_⟩
                    rw [← g3 p hp, Nat.add_mul]
                    congr 1
                    omega))
              intro Q hq
              obtain ⟨v, x, h1, h2, h3⟩ := h Q hq
              refine ⟨v, x, h1, ?_, h3⟩
              simp only [Instr.sliceAt, Instr.sureAddr, Sem.run_bind, run_underlying hu, Result.andThen_ok, pure_bind, Sem.run_pure]
              simp only [Sem.run_bind] at h2
              simp only [tySize_run hz, Result.andThen_ok]
              exact h2

theorem evCap_val {t : TypeId} {a : V} {x : Value} {ts : Array TypeId} {ty : TypeId} {args : Array Value} (ht : ts[0]? = some t) (hargs : args[0]? = some x) (h : R F w a n m x) :
    Val P F w n m (evCap P t a) (Builtin.cap_ ts ty args) := by
  unfold evCap
  cases hu : P.underlying t with
  | none => exact Val.stuck
  | some d =>
    cases d <;> try exact Val.stuck
    dsimp only
    have h := R_plain1 h
    generalize a.plain1 = a at h ⊢
    cases a <;> try exact Val.stuck
    · simp only [R] at h
      subst h
      refine Val.leaf (x := .int .i64 0) ?_ (by rw [R_int])
      simp only [Builtin.cap_, ht, hargs, Sem.run_bind, run_underlying hu, Result.andThen_ok, Sem.run_pure, goInt]
      rfl
    · simp only [R] at h
      obtain ⟨ad, rfl, _⟩ := h
      refine Val.leaf (x := .int .i64 0) ?_ (by rw [R_int])
      simp only [Builtin.cap_, ht, hargs, Sem.run_bind, run_underlying hu, Result.andThen_ok, Sem.run_pure, goInt]
      rfl
theorem evLen_val {t : TypeId} {a : V} {x : Value} {ts : Array TypeId} {ty : TypeId} {args : Array Value} (ht : ts[0]? = some t) (hargs : args[0]? = some x) (h : R F w a n m x) :
    Val P F w n m (evLen P t a) (Builtin.len_ ts ty args) := by
  unfold evLen
  cases hu : P.underlying t with
  | none => exact Val.stuck
  | some d =>
    cases d <;> try exact Val.stuck
    · dsimp only
      cases a <;> try exact Val.stuck
      rename_i st l
      rw [R_str] at h; subst h
      refine Val.leaf (x := .int .i64 l.length) ?_ (by rw [mkInt_eq, R_int])
      simp only [Builtin.len_, ht, hargs, Sem.run_bind, run_underlying hu, Result.andThen_ok, Sem.run_pure, goInt]
      simp [ByteArray.size]
    · dsimp only
      have h := R_plain1 h
      generalize a.plain1 = a at h ⊢
      cases a <;> try exact Val.stuck
      · rename_i st es k get
        rw [R_rsl] at h
        obtain ⟨_, _, rfl, _⟩ := h
        refine Val.leaf (x := .int .i64 k) ?_ (by rw [mkInt_eq, R_int])
        simp only [Builtin.len_, ht, hargs, Sem.run_bind, run_underlying hu, Result.andThen_ok, Sem.run_pure, goInt]
      · rename_i st b es i k
        rw [R_osl] at h
        obtain ⟨_, _, _, rfl, _⟩ := h
        refine Val.leaf (x := .int .i64 k) ?_ (by rw [mkInt_eq, R_int])
        simp only [Builtin.len_, ht, hargs, Sem.run_bind, run_underlying hu, Result.andThen_ok, Sem.run_pure, goInt]
      · simp only [R] at h
        subst h
        refine Val.leaf (x := .int .i64 0) ?_ (by rw [R_int])
        simp only [Builtin.len_, ht, hargs, Sem.run_bind, run_underlying hu, Result.andThen_ok, Sem.run_pure, goInt]
        rfl
      · simp only [R] at h
        obtain ⟨ad, rfl, _⟩ := h
        refine Val.leaf (x := .int .i64 0) ?_ (by rw [R_int])
        simp only [Builtin.len_, ht, hargs, Sem.run_bind, run_underlying hu, Result.andThen_ok, Sem.run_pure, goInt]
        rfl
    · rename_i k e
      dsimp only
      refine Val.leaf (x := .int .i64 k) ?_ (by rw [mkInt_eq, R_int])
      simp only [Builtin.len_, ht, hargs, Sem.run_bind, run_underlying hu, Result.andThen_ok, Sem.run_pure, goInt]

theorem ev2_val {less : Bool} {a b : V} {x y : Value} (hx : R F w a n m x) (hy : R F w b n m y) :
    Val P F w n m (ev2 less a b) (match less with | true => Builtin.min2 x y | false => Builtin.max2 x y) := by
  cases a <;> try exact fun _ hq => hq.elim
  cases b <;> try exact fun _ hq => hq.elim
  rw [R_int] at hx hy
  subst hx; subst hy
  cases less
  · exact Val.leaf rfl (by rw [mkInt_eq, R_int])
  · exact Val.leaf rfl (by rw [mkInt_eq, R_int])
theorem evMinMax_val {less : Bool} : ∀ (r : V) (ys : List Value), RL F w r n m ys → ∀ (a : V) (x : Value), R F w a n m x →
    Val P F w n m (evMinMax less a r) (ys.foldlM (match less with | true => Builtin.min2 | false => Builtin.max2) x) := by
  intro r
  induction r with
  | nil => intro ys h a x hx; simp only [RL] at h; subst h; exact Val.leaf (by simp only [List.foldlM_nil, Sem.run_pure]) hx
  | cons b t _ ih =>
    intro ys h a x hx
    simp only [RL] at h
    obtain ⟨y, r, rfl, h1, h2⟩ := h
    intro Q hq
    simp only [evMinMax] at hq
    rw [Tree.holds_bind] at hq
    obtain ⟨v, z, g1, g2, g3⟩ := ev2_val (P := P) (less := less) hx h1 _ hq
    obtain ⟨u, q, k1, k2, k3⟩ := ih r h2 v z g3 Q g1
    refine ⟨u, q, k1, ?_, k3⟩
    rw [List.foldlM_cons]
    cases less <;> simp only [Sem.run_bind, g2, Result.andThen_ok, k2]
  | _ => intro ys h; simp only [RL] at h
end
end Go.Fw
namespace Go.Fw

/-- A later world in which all memory that there was is as it was. -/
structure Later (F : Nat → Prop) (w : World) (F' : Nat → Prop) (w' : World) : Prop where
  f : ∀ B, F B → F' B
  back : ∀ B, F' B → F B ∨ w.heap.size ≤ B
  keep : ∀ B, B < w.heap.size → w'.heap[B]? = w.heap[B]?
  size : w.heap.size ≤ w'.heap.size
  dom : (∀ B, F B → B < w.heap.size) → ∀ B, F' B → B < w'.heap.size
  calm : Calm w w'

theorem Later.refl (F : Nat → Prop) (w : World) : Later F w F w :=
  ⟨fun _ h => h, fun _ h => .inl h, fun _ _ => rfl, Nat.le_refl _, fun h => h, Calm.refl w⟩
theorem Later.trans {F F1 F2 : Nat → Prop} {w w1 w2 : World} (h : Later F w F1 w1) (h' : Later F1 w1 F2 w2) : Later F w F2 w2 where
  f B hB := h'.f B (h.f B hB)
  back B hB := (h'.back B hB).elim (fun hB => h.back B hB) (fun hB => .inr (Nat.le_trans h.size hB))
  keep B hB := by rw [h'.keep B (Nat.lt_of_lt_of_le hB h.size), h.keep B hB]
  size := Nat.le_trans h.size h'.size
  dom hd := h'.dom (h.dom hd)
  calm := h.calm.trans h'.calm
theorem heap_alloc_old (w : World) (o : Obj) (B : Nat) (h : B < w.heap.size) : (w.alloc o).heap[B]? = w.heap[B]? := by
  simp only [World.alloc, Array.getElem?_push]
  rw [if_neg (by omega)]
theorem heap_alloc_new (w : World) (o : Obj) : (w.alloc o).heap[w.heap.size]? = some o := by
  simp only [World.alloc, Array.getElem?_push_size]
theorem Later.alloc (F : Nat → Prop) (w : World) (o : Obj) : Later F w (fun B => F B ∨ B = w.heap.size) (w.alloc o) where
  f _ h := .inl h
  back B h := h.imp id (fun h => by omega)
  keep B hB := heap_alloc_old w o B hB
  size := by simp
  dom hd B hB := by
    simp only [World.size_alloc]
    rcases hB with h | h
    · have := hd B h; omega
    · omega
  calm := ⟨rfl, rfl, rfl⟩

theorem heap_lt {w : World} {B : Nat} {o : Obj} (h : w.heap[B]? = some o) : B < w.heap.size := by
  rcases Nat.lt_or_ge B w.heap.size with h' | h'
  · exact h'
  · rw [Array.getElem?_eq_none h'] at h; cases h

section
variable {base : Nat} {m : Nat → Option Nat} {F F' : Nat → Prop} {h : Nat → Blk} {n : Nat} {w w' : World}

theorem HR.lt (hr : HR base m F h n w) {b : Nat} (hb : m b ≠ none) : b < n := by
  rcases Nat.lt_or_ge b n with h' | h'
  · exact h'
  · exact absurd (hr.new b h') hb
theorem HR.ext (hr : HR base m F h n w) (hl : Later F w F' w') : Ext base m F n w m F' n w' where
  f := hl.f
  back B hB := hl.back B hB
  keep B hB := hl.keep B (hB.elim (fun h => Nat.lt_of_lt_of_le h hr.low) (hr.fdom B))
  size := hl.size
  sz := Sizes.of_keep hl.keep
  ow := Own.of_keep hl.keep
  le := Nat.le_refl _
  map _ _ _ h := h
  calm := hl.calm
theorem HR.blockLt (hr : HR base m F h n w) {b B : Nat} (hb : m b = some B) : B < w.heap.size := by
  exact hr.dom b B hb
theorem RB_ext {m' : Nat → Option Nat} {n' : Nat} {blk : Blk} {B : Option Nat} (he : Ext base m F n w m' F' n' w') (hk : ∀ b, B = some b → w'.heap[b]? = w.heap[b]?) (hb : RB F w n m blk B) : RB F' w' n' m' blk B := by
  cases blk with
  | none => exact hb
  | any => exact hb
  | var cs =>
    obtain ⟨b, xs, el, ys, zs, e, hc, hsp, hr⟩ := hb
    exact ⟨b, xs, el, ys, zs, e, by rw [hk b e]; exact hc, hsp, he.row hr⟩
  | arr es k get =>
    rcases hb with h0 | ⟨b, c, el, e, hc, hs, hr⟩
    · exact .inl h0
    refine .inr ⟨b, c, el, e, by rw [hk b e]; exact hc, hs, fun j hj => ?_⟩
    obtain ⟨xs, h1, h2, h3⟩ := hr j hj
    exact ⟨xs, (R_mono he.sz he.f (fun B hB => he.keep B (.inr hB)) (get j) 0 0 _ _ (Nat.le_refl _) (fun _ _ _ h => h)).2 _ h1, h2, h3⟩
  | iter mb since seen last =>
    obtain ⟨r, x, e, hc, h1⟩ := hb
    refine ⟨r, x, e, by rw [hk r e]; exact hc, ?_⟩
    cases mb with
    | none => exact h1
    | some b => obtain ⟨y, h2, h3, h4⟩ := h1; exact ⟨y, Nat.lt_of_lt_of_le h2 he.le, h3, he.map b h2 y h4⟩
  | mapV kd st f ks =>
    obtain ⟨b, es, clock, e, hc, hE, hf⟩ := hb
    exact ⟨b, es, clock, e, by rw [hk b e]; exact hc, hE, fun k hk' => ⟨(hf k hk').1, fun v hv => he.val ((hf k hk').2 v hv)⟩⟩
  | rng f ps asg bd row N st pend =>
    obtain ⟨l, r, e, hc, h1, h2, h3, h4, h5, h6, h7⟩ := hb
    exact ⟨l, r, e, by rw [hk l e]; exact hc, h1, h2, h3, h4, h5, h6, fun i => he.val (h7 i)⟩
theorem HR.later (hr : HR base m F h n w) (hl : Later F w F' w') : HR base m F' h n w' where
  low := Nat.le_trans hr.low hl.size
  fdom := hl.dom hr.fdom
  blk b hb := RB_ext (hr.ext hl) (fun B hB => hl.keep B (hr.blockLt hB)) (hr.blk b hb)
  dom b B hB := Nat.lt_of_lt_of_le (hr.dom b B hB) hl.size
  new := hr.new
  gl := hr.gl.mono (Sizes.of_keep hl.keep) hl.f fun B hB => hl.keep B (hr.fdom B hB)
  own b B hB := ⟨(hr.own b B hB).1, fun hF => (hl.back B hF).elim (hr.own b B hB).2 (fun h => absurd (hr.blockLt hB) (Nat.not_lt.2 h))⟩
  inj := hr.inj
end

/-! ### What a function answers -/
/-- A function of the program, with a body. -/
def Has (P : Program) (g : FuncId) : Prop := ∃ fn c, P.funcs[g]? = some fn ∧ fn.body = some c ∧ (fn.name == "runtime.NumGoroutine") = false
/-- The function 'g' answers 'v' to 'args', and leaves all memory as it was. -/
def Meets (P : Program) (g : FuncId) (args v : V) : Prop :=
  Has P g ∧ ∀ (F : Nat → Prop) (w : World) (xs : Array Value), (∀ B, F B → B < w.heap.size) → GOk F w → RL F w args 0 (fun _ => none) xs.toList →
    Calls P g xs w fun e w' => ∃ x F', e = .returned x ∧ Later F w F' w' ∧ R F' w' v 0 (fun _ => none) x
/-- What is said of a loop is so. -/
def LoopOk (P : Program) (body : Code) (g : (B : Base) → St B → Tree (Ex × St B)) : Prop :=
  ∀ (B : Base) (s : St B) (Q : Ex × St B → Prop), (g B s).holds P Q → SemLoop P body s Q
theorem loops_all : ∀ (c b : Code), b ∈ loopsOf c → b ∈ loopsAll c := by
  intro c
  induction c with
  | seq x y ihx ihy =>
    intro b hb
    simp only [loopsOf, loopsAll, List.mem_append] at hb ⊢
    exact hb.imp (ihx b) (ihy b)
  | cond c x y ihx ihy =>
    intro b hb
    simp only [loopsOf, loopsAll, List.mem_append] at hb ⊢
    exact hb.imp (ihx b) (ihy b)
  | block id x ih => exact ih
  | scope x ih => exact ih
  | loop x ih =>
    intro b hb
    simp only [loopsOf, loopsAll, List.mem_cons] at hb ⊢
    exact hb.imp id (ih b)
  | _ => intro b hb; simp only [loopsOf] at hb; cases hb
structure Env.Ok (E : Env) : Prop where
  mixed : E.P.follows .mixedOrders = true
  named : ∀ (g : FuncId) fn, E.P.funcs[g]? = some fn → (fn.name == "runtime.NumGoroutine") = false
  sure : ∀ g args v, E.Γ g args = some (.sure v) → Meets E.P g args v
  where_ : ∀ g args p v, E.Γ g args = some (.where_ p v) → p → Meets E.P g args v
  fork : ∀ g args b v v', E.Γ g args = some (.fork b v v') → (b = true → Meets E.P g args v) ∧ (b = false → Meets E.P g args v')
  lp : ∀ f body g, InFn E.P f body → loopOf E f body = some g → LoopOk E.P body g

theorem run_callFunc {P : Program} {g : FuncId} (h : Has P g) (args : Array Value) (w : World) : (callFunc g args).run P w = .ok (.enter g args) w := by
  obtain ⟨fn, c, hf, hb, hn⟩ := h
  simp only [callFunc, Sem.run_bind, run_program, Result.andThen_ok, hf, hn, Bool.false_eq_true, if_false, hb, Option.isNone_some, Sem.run_pure]

section
variable {base : Nat} {m : Nat → Option Nat} {F : Nat → Prop} {h : Nat → Blk} {n : Nat} {w : World} {ρ : Operand → V} {a : Act}

theorem RL_operands (hρ : ∀ x, R F w (ρ x) n m (a.eval x)) : ∀ (l : List Operand), RL F w (.ofList (l.map ρ)) n m (l.map a.eval) := by
  intro l
  induction l with
  | nil => simp only [List.map_nil, V.ofList, RL]
  | cons x l ih => simp only [List.map_cons, V.ofList, RL]; exact ⟨_, _, rfl, hρ x, ih⟩
theorem Parts_operands (hρ : ∀ x, R F w (ρ x) n m (a.eval x)) : ∀ (l : List (Nat × Operand)), Parts F w n m (l.map fun p => (p.1, ρ p.2)) (l.map fun p => (p.1, a.eval p.2)) := by
  intro l
  induction l with
  | nil => exact .nil
  | cons x l ih => exact .cons (hρ x.2) ih
theorem callee_run {P : Program} {f : V} {x : Value} {args : V} {xs : Array Value} {g : FuncId} {out : V} (hc : callee f args = some (g, out)) (hf : R F w f n m x)
    (ha : RL F w args n m xs.toList) : ∃ ys : Array Value, RL F w out n m ys.toList ∧
      ∀ w, ((Deferred.ofValue x xs).run P w) = .ok { target := .fn (.func g) (match x with | .func _ _ c => c | _ => #[]), args := (match x with | .func _ f _ => f | _ => #[]) ++ xs } w ∧
        ys = (match x with | .func _ f _ => f | _ => #[]) ++ xs ++ (match x with | .func _ _ c => c | _ => #[]) := by
  unfold callee at hc
  cases f <;> try (cases hc; done)
  rename_i f first cap
  cases f <;> try (cases hc; done)
  simp only [Option.some.injEq, Prod.mk.injEq] at hc
  obtain ⟨rfl, rfl⟩ := hc
  simp only [R] at hf
  obtain ⟨fs, cs, rfl, h1, h2⟩ := hf
  refine ⟨fs ++ xs ++ cs, ?_, fun w => ⟨rfl, rfl⟩⟩
  simp only [Array.toList_append, List.append_assoc]
  exact RL_app _ _ h1 _ _ (RL_app _ _ ha _ _ h2)
theorem exec_call {P : Program} {o : Oper} {c : Call} {f : Operand} {g : FuncId} {out : V} (ho : o.op = .call c) (hcal : c.callee = .value f)
    (hρ : ∀ x, R F w (ρ x) n m (a.eval x)) (hc : callee (ρ f) (.ofList (c.args.toList.map ρ)) = some (g, out)) (hg : Has P g) :
    ∃ ys : Array Value, RL F w out n m ys.toList ∧ (execOp a.eval o).run P w = .ok (.enter g ys) w := by
  have ha : RL F w (.ofList (c.args.toList.map ρ)) n m (c.args.map a.eval).toList := by
    simpa using RL_operands (a := a) hρ c.args.toList
  obtain ⟨ys, h1, h2⟩ := callee_run (P := P) hc (hρ f) ha
  refine ⟨ys, h1, ?_⟩
  obtain ⟨hrun, hys⟩ := h2 w
  simp only [execOp, ho, resolve, hcal, Sem.run_bind, hrun, Result.andThen_ok, invoke, run_callFunc hg, hys]

theorem wp_of_val {E : Env} {o : Oper} {sem : Sem Value} {T : Tree V} {Q : V → Prop} {K : Act → World → Prop} {Qx : Exit → Act → World → Prop}
    (hx : execOp a.eval o = (do pure (.value (← sem)) : Sem Next)) (hv : Val E.P F w n m T sem) (hq : T.holds E.P Q)
    (hK : ∀ v x w' F', Q v → Later F w F' w' → R F' w' v n m x → K (a.put o.dst x) w') : o.wp E.P a w K Qx := by
  obtain ⟨v, x, h1, h2, h3⟩ := hv Q hq
  unfold Oper.wp
  rw [hx]
  simp only [Sem.run_bind, h2, Result.andThen_ok, Sem.run_pure, Oper.upon]
  exact hK v x w F h1 (Later.refl F w) h3

theorem RL_rep {zero : V} {z : List Value} (hz : RL F w zero n m z) : ∀ k, RL F w (rep k zero) n m (List.replicate k z).flatten := by
  intro k
  induction k with
  | zero => simp only [rep, List.replicate_zero, List.flatten_nil, RL]
  | succ k ih =>
    have e : rep (k + 1) zero = zero.app (rep k zero) := rfl
    rw [e, List.replicate_succ, List.flatten_cons]
    exact RL_app _ _ hz _ _ ih
theorem replicate_flatten_get (z : List Value) (k i : Nat) (_hz : 0 < z.length) (hi : i < k * z.length) : (List.replicate k z).flatten[i]? = z[i % z.length]? := by
  induction k generalizing i with
  | zero => simp at hi
  | succ k ih =>
    rw [List.replicate_succ, List.flatten_cons]
    by_cases h1 : i < z.length
    · rw [List.getElem?_append_left h1, Nat.mod_eq_of_lt h1]
    · have e : i % z.length = (i - z.length) % z.length := Nat.mod_eq_sub_mod (by omega)
      have hk : i - z.length < k * z.length := by rw [Nat.add_mul, Nat.one_mul] at hi; omega
      rw [List.getElem?_append_right (by omega), ih (i - z.length) hk, e]
theorem range_flatten (z : Array Value) (k : Nat) : ((Array.range (k * z.size)).map fun i => z[i % z.size]!) = (List.replicate k z.toList).flatten.toArray := by
  apply Array.ext'
  apply List.ext_getElem?
  intro i
  by_cases hi : i < k * z.size
  · have hz : 0 < z.size := by
      rcases Nat.eq_zero_or_pos z.size with h | h
      · rw [h, Nat.mul_zero] at hi; omega
      · exact h
    have hm : i % z.size < z.size := Nat.mod_lt _ hz
    rw [List.toList_toArray, replicate_flatten_get z.toList k i (by simpa using hz) (by simpa using hi)]
    simp only [Array.length_toList, Array.toList_map, Array.toList_range, List.getElem?_map, List.getElem?_range hi, Option.map_some, Array.getElem?_toList]
    rw [Array.getElem?_eq_getElem hm, getElem!_pos z _ hm]
  · rw [List.getElem?_eq_none (by simp; omega), List.getElem?_eq_none (by simp [List.length_flatten]; omega)]

/-- What a new slice's block holds. -/
theorem run_buildSlice {E : Env} {o : Oper} {t : TypeId} {len : Nat} {parts : Array (Nat × Operand)} {z : Nat} {cs : V}
    (ho : o.op = .buildSlice t len parts) (hρ : ∀ x, R F w (ρ x) n m (a.eval x)) (hq : evBuildRow E.P t len (parts.toList.map fun p => (p.1, ρ p.2)) = some (z, cs)) :
    ∃ (outc : Array Value) (e : TypeId), (execOp a.eval o).run E.P w = .ok (.value (.slice (some ⟨w.heap.size, 0, none⟩) len len)) (w.alloc (.cells outc e)) ∧ RL F w cs n m outc.toList ∧ outc.size = len * z := by
  unfold evBuildRow at hq
  cases hu : E.P.underlying t with
  | none => rw [hu] at hq; cases hq
  | some d =>
    rw [hu] at hq
    cases d <;> try (cases hq; done)
    rename_i e
    dsimp only at hq
    cases hz : tySize E.P e with
    | none => rw [hz] at hq; cases hq
    | some z' =>
      rw [hz] at hq
      cases hzero : tyZero E.P e with
      | none => rw [hzero] at hq; cases hq
      | some zero =>
        rw [hzero] at hq
        dsimp only at hq
        obtain ⟨zv, hzv, hzr⟩ := tyZero_run (F := F) (w := w) (n := n) (m := m) hzero
        rw [RL_len _ _ hzr] at hq
        cases h1 : Nat.beq zv.cells.toList.length z'
        · rw [h1] at hq; cases hq
        · cases h2 : Nat.ble (len * z') 16777216
          · rw [h1, h2] at hq; cases hq
          · rw [h1, h2] at hq
            simp only [Bool.and_self, cond_true] at hq
            have h1' : zv.cells.size = z' := by simpa using Nat.eq_of_beq_eq_true h1
            have h2' := Nat.le_of_ble_eq_true h2
            have hparts : Parts F w n m (parts.toList.map fun p => (p.1, ρ p.2)) (parts.map fun p => (p.1, a.eval p.2)).toList := by
              simpa using Parts_operands (a := a) hρ parts.toList
            cases hf : fillRow E.P (fun i => some (i * z', z')) (rep len zero) (parts.toList.map fun p => (p.1, ρ p.2)) with
            | none => rw [hf] at hq; cases hq
            | some cs' =>
              rw [hf] at hq
              dsimp only at hq
              injection hq with hq
              injection hq with e1 e2
              subst e1; subst e2
              obtain ⟨outc, g1, g2, g3⟩ := fillRow_run _ _ hparts _ _ (List.replicate len zv.cells.toList).flatten.toArray hf (by simpa using RL_rep hzr len)
              have hsize : outc.size = len * z' := by rw [g3]; simp [List.length_flatten, h1']
              have hzeros : ∀ zz : Array Value, (len * z' ≠ 0 → zz = zv.cells) →
                  ((Array.range (len * z')).map fun i => zz[i % zz.size]!) = (List.replicate len zv.cells.toList).flatten.toArray := by
                intro zz hzz
                by_cases h0 : len * z' = 0
                · rw [h0]
                  have : (List.replicate len zv.cells.toList).flatten = [] := by
                    apply List.eq_nil_of_length_eq_zero
                    simp [List.length_flatten, h1', h0]
                  rw [this]; simp
                · rw [hzz h0, ← h1', range_flatten]
              refine ⟨outc, e, ?_, g2, hsize⟩
              simp only [execOp, ho, Instr.buildSlice, Sem.run_bind, run_underlying hu, Result.andThen_ok, tySize_run hz]
              rw [if_neg (show ¬ len * z' > 2 ^ 24 by omega)]
              by_cases h0 : len * z' = 0
              · simp only [h0, if_true, pure_bind]
                have := hzeros #[] (fun h => absurd h0 h)
                rw [h0] at this
                rw [this, g1]
                rfl
              · simp only [h0, if_false, Sem.run_bind, hzv, Result.andThen_ok, pure_bind]
                rw [hzeros zv.cells (fun _ => rfl), g1]
                rfl
theorem wp_bytes {E : Env} {o : Oper} {src dst : TypeId} {x : Operand} {T : Tree V} {Q : V → Prop} {K : Act → World → Prop} {Qx : Exit → Act → World → Prop}
    (ho : o.op = .convert src dst x) (hρ : ∀ x, R F w (ρ x) n m (a.eval x)) (hT : evBytes E.P src dst (ρ x) = some T) (hq : T.holds E.P Q)
    (hK : ∀ v x w' F', Q v → Later F w F' w' → R F' w' v n m x → K (a.put o.dst x) w') : o.wp E.P a w K Qx := by
  unfold evBytes at hT
  split at hT
  · rename_i st s hx
    split at hT
    · rename_i hs
      split at hT
      · rename_i e hd
        split at hT
        · rename_i he
          injection hT with hT; subst hT
          have hv := hρ x
          rw [hx, R_str] at hv
          have hrun := Lib.run_convert_string_bytes (P := E.P) w src dst e ⟨s.toArray⟩ hs hd he
          have hrun2 : (execOp a.eval o).run E.P w = .ok (.value (.slice (some ⟨w.heap.size, 0, none⟩) s.length (grownCap w s.length 0 e))) (Lib.bytesWorld w e ⟨s.toArray⟩) := by
            simp only [execOp, ho, Sem.run_bind, hv, hrun, Result.andThen_ok, Sem.run_pure]
            rfl
          unfold Oper.wp
          rw [hrun2]
          simp only [Oper.upon]
          have hcalm : Calm w (Lib.bytesWorld w e ⟨s.toArray⟩) := ⟨rfl, rfl, rfl⟩
          have hsz : (Lib.bytesWorld w e ⟨s.toArray⟩).heap.size = w.heap.size + 1 := Lib.bytesWorld_size w e _
          refine hK _ _ _ (fun B => F B ∨ B = w.heap.size) hq ⟨fun _ h => .inl h, fun B h => h.elim .inl fun h => .inr (by omega), fun B hB => Lib.bytesWorld_at_old w e _ B hB, by omega, fun hd B hB => ?_, hcalm⟩ ?_
          · rcases hB with h | h
            · have := hd B h; omega
            · omega
          · rw [R_rsl]
            refine ⟨_, _, rfl, grownCap_ge w s.length 0 e, .inr ⟨w.heap.size, 0, rfl, .inr rfl, _, _, _, Lib.bytesWorld_at_new w e _, fun j hj => ⟨[.int .u8 (Int.ofNat (s.getD j 0).toNat)], ?_, rfl, fun q hq => ?_⟩⟩⟩
            · simp only [RL, R]
              exact ⟨_, _, rfl, rfl, rfl⟩
            · obtain rfl : q = 0 := by omega
              simp [Lib.bytesCells, Array.getElem?_append, hj, List.getD]
        · cases hT
      · cases hT
    · cases hT
  · cases hT
end
end Go.Fw
namespace Go.Fw

section
variable {base : Nat} {m : Nat → Option Nat} {F : Nat → Prop} {h : Nat → Blk} {n : Nat} {w : World} {ρ : Operand → V} {a : Act}

theorem optV {lo : Option Operand} (hρ : ∀ x, R F w (ρ x) n m (a.eval x)) :
    (∀ b, lo.map ρ = some b → ∃ x, lo.map a.eval = some x ∧ R F w b n m x) ∧ (lo.map ρ = none → lo.map a.eval = none) := by
  cases lo with
  | none => exact ⟨(fun b hb => by cases hb), fun _ => rfl⟩
  | some x => exact ⟨(fun b hb => by simp only [Option.map_some, Option.some.injEq] at hb; subst hb; exact ⟨_, rfl, hρ x⟩), fun hb => by cases hb⟩

theorem exec_builtin {P : Program} {o : Oper} {c : Call} {b : Builtin} {sem : Sem Value} (ho : o.op = .call c) (hcal : c.callee = .builtin b)
    (hb : ∀ consts ty, builtin b c.argTypes ty consts (c.args.map a.eval) = (do pure (.value (← sem)))) (w : World) :
    (execOp a.eval o).run P w = ((sem.run P w).andThen fun x w => .ok (.value x) w) := by
  simp only [execOp, ho, resolve, hcal, pure_bind, invoke, hb, Sem.run_bind, Sem.run_pure]
theorem wp_of_run {E : Env} {o : Oper} {sem : Sem Value} {T : Tree V} {Q : V → Prop} {K : Act → World → Prop} {Qx : Exit → Act → World → Prop}
    (hx : (execOp a.eval o).run E.P w = ((sem.run E.P w).andThen fun x w => .ok (.value x) w)) (hv : Val E.P F w n m T sem) (hq : T.holds E.P Q)
    (hK : ∀ v x w' F', Q v → Later F w F' w' → R F' w' v n m x → K (a.put o.dst x) w') : o.wp E.P a w K Qx := by
  obtain ⟨v, x, h1, h2, h3⟩ := hv Q hq
  unfold Oper.wp
  rw [hx]
  simp only [h2, Result.andThen_ok, Oper.upon]
  exact hK v x w F h1 (Later.refl F w) h3

theorem wp_builtin {E : Env} {o : Oper} {c : Call} {b : Builtin} {T : Tree V} {Q : V → Prop} {K : Act → World → Prop} {Qx : Exit → Act → World → Prop}
    (ho : o.op = .call c) (hcal : c.callee = .builtin b) (hρ : ∀ x, R F w (ρ x) n m (a.eval x)) (hT : evBuiltin E.P b c.argTypes.toList (.ofList (c.args.toList.map ρ)) = some T) (hq : T.holds E.P Q)
    (hK : ∀ v x w' F', Q v → Later F w F' w' → R F' w' v n m x → K (a.put o.dst x) w') : o.wp E.P a w K Qx := by
  have hargs := RL_operands (a := a) hρ c.args.toList
  cases b <;> try (cases hT; done)
  · simp only [evBuiltin, Option.some.injEq] at hT
    subst hT
    cases hts : c.argTypes.toList with
    | nil => rw [hts] at hq; exact hq.elim
    | cons t ts =>
      rw [hts] at hq
      cases hal : c.args.toList with
      | nil => rw [hal] at hq; exact hq.elim
      | cons x xs =>
        rw [hal] at hq
        simp only [List.map_cons, V.ofList] at hq
        have h0 : c.argTypes[0]? = some t := by rw [← Array.getElem?_toList, hts]; rfl
        have h1 : (c.args.map a.eval)[0]? = some (a.eval x) := by rw [← Array.getElem?_toList, Array.toList_map, hal]; rfl
        exact wp_of_run (exec_builtin (sem := Builtin.cap_ c.argTypes o.type (c.args.map a.eval)) ho hcal (fun consts ty => by
            simp only [builtin, Builtin.cap_]) w) (evCap_val h0 h1 (hρ x)) hq hK
  · simp only [evBuiltin, Option.some.injEq] at hT
    subst hT
    cases hts : c.argTypes.toList with
    | nil => rw [hts] at hq; exact hq.elim
    | cons t ts =>
      rw [hts] at hq
      cases hal : c.args.toList with
      | nil => rw [hal] at hq; exact hq.elim
      | cons x xs =>
        rw [hal] at hq
        simp only [List.map_cons, V.ofList] at hq
        have h0 : c.argTypes[0]? = some t := by rw [← Array.getElem?_toList, hts]; rfl
        have h1 : (c.args.map a.eval)[0]? = some (a.eval x) := by rw [← Array.getElem?_toList, Array.toList_map, hal]; rfl
        exact wp_of_run (exec_builtin (sem := Builtin.len_ c.argTypes o.type (c.args.map a.eval)) ho hcal (fun consts ty => by
            simp only [builtin, Builtin.len_]) w) (evLen_val h0 h1 (hρ x)) hq hK
  · simp only [evBuiltin, Option.some.injEq] at hT
    subst hT
    cases hal : c.args.toList with
    | nil => rw [hal] at hq; exact hq.elim
    | cons x xs =>
      rw [hal] at hq hargs
      simp only [List.map_cons, V.ofList, RL] at hq hargs
      obtain ⟨y, r, e, hy, hr⟩ := hargs
      injection e with e1 e2
      subst e1; subst e2
      refine wp_of_run (exec_builtin (sem := Builtin.max_ c.argTypes o.type (c.args.map a.eval)) ho hcal (fun consts ty => rfl) w) ?_ hq hK
      have := evMinMax_val (P := E.P) (less := false) _ _ hr _ _ hy
      intro Q' hq'
      obtain ⟨v, z, k1, k2, k3⟩ := this Q' hq'
      refine ⟨v, z, k1, ?_, k3⟩
      simp only [Builtin.max_, Array.toList_map, hal, List.map_cons]
      exact k2
  · simp only [evBuiltin, Option.some.injEq] at hT
    subst hT
    cases hal : c.args.toList with
    | nil => rw [hal] at hq; exact hq.elim
    | cons x xs =>
      rw [hal] at hq hargs
      simp only [List.map_cons, V.ofList, RL] at hq hargs
      obtain ⟨y, r, e, hy, hr⟩ := hargs
      injection e with e1 e2
      subst e1; subst e2
      refine wp_of_run (exec_builtin (sem := Builtin.min_ c.argTypes o.type (c.args.map a.eval)) ho hcal (fun consts ty => rfl) w) ?_ hq hK
      have := evMinMax_val (P := E.P) (less := true) _ _ hr _ _ hy
      intro Q' hq'
      obtain ⟨v, z, k1, k2, k3⟩ := this Q' hq'
      refine ⟨v, z, k1, ?_, k3⟩
      simp only [Builtin.min_, Array.toList_map, hal, List.map_cons]
      exact k2

theorem wp_meets {E : Env} {o : Oper} {c : Call} {f : Operand} {g : FuncId} {out v : V} {Q : V → Prop} {K : Act → World → Prop} {Qx : Exit → Act → World → Prop}
    (ho : o.op = .call c) (hcal : c.callee = .value f) (hρ : ∀ x, R F w (ρ x) n m (a.eval x)) (hc : callee (ρ f) (.ofList (c.args.toList.map ρ)) = some (g, out))
    (hm : Meets E.P g out v) (hcl : out.clean = true) (hcv : v.clean = true) (hfd : ∀ B, F B → B < w.heap.size) (hgl : GOk F w) (hq : Q v)
    (hK : ∀ v x w' F', Q v → Later F w F' w' → R F' w' v n m x → K (a.put o.dst x) w') : o.wp E.P a w K Qx := by
  obtain ⟨hhas, hm⟩ := hm
  obtain ⟨ys, h1, h2⟩ := exec_call (P := E.P) ho hcal hρ hc hhas
  unfold Oper.wp
  rw [h2]
  simp only [Oper.upon]
  refine (hm F w ys hfd hgl ((R_clean out hcl n 0 m _).2 _ h1)).mono fun e w' he => ?_
  obtain ⟨x, F', rfl, hl, hR⟩ := he
  exact hK v x w' F' hq hl ((R_clean v hcv 0 n _ m).1 _ hR)

/-- A value without rows stands for itself, whatever stays. -/
theorem R_rowless {F F' : Nat → Prop} {w : World} : ∀ (v : V), v.clean = true → v.rowless = true → ∀ (n n' : Nat) (m m' : Nat → Option Nat),
    (∀ x, R F w v n m x → R F' w v n' m' x) ∧ (∀ xs, RL F w v n m xs → RL F' w v n' m' xs) := by
  intro v
  induction v with
  | cons h t ih1 ih2 =>
    intro hc hl n n' m m'
    simp only [V.clean, V.rowless, Bool.and_eq_true] at hc hl
    refine ⟨fun x h => by simp only [R] at h, fun xs h => ?_⟩
    simp only [RL] at h ⊢
    obtain ⟨x, r, rfl, h1, h2⟩ := h
    exact ⟨x, r, rfl, (ih1 hc.1 hl.1 n n' m m').1 _ h1, (ih2 hc.2 hl.2 n n' m m').2 _ h2⟩
  | agg cs ih =>
    intro hc hl n n' m m'
    refine ⟨fun x h => ?_, fun xs h => by simp only [RL] at h⟩
    simp only [R] at h ⊢
    obtain ⟨xs, rfl, h1⟩ := h
    exact ⟨xs, rfl, (ih hc hl n n' m m').2 _ h1⟩
  | tup cs ih =>
    intro hc hl n n' m m'
    refine ⟨fun x h => ?_, fun xs h => by simp only [RL] at h⟩
    simp only [R] at h ⊢
    obtain ⟨xs, rfl, h1⟩ := h
    exact ⟨xs, rfl, (ih hc hl n n' m m').2 _ h1⟩
  | fn f a b ih1 ih2 =>
    intro hc hl n n' m m'
    simp only [V.clean, V.rowless, Bool.and_eq_true] at hc hl
    refine ⟨fun x h => ?_, fun xs h => by simp only [RL] at h⟩
    simp only [R] at h ⊢
    obtain ⟨xs, ys, rfl, h1, h2⟩ := h
    exact ⟨xs, ys, rfl, (ih1 hc.1 hl.1 n n' m m').2 _ h1, (ih2 hc.2 hl.2 n n' m m').2 _ h2⟩
  | ptr st b es i o => intro hc; cases hc
  | osl st b es i k => intro hc; cases hc
  | osp st b es i k c => intro hc; cases hc
  | yld b => intro hc; cases hc
  | mp b => intro hc; cases hc
  | rptr st es k get i o => intro _ hl; cases hl
  | rsl st es k get => intro _ hl; cases hl
  | rmp st kd has get => intro _ hl; cases hl
  | nil => intro _ _ n n' m m'; exact ⟨fun x h => by simp only [R] at h, fun xs h => by simp only [RL] at h ⊢; exact h⟩
  | junk => intro _ _ n n' m m'; exact ⟨fun x h => by simp only [R], fun xs h => by simp only [RL] at h⟩
  | _ => intro _ _ n n' m m'; exact ⟨fun x h => by simp only [R] at h ⊢; exact h, fun xs h => by simp only [RL] at h⟩
theorem freezeW_R (hr : HR base m F h n w) {x : V} {X : Value} (hx : R F w x n m X) (hn : ∀ p, frNeedW h x = some p → p) : R (fun B => F B ∨ ∃ b, m b = some B) w (freezeW h x) n m X := by
  have base' : R (fun B => F B ∨ ∃ b, m b = some B) w x n m X := (R_mono (Sizes.refl w) (fun B h => .inl h) (fun _ _ => rfl) x n n m m (Nat.le_refl _) (fun _ _ _ h => h)).1 X hx
  unfold freezeW
  split
  · rename_i st b es i k
    split
    · rename_i cs hb
      cases hst : st
      · exact base'
      cases hc : cs.clean
      · rw [hst] at base'; exact base'
      cases hle : Nat.ble ((i + k) * es) cs.len
      · rw [hst] at base'; exact base'
      simp only [Bool.and_self, cond_true]
      have hle' := Nat.le_of_ble_eq_true hle
      rw [R_osl] at hx
      obtain ⟨hbn, a, cap, rfl, hk, hrow⟩ := hx
      have hblk := hr.blk b hbn
      rw [hb] at hblk
      obtain ⟨B', xs, el', ys, zs, hm, hcell, hsp, hrl⟩ := hblk
      rw [R_rsl]
      refine ⟨a, cap, rfl, hk, ?_⟩
      rcases hrow with h0 | ⟨B, c, el, fr, rfl, hB, hcc, hz⟩
      · exact .inl (by omega)
      right
      obtain rfl : B = B' := by rw [hB] at hm; injection hm
      refine ⟨B, i * es, rfl, .inr ⟨b, hB⟩, xs, el', (0, 0), hcell, fun j hj => ?_⟩
      have hrl0 := (R_clean cs hc n 0 m (fun _ => none)).2 _ hrl
      have hlen := RL_len _ _ hrl
      rw [hlen] at hle'
      have hpl := prefix_len hsp
      have hjk : (i + j + 1) * es ≤ (i + k) * es := Nat.mul_le_mul_right es (by omega)
      rw [Nat.add_mul, Nat.one_mul] at hjk
      refine ⟨(ys.drop ((i + j) * es)).take es, ?_, ?_, fun q hq => ?_⟩
      · exact (R_mono (Sizes.refl w) (fun B h => .inl h) (fun _ _ => rfl) _ 0 0 _ _ (Nat.le_refl _) (fun _ _ _ h => h)).2 _ (RL_take _ _ (RL_drop _ _ hrl0 _) _)
      · simp; omega
      · rw [List.getElem?_take_of_lt hq, List.getElem?_drop, ← Nat.add_mul]
        exact prefix_get hsp (by omega)
    · rename_i es' K get hb
      cases he : Nat.beq es es'
      · exact base'
      simp only [cond_true]
      have hik : i + k ≤ K := by
        cases hs : (st && Nat.ble (i + k) K)
        · refine hn _ ?_
          simp only [frNeedW, hb, he, hs, cond_true, cond_false]
        · simp only [Bool.and_eq_true] at hs
          exact Nat.le_of_ble_eq_true hs.2
      obtain rfl := Nat.eq_of_beq_eq_true he
      rw [R_osl] at hx
      obtain ⟨hbn, a, cap, rfl, hk, hrow⟩ := hx
      rw [R_rsl]
      refine ⟨a, cap, rfl, hk, ?_⟩
      rcases hrow with h0 | ⟨B, c, el, fr, rfl, hB, hcc, hz⟩
      · exact .inl (by omega)
      have hblk := hr.blk b hbn
      rw [hb] at hblk
      rcases hblk with ⟨h0, _⟩ | ⟨B', c', el', hm, hcell, hz', hall⟩
      · exact .inl (by omega)
      right
      obtain rfl : B = B' := by rw [hB] at hm; injection hm
      refine ⟨B, i * es, rfl, .inr ⟨b, hB⟩, c', el', (0, 0), hcell, fun j hj => ?_⟩
      obtain ⟨xs, g1, g2, g3⟩ := hall (i + j) (by omega)
      refine ⟨xs, ?_, g2, fun q hq => ?_⟩
      · exact (R_mono (Sizes.refl w) (fun B h => .inl h) (fun _ _ => rfl) _ 0 0 _ _ (Nat.le_refl _) (fun _ _ _ h => h)).2 _ g1
      · rw [← Nat.add_mul]; exact g3 q hq
    · exact base'
  · exact base'
theorem freezeV_R (hr : HR base m F h n w) {x : V} {X : Value} (hx : R F w x n m X) (hn : ∀ p, frNeedV h x = some p → p) : R (fun B => F B ∨ ∃ b, m b = some B) w (freezeV h x) n m X := freezeW_R hr (R_plain1 hx) hn
theorem bothP_left {p q : Option Prop} (h : ∀ r, bothP p q = some r → r) : ∀ r, p = some r → r := by
  intro r hr; subst hr
  cases q with
  | none => exact h r rfl
  | some q => exact (h _ rfl).1
theorem bothP_right {p q : Option Prop} (h : ∀ r, bothP p q = some r → r) : ∀ r, q = some r → r := by
  intro r hr; subst hr
  cases p with
  | none => exact h r rfl
  | some p => exact (h _ rfl).2
theorem freeze_R (hr : HR base m F h n w) : ∀ (v : V), (∀ p, frNeed h v = some p → p) → (∀ x, R F w v n m x → R (fun B => F B ∨ ∃ b, m b = some B) w (freeze h v) n m x) ∧ (∀ xs, RL F w v n m xs → RL (fun B => F B ∨ ∃ b, m b = some B) w (freeze h v) n m xs) := by
  have keep : ∀ v, (∀ x, R F w v n m x → R (fun B => F B ∨ ∃ b, m b = some B) w v n m x) ∧ (∀ xs, RL F w v n m xs → RL (fun B => F B ∨ ∃ b, m b = some B) w v n m xs) :=
    fun v => R_mono (Sizes.refl w) (fun B h => .inl h) (fun _ _ => rfl) v n n m m (Nat.le_refl _) (fun _ _ _ h => h)
  intro v
  induction v with
  | cons a t ih1 ih2 =>
    intro hn
    refine ⟨fun x hx => by simp only [R] at hx, fun xs hx => ?_⟩
    simp only [RL] at hx
    obtain ⟨x, r, rfl, h1, h2⟩ := hx
    simp only [freeze, RL]
    exact ⟨x, r, rfl, (ih1 (bothP_left hn)).1 _ h1, (ih2 (bothP_right hn)).2 _ h2⟩
  | agg cs ih =>
    intro hn
    refine ⟨fun x hx => ?_, fun xs hx => by simp only [RL] at hx⟩
    simp only [R] at hx
    obtain ⟨xs, rfl, h1⟩ := hx
    simp only [freeze, R]
    exact ⟨xs, rfl, (ih hn).2 _ h1⟩
  | osl st b es i k => exact fun hn => ⟨fun x hx => freezeV_R hr hx hn, fun xs hx => by simp only [RL] at hx⟩
  | osp st b es i k c => exact fun hn => ⟨fun x hx => freezeV_R hr hx hn, fun xs hx => by simp only [RL] at hx⟩
  | _ => intro hn; exact keep _
theorem R_scrub {F : Nat → Prop} {w : World} {n : Nat} {m : Nat → Option Nat} : ∀ (v : V), v.scrub.clean = true ∧ v.scrub.len = v.len ∧ (∀ x, R F w v n m x → R F w v.scrub n m x) ∧ (∀ xs, RL F w v n m xs → RL F w v.scrub n m xs) := by
  intro v
  induction v with
  | cons a t ih1 ih2 =>
    refine ⟨by simp only [V.scrub, V.clean, ih1.1, ih2.1, Bool.and_self], by simp only [V.scrub, V.len, ih2.2.1], fun x hx => by simp only [R] at hx, fun xs hx => ?_⟩
    simp only [V.scrub, RL] at hx ⊢
    obtain ⟨x, r, rfl, h1, h2⟩ := hx
    exact ⟨x, r, rfl, ih1.2.2.1 _ h1, ih2.2.2.2 _ h2⟩
  | agg cs ih =>
    refine ⟨by simp only [V.scrub, V.clean, ih.1], rfl, fun x hx => ?_, fun xs hx => by simp only [RL] at hx⟩
    simp only [V.scrub, R] at hx ⊢
    obtain ⟨xs, rfl, h1⟩ := hx
    exact ⟨xs, rfl, ih.2.2.2 _ h1⟩
  | tup cs ih =>
    refine ⟨by simp only [V.scrub, V.clean, ih.1], rfl, fun x hx => ?_, fun xs hx => by simp only [RL] at hx⟩
    simp only [V.scrub, R] at hx ⊢
    obtain ⟨xs, rfl, h1⟩ := hx
    exact ⟨xs, rfl, ih.2.2.2 _ h1⟩
  | fn f a b ih1 ih2 =>
    refine ⟨by simp only [V.scrub, V.clean, ih1.1, ih2.1, Bool.and_self], rfl, fun x hx => ?_, fun xs hx => by simp only [RL] at hx⟩
    simp only [V.scrub, R] at hx ⊢
    obtain ⟨xs, ys, rfl, h1, h2⟩ := hx
    exact ⟨xs, ys, rfl, ih1.2.2.2 _ h1, ih2.2.2.2 _ h2⟩
  | ptr st b es i o => exact ⟨rfl, rfl, fun x hx => by simp only [V.scrub, R], fun xs hx => by simp only [RL] at hx⟩
  | osl st b es i k => exact ⟨rfl, rfl, fun x hx => by simp only [V.scrub, R], fun xs hx => by simp only [RL] at hx⟩
  | osp st b es i k c => exact ⟨rfl, rfl, fun x hx => by simp only [V.scrub, R], fun xs hx => by simp only [RL] at hx⟩
  | yld b => exact ⟨rfl, rfl, fun x hx => by simp only [V.scrub, R], fun xs hx => by simp only [RL] at hx⟩
  | mp b => exact ⟨rfl, rfl, fun x hx => by simp only [V.scrub, R], fun xs hx => by simp only [RL] at hx⟩
  | _ => exact ⟨rfl, rfl, fun x hx => hx, fun xs hx => hx⟩
/-- A row's cells, as they stay. -/
theorem scrub_RL {F F' : Nat → Prop} (hF : ∀ B, F B → F' B) {v : V} {xs : List Value} (h : RL F w v n m xs) : RL F' w v.scrub 0 (fun _ => none) xs :=
  (R_mono (Sizes.refl w) hF (fun _ _ => rfl) _ 0 0 _ _ (Nat.le_refl _) (fun _ _ _ h => h)).2 _ ((R_clean _ (R_scrub (F := F) (w := w) (n := n) (m := m) v).1 n 0 m _).2 _ ((R_scrub v).2.2.2 _ h))
theorem fzLeafW_R (hr : HR base m F h n w) {g : V → V} (hg : ∀ v xs, RL F w v n m xs → RL (fun B => F B ∨ ∃ b, m b = some B) w (g v) n m xs) {x : V} {X : Value} (hx : R F w x n m X) :
    R (fun B => F B ∨ ∃ b, m b = some B) w (fzLeafW h g x) n m X := by
  have base' : R (fun B => F B ∨ ∃ b, m b = some B) w x n m X := (R_mono (Sizes.refl w) (fun B h => .inl h) (fun _ _ => rfl) x n n m m (Nat.le_refl _) (fun _ _ _ h => h)).1 X hx
  unfold fzLeafW
  split
  · rename_i st b es i o
    split
    · rename_i cs hb
      cases st
      · exact base'
      simp only [cond_true]
      rw [R_ptr] at hx
      obtain ⟨hbn, B, rfl, hB⟩ := hx
      have hblk := hr.blk b hbn
      rw [hb] at hblk
      obtain ⟨B', xs, el', ys, zs, hm, hcell, hsp, hrl⟩ := hblk
      obtain rfl : B = B' := by rw [hB] at hm; injection hm
      rw [R_rptr]
      refine ⟨by omega, B, 0, by simp, .inr ⟨b, hB⟩, xs, el', (0, 0), hcell, fun j hj => ?_⟩
      obtain rfl : j = 0 := by omega
      refine ⟨ys, scrub_RL (fun _ h => h) (hg _ _ hrl), (RL_len _ _ hrl).symm, fun q hq => ?_⟩
      rw [RL_len _ _ hrl] at hq
      simp only [Nat.zero_mul, Nat.zero_add]
      exact prefix_get hsp hq
    · rename_i es' K get hb
      cases hc : (Nat.beq es es' && (st && Nat.blt i K))
      · exact base'
      simp only [Bool.and_eq_true] at hc
      obtain ⟨he, -, hlt⟩ := hc
      obtain rfl := Nat.eq_of_beq_eq_true he
      have hlt' : i < K := by simpa [Nat.blt_eq] using hlt
      simp only [cond_true]
      rw [R_ptr] at hx
      obtain ⟨hbn, B, rfl, hB⟩ := hx
      have hblk := hr.blk b hbn
      rw [hb] at hblk
      rcases hblk with ⟨h0, _⟩ | ⟨B', c', el', hm, hcell, hz', hall⟩
      · omega
      obtain rfl : B = B' := by rw [hB] at hm; injection hm
      rw [R_rptr]
      refine ⟨hlt', B, 0, by simp, .inr ⟨b, hB⟩, c', el', (0, 0), hcell, fun j hj => ?_⟩
      obtain ⟨xs, g1, g2, g3⟩ := hall j hj
      refine ⟨xs, ?_, g2, fun q hq => ?_⟩
      · exact (R_mono (Sizes.refl w) (fun B h => .inl h) (fun _ _ => rfl) _ 0 0 _ _ (Nat.le_refl _) (fun _ _ _ h => h)).2 _ g1
      · rw [Nat.zero_add]; exact g3 q hq
    · exact base'
  · rename_i st b es i k
    split
    · rename_i cs hb
      cases hc : (st && Nat.ble ((i + k) * es) cs.len)
      · exact base'
      simp only [Bool.and_eq_true] at hc
      have hle' := Nat.le_of_ble_eq_true hc.2
      simp only [cond_true]
      rw [R_osl] at hx
      obtain ⟨hbn, a, cap, rfl, hk, hrow⟩ := hx
      have hblk := hr.blk b hbn
      rw [hb] at hblk
      obtain ⟨B', xs, el', ys, zs, hm, hcell, hsp, hrl⟩ := hblk
      rw [R_rsl]
      refine ⟨a, cap, rfl, hk, ?_⟩
      rcases hrow with h0 | ⟨B, c, el, fr, rfl, hB, hcc, hz⟩
      · exact .inl (by omega)
      right
      obtain rfl : B = B' := by rw [hB] at hm; injection hm
      refine ⟨B, i * es, rfl, .inr ⟨b, hB⟩, xs, el', (0, 0), hcell, fun j hj => ?_⟩
      have hlen := RL_len _ _ hrl
      rw [hlen] at hle'
      have hpl := prefix_len hsp
      have hjk : (i + j + 1) * es ≤ (i + k) * es := Nat.mul_le_mul_right es (by omega)
      rw [Nat.add_mul, Nat.one_mul] at hjk
      refine ⟨(ys.drop ((i + j) * es)).take es, RL_take _ _ (RL_drop _ _ (scrub_RL (fun _ h => h) (hg _ _ hrl)) _) _, ?_, fun q hq => ?_⟩
      · simp; omega
      · rw [List.getElem?_take_of_lt hq, List.getElem?_drop, ← Nat.add_mul]
        exact prefix_get hsp (by omega)
    · rename_i es' K get hb
      cases hc : (Nat.beq es es' && (st && Nat.ble (i + k) K))
      · exact base'
      simp only [Bool.and_eq_true] at hc
      obtain ⟨he, -, hlt⟩ := hc
      have hik := Nat.le_of_ble_eq_true hlt
      obtain rfl := Nat.eq_of_beq_eq_true he
      simp only [cond_true]
      rw [R_osl] at hx
      obtain ⟨hbn, a, cap, rfl, hk, hrow⟩ := hx
      rw [R_rsl]
      refine ⟨a, cap, rfl, hk, ?_⟩
      rcases hrow with h0 | ⟨B, c, el, fr, rfl, hB, hcc, hz⟩
      · exact .inl (by omega)
      have hblk := hr.blk b hbn
      rw [hb] at hblk
      rcases hblk with ⟨h0, _⟩ | ⟨B', c', el', hm, hcell, hz', hall⟩
      · exact .inl (by omega)
      right
      obtain rfl : B = B' := by rw [hB] at hm; injection hm
      refine ⟨B, i * es, rfl, .inr ⟨b, hB⟩, c', el', (0, 0), hcell, fun j hj => ?_⟩
      obtain ⟨xs, g1, g2, g3⟩ := hall (i + j) (by omega)
      refine ⟨xs, ?_, g2, fun q hq => ?_⟩
      · exact (R_mono (Sizes.refl w) (fun B h => .inl h) (fun _ _ => rfl) _ 0 0 _ _ (Nat.le_refl _) (fun _ _ _ h => h)).2 _ g1
      · rw [← Nat.add_mul]; exact g3 q hq
    · exact base'
  · rename_i b
    split
    · rename_i kd st f ks hb
      simp only [R] at hx
      obtain ⟨hbn, B, rfl, hB⟩ := hx
      have hblk := hr.blk b hbn
      rw [hb] at hblk
      obtain ⟨B', es, clock, e, hcell, hE, hf⟩ := hblk
      obtain rfl : B = B' := by rw [hB] at e; injection e
      simp only [R]
      refine ⟨B, rfl, .inr ⟨b, hB⟩, es, clock, hcell, hE.ent, fun k hk => ⟨(hf k hk).1, fun v hv => ?_⟩⟩
      exact (R_mono (Sizes.refl w) (fun B h => .inl h) (fun _ _ => rfl) _ 0 0 _ _ (Nat.le_refl _) (fun _ _ _ h => h)).1 _ ((R_clean _ (R_scrub (F := F) (w := w) (n := n) (m := m) (f k).2).1 n 0 m _).1 _ ((R_scrub (f k).2).2.2.1 _ ((hf k hk).2 v hv)))
    · exact base'
  · exact base'
theorem fzLeaf_R (hr : HR base m F h n w) {g : V → V} (hg : ∀ v xs, RL F w v n m xs → RL (fun B => F B ∨ ∃ b, m b = some B) w (g v) n m xs) {x : V} {X : Value} (hx : R F w x n m X) :
    R (fun B => F B ∨ ∃ b, m b = some B) w (fzLeaf h g x) n m X := fzLeafW_R hr hg (R_plain1 hx)
theorem fz_R (hr : HR base m F h n w) : ∀ (k : Nat) (v : V), (∀ x, R F w v n m x → R (fun B => F B ∨ ∃ b, m b = some B) w (fz h k v) n m x) ∧ (∀ xs, RL F w v n m xs → RL (fun B => F B ∨ ∃ b, m b = some B) w (fz h k v) n m xs) := by
  intro k
  induction k with
  | zero => exact fun v => R_mono (Sizes.refl w) (fun B h => .inl h) (fun _ _ => rfl) v n n m m (Nat.le_refl _) (fun _ _ _ h => h)
  | succ k ihk =>
    intro v
    have leaf : ∀ v x, R F w v n m x → R (fun B => F B ∨ ∃ b, m b = some B) w (fzLeaf h (fz h k) v) n m x := fun v x hx => fzLeaf_R hr (fun v => (ihk v).2) hx
    show (∀ x, R F w v n m x → R (fun B => F B ∨ ∃ b, m b = some B) w (v.leaves (fzLeaf h (fz h k))) n m x) ∧ (∀ xs, RL F w v n m xs → RL (fun B => F B ∨ ∃ b, m b = some B) w (v.leaves (fzLeaf h (fz h k))) n m xs)
    generalize fz h k = g at leaf
    induction v with
    | cons a t ih1 ih2 =>
      refine ⟨fun x hx => by simp only [R] at hx, fun xs hx => ?_⟩
      simp only [V.leaves, RL] at hx ⊢
      obtain ⟨x, r, rfl, h1, h2⟩ := hx
      exact ⟨x, r, rfl, ih1.1 _ h1, ih2.2 _ h2⟩
    | agg cs ih =>
      refine ⟨fun x hx => ?_, fun xs hx => by simp only [RL] at hx⟩
      simp only [V.leaves, R] at hx ⊢
      obtain ⟨xs, rfl, h1⟩ := hx
      exact ⟨xs, rfl, ih.2 _ h1⟩
    | tup cs ih =>
      refine ⟨fun x hx => ?_, fun xs hx => by simp only [RL] at hx⟩
      simp only [V.leaves, R] at hx ⊢
      obtain ⟨xs, rfl, h1⟩ := hx
      exact ⟨xs, rfl, ih.2 _ h1⟩
    | fn f a b ih1 ih2 =>
      refine ⟨fun x hx => ?_, fun xs hx => by simp only [RL] at hx⟩
      simp only [V.leaves, R] at hx ⊢
      obtain ⟨xs, ys, rfl, h1, h2⟩ := hx
      exact ⟨xs, ys, rfl, ih1.2 _ h1, ih2.2 _ h2⟩
    | nil => exact ⟨fun x hx => by simp only [R] at hx, fun xs hx => by simp only [RL] at hx; subst hx; simp only [V.leaves, fzLeaf, V.plain1, fzLeafW, RL]⟩
    | _ => exact ⟨fun x hx => leaf _ x hx, fun xs hx => by simp only [RL] at hx⟩
theorem withNeed_holds {α : Type} {P : Program} {p : Option Prop} {T : Tree α} {Q : α → Prop} (h : (withNeed p T).holds P Q) : (∀ r, p = some r → r) ∧ T.holds P Q := by
  cases p with
  | none => exact ⟨fun r h => (by cases h), h⟩
  | some p => exact ⟨fun r h' => by injection h' with h'; subst h'; exact h.1, h.2⟩
theorem wp_frozen {E : Env} {o : Oper} {c : Call} {f : Operand} {g : FuncId} {out v : V} {Q : V → Prop} {K : Act → World → Prop} {Qx : Exit → Act → World → Prop}
    (ho : o.op = .call c) (hcal : c.callee = .value f) (hρ : ∀ x, R F w (ρ x) n m (a.eval x)) (hc : callee (ρ f) (.ofList (c.args.toList.map ρ)) = some (g, out))
    (hm : Meets E.P g (freeze h out) v) (hfn : ∀ p, frNeed h out = some p → p) (hcl : (freeze h out).clean = true) (hcv : v.clean = true) (hrl : v.rowless = true) (hr : HR base m F h n w) (hq : Q v)
    (hK : ∀ v x w' F', Q v → Later F w F' w' → R F' w' v n m x → K (a.put o.dst x) w') : o.wp E.P a w K Qx := by
  obtain ⟨hhas, hm⟩ := hm
  obtain ⟨ys, h1, h2⟩ := exec_call (P := E.P) ho hcal hρ hc hhas
  unfold Oper.wp
  rw [h2]
  simp only [Oper.upon]
  have hfd : ∀ B, (F B ∨ ∃ b, m b = some B) → B < w.heap.size := fun B hB => hB.elim (hr.fdom B) fun ⟨b, hb⟩ => hr.dom b B hb
  refine (hm (fun B => F B ∨ ∃ b, m b = some B) w ys hfd (hr.gl.mono (Sizes.refl w) (fun B h => .inl h) (fun _ _ => rfl)) ((R_clean _ hcl n 0 m _).2 _ ((freeze_R hr _ hfn).2 _ h1))).mono fun e w' he => ?_
  obtain ⟨x, F', rfl, hl, hR⟩ := he
  exact hK v x w' F hq ⟨fun _ h => h, fun _ h => .inl h, hl.keep, hl.size, fun h B hB => Nat.lt_of_lt_of_le (h B hB) hl.size, hl.calm⟩ ((R_rowless v hcv hrl 0 n _ m).1 _ hR)

/-! ### Maps -/
theorem mkSame_eq {a b : MK} (h : mkSame a b = true) : a = b := by
  cases a <;> cases b <;> first | (cases h; done) | rfl | (simp only [mkSame, decide_eq_true_eq] at h; rw [h])
theorem mkOf_run {P : Program} {kt : TypeId} {kd : MK} (h : mkOf P kt = some kd) : ∃ d, P.underlying kt = some d ∧ kd.of d = true := by
  unfold mkOf at h
  split at h
  · rename_i k hu; injection h with h; subst h; exact ⟨_, hu, by simp [MK.of]⟩
  · rename_i hu; injection h with h; subst h; exact ⟨_, hu, rfl⟩
  · cases h
theorem keyOf_run {kd : MK} {x : V} {X : Value} {sk : Bool} {key : Value} (h : keyOf kd x = some (sk, key)) (hx : R F w x n m X) : X = key ∧ kd.is key = true := by
  cases x <;> try (cases h; done)
  · rename_i st k q
    cases kd <;> try (cases h; done)
    rename_i k'
    simp only [keyOf] at h
    split at h
    · rename_i hk
      subst hk
      injection h with h; injection h with h1 h2; subst h2
      simp only [R] at hx
      exact ⟨hx, by simp [MK.is]⟩
    · cases h
  · rename_i st q
    cases kd <;> try (cases h; done)
    injection h with h; injection h with h1 h2; subst h2
    simp only [R] at hx
    exact ⟨hx, rfl⟩
theorem zeroV_run {P : Program} {t : TypeId} {z : V} (h : zeroV P t = some z) : ∃ zv, (zeroValue t).run P w = .ok zv w ∧ R F w z n m zv := by
  unfold zeroV at h
  cases hi : P.info? t with
  | none => rw [hi] at h; cases h
  | some i =>
    rw [hi] at h
    dsimp only at h
    cases hz : i.zero with
    | none => rw [hz] at h; cases h
    | some zv =>
      rw [hz] at h
      injection h with h; subst h
      exact ⟨zv, by simp only [zeroValue, typeInfo, Sem.run_bind, run_program, Result.andThen_ok, hi, hz, Sem.run_pure], R_const zv⟩
theorem foundV_R {st has : Bool} {v z : V} {o : Option Value} {zv : Value} (h1 : has = o.isSome) (h2 : ∀ x, o = some x → R F w v n m x) (hz : R F w z n m zv) : R F w (foundV st has v z) n m (o.getD zv) := by
  subst h1
  have key : R F w (bif o.isSome then v else z) n m (o.getD zv) := by
    cases o with
    | none => exact hz
    | some x => exact h2 x rfl
  cases st with
  | false => exact mergeOne_R key
  | true => cases o with
    | none => exact hz
    | some x => exact h2 x rfl
theorem withOk_R {ok st has : Bool} {v : V} {x : Value} (h : R F w v n m x) : R F w (withOk ok st has v) n m (if ok then .tuple #[x, .bool has] else x) := by
  cases ok with
  | false => exact h
  | true =>
    simp only [withOk, if_true, R, RL]
    exact ⟨_, rfl, x, _, rfl, h, _, _, rfl, by rw [mkBool_eq, R_bool], rfl⟩
theorem evLookup_val {P : Program} (hr : HR base m F h n w) {t : TypeId} {x ix : V} {X IX : Value} {ok : Bool} (hx : R F w x n m X) (hi : R F w ix n m IX) : Val P F w n m (evLookup P h t x ix ok) (Instr.lookup t X IX ok) := by
  unfold evLookup
  split
  case h_2 => exact Val.stuck
  rename_i kt et hu
  split
  case h_2 => exact Val.stuck
  rename_i kd z hkd hz
  split
  case h_2 => exact Val.stuck
  rename_i sk key hk
  obtain ⟨d, hd, hof⟩ := mkOf_run hkd
  obtain ⟨zv, hzr, hzR⟩ := zeroV_run (F := F) (w := w) (n := n) (m := m) hz
  obtain ⟨rfl, his⟩ := keyOf_run hk hi
  split
  · simp only [R] at hx
    subst hx
    exact Val.leaf (run_look_nil hu hd hof his hzr ok) (withOk_R hzR)
  · rename_i b
    simp only [R] at hx
    obtain ⟨hbn, B, rfl, hB⟩ := hx
    have hblk := hr.blk b hbn
    split
    case h_2 => exact Val.stuck
    rename_i kd' st f ks hb
    cases hs : mkSame kd kd'
    · exact Val.stuck
    obtain rfl := mkSame_eq hs
    rw [hb] at hblk
    obtain ⟨B', es, clock, e, hcell, hE, hf⟩ := hblk
    obtain rfl : B = B' := by rw [hB] at e; injection e
    obtain ⟨h1, h2⟩ := hf IX his
    have := run_look (P := P) hu hd hof hcell hE.ent his hzr ok
    refine Val.leaf this ?_
    rw [h1]
    exact withOk_R (foundV_R rfl h2 hzR)
  · rename_i st kd' has get
    cases hs : mkSame kd kd'
    · exact Val.stuck
    obtain rfl := mkSame_eq hs
    simp only [R] at hx
    obtain ⟨B, rfl, _, es, clock, hcell, hE, hf⟩ := hx
    obtain ⟨h1, h2⟩ := hf IX his
    have := run_look (P := P) hu hd hof hcell hE his hzr ok
    refine Val.leaf this ?_
    rw [h1]
    exact withOk_R (foundV_R rfl (fun v hv => (R_mono (Sizes.refl w) (fun B h => h) (fun _ _ => rfl) _ 0 n (fun _ => none) m (Nat.zero_le _) (fun b hb => absurd hb (Nat.not_lt_zero _))).1 _ (h2 v hv)) hzR)
  · exact Val.stuck
theorem evQ_wp {E : Env} (hE : E.Ok) {o : Oper} {T : Tree V} {Q : V → Prop} {K : Act → World → Prop} {Qx : Exit → Act → World → Prop}
    (hr : HR base m F h n w) (hρ : ∀ x, R F w (ρ x) n m (a.eval x)) (hT : evQ E ρ h o.op = some T) (hq : T.holds E.P Q)
    (hK : ∀ v x w' F', Q v → Later F w F' w' → R F' w' v n m x → K (a.put o.dst x) w') : o.wp E.P a w K Qx := by
  cases ho : o.op <;> rw [ho] at hT <;> simp only [evQ] at hT <;> try (cases hT; done)
  case move x => injection hT with hT; subst hT; exact wp_of_val (sem := pure (a.eval x)) (by simp only [execOp, ho]; rfl) (Val.leaf rfl (hρ x)) hq hK
  case assign x => injection hT with hT; subst hT; exact wp_of_val (sem := pure (a.eval x)) (by simp only [execOp, ho]; rfl) (Val.leaf rfl (hρ x)) hq hK
  case pick c x y =>
    injection hT with hT; subst hT
    exact wp_of_val (sem := do pure (if ← asBool (a.eval c) then a.eval x else a.eval y)) (by simp only [execOp, ho, bind_assoc, pure_bind]) (evPick_val (hρ c) (hρ x) (hρ y)) hq hK
  case build t parts =>
    injection hT with hT; subst hT
    refine wp_of_val (sem := Instr.build t (parts.map fun p => (p.1, a.eval p.2))) (by simp only [execOp, ho]) (evBuild_val ?_) hq hK
    simpa using Parts_operands (a := a) hρ parts.toList
  case load t x => injection hT with hT; subst hT; exact wp_of_val (by simp only [execOp, ho]) (evLoad_val hr (hρ x)) hq hK
  case nilCheck x =>
    injection hT with hT; subst hT
    obtain ⟨h1, h2, h3, h4, h5⟩ := evNilCheck_val (hρ x) Q hq
    refine wp_of_val (sem := pure (a.eval x)) (T := .leaf (ρ x)) ?_ (Val.leaf rfl (hρ x)) h1 hK
    simp only [execOp, ho]
    rfl
  case binOp op t x y yt =>
    cases hb : evIfc E.P op t x y (ρ x) (ρ y) with
    | some T' =>
      rw [hb] at hT
      injection hT with hT; subst hT
      exact wp_of_val (sem := do eqGuard op t x y (a.eval x) (a.eval y); binOp op t (a.eval x) (a.eval y)) (by simp only [execOp, ho]) (evIfc_val hb (hρ x) (hρ y) (fun v h => by subst h; rfl) (fun v h => by subst h; rfl)) hq hK
    | none =>
      rw [hb] at hT
      injection hT with hT; subst hT
      exact wp_of_val (sem := do eqGuard op t x y (a.eval x) (a.eval y); binOp op t (a.eval x) (a.eval y)) (by simp only [execOp, ho]) (evBin_val (hρ x) (hρ y)) hq hK
  case unOp op t x => injection hT with hT; subst hT; exact wp_of_val (by simp only [execOp, ho]) (evUn_val (hρ x)) hq hK
  case convert src dst x =>
    cases hb : evBytes E.P src dst (ρ x) with
    | some T' =>
      rw [hb] at hT
      injection hT with hT; subst hT
      exact wp_bytes ho hρ hb hq hK
    | none =>
      rw [hb] at hT
      injection hT with hT; subst hT
      exact wp_of_val (by simp only [execOp, ho]) (evConv_val hr (hρ x)) hq hK
  case makeFunc f first cap =>
    injection hT with hT; subst hT
    refine wp_of_val (sem := Instr.makeFunc f (first.map a.eval) (cap.map a.eval)) (by simp only [execOp, ho]) (Val.leaf rfl ?_) hq hK
    simp only [R]
    refine ⟨_, _, rfl, ?_, ?_⟩
    · simpa using RL_operands (a := a) hρ first.toList
    · simpa using RL_operands (a := a) hρ cap.toList
  case slice t x lo hi mx =>
    injection hT with hT; subst hT
    exact wp_of_val (by simp only [execOp, ho]) (evSlice_val hr (hρ x) (optV hρ).1 (optV hρ).2 (optV hρ).1 (optV hρ).2 (optV hρ).1 (optV hρ).2) hq hK
  case fieldAddr s x f => injection hT with hT; subst hT; exact wp_of_val (by simp only [execOp, ho]) (evFieldAddr_val (hρ x)) hq hK
  case field t x f => injection hT with hT; subst hT; exact wp_of_val (by simp only [execOp, ho]) (evField_val (hρ x)) hq hK
  case indexAddr t x ix => injection hT with hT; subst hT; exact wp_of_val (by simp only [execOp, ho]) (evIndexAddr_val (R_plain1 (hρ x)) (hρ ix)) hq hK
  case index t x ix => injection hT with hT; subst hT; exact wp_of_val (by simp only [execOp, ho]) (evIndex_val (hρ x) (hρ ix)) hq hK
  case lookup t x ix ok => injection hT with hT; subst hT; exact wp_of_val (by simp only [execOp, ho]) (evLookup_val hr (hρ x) (hρ ix)) hq hK
  case extract x i => injection hT with hT; subst hT; exact wp_of_val (by simp only [execOp, ho]) (evExtract_val (hρ x)) hq hK
  case call c =>
    cases hcal : c.callee with
    | builtin b => rw [hcal] at hT; exact wp_builtin ho hcal hρ hT hq hK
    | invoke r nm => rw [hcal] at hT; cases hT
    | value f =>
      rw [hcal] at hT
      dsimp only at hT
      cases hc : callee (ρ f) (.ofList (c.args.toList.map ρ)) with
      | none => rw [hc] at hT; cases hT
      | some r =>
        obtain ⟨g, args⟩ := r
        rw [hc] at hT
        dsimp only at hT
        cases hg : E.Γ g args with
        | none => rw [hg] at hT; cases hT
        | some ans =>
          rw [hg] at hT
          cases ans with
          | sure v =>
            dsimp only at hT
            cases h1 : args.clean
            · rw [h1] at hT; cases hT
            · cases h2 : v.clean
              · rw [h1, h2] at hT; cases hT
              · rw [h1, h2] at hT
                injection hT with hT; subst hT
                exact wp_meets ho hcal hρ hc (hE.sure _ _ _ hg) h1 h2 hr.fdom hr.gl hq hK
          | where_ p v =>
            dsimp only at hT
            cases h1 : args.clean
            · rw [h1] at hT; cases hT
            · cases h2 : v.clean
              · rw [h1, h2] at hT; cases hT
              · rw [h1, h2] at hT
                injection hT with hT; subst hT
                exact wp_meets ho hcal hρ hc (hE.where_ _ _ _ _ hg hq.1) h1 h2 hr.fdom hr.gl hq.2 hK
          | fork b v v' =>
            dsimp only at hT
            cases h1 : args.clean
            · rw [h1] at hT; cases hT
            cases h2 : v.clean
            · rw [h1, h2] at hT; cases hT
            cases h3 : v'.clean
            · rw [h1, h2, h3] at hT; cases hT
            rw [h1, h2, h3] at hT
            injection hT with hT; subst hT
            cases b with
            | true => exact wp_meets ho hcal hρ hc ((hE.fork _ _ _ _ _ hg).1 rfl) h1 h2 hr.fdom hr.gl (hq.1 rfl) hK
            | false => exact wp_meets ho hcal hρ hc ((hE.fork _ _ _ _ _ hg).2 rfl) h1 h3 hr.fdom hr.gl (hq.2 rfl) hK
theorem evFrozen_wp {E : Env} (hE : E.Ok) {o : Oper} {c : Call} {f : Operand} {T : Tree V} {Q : V → Prop} {K : Act → World → Prop} {Qx : Exit → Act → World → Prop}
    (ho : o.op = .call c) (hcal : c.callee = .value f) (hr : HR base m F h n w) (hρ : ∀ x, R F w (ρ x) n m (a.eval x)) (hT : evFrozen E ρ h f c = some T) (hq : T.holds E.P Q)
    (hK : ∀ v x w' F', Q v → Later F w F' w' → R F' w' v n m x → K (a.put o.dst x) w') : o.wp E.P a w K Qx := by
  unfold evFrozen at hT
  cases hc : callee (ρ f) (.ofList (c.args.toList.map ρ)) with
  | none => rw [hc] at hT; cases hT
  | some r =>
    obtain ⟨g, args⟩ := r
    rw [hc] at hT
    dsimp only at hT
    cases h1 : args.clean
    case true => rw [h1] at hT; cases hT
    cases h0 : (freeze h args).clean
    · rw [h1, h0] at hT; cases hT
    rw [h1, h0] at hT
    simp only [cond_true, cond_false] at hT
    cases hg : E.Γ g (freeze h args) with
    | none => rw [hg] at hT; cases hT
    | some ans =>
      rw [hg] at hT
      cases ans with
      | sure v =>
        dsimp only at hT
        cases h2 : v.clean
        · rw [h2] at hT; cases hT
        cases h3 : v.rowless
        · rw [h2, h3] at hT; cases hT
        rw [h2, h3] at hT
        injection hT with hT; subst hT
        obtain ⟨hfn, hq⟩ := withNeed_holds hq
        exact wp_frozen ho hcal hρ hc (hE.sure _ _ _ hg) hfn h0 h2 h3 hr hq hK
      | where_ p v =>
        dsimp only at hT
        cases h2 : v.clean
        · rw [h2] at hT; cases hT
        cases h3 : v.rowless
        · rw [h2, h3] at hT; cases hT
        rw [h2, h3] at hT
        injection hT with hT; subst hT
        obtain ⟨hfn, hq⟩ := withNeed_holds hq
        exact wp_frozen ho hcal hρ hc (hE.where_ _ _ _ _ hg hq.1) hfn h0 h2 h3 hr hq.2 hK
      | fork b v v' => cases hT

/-! ### Operations with an effect -/
/-- A new block is laid, under a name that stands for none. -/
theorem HR.layO (hr : HR base m F h n w) {h' : Nat → Blk} {nm n' : Nat} {blk : Blk} {o : Obj} (hnm : m nm = none) (hn : n ≤ n') (hlt : nm < n')
    (hnew : ∀ b, n ≤ b → b < n' → b = nm) (hh : ∀ b, h' b = if b = nm then blk else h b)
    (hblk : Ext base m F n w (fun b => if b = nm then some w.heap.size else m b) F n' (w.alloc o) → RB F (w.alloc o) n' (fun b => if b = nm then some w.heap.size else m b) blk (some w.heap.size)) :
    HR base (fun b => if b = nm then some w.heap.size else m b) F h' n' (w.alloc o) ∧
      Ext base m F n w (fun b => if b = nm then some w.heap.size else m b) F n' (w.alloc o) := by
  have keep : ∀ B, B < w.heap.size → (w.alloc o).heap[B]? = w.heap[B]? := fun B hB => heap_alloc_old w _ B hB
  have hext : Ext base m F n w (fun b => if b = nm then some w.heap.size else m b) F n' (w.alloc o) :=
    ⟨fun _ h => h, fun _ h => .inl h, fun B hB => keep B (hB.elim (fun h => Nat.lt_of_lt_of_le h hr.low) (hr.fdom B)), by simp, Sizes.of_keep keep,
      ⟨fun B hB _ => keep B hB, fun b B hb hB => by
        by_cases e : b = nm
        · rw [if_pos e] at hb; injection hb with hb; omega
        · rw [if_neg e] at hb; exact ⟨b, hb⟩⟩, hn,
      fun b hb B hB => by
        rw [if_neg (fun e => by rw [e, hnm] at hB; cases hB)]
        exact hB, ⟨rfl, rfl, rfl⟩⟩
  refine ⟨⟨Nat.le_trans hr.low (by simp), fun B hB => by have := hr.fdom B hB; simp; omega, fun b hb => ?_, fun b B hB => ?_, fun b hb => ?_, hr.gl.mono hext.sz (fun _ h => h) (fun B hB => keep B (hr.fdom B hB)), fun b B hB => ?_, fun b b' B h1 h2 hne => ?_⟩, hext⟩
  · rw [hh b]
    by_cases e : b = nm
    · subst e
      rw [if_pos rfl, if_pos rfl]
      exact hblk hext
    · rw [if_neg e, if_neg e]
      have hbn : b < n := by
        rcases Nat.lt_or_ge b n with h1 | h1
        · exact h1
        · exact absurd (hnew b h1 hb) e
      exact RB_ext hext (fun B hB => keep B (hr.dom b B hB)) (hr.blk b hbn)
  · by_cases e : b = nm
    · rw [if_pos e] at hB; injection hB with hB; subst hB; simp
    · rw [if_neg e] at hB; have := hr.dom b B hB; simp; omega
  · rw [if_neg (by omega)]
    exact hr.new b (by omega)
  · by_cases e : b = nm
    · rw [if_pos e] at hB; injection hB with hB; subst hB
      exact ⟨hr.low, fun hF => absurd (hr.fdom _ hF) (Nat.lt_irrefl _)⟩
    · rw [if_neg e] at hB; exact hr.own b B hB
  · by_cases e1 : b = nm <;> by_cases e2 : b' = nm
    · exact absurd (e1.trans e2.symm) hne
    · rw [if_pos e1] at h1; rw [if_neg e2] at h2
      injection h1 with h1; subst h1
      exact absurd (hr.blockLt h2) (Nat.lt_irrefl _)
    · rw [if_neg e1] at h1; rw [if_pos e2] at h2
      injection h2 with h2; subst h2
      exact absurd (hr.blockLt h1) (Nat.lt_irrefl _)
    · rw [if_neg e1] at h1; rw [if_neg e2] at h2
      rw [hh b, hh b', if_neg e1, if_neg e2]
      exact hr.inj b b' B h1 h2 hne
theorem HR.lay (hr : HR base m F h n w) {h' : Nat → Blk} {nm n' : Nat} {cs : V} {xs : Array Value} (el : TypeId) (hrow : RL F w cs n m xs.toList) (hnm : m nm = none) (hn : n ≤ n') (hlt : nm < n')
    (hnew : ∀ b, n ≤ b → b < n' → b = nm) (hh : ∀ b, h' b = if b = nm then .var cs else h b) :
    HR base (fun b => if b = nm then some w.heap.size else m b) F h' n' (w.alloc (.cells xs el)) ∧
      Ext base m F n w (fun b => if b = nm then some w.heap.size else m b) F n' (w.alloc (.cells xs el)) :=
  hr.layO hnm hn hlt hnew hh fun he => ⟨_, xs, el, xs.toList, [], rfl, heap_alloc_new w _, by simp, he.row hrow⟩
theorem HR.push (hr : HR base m F h n w) {h' : Nat → Blk} {cs : V} {xs : Array Value} (el : TypeId) (hrow : RL F w cs n m xs.toList) (hh : ∀ b, h' b = if b = n then .var cs else h b) :
    HR base (fun b => if b = n then some w.heap.size else m b) F h' (n + 1) (w.alloc (.cells xs el)) ∧
      Ext base m F n w (fun b => if b = n then some w.heap.size else m b) F (n + 1) (w.alloc (.cells xs el)) :=
  hr.lay el hrow (hr.new n (Nat.le_refl _)) (by omega) (by omega) (fun b h1 h2 => by omega) hh
end
end Go.Fw
namespace Go.Fw

theorem splice_eq {α : Type} (xs : List α) (o : Nat) (vs : List α) (h : o + vs.length ≤ xs.length) : xs.take o ++ vs ++ xs.drop (o + vs.length) = spliceL xs o vs := by
  apply List.ext_getElem?
  intro j
  by_cases hj : j < xs.length
  · rw [spliceL_get _ _ _ _ hj]
    by_cases h1 : j < o
    · rw [if_neg (by omega), List.append_assoc, List.getElem?_append_left (by simp; omega), List.getElem?_take_of_lt h1]
    · by_cases h2 : j < o + vs.length
      · rw [if_pos ⟨by omega, h2⟩, List.append_assoc, List.getElem?_append_right (by simp; omega), List.getElem?_append_left (by simp; omega)]
        congr 1
        simp
        omega
      · rw [if_neg (by omega), List.getElem?_append_right (by simp; omega), List.getElem?_drop]
        congr 1
        simp
        omega
  · rw [List.getElem?_eq_none (by simp; omega), List.getElem?_eq_none (by rw [spliceL_length]; omega)]

theorem spliceL_app {α : Type} (ys zs : List α) (o : Nat) (vs : List α) (h : o + vs.length ≤ ys.length) : spliceL (ys ++ zs) o vs = spliceL ys o vs ++ zs := by
  apply List.ext_getElem?
  intro j
  by_cases hj : j < (ys ++ zs).length
  · rw [spliceL_get _ _ _ _ hj]
    by_cases h1 : j < ys.length
    · rw [List.getElem?_append_left h1, List.getElem?_append_left (show j < (spliceL ys o vs).length by rw [spliceL_length]; exact h1), spliceL_get _ _ _ _ h1]
    · rw [if_neg (by omega), List.getElem?_append_right (by omega), List.getElem?_append_right (show (spliceL ys o vs).length ≤ j by rw [spliceL_length]; omega), spliceL_length]
  · rw [List.getElem?_eq_none (by rw [spliceL_length]; omega), List.getElem?_eq_none (by simp [spliceL_length] at hj ⊢; omega)]
section
variable {P : Program} {base : Nat} {m : Nat → Option Nat} {F : Nat → Prop} {h : Nat → Blk} {n : Nat} {w : World} {a : Act} {g : Nat → Blk} {h0 : PT Blk}

/-- A block that is ours is turned. -/
theorem HR.turn (hr : HR base m F h n w) {h' : Nat → Blk} {b B : Nat} (hb : m b = some B) {old new : Array Value} {el : TypeId} (hold : w.heap[B]? = some (.cells old el (0, 0))) (hns : new.size = old.size) (hna : h b ≠ .any) {blk : Blk}
    (hh : ∀ c, h' c = if c = b then blk else h c) (hblk : (∀ v n' m' xs, RL F w v n' m' xs → RL F (w.setRow B new) v n' m' xs) → RB F (w.setRow B new) n m blk (some B)) :
    HR base m F h' n (w.setRow B new) ∧ Ext base m F n w m F n (w.setRow B new) := by
  have hown := hr.own b B hb
  have keep : ∀ k, k ≠ B → (w.setRow B new).heap[k]? = w.heap[k]? := fun k hk => setRow_other w B k new hk
  have hsz : Sizes w (w.setRow B new) := fun k c el' fr hk => by
    by_cases e : k = B
    · subst e
      rw [hold] at hk
      injection hk with hk
      injection hk with h1 h2 h3
      subst h1; subst h2; subst h3
      exact ⟨new, _, setRow_heap w k _ new _ _ hold, hns⟩
    · exact ⟨c, fr, by rw [keep k e]; exact hk, rfl⟩
  have hkF : ∀ k, F k → (w.setRow B new).heap[k]? = w.heap[k]? := fun k hk => keep k fun e => by subst e; exact hown.2 hk
  have hext : Ext base m F n w m F n (w.setRow B new) :=
    ⟨fun _ h => h, fun _ h => .inl h, fun k hk => keep k (fun e => by subst e; rcases hk with h | h; exact absurd hown.1 (Nat.not_le.2 h); exact hown.2 h), by simp, hsz, ⟨fun k _ hk => keep k fun e => hk b (by rw [e]; exact hb), fun c _ hc _ => ⟨c, hc⟩⟩, Nat.le_refl _, fun _ _ _ h => h, ⟨rfl, rfl, rfl⟩⟩
  refine ⟨⟨by simpa using hr.low, fun k hk => by simpa using hr.fdom k hk, fun c hc => ?_, fun c C hC => by simpa using hr.dom c C hC, hr.new, hr.gl.mono hsz (fun _ h => h) hkF, hr.own, fun c c' C h1 h2 hne => ?_⟩, hext⟩
  · rw [hh c]
    by_cases e : c = b
    · subst e
      rw [if_pos rfl, hb]
      exact hblk fun v n' m' xs hv => (R_mono hsz (fun _ h => h) hkF v n' n' m' m' (Nat.le_refl _) (fun _ _ _ h => h)).2 xs hv
    · rw [if_neg e]
      by_cases e2 : m c = some B
      · rcases hr.inj c b B e2 hb e with h1 | h1
        · rw [h1]; exact trivial
        · exact absurd h1 hna
      · exact RB_ext hext (fun k hk => keep k fun e' => by subst e'; exact e2 hk) (hr.blk c hc)
  · rw [hh c, hh c']
    rcases hr.inj c c' C h1 h2 hne with h3 | h3
    · left
      rw [if_neg (fun e => hna (by rw [← e]; exact h3))]
      exact h3
    · right
      rw [if_neg (fun e => hna (by rw [← e]; exact h3))]
      exact h3

/-- A block that is no row of cells is another one. -/
theorem HR.putO {h' : Nat → Blk} (hr : HR base m F h n w) {b l : Nat} (hb : m b = some l) {o o' : Obj} (hl : w.heap[l]? = some o) (hnc : ∀ c el fr, o ≠ .cells c el fr) (hna : h b ≠ .any) {blk : Blk}
    (hh : ∀ c, h' c = if c = b then blk else h c) (hblk : (∀ v x, R F w v n m x → R F (w.putObj l o') v n m x) → RB F (w.putObj l o') n m blk (some l)) :
    HR base m F h' n (w.putObj l o') ∧ Ext base m F n w m F n (w.putObj l o') := by
  have hown := hr.own b l hb
  have keep : ∀ k, k ≠ l → (w.putObj l o').heap[k]? = w.heap[k]? := fun k hk => World.putObj_heap_other hk
  have hsz : Sizes w (w.putObj l o') := fun B c el fr hB => by
    have hne : B ≠ l := fun e => by subst e; rw [hl] at hB; injection hB with hB; exact hnc _ _ _ hB
    exact ⟨c, fr, by rw [keep B hne]; exact hB, rfl⟩
  have hkF : ∀ k, F k → (w.putObj l o').heap[k]? = w.heap[k]? := fun k hk => keep k fun e => by subst e; exact hown.2 hk
  have hext : Ext base m F n w m F n (w.putObj l o') :=
    ⟨fun _ h => h, fun _ h => .inl h, fun k hk => keep k (fun e => by subst e; rcases hk with h | h; exact absurd hown.1 (Nat.not_le.2 h); exact hown.2 h), by simp, hsz,
      ⟨fun k _ hk => keep k fun e => hk b (by rw [e]; exact hb), fun c _ hc _ => ⟨c, hc⟩⟩, Nat.le_refl _, fun _ _ _ h => h, ⟨rfl, rfl, rfl⟩⟩
  refine ⟨⟨by simpa using hr.low, fun k hk => by simpa using hr.fdom k hk, fun c hc => ?_, fun c C hC => by simpa using hr.dom c C hC, hr.new, hr.gl.mono hsz (fun _ h => h) hkF, hr.own, fun c c' C h1 h2 hne => ?_⟩, hext⟩
  · rw [hh c]
    by_cases e : c = b
    · subst e
      rw [if_pos rfl, hb]
      exact hblk fun v xs hv => hext.val hv
    · rw [if_neg e]
      by_cases e2 : m c = some l
      · rcases hr.inj c b l e2 hb e with h1 | h1
        · rw [h1]; exact trivial
        · exact absurd h1 hna
      · exact RB_ext hext (fun k hk => keep k fun e' => by subst e'; exact e2 hk) (hr.blk c hc)
  · rw [hh c, hh c']
    rcases hr.inj c c' C h1 h2 hne with h3 | h3
    · left
      rw [if_neg (fun e => hna (by rw [← e]; exact h3))]
      exact h3
    · right
      rw [if_neg (fun e => hna (by rw [← e]; exact h3))]
      exact h3
/-- What is put into a map of ours, or taken away. -/
theorem mapPut_run {P : Program} (hr : HR base m F h n w) {t : TypeId} {x k : V} {X K : Value} {y : Bool × V} {b : Nat} {blk : Blk} (hx : R F w x n m X) (hk : R F w k n m K) (hp : evMapPut P h t x k y = some (b, blk)) :
    (∀ v, y.1 = true → R F w y.2 n m v → ∃ w', (Instr.mapUpdate t X K v).run P w = .ok () w' ∧ (∀ h' : Nat → Blk, (∀ c, h' c = if c = b then blk else h c) → HR base m F h' n w') ∧ Ext base m F n w m F n w') ∧
    (y.1 = false → ∀ (ty : TypeId) (ts : Array TypeId), ts[0]? = some t → ∃ w', (Builtin.delete_ ts ty #[X, K]).run P w = .ok (.tuple #[]) w' ∧ (∀ h' : Nat → Blk, (∀ c, h' c = if c = b then blk else h c) → HR base m F h' n w') ∧ Ext base m F n w m F n w') := by
  unfold evMapPut at hp
  split at hp
  case h_2 => cases hp
  rename_i kt et hu
  split at hp
  case h_2 => cases hp
  rename_i kd hkd
  split at hp
  case h_2 => cases hp
  rename_i sk key hko
  obtain ⟨d, hd, hof⟩ := mkOf_run hkd
  obtain ⟨rfl, his⟩ := keyOf_run hko hk
  split at hp
  case h_2 => cases hp
  rename_i b0
  split at hp
  case h_2 => cases hp
  rename_i blk0 hpm
  injection hp with hp; injection hp with e1 e2; subst e1; subst e2
  simp only [R] at hx
  obtain ⟨hbn, B, rfl, hB⟩ := hx
  have hblk := hr.blk b0 hbn
  unfold putMap at hpm
  split at hpm
  case h_2 => cases hpm
  rename_i kd' st f ks hb
  cases hs : mkSame kd kd'
  · rw [hs] at hpm; cases hpm
  rw [hs] at hpm
  injection hpm with hpm
  subst hpm
  obtain rfl := mkSame_eq hs
  rw [hb] at hblk
  obtain ⟨B', es, clock, e, hcell, hE, hf⟩ := hblk
  obtain rfl : B = B' := by rw [hB] at e; injection e
  have hne : h b0 ≠ .any := by rw [hb]; simp
  have hlt : B < w.heap.size := hr.dom b0 B hB
  refine ⟨fun v hy hv => ?_, fun hy ty ts hts => ?_⟩
  · obtain ⟨es', clock', hrun, hE', hg, ht⟩ := run_update (P := P) hu hd hof hcell hE.ent his v
    refine ⟨_, hrun, fun h' hh => ?_, ?_⟩
    · exact (hr.putO (h' := h') hB hcell (fun c el fr => by simp) hne hh fun up => ⟨B, es', clock', rfl, World.putObj_heap_same hlt, (by rw [hy]; exact ht sk ks hE), fun k hk' => by
        rw [hg k hk']
        cases hkk : keyEq k K
        · simp only [hkk, cond_false]; exact ⟨(hf k hk').1, fun v hv => up _ _ ((hf k hk').2 v hv)⟩
        · simp only [hkk, cond_true]; exact ⟨by rw [hy]; rfl, fun v' hv' => by injection hv' with hv'; subst hv'; exact up _ _ hv⟩⟩).1
    · exact (hr.putO (h' := fun c => if c = b0 then .any else h c) (blk := .any) hB hcell (fun c el fr => by simp) hne (fun _ => rfl) fun _ => trivial).2
  · obtain ⟨es', clock', hrun, hE', hg⟩ := run_erase (P := P) hu hd hof hcell hE.ent his ty ts hts
    refine ⟨_, hrun, fun h' hh => ?_, ?_⟩
    · exact (hr.putO (h' := h') hB hcell (fun c el fr => by simp) hne hh fun up => ⟨B, es', clock', rfl, World.putObj_heap_same hlt, (by rw [hy]; exact MapOk.unk hE'), fun k hk' => by
        rw [hg k hk']
        cases hkk : keyEq k K
        · simp only [hkk, cond_false]; exact ⟨(hf k hk').1, fun v hv => up _ _ ((hf k hk').2 v hv)⟩
        · simp only [hkk, cond_true]; exact ⟨by rw [hy]; rfl, fun v' hv' => by cases hv'⟩⟩).1
    · exact (hr.putO (h' := fun c => if c = b0 then .any else h c) (blk := .any) hB hcell (fun c el fr => by simp) hne (fun _ => rfl) fun _ => trivial).2
/-- A new map. -/
theorem makeMap_run {P : Program} {t : TypeId} {r : Option V} {X : Option Value} {blk : Blk} (hp : evMakeMap P t r = some blk) (hX : ∀ v, r = some v → ∃ x, X = some x ∧ R F w v n m x) (hX0 : r = none → X = none) :
    (Instr.makeMap t X).run P w = .ok (.map (some w.heap.size)) (w.alloc (.map #[] 0)) ∧ ∃ kd, blk = .mapV kd true (fun _ => (false, .junk)) (some (0, [])) := by
  unfold evMakeMap at hp
  split at hp
  case h_2 => cases hp
  rename_i kt et hu
  split at hp
  case h_2 => cases hp
  rename_i kd hkd
  split at hp
  · injection hp with hp
    rw [hX0 rfl]
    exact ⟨by simp [Instr.makeMap, Result.andThen], kd, hp.symm⟩
  · rename_i st k q
    injection hp with hp
    obtain ⟨x, rfl, hx⟩ := hX _ rfl
    simp only [R] at hx
    subst hx
    exact ⟨by simp [Instr.makeMap, run_underlying hu, asInt, asIntOf, Result.andThen], kd, hp.symm⟩
  · cases hp
theorem RB_newMap {n' : Nat} {m' : Nat → Option Nat} {kd : MK} {B : Nat} (h : w.heap[B]? = some (.map #[] 0)) : RB F w n' m' (.mapV kd true (fun _ => (false, .junk)) (some (0, []))) (some B) :=
  ⟨B, #[], 0, rfl, h, ⟨Entries.nil, fun c l e => by injection e with e; injection e with e1 e2; subst e1; subst e2; exact ⟨rfl, rfl⟩⟩, fun k _ => ⟨rfl, fun v hv => by cases hv⟩⟩
/-! ### Ranges over maps -/
theorem evRange_run {P : Program} (hr : HR base m F h n w) {t : TypeId} {x : V} {X : Value} {blk : Blk} (hx : R F w x n m X) (hz : evRange P h t x = some blk) :
    ∃ ob, (Instr.range t X).run P w = .ok (.pointer (some ⟨w.heap.size, 0, none⟩)) (w.alloc ob) ∧
      ∀ (n' : Nat) (m' : Nat → Option Nat) (w' : World), n ≤ n' → (∀ b, b < n → ∀ B, m b = some B → m' b = some B) → w'.heap[w.heap.size]? = some ob → RB F w' n' m' blk (some w.heap.size) := by
  unfold evRange at hz
  split at hz
  case h_2 => cases hz
  rename_i kt et hu
  split at hz
  · injection hz with hz; subst hz
    simp only [R] at hx; subst hx
    exact ⟨_, run_range_nilMap w t kt et hu, fun n' m' w' _ _ hc => ⟨_, none, rfl, hc, rfl⟩⟩
  · rename_i b
    split at hz
    case h_2 => cases hz
    rename_i kd st f ks hb
    split at hz
    case h_2 => cases hz
    rename_i c l
    injection hz with hz; subst hz
    simp only [R] at hx
    obtain ⟨hbn, B, rfl, hB⟩ := hx
    have hblk := hr.blk b hbn
    rw [hb] at hblk
    obtain ⟨B', es, clock, e, hcell, hE, hf⟩ := hblk
    obtain rfl : B = B' := by rw [hB] at e; injection e
    obtain ⟨rfl, _⟩ := hE.told _ _ rfl
    exact ⟨_, run_range_map w t kt et B es clock hu hcell, fun n' m' w' hn hm hc => ⟨_, some B, rfl, hc, B, by omega, rfl, hm b hbn B hB⟩⟩
  · cases hz
theorem oneOf_holds {P : Program} {α β : Type} {f : α → Tree β} {Q : β → Prop} : ∀ {l : List α}, (oneOf f l).holds P Q → ∀ x ∈ l, (f x).holds P Q := by
  intro l
  induction l with
  | nil => intro h; exact h.elim
  | cons y l ih =>
    intro h x hx
    cases l with
    | nil =>
      rcases List.mem_cons.1 hx with rfl | hx
      · exact h
      · cases hx
    | cons z l =>
      rcases List.mem_cons.1 hx with rfl | hx
      · exact h.1
      · exact ih h.2 x hx
theorem iter_at {X : Value} {b i o es : Nat} (hx : R F w (.ptr true b es i o) n m X) (hz : (Nat.beq es 0 && (Nat.beq i 0 && Nat.beq o 0)) = true) : b < n ∧ ∃ B, X = .pointer (some ⟨B, 0, none⟩) ∧ m b = some B := by
  simp only [Bool.and_eq_true] at hz
  obtain ⟨h1, h2, h3⟩ := hz
  obtain rfl := Nat.eq_of_beq_eq_true h1
  obtain rfl := Nat.eq_of_beq_eq_true h2
  obtain rfl := Nat.eq_of_beq_eq_true h3
  rw [R_ptr] at hx
  obtain ⟨hb, B, rfl, hB⟩ := hx
  exact ⟨hb, B, rfl, hB⟩
theorem evNext_run {P : Program} (hr : HR base m F h n w) {it : V} {X : Value} {str : Bool} (hx : R F w it n m X) (ty : TypeId) {Q : V × Option (Nat × Blk) → Prop} (hq : (evNext h it str).holds P Q) :
    ∃ v wr w' X', Q (v, wr) ∧ (Instr.next X str ty).run P w = .ok X' w' ∧ Ext base m F n w m F n w' ∧
      (∀ h' : Nat → Blk, (∀ c, h' c = match wr with | none => h c | some (b, blk) => if c = b then blk else h c) → HR base m F h' n w') ∧ R F w' v n m X' := by
  unfold evNext at hq
  split at hq
  · exact hq.elim
  split at hq
  case h_2 => exact hq.elim
  rename_i st b es0 i o
  cases st with
  | false => exact hq.elim
  | true =>
  cases hz : (Nat.beq es0 0 && (Nat.beq i 0 && Nat.beq o 0))
  · rw [hz] at hq; exact hq.elim
  rw [hz] at hq
  simp only [Bool.and_self, cond_true] at hq
  obtain ⟨hbn, r, rfl, hB⟩ := iter_at hx hz
  have hblk := hr.blk b hbn
  have stay : ∀ h' : Nat → Blk, (∀ c, h' c = h c) → HR base m F h' n w := fun h' hh => by
    have : h' = h := funext hh
    subst this; exact hr
  split at hq
  case h_2 => exact hq.elim
  rename_i mb since seen last hb
  rw [hb] at hblk
  obtain ⟨r', x, e, hc, h1⟩ := hblk
  obtain rfl : r = r' := by rw [hB] at e; injection e
  split at hq
  · dsimp only at h1
    subst h1
    refine ⟨_, none, w, .tuple #[.bool false], hq, ?_, Ext.refl base m F n w, stay, by simp [R, RL]⟩
    simp only [Instr.next, getObj, Sem.run_bind, Sem.run, hc, Result.andThen]
    rfl
  · rename_i mb
    obtain ⟨y, h2, rfl, h4⟩ := h1
    have hmblk := hr.blk mb h2
    split at hq
    case h_2 => exact hq.elim
    rename_i kd st f ks hmb
    split at hq
    case h_2 => exact hq.elim
    rename_i c l
    rw [hmb] at hmblk
    obtain ⟨B', es, clock, e2, hcell, hE, hf⟩ := hmblk
    obtain rfl : y = B' := by rw [h4] at e2; injection e2
    obtain ⟨rfl, rfl⟩ := hE.told _ _ rfl
    cases hol : (oldL since (es.toList.map bkOf) && Nat.ble since last)
    · rw [hol] at hq; exact hq.elim
    rw [hol] at hq
    simp only [cond_true] at hq
    simp only [Bool.and_eq_true] at hol
    obtain ⟨ho1, ho2⟩ := hol
    obtain ⟨hold, hnd⟩ := oldL_spec ho1
    have hold' : ∀ x ∈ es.toList, x.born < since := fun x hx => hold (bkOf x) (List.mem_map.2 ⟨x, hx, rfl⟩)
    rcases run_next_at (P := P) w ty r y since last seen.toArray es clock hc hcell hold' (Nat.le_of_ble_eq_true ho2) with ⟨hs, hrun⟩ | ⟨e, he, w1, hw1, hrun⟩
    · have hnil : leftL seen (es.toList.map bkOf) = [] := by
        rw [← leftOf_bk, List.map_eq_nil_iff]
        exact List.eq_nil_of_length_eq_zero (by simpa using hs)
      rw [hnil] at hq
      exact ⟨_, none, w, _, hq, hrun, Ext.refl base m F n w, stay, by simp [R, RL]⟩
    · have hmem : bkOf e ∈ leftL seen (es.toList.map bkOf) := by
        rw [← leftOf_bk]
        exact List.mem_map.2 ⟨e, he, rfl⟩
      have hees : e ∈ es.toList := by
        unfold leftOf at he
        simp at he
        simpa using he.1
      have hq' := hq
      split at hq'
      · rename_i hnil
        rw [hnil] at hmem; cases hmem
      · have hQ := oneOf_holds hq' _ hmem
        have hr1 : HR base m F h n w1 ∧ Ext base m F n w m F n w1 := by
          rcases hw1 with rfl | rfl
          · exact ⟨hr, Ext.refl base m F n _⟩
          · have hdrew : Later F w F w.drew := ⟨fun _ h => h, fun _ h => .inl h, fun _ _ => rfl, Nat.le_refl _, fun hd B hB => hd B hB, ⟨rfl, rfl, rfl⟩⟩
            exact ⟨hr.later hdrew, hr.ext hdrew⟩
        have hc1 : w1.heap[r]? = some (.mapIter (some y) since seen.toArray last) := by rcases hw1 with rfl | rfl <;> exact hc
        have hlt : r < w1.heap.size := hr1.1.dom b r hB
        have hput := fun (h' : Nat → Blk) (hh : ∀ c', h' c' = if c' = b then Blk.iter (some mb) since (seen ++ [e.born]) clock else h c') => hr1.1.putO (h' := h') hB hc1 (o' := .mapIter (some y) since (seen.toArray.push e.born) clock) (fun c el fr => by simp) (by rw [hb]; simp) hh fun up =>
          ⟨r, some y, rfl, by rw [World.putObj_heap_same hlt]; simp, y, h2, rfl, h4⟩
        have hext := (hput (fun c' => if c' = b then Blk.iter (some mb) since (seen ++ [e.born]) clock else h c') (fun _ => rfl)).2
        refine ⟨_, some (b, .iter (some mb) since (seen ++ [e.born]) clock), _, _, hQ, hrun, hr1.2.trans hext, fun h' hh => (hput h' hh).1, ?_⟩
        have hval := (hf e.key (hE.ent.is e hees)).2 e.val (mapGet_mem hE.ent e hees)
        have hval' := hext.val (hr1.2.val hval)
        simp only [R, RL]
        exact ⟨_, rfl, _, _, rfl, rfl, _, _, rfl, R_leaf _, _, _, rfl, hval', rfl⟩
theorem evEntry_val {P : Program} (hr : HR base m F h n w) {it : V} {X : Value} (hx : R F w it n m X) : Val P F w n m (evEntry h it) (Instr.entry X) := by
  unfold evEntry
  split
  case h_2 => exact Val.stuck
  rename_i st b es0 i o
  cases st with
  | false => exact Val.stuck
  | true =>
  cases hz : (Nat.beq es0 0 && (Nat.beq i 0 && Nat.beq o 0))
  · exact Val.stuck
  simp only [Bool.and_self, cond_true]
  obtain ⟨hbn, r, rfl, hB⟩ := iter_at hx hz
  have hblk := hr.blk b hbn
  split
  case h_2 => exact Val.stuck
  rename_i mb since seen last hb
  rw [hb] at hblk
  obtain ⟨r', x, e, hc, h1⟩ := hblk
  obtain rfl : r = r' := by rw [hB] at e; injection e
  split
  · exact Val.stuck
  rename_i mb
  obtain ⟨y, h2, rfl, h4⟩ := h1
  have hmblk := hr.blk mb h2
  split
  case h_2 => exact Val.stuck
  rename_i kd st f ks hmb
  split
  case h_2 => exact Val.stuck
  rename_i c l
  split
  · exact Val.stuck
  rename_i x rest hrev
  rw [hmb] at hmblk
  obtain ⟨B', es, clock, e2, hcell, hE, hf⟩ := hmblk
  obtain rfl : y = B' := by rw [h4] at e2; injection e2
  obtain ⟨rfl, rfl⟩ := hE.told _ _ rfl
  cases hol : (oldL since (es.toList.map bkOf) && Nat.beq clock last)
  · exact Val.stuck
  simp only [cond_true]
  simp only [Bool.and_eq_true] at hol
  obtain ⟨ho1, ho2⟩ := hol
  obtain ⟨hold, hnd⟩ := oldL_spec ho1
  obtain rfl := Nat.eq_of_beq_eq_true ho2
  split
  case h_2 => exact Val.stuck
  rename_i e' hfind
  have hmem := List.mem_of_find?_eq_some hfind
  have hx' := List.find?_some hfind
  obtain ⟨e, hees, rfl⟩ := List.mem_map.1 hmem
  have hbx : e.born = x := Nat.eq_of_beq_eq_true hx'
  have hseen : seen.toArray = (rest.reverse.toArray).push e.born := by
    have : seen = rest.reverse ++ [x] := by rw [← List.reverse_reverse seen, hrev, List.reverse_cons]
    rw [this, hbx]; simp
  rw [hseen] at hc
  have hn : (es.toList.map (·.born)).Nodup := by
    have := hnd
    rw [List.map_map] at this
    exact this
  have hrun := run_entry_at (P := P) w r y since rest.reverse.toArray es clock e hc hcell hees hn
  refine Val.leaf hrun ?_
  have hval := (hf e.key (hE.ent.is e hees)).2 e.val (mapGet_mem hE.ent e hees)
  simp only [R, RL]
  exact ⟨_, rfl, _, _, rfl, R_leaf _, _, _, rfl, hval, rfl⟩
theorem oneCell_of {xs : List Value} (h : ∀ x ∈ xs, (∀ c, x ≠ .agg c) ∧ ∀ c, x ≠ .tuple c) : ∀ v ∈ xs, v.oneCell' = true := by
  intro v hv
  obtain ⟨h1, h2⟩ := h v hv
  cases v <;> first | rfl | exact absurd rfl (h1 _) | exact absurd rfl (h2 _)


/-- A block is known no more. -/
theorem HR.forget (hr : HR base m F h n w) {h' : Nat → Blk} {b : Nat} (hh : ∀ c, h' c = if c = b then .any else h c) : HR base m F h' n w := by
  refine ⟨hr.low, hr.fdom, fun c hc => ?_, hr.dom, hr.new, hr.gl, hr.own, fun c c' C h1 h2 hne => ?_⟩
  · rw [hh c]
    by_cases e : c = b
    · rw [if_pos e]; exact trivial
    · rw [if_neg e]; exact hr.blk c hc
  · rw [hh c, hh c']
    rcases hr.inj c c' C h1 h2 hne with h3 | h3
    · left; by_cases e : c = b
      · rw [if_pos e]
      · rw [if_neg e]; exact h3
    · right; by_cases e : c' = b
      · rw [if_pos e]
      · rw [if_neg e]; exact h3
theorem HR.forget? (hr : HR base m F (look g h0) n w) (b : Option Nat) : HR base m F (look g (lostB h0 b)) n w := by
  cases b with
  | none => exact hr
  | some b => exact hr.forget (b := b) fun c => look_set _ _ _ _ _
theorem RB_more {n' : Nat} {m' : Nat → Option Nat} {blk : Blk} {B : Option Nat} (hn : n ≤ n') (hm : ∀ b, b < n → ∀ B, m b = some B → m' b = some B) (hb : RB F w n m blk B) : RB F w n' m' blk B := by
  have hm' := fun v => R_mono (F := F) (F' := F) (w := w) (w' := w) (Sizes.refl w) (fun _ h => h) (fun _ _ => rfl) v n n' m m' hn hm
  cases blk with
  | none => exact hb
  | any => exact hb
  | var cs =>
    obtain ⟨b, xs, el, ys, zs, e, hc, hsp, hr⟩ := hb
    exact ⟨b, xs, el, ys, zs, e, hc, hsp, (hm' cs).2 _ hr⟩
  | arr es k get => exact hb
  | iter mb since seen last =>
    obtain ⟨r, x, e, hc, h1⟩ := hb
    refine ⟨r, x, e, hc, ?_⟩
    cases mb with
    | none => exact h1
    | some b => obtain ⟨y, h2, h3, h4⟩ := h1; exact ⟨y, Nat.lt_of_lt_of_le h2 hn, h3, hm b h2 y h4⟩
  | mapV kd st f ks =>
    obtain ⟨b, es, clock, e, hc, hE, hf⟩ := hb
    exact ⟨b, es, clock, e, hc, hE, fun k hk' => ⟨(hf k hk').1, fun v hv => (hm' (f k).2).1 _ ((hf k hk').2 v hv)⟩⟩
  | rng f ps asg bd row N st pend =>
    obtain ⟨l, r, e, hc, h1, h2, h3, h4, h5, h6, h7⟩ := hb
    exact ⟨l, r, e, hc, h1, h2, h3, h4, h5, h6, fun i => (hm' (row i)).1 _ (h7 i)⟩
theorem Ext.name {w' : World} {B : Option Nat} (he : Ext base m F n w m F n w') (hB : ∀ k, B = some k → w.heap.size ≤ k ∨ ∃ c, m c = some k) : Ext base m F n w (fun c => if c = n then B else m c) F (n + 1) w' :=
  ⟨he.f, he.back, he.keep, he.size, he.sz, ⟨he.ow.un, fun b k hk hlt => by
    by_cases e : b = n
    · rw [if_pos e] at hk
      rcases hB k hk with h | h
      · omega
      · exact h
    · rw [if_neg e] at hk; exact ⟨b, hk⟩⟩, by omega, fun b hb k hk => by rw [if_neg (by omega)]; exact he.map b hb k hk, he.calm⟩
/-- A block of ours that is known under no name gets a new one; or no block does. -/
theorem HR.name (hr : HR base m F h n w) {h' : Nat → Blk} {B : Option Nat} {blk : Blk} (hB : ∀ k, B = some k → (base ≤ k ∧ ¬ F k) ∧ k < w.heap.size ∧ ∀ c, m c = some k → h c = .any)
    (hh : ∀ c, h' c = if c = n then blk else h c) (hblk : RB F w (n + 1) (fun c => if c = n then B else m c) blk B) :
    HR base (fun c => if c = n then B else m c) F h' (n + 1) w := by
  have hmap : ∀ b, b < n → ∀ k, m b = some k → (if b = n then B else m b) = some k := fun b hb k hk => by rw [if_neg (by omega)]; exact hk
  refine ⟨hr.low, hr.fdom, fun c hc => ?_, fun c k hk => ?_, fun c hc => ?_, hr.gl, fun c k hk => ?_, fun c c' C h1 h2 hne => ?_⟩
  · rw [hh c]
    by_cases e : c = n
    · rw [if_pos e, if_pos e]; exact hblk
    · rw [if_neg e, if_neg e]; exact RB_more (by omega) hmap (hr.blk c (by omega))
  · by_cases e : c = n
    · rw [if_pos e] at hk; exact (hB k hk).2.1
    · rw [if_neg e] at hk; exact hr.dom c k hk
  · rw [if_neg (by omega)]; exact hr.new c (by omega)
  · by_cases e : c = n
    · rw [if_pos e] at hk; exact (hB k hk).1
    · rw [if_neg e] at hk; exact hr.own c k hk
  · rw [hh c, hh c']
    by_cases e1 : c = n <;> by_cases e2 : c' = n
    · exact absurd (e1.trans e2.symm) hne
    · rw [if_pos e1] at h1; rw [if_neg e2] at h2
      right; rw [if_neg e2]; exact (hB C h1).2.2 c' h2
    · rw [if_neg e1] at h1; rw [if_pos e2] at h2
      left; rw [if_neg e1]; exact (hB C h2).2.2 c h1
    · rw [if_neg e1] at h1; rw [if_neg e2] at h2
      rw [if_neg e1, if_neg e2]; exact hr.inj c c' C h1 h2 hne
end
end Go.Fw
namespace Go.Fw

section
variable {P : Program} {base : Nat} {m : Nat → Option Nat} {F : Nat → Prop} {h : Nat → Blk} {n : Nat} {w : World}

/-- Rows of values, laid one behind the other. -/
def Rows (F : Nat → Prop) (w : World) (n : Nat) (m : Nat → Option Nat) (z k : Nat) (get : Nat → V) (L : List Value) : Prop :=
  L.length = k * z ∧ ∀ j, j < k → ∃ xs, RL F w (get j) n m xs ∧ xs.length = z ∧ ∀ q, q < z → L[j * z + q]? = xs[q]?
theorem Rows.nil {z : Nat} {get : Nat → V} : Rows F w n m z 0 get [] := ⟨by simp, fun j hj => absurd hj (Nat.not_lt_zero _)⟩
theorem Rows.cat {z : Nat} {get : Nat → V} : ∀ (k : Nat) (L : List Value), Rows F w n m z k get L → RL F w (catRows get k) n m L := by
  intro k
  induction k with
  | zero =>
    intro L hL
    have : L = [] := List.eq_nil_of_length_eq_zero (by rw [hL.1]; simp)
    subst this
    show RL F w .nil n m []
    simp only [RL]
  | succ k ih =>
    intro L hL
    obtain ⟨hlen, hrows⟩ := hL
    rw [Nat.add_mul, Nat.one_mul] at hlen
    have e : L = L.take (k * z) ++ L.drop (k * z) := (List.take_append_drop _ _).symm
    rw [e]
    show RL F w ((catRows get k).app (get k)) n m _
    refine RL_app _ _ (ih _ ⟨by simp; omega, fun j hj => ?_⟩) _ _ ?_
    · obtain ⟨xs, h1, h2, h3⟩ := hrows j (by omega)
      refine ⟨xs, h1, h2, fun q hq => ?_⟩
      have hmul : (j + 1) * z ≤ k * z := Nat.mul_le_mul_right z hj
      rw [Nat.add_mul, Nat.one_mul] at hmul
      rw [List.getElem?_take_of_lt (by omega)]
      exact h3 q hq
    · obtain ⟨xs, h1, h2, h3⟩ := hrows k (by omega)
      have e2 : L.drop (k * z) = xs := by
        apply List.ext_getElem?
        intro q
        by_cases hq : q < z
        · rw [List.getElem?_drop, h3 q hq]
        · rw [List.getElem?_eq_none (by simp; omega), List.getElem?_eq_none (by omega)]
      rw [e2]
      exact h1
theorem Rows.of_cells {z k : Nat} {get : Nat → V} {c : Array Value} {off : Nat} (hle : off + k * z ≤ c.size) (hr : ∀ j, j < k → ∃ xs, RL F w (get j) n m xs ∧ xs.length = z ∧ ∀ q, q < z → c[off + j * z + q]? = xs[q]?) :
    Rows F w n m z k get ((c.toList.drop off).take (k * z)) := by
  refine ⟨by simp; omega, fun j hj => ?_⟩
  obtain ⟨xs, h1, h2, h3⟩ := hr j hj
  refine ⟨xs, h1, h2, fun q hq => ?_⟩
  have hmul : (j + 1) * z ≤ k * z := Nat.mul_le_mul_right z hj
  rw [Nat.add_mul, Nat.one_mul] at hmul
  rw [List.getElem?_take_of_lt (by omega), List.getElem?_drop, ← h3 q hq]
  simp [Nat.add_assoc]
theorem Rows.up {z k : Nat} {get : Nat → V} {L : List Value} (hr : Rows F w 0 (fun _ => none) z k get L) : Rows F w n m z k get L :=
  ⟨hr.1, fun j hj => by
    obtain ⟨xs, h1, h2, h3⟩ := hr.2 j hj
    exact ⟨xs, (R_mono (Sizes.refl w) (fun _ h => h) (fun _ _ => rfl) (get j) 0 n _ m (Nat.zero_le _) (fun b hb => absurd hb (Nat.not_lt_zero _))).2 _ h1, h2, h3⟩⟩
theorem Rows.down {z k : Nat} {get : Nat → V} {L : List Value} (hr : Rows F w n m z k get L) (hc : ∀ j, j < k → (get j).clean = true) : Rows F w 0 (fun _ => none) z k get L :=
  ⟨hr.1, fun j hj => by
    obtain ⟨xs, h1, h2, h3⟩ := hr.2 j hj
    exact ⟨xs, (R_clean (get j) (hc j hj) n 0 m _).2 _ h1, h2, h3⟩⟩
theorem Rows.one {z k : Nat} {get : Nat → V} {L : List Value} (hr : Rows F w n m z k get L) (hz : 0 < z) (hc : ∀ j, j < k → (get j).allCell = true) : ∀ u ∈ L, u.oneCell' = true := by
  intro u hu
  obtain ⟨i, hi, e⟩ := List.getElem_of_mem hu
  have hlt : i < k * z := by rw [← hr.1]; exact hi
  have hj : i / z < k := Nat.div_lt_of_lt_mul (by rw [Nat.mul_comm]; exact hlt)
  obtain ⟨xs, h1, h2, h3⟩ := hr.2 (i / z) hj
  have hq := Nat.mod_lt i hz
  have h4 := h3 (i % z) hq
  have e2 : i / z * z + i % z = i := by rw [Nat.mul_comm]; exact Nat.div_add_mod i z
  rw [e2, List.getElem?_eq_getElem hi, e] at h4
  exact oneCell_of (RL_allCell _ _ h1 (hc _ hj)) u (List.mem_of_getElem? h4.symm)
theorem Rows.app {z k k' : Nat} {get get' : Nat → V} {L L' : List Value} (h : Rows F w n m z k get L) (h' : Rows F w n m z k' get' L') :
    Rows F w n m z (k + k') (fun j => bif Nat.blt j k then get j else get' (j - k)) (L ++ L') := by
  refine ⟨by rw [List.length_append, h.1, h'.1, Nat.add_mul], fun j hj => ?_⟩
  cases hb : Nat.blt j k
  · have hb' : ¬ j < k := fun e => by rw [← Nat.blt_eq] at e; rw [e] at hb; cases hb
    obtain ⟨xs, h1, h2, h3⟩ := h'.2 (j - k) (by omega)
    refine ⟨xs, by simp only [hb, cond_false]; exact h1, h2, fun q hq => ?_⟩
    have e : j * z = k * z + (j - k) * z := by rw [← Nat.add_mul]; congr 1; omega
    rw [List.getElem?_append_right (by rw [h.1]; omega), h.1, ← h3 q hq]
    congr 1
    omega
  · have hb' : j < k := by simpa [Nat.blt_eq] using hb
    obtain ⟨xs, h1, h2, h3⟩ := h.2 j hb'
    refine ⟨xs, by simp only [hb, cond_true]; exact h1, h2, fun q hq => ?_⟩
    have hmul : (j + 1) * z ≤ k * z := Nat.mul_le_mul_right z hb'
    rw [Nat.add_mul, Nat.one_mul] at hmul
    rw [List.getElem?_append_left (by rw [h.1]; omega)]
    exact h3 q hq

theorem rowsFrom_at (old new : Nat → V) (k : Nat) : ∀ (m j : Nat), rowsFrom old k new m j = bif Nat.ble k j && Nat.blt j (k + m) then new (j - k) else old j := by
  intro m
  induction m with
  | zero =>
    intro j
    have h : (Nat.ble k j && Nat.blt j (k + 0)) = false := by
      cases h1 : Nat.ble k j
      · rfl
      · have := Nat.le_of_ble_eq_true h1
        cases h2 : Nat.blt j (k + 0)
        · rfl
        · have h3 : j < k + 0 := by simpa [Nat.blt_eq] using h2
          omega
    rw [h]; rfl
  | succ m ih =>
    intro j
    show (bif Nat.beq j (k + m) then new m else rowsFrom old k new m j) = _
    rw [ih]
    have hb : ∀ a b : Nat, Nat.ble a b = decide (a ≤ b) := fun a b => by
      by_cases h : a ≤ b
      · rw [Nat.ble_eq_true_of_le h, decide_eq_true h]
      · rw [decide_eq_false h]
        cases h' : Nat.ble a b
        · rfl
        · exact absurd (Nat.le_of_ble_eq_true h') h
    have hlt : ∀ a b : Nat, Nat.blt a b = decide (a < b) := fun a b => hb (a + 1) b
    have he : ∀ a b : Nat, Nat.beq a b = decide (a = b) := fun a b => by
      by_cases h : a = b
      · subst h; simp
      · rw [decide_eq_false h]
        cases h' : Nat.beq a b
        · rfl
        · exact absurd (Nat.eq_of_beq_eq_true h') h
    rw [he, hb, hlt, hlt]
    by_cases h1 : j = k + m
    · subst h1
      simp
    · by_cases h2 : k ≤ j
      · by_cases h3 : j < k + m
        · have h4 : j < k + (m + 1) := by omega
          simp [h1, h2, h3, h4]
        · have h4 : ¬ j < k + (m + 1) := by omega
          simp [h1, h2, h3, h4]
      · simp [h1, h2]
theorem Rows.appFrom {z k k' : Nat} {get get' : Nat → V} {L L' : List Value} (h : Rows F w n m z k get L) (h' : Rows F w n m z k' get' L') :
    Rows F w n m z (k + k') (rowsFrom get k get' k') (L ++ L') := by
  have h2 := h.app h'
  refine ⟨h2.1, fun j hj => ?_⟩
  obtain ⟨xs, g1, g2⟩ := h2.2 j hj
  refine ⟨xs, ?_, g2⟩
  rw [rowsFrom_at]
  have e : (bif Nat.ble k j && Nat.blt j (k + k') then get' (j - k) else get j) = (bif Nat.blt j k then get j else get' (j - k)) := by
    cases hb : Nat.blt j k
    · have hb' : k ≤ j := by
        rcases Nat.lt_or_ge j k with h | h
        · rw [← Nat.blt_eq] at h; rw [h] at hb; cases hb
        · exact h
      rw [Nat.ble_eq_true_of_le hb', show Nat.blt j (k + k') = true by rw [Nat.blt_eq]; exact hj]
      rfl
    · have hb' : j < k := by simpa [Nat.blt_eq] using hb
      cases h1 : Nat.ble k j
      · rfl
      · have := Nat.le_of_ble_eq_true h1; omega
  rw [e]
  exact g1

theorem rowsCat_lt {old new : Nat → V} {k j : Nat} (h : j < k) : rowsCat old k new j = old j := by
  unfold rowsCat
  cases hk : Nat.beq k 0
  · simp only [cond_false]
    rw [show Nat.blt j k = true by rw [Nat.blt_eq]; exact h]
    rfl
  · have := Nat.eq_of_beq_eq_true hk; omega
theorem rowsCat_eq {old new : Nat → V} {k : Nat} (j : Nat) : rowsCat old k new j = bif Nat.blt j k then old j else new (j - k) := by
  unfold rowsCat
  cases hk : Nat.beq k 0
  · rfl
  · have := Nat.eq_of_beq_eq_true hk; subst this
    simp only [cond_true]
    cases hb : Nat.blt j 0
    · simp
    · rw [Nat.blt_eq] at hb; omega
theorem Rows.cat' {z k k' : Nat} {get get' : Nat → V} {L : List Value} (h : Rows F w n m z (k + k') (fun j => bif Nat.blt j k then get j else get' (j - k)) L) : Rows F w n m z (k + k') (rowsCat get k get') L :=
  ⟨h.1, fun j hj => by rw [rowsCat_eq]; exact h.2 j hj⟩

/-- What is to be appended. -/
theorem rowsOfW_run (hr : HR base m F h n w) {z : Nat} {x : V} {X : Value} (hx : R F w x n m X) {st : Bool} {k : Nat} {get : Nat → V} (h1 : rowsOfW h z x = some (st, k, get)) :
    ∃ a c, X = .slice a k c ∧ (k = 0 ∨ ∃ ad L, a = some ad ∧ Rows F w n m z k get L ∧ ∀ i u, L[i]? = some u → w.cell? (ad.add i) = some u) := by
  cases x <;> try (simp only [rowsOfW] at h1; cases h1; done)
  · rename_i s es k' get'
    unfold rowsOfW at h1
    dsimp only at h1
    cases he : Nat.beq z es
    · rw [he] at h1; cases h1
    · rw [he] at h1
      obtain rfl := Nat.eq_of_beq_eq_true he
      simp only [cond_true, Option.some.injEq, Prod.mk.injEq] at h1
      obtain ⟨rfl, rfl, rfl⟩ := h1
      rw [R_rsl] at hx
      obtain ⟨a, cap, rfl, hk, hrow⟩ := hx
      refine ⟨a, cap, rfl, hrow.imp id ?_⟩
      rintro ⟨B, off, rfl, hF, c, el, fr, hc, hrr⟩
      by_cases hk0 : k' * z = 0
      · refine ⟨_, [], rfl, ⟨by simp [hk0], fun j hj => ?_⟩, fun i u hu => by simp at hu⟩
        have hz0 : z = 0 := by rcases Nat.mul_eq_zero.1 hk0 with h | h; omega; exact h
        obtain ⟨xs, g1, g2, g3⟩ := hrr j hj
        exact ⟨xs, (R_mono (Sizes.refl w) (fun _ h => h) (fun _ _ => rfl) (get' j) 0 n _ m (Nat.zero_le _) (fun b hb => absurd hb (Nat.not_lt_zero _))).2 _ g1, g2, fun q hq => by omega⟩
      · have hz : 0 < z := Nat.pos_of_ne_zero fun e => hk0 (by rw [e, Nat.mul_zero])
        have hk' : 0 < k' := Nat.pos_of_ne_zero fun e => hk0 (by rw [e, Nat.zero_mul])
        have hle : off + k' * z ≤ c.size := by
          obtain ⟨xs, _, g2, g3⟩ := hrr (k' - 1) (by omega)
          have g4 := g3 (z - 1) (by omega)
          rw [List.getElem?_eq_getElem (by omega)] at g4
          have := (Array.getElem?_eq_some_iff.1 g4).1
          have e : k' * z = (k' - 1) * z + z := by
            have : k' = (k' - 1) + 1 := by omega
            conv => lhs; rw [this, Nat.add_mul, Nat.one_mul]
          omega
        refine ⟨_, _, rfl, (Rows.of_cells hle hrr).up, fun i u hu => ?_⟩
        have hi : i < k' * z := by
          rcases Nat.lt_or_ge i (k' * z) with h | h
          · exact h
          · rw [List.getElem?_eq_none (by simp; omega)] at hu; cases hu
        rw [List.getElem?_take_of_lt hi, List.getElem?_drop] at hu
        rw [add_plain]
        simp only [World.cell?, hc, Option.isSome_none, Bool.false_eq_true, if_false]
        simpa using hu
  · rename_i s b es i0 k'
    unfold rowsOfW at h1
    dsimp only at h1
    cases he : Nat.beq z es
    · rw [he] at h1; cases h1
    · rw [he] at h1
      obtain rfl := Nat.eq_of_beq_eq_true he
      simp only [cond_true] at h1
      rw [R_osl] at hx
      obtain ⟨hbn, a, cap, rfl, hk, hrow⟩ := hx
      have hblk := hr.blk b hbn
      cases hh : h b <;> rw [hh] at h1 hblk <;> try (cases h1; done)
      · rename_i cs
        dsimp only at h1
        cases hs : s
        · rw [hs] at h1; cases h1
        cases hle : Nat.ble ((i0 + k') * z) cs.len
        · rw [hs, hle] at h1; cases h1
        rw [hs, hle] at h1
        simp only [Bool.and_self, cond_true, Option.some.injEq, Prod.mk.injEq] at h1
        obtain ⟨rfl, rfl, rfl⟩ := h1
        refine ⟨a, cap, rfl, ?_⟩
        rcases hrow with h0 | ⟨B, c, el, fr, rfl, hB, hc, hz⟩
        · exact .inl (by omega)
        right
        obtain ⟨B', xs, el', ys, zs, hm, hcell, hsp, hrl⟩ := hblk
        obtain rfl : B = B' := by rw [hB] at hm; injection hm
        have hle' := Nat.le_of_ble_eq_true hle
        rw [RL_len _ _ hrl] at hle'
        have hpl := prefix_len hsp
        have hadd : (i0 + k') * z = i0 * z + k' * z := Nat.add_mul _ _ _
        refine ⟨_, _, rfl, Rows.of_cells (c := xs) (off := i0 * z) (by omega) (fun j hj => ⟨(ys.drop ((i0 + j) * z)).take z, RL_take _ _ (RL_drop _ _ hrl _) _, ?_, fun q hq => ?_⟩), fun i u hu => ?_⟩
        · have : (i0 + j + 1) * z ≤ (i0 + k') * z := Nat.mul_le_mul_right z (by omega)
          rw [Nat.add_mul, Nat.one_mul] at this
          simp; omega
        · have : (i0 + j + 1) * z ≤ (i0 + k') * z := Nat.mul_le_mul_right z (by omega)
          rw [Nat.add_mul, Nat.one_mul] at this
          rw [List.getElem?_take_of_lt hq, List.getElem?_drop, ← Nat.add_mul]
          exact prefix_get hsp (by omega)
        · have hi : i < k' * z := by
            rcases Nat.lt_or_ge i (k' * z) with h | h
            · exact h
            · rw [List.getElem?_eq_none (by simp; omega)] at hu; cases hu
          rw [List.getElem?_take_of_lt hi, List.getElem?_drop] at hu
          rw [add_plain]
          simp only [World.cell?, hcell, Option.isSome_none, Bool.false_eq_true, if_false]
          simpa using hu
      · rename_i es' k2 get2
        dsimp only at h1
        cases he2 : Nat.beq z es'
        · rw [he2] at h1; cases h1
        cases hs : s
        · rw [he2, hs] at h1; cases h1
        cases hle : Nat.ble (i0 + k') k2
        · rw [he2, hs, hle] at h1; cases h1
        rw [he2, hs, hle] at h1
        simp only [Bool.and_self, cond_true, Option.some.injEq, Prod.mk.injEq] at h1
        obtain ⟨rfl, rfl, rfl⟩ := h1
        obtain rfl := Nat.eq_of_beq_eq_true he2
        refine ⟨a, cap, rfl, ?_⟩
        rcases hrow with h0 | ⟨B, c, el, fr, rfl, hB, hc, hz⟩
        · exact .inl (by omega)
        right
        obtain ⟨B', xs, el', hm, hcell, hsz, hrl⟩ := hblk.resolve_left (fun h0 => by rw [hB] at h0; cases h0.2)
        obtain rfl : B = B' := by rw [hB] at hm; injection hm
        have hle' := Nat.le_of_ble_eq_true hle
        have hadd : (i0 + k') * z = i0 * z + k' * z := Nat.add_mul _ _ _
        have hmul : (i0 + k') * z ≤ k2 * z := Nat.mul_le_mul_right z hle'
        refine ⟨_, _, rfl, (Rows.of_cells (c := xs) (off := i0 * z) (get := fun j => get2 (i0 + j)) (by omega) (fun j hj => ?_)).up, fun i u hu => ?_⟩
        · obtain ⟨ys, g1, g2, g3⟩ := hrl (i0 + j) (by omega)
          exact ⟨ys, g1, g2, fun q hq => by rw [← g3 q hq, Nat.add_mul]⟩
        · have hi : i < k' * z := by
            rcases Nat.lt_or_ge i (k' * z) with h | h
            · exact h
            · rw [List.getElem?_eq_none (by simp; omega)] at hu; cases hu
          rw [List.getElem?_take_of_lt hi, List.getElem?_drop] at hu
          rw [add_plain]
          simp only [World.cell?, hcell, Option.isSome_none, Bool.false_eq_true, if_false]
          simpa using hu
  · simp only [rowsOfW, Option.some.injEq, Prod.mk.injEq] at h1
    obtain ⟨rfl, rfl, rfl⟩ := h1
    simp only [R] at hx
    exact ⟨none, 0, hx, .inl rfl⟩
  · simp only [rowsOfW, Option.some.injEq, Prod.mk.injEq] at h1
    obtain ⟨rfl, rfl, rfl⟩ := h1
    simp only [R] at hx
    obtain ⟨ad, hx, _⟩ := hx
    exact ⟨ad, 0, hx, .inl rfl⟩

theorem rowsOf_run (hr : HR base m F h n w) {z : Nat} {x : V} {X : Value} (hx : R F w x n m X) {st : Bool} {k : Nat} {get : Nat → V} (h1 : rowsOf h z x = some (st, k, get)) :
    ∃ a c, X = .slice a k c ∧ (k = 0 ∨ ∃ ad L, a = some ad ∧ Rows F w n m z k get L ∧ ∀ i u, L[i]? = some u → w.cell? (ad.add i) = some u) := rowsOfW_run hr (R_plain1 hx) h1

/-- What is appended to. -/
theorem baseOf_run (hr : HR base m F h n w) {z : Nat} {x : V} {X : Value} (hx : R F w x n m X) {st : Bool} {k : Nat} {get : Nat → V} {pre : Prop} {b : Option Nat} (h1 : baseOf h z x = some (st, k, get, pre, b)) (hp : pre) :
    ∃ a cap L, X = .slice a k cap ∧ k ≤ cap ∧ Rows F w n m z k get L ∧ (∀ ad, a = some ad → ∀ i u, L[i]? = some u → w.cell? (ad.add i) = some u) ∧ (b = none → k = 0 ∧ cap = 0) ∧
      (cap = 0 ∨ ∃ b' B c el, b = some b' ∧ b' < n ∧ m b' = some B ∧ h b' ≠ .any ∧ a = some ⟨B, 0, none⟩ ∧ w.heap[B]? = some (.cells c el (0, 0)) ∧ cap * z ≤ c.size ∧ c.toList.take (k * z) = L) ∧
      (st = false → Rows F w 0 (fun _ => none) z k get L) := by
  cases x <;> try (simp only [baseOf] at h1; cases h1; done)
  · rename_i s b0 es i0 k'
    unfold baseOf at h1
    dsimp only at h1
    cases he : Nat.beq z es
    · rw [he] at h1; cases h1
    cases hi0 : Nat.beq i0 0
    · rw [he, hi0] at h1; cases h1
    rw [he, hi0] at h1
    obtain rfl := Nat.eq_of_beq_eq_true he
    obtain rfl := Nat.eq_of_beq_eq_true hi0
    simp only [Bool.and_self, cond_true] at h1
    rw [R_osl] at hx
    obtain ⟨hbn, a, cap, rfl, hk, hrow⟩ := hx
    have hblk := hr.blk b0 hbn
    cases hh : h b0 <;> rw [hh] at h1 hblk <;> try (cases h1; done)
    · rename_i cs
      dsimp only at h1
      cases hs : s
      · rw [hs] at h1; cases h1
      cases hle : Nat.ble (k' * z) cs.len
      · rw [hs, hle] at h1; cases h1
      rw [hs, hle] at h1
      simp only [Bool.and_self, cond_true, Option.some.injEq, Prod.mk.injEq] at h1
      obtain ⟨rfl, rfl, rfl, rfl, rfl⟩ := h1
      rcases hrow with h0 | ⟨B, c, el, fr, rfl, hB, hc, hz⟩
      · obtain rfl : k' = 0 := by omega
        exact ⟨a, cap, [], rfl, hk, Rows.nil, fun ad _ i u hu => by simp at hu, (fun e => by cases e), .inl h0, (fun e => by cases e)⟩
      obtain ⟨B', xs, el', ys, zs, hm, hcell, hsp, hrl⟩ := hblk
      obtain rfl : B = B' := by rw [hB] at hm; injection hm
      rw [hcell] at hc
      injection hc with hc
      injection hc with e1 e2 e3
      subst e1; subst e2; subst e3
      have hle' := Nat.le_of_ble_eq_true hle
      rw [RL_len _ _ hrl] at hle'
      have hpl := prefix_len hsp
      refine ⟨_, cap, (xs.toList.drop 0).take (k' * z), rfl, hk, Rows.of_cells (off := 0) (by omega) (fun j hj => ⟨(ys.drop (j * z)).take z, RL_take _ _ (RL_drop _ _ hrl _) _, ?_, fun q hq => ?_⟩), fun ad had i u hu => ?_, (fun e => by cases e), .inr ⟨b0, B, xs, _, rfl, hbn, hB, by rw [hh]; simp, by simp, hcell, by simpa using hz, by simp⟩, (fun e => by cases e)⟩
      · have : (j + 1) * z ≤ k' * z := Nat.mul_le_mul_right z (by omega)
        rw [Nat.add_mul, Nat.one_mul] at this
        simp; omega
      · have : (j + 1) * z ≤ k' * z := Nat.mul_le_mul_right z (by omega)
        rw [Nat.add_mul, Nat.one_mul] at this
        rw [List.getElem?_take_of_lt hq, List.getElem?_drop, Nat.zero_add]
        exact prefix_get hsp (by omega)
      · injection had with had
        subst had
        have hi : i < k' * z := by
          rcases Nat.lt_or_ge i (k' * z) with h | h
          · exact h
          · rw [List.getElem?_eq_none (by simp; omega)] at hu; cases hu
        rw [List.getElem?_take_of_lt hi, List.getElem?_drop] at hu
        rw [add_plain]
        simp only [World.cell?, hcell, Option.isSome_none, Bool.false_eq_true, if_false]
        simpa using hu
    · rename_i es' k2 get2
      dsimp only at h1
      cases he2 : Nat.beq z es'
      · rw [he2] at h1; cases h1
      rw [he2] at h1
      obtain rfl := Nat.eq_of_beq_eq_true he2
      simp only [cond_true] at h1
      have key : k' ≤ k2 ∧ k' = k ∧ get2 = get ∧ some b0 = b := by
        cases s with
        | true =>
          dsimp only at h1
          cases hle : Nat.ble k' k2
          · rw [hle] at h1; cases h1
          · rw [hle] at h1
            simp only [cond_true, Option.some.injEq, Prod.mk.injEq] at h1
            exact ⟨Nat.le_of_ble_eq_true hle, h1.2.1, h1.2.2.1, by rw [← h1.2.2.2.2]⟩
        | false =>
          simp only [Option.some.injEq, Prod.mk.injEq] at h1
          refine ⟨?_, h1.2.1, h1.2.2.1, by rw [← h1.2.2.2.2]⟩
          rw [h1.2.2.2.1]; exact hp
      obtain ⟨hle', rfl, rfl, rfl⟩ := key
      rcases hrow with h0 | ⟨B, c, el, fr, rfl, hB, hc, hz⟩
      · obtain rfl : k' = 0 := by omega
        exact ⟨a, cap, [], rfl, hk, Rows.nil, fun ad _ i u hu => by simp at hu, (fun e => by cases e), .inl h0, fun _ => Rows.nil⟩
      obtain ⟨B', xs, el', hm, hcell, hsz, hrl⟩ := hblk.resolve_left (fun h0 => by rw [hB] at h0; cases h0.2)
      obtain rfl : B = B' := by rw [hB] at hm; injection hm
      rw [hcell] at hc
      injection hc with hc
      injection hc with e1 e2 e3
      subst e1; subst e2; subst e3
      have hmul : k' * z ≤ k2 * z := Nat.mul_le_mul_right z hle'
      have hrows : Rows F w 0 (fun _ => none) z k' get2 ((xs.toList.drop 0).take (k' * z)) := Rows.of_cells (off := 0) (by omega) (fun j hj => by
        obtain ⟨ys, g1, g2, g3⟩ := hrl j (by omega)
        exact ⟨ys, g1, g2, fun q hq => by rw [← g3 q hq, Nat.zero_add]⟩)
      refine ⟨_, cap, (xs.toList.drop 0).take (k' * z), rfl, hk, hrows.up, fun ad had i u hu => ?_, (fun e => by cases e), .inr ⟨b0, B, xs, _, rfl, hbn, hB, by rw [hh]; simp, by simp, hcell, by simpa using hz, by simp⟩, fun _ => hrows⟩
      injection had with had
      subst had
      have hi : i < k' * z := by
        rcases Nat.lt_or_ge i (k' * z) with h | h
        · exact h
        · rw [List.getElem?_eq_none (by simp; omega)] at hu; cases hu
      rw [List.getElem?_take_of_lt hi, List.getElem?_drop] at hu
      rw [add_plain]
      simp only [World.cell?, hcell, Option.isSome_none, Bool.false_eq_true, if_false]
      simpa using hu
  · simp only [baseOf, Option.some.injEq, Prod.mk.injEq] at h1
    obtain ⟨rfl, rfl, rfl, rfl, rfl⟩ := h1
    simp only [R] at hx
    subst hx
    exact ⟨none, 0, [], rfl, Nat.le_refl _, Rows.nil, (fun ad had => by cases had), fun _ => ⟨rfl, rfl⟩, .inl rfl, fun _ => Rows.nil⟩
  · simp only [baseOf, Option.some.injEq, Prod.mk.injEq] at h1
    obtain ⟨rfl, rfl, rfl, rfl, rfl⟩ := h1
    simp only [R] at hx
    obtain ⟨ad, rfl, _⟩ := hx
    exact ⟨ad, 0, [], rfl, Nat.le_refl _, Rows.nil, (fun ad had i u hu => by cases hu), fun _ => ⟨rfl, rfl⟩, .inl rfl, fun _ => Rows.nil⟩

theorem oldCells_RL (hr : HR base m F h n w) {z : Nat} {s : V} {st : Bool} {k : Nat} {old : Nat → V} {pre : Prop} {b : Option Nat} (h1 : baseOf h z s = some (st, k, old, pre, b)) {L : List Value} {cap : Nat} (hLr : Rows F w n m z k old L) (hkc : k ≤ cap)
    (hblk : cap = 0 ∨ ∃ b' B c el, b = some b' ∧ m b' = some B ∧ w.heap[B]? = some (.cells c el (0, 0)) ∧ c.toList.take (k * z) = L) (hb0 : ∀ b', b = some b' → b' < n)
    (hcat : RL F w (catRows old k) n m L) : RL F w (oldCells h z s old k) n m L := by
  unfold oldCells
  split
  · rename_i st0 b0 es i0 k0
    split
    · rename_i cs hcs
      cases hle : Nat.ble (k * z) cs.len
      · exact hcat
      simp only [cond_true]
      have hbb : b = some b0 := by
        unfold baseOf at h1
        dsimp only at h1
        cases he : (Nat.beq z es && Nat.beq i0 0)
        · rw [he] at h1; cases h1
        · rw [he, hcs] at h1
          simp only [cond_true] at h1
          cases hc : (st0 && Nat.ble (k0 * z) cs.len)
          · rw [hc] at h1; cases h1
          · rw [hc] at h1
            injection h1 with h1
            injection h1 with _ h1; injection h1 with _ h1; injection h1 with _ h1; injection h1 with _ h1
            exact h1.symm
      have hB := hr.blk b0 (hb0 b0 hbb)
      rw [hcs] at hB
      obtain ⟨B', xs, el', ys, zs, hm, hcell, hsp, hrl⟩ := hB
      have hlen := RL_len _ _ hrl
      have hle' := Nat.le_of_ble_eq_true hle
      have hyl : ys.take (k * z) = L := by
        rcases hblk with h0 | ⟨b', B, c, el, hb', hmB, hc, htk⟩
        · have hk0 : k = 0 := by omega
          subst hk0
          have : L.length = 0 := by rw [hLr.1]; simp
          rw [List.eq_nil_of_length_eq_zero this]; simp
        · rw [hbb] at hb'
          injection hb' with hb'
          subst hb'
          rw [hm] at hmB
          injection hmB with hmB
          subst hmB
          rw [hcell] at hc
          injection hc with hc
          injection hc with hc1 hc2 hc3
          subst hc1
          rw [← htk, hsp, List.take_append_of_le_length (by omega)]
      rw [← hyl]
      exact RL_take _ _ hrl _
    · exact hcat
  · exact hcat

theorem run_append_zero (t ty e : TypeId) (i : TypeInfo) (ht : P.underlying t = some (.slice e)) (hi : P.info? e = some i) (a a' : Option Addr) (k cap c : Nat) (hk : k ≤ cap) :
    (Builtin.append_ #[t, t] ty #[.slice a k cap, .slice a' 0 c]).run P w = .ok (.slice a k cap) w := by
  cases a <;> cases a' <;>
    simp [Builtin.append_, run_underlying ht, sizeOf, typeInfo, hi, Builtin.lenOf, hk, Builtin.firstCells, loadCells, loadCellsFrom, storeCells]
/-- What is appended lies behind what there was: in the same block, or in a new one. -/
theorem append_run {g : Nat → Blk} {h0 : PT Blk} (hr : HR base m F (look g h0) n w) {t ty e : TypeId} {i : TypeInfo} {zv : Value} (ht : P.underlying t = some (.slice e)) (hi : P.info? e = some i) (hzv : i.zero = some zv)
    (hzs : zv.cells.size = i.size) {a : Option Addr} {k cap : Nat} {L : List Value} (hkc : k ≤ cap) (hL : L.length = k * i.size) (hLc : ∀ ad, a = some ad → ∀ j u, L[j]? = some u → w.cell? (ad.add j) = some u)
    {b : Option Nat} (hnone : b = none → k = 0 ∧ cap = 0)
    (hblk : cap = 0 ∨ ∃ b' B c el, b = some b' ∧ b' < n ∧ m b' = some B ∧ look g h0 b' ≠ .any ∧ a = some ⟨B, 0, none⟩ ∧ w.heap[B]? = some (.cells c el (0, 0)) ∧ cap * i.size ≤ c.size ∧ c.toList.take (k * i.size) = L)
    {ad : Addr} {mm c : Nat} {news : List Value} (hm0 : 0 < mm) (hN : news.length = mm * i.size) (hNc : ∀ j u, news[j]? = some u → w.cell? (ad.add j) = some u) (h1 : ∀ u ∈ news, u.oneCell' = true) (hf : fits (k + mm) i.bytes) :
    ∃ w' B arr el capn rest, (Builtin.append_ #[t, t] ty #[.slice a k cap, .slice (some ad) mm c]).run P w = .ok (.slice (some ⟨B, 0, none⟩) (k + mm) capn) w' ∧ HR base m F (look g (lostB h0 b)) n w' ∧ Ext base m F n w m F n w' ∧
      ((base ≤ B ∧ ¬ F B) ∧ B < w'.heap.size ∧ ∀ c, m c = some B → look g (lostB h0 b) c = .any) ∧ w'.heap[B]? = some (.cells arr el (0, 0)) ∧ k + mm ≤ capn ∧ capn * i.size ≤ arr.size ∧ arr.toList = L ++ news ++ rest ∧ (w.heap.size ≤ B ∨ ∃ c, m c = some B) := by
  obtain ⟨hf1, hf2⟩ := hf
  by_cases hroom : k + mm ≤ cap
  · rcases hblk with h | ⟨b', B, c0, el, rfl, hbn, hB, hna, rfl, hcell, hsz, htk⟩
    · omega
    have hfit : k * i.size + news.length ≤ c0.size := by
      have : (k + mm) * i.size ≤ cap * i.size := Nat.mul_le_mul_right _ hroom
      rw [Nat.add_mul] at this
      omega
    have hfc := run_firstCells_some (P := P) w i.size mm ad mm c news hN hNc
    have hst := run_storeCells_at P B (k * i.size) el news 0 c0 w hcell (by simpa using hfit) h1
    simp only [Nat.add_zero] at hst
    have hrun : (Builtin.append_ #[t, t] ty #[.slice (some ⟨B, 0, none⟩) k cap, .slice (some ad) mm c]).run P w = .ok (.slice (some ⟨B, 0, none⟩) (k + mm) cap) (w.setRow B (c0.toList.take (k * i.size) ++ news ++ c0.toList.drop (k * i.size + news.length)).toArray) := by
      simp [Builtin.append_, run_underlying ht, sizeOf, typeInfo, hi, Builtin.lenOf, hroom, hfc, add_plain, hst]
    have hns : (c0.toList.take (k * i.size) ++ news ++ c0.toList.drop (k * i.size + news.length)).toArray.size = c0.size := by
      simp
      omega
    obtain ⟨k1, k2⟩ := hr.turn (h' := look g (lostB h0 (some b'))) hB hcell hns hna (blk := .any) (fun c => look_set _ _ _ _ _) (fun _ => trivial)
    refine ⟨_, B, _, el, cap, _, hrun, k1, k2, ⟨hr.own b' B hB, by simpa using hr.dom b' B hB, fun c hc => ?_⟩, setRow_heap w B _ _ el _ hcell, hroom, by rw [hns]; exact hsz, by rw [List.toList_toArray, htk], .inr ⟨b', hB⟩⟩
    show look g (h0.set b' .any) c = .any
    rw [look_set]
    by_cases e : c = b'
    · rw [if_pos e]
    · rw [if_neg e]
      rcases hr.inj c b' B hc hB e with h | h
      · exact h
      · exact absurd h hna
  · have hcut : ∀ old, Later F w F (w.drew.alloc (.cells (L.toArray ++ news.toArray ++ Builtin.zeroCells zv.cells (grownCap w (k + mm) old e - (k + mm))) e)) := fun old =>
      ⟨fun _ h => h, fun _ h => .inl h, fun B hB => heap_alloc_old w.drew _ B hB, by simp, fun hd B hB => by have := hd B hB; simp; omega, ⟨rfl, rfl, rfl⟩⟩
    have fin : ∀ old, (Builtin.append_ #[t, t] ty #[.slice a k cap, .slice (some ad) mm c]).run P w = .ok (.slice (some ⟨w.heap.size, 0, none⟩) (k + mm) (grownCap w (k + mm) old e)) (w.drew.alloc (.cells (L.toArray ++ news.toArray ++ Builtin.zeroCells zv.cells (grownCap w (k + mm) old e - (k + mm))) e)) →
        ∃ w' B arr el capn rest, (Builtin.append_ #[t, t] ty #[.slice a k cap, .slice (some ad) mm c]).run P w = .ok (.slice (some ⟨B, 0, none⟩) (k + mm) capn) w' ∧ HR base m F (look g (lostB h0 b)) n w' ∧ Ext base m F n w m F n w' ∧
          ((base ≤ B ∧ ¬ F B) ∧ B < w'.heap.size ∧ ∀ c, m c = some B → look g (lostB h0 b) c = .any) ∧ w'.heap[B]? = some (.cells arr el (0, 0)) ∧ k + mm ≤ capn ∧ capn * i.size ≤ arr.size ∧ arr.toList = L ++ news ++ rest ∧ (w.heap.size ≤ B ∨ ∃ c, m c = some B) := by
      intro old hrun
      have hge : k + mm ≤ grownCap w (k + mm) old e := by simp [grownCap, Question.cut]
      refine ⟨_, w.heap.size, _, e, _, (Builtin.zeroCells zv.cells (grownCap w (k + mm) old e - (k + mm))).toList, hrun, (hr.later (hcut old)).forget? b, hr.ext (hcut old),
        ⟨⟨hr.low, fun hF => absurd (hr.fdom _ hF) (Nat.lt_irrefl _)⟩, by simp, fun c hc => absurd (hr.dom c _ hc) (Nat.lt_irrefl _)⟩, heap_alloc_new w.drew _, hge, ?_, by simp, .inl (Nat.le_refl _)⟩
      simp only [Array.size_append, List.size_toArray, hL, hN, Builtin.zeroCells, Array.size_map, Array.size_range, hzs]
      rw [← Nat.add_mul, ← Nat.add_mul]
      refine Nat.mul_le_mul_right _ ?_
      omega
    cases a with
    | none =>
      by_cases hk0 : cap = 0
      · have hk1 : k = 0 := by omega
        subst hk0; subst hk1
        have hL0 : L = [] := List.eq_nil_of_length_eq_zero (by simpa using hL)
        subst hL0
        refine fin 0 ?_
        have := run_append_nil (P := P) (w := w) t ty e i zv ht hi hzv ad mm c news hN hNc hm0 (by omega) (by simp only [Nat.zero_add] at hf1; omega)
        simpa using this
      · rcases hblk with h | ⟨b', B, c0, el, _, _, _, _, h, _⟩
        · exact absurd h hk0
        · cases h
    | some ad0 =>
      refine fin cap ?_
      exact run_append_grow (P := P) (w := w) t ty e i zv ht hi hzv ad0 k cap L hL (hLc ad0 rfl) ad mm c news hN hNc (by omega) (by omega) (growslice_fits (by omega) hf1)

theorem allN_at {f : Nat → Bool} : ∀ {k : Nat}, allN k f = true → ∀ j, j < k → f j = true := by
  intro k
  induction k with
  | zero => intro _ j hj; omega
  | succ k ih =>
    intro h j hj
    have e : allN (k + 1) f = (allN k f && f k) := rfl
    rw [e, Bool.and_eq_true] at h
    by_cases e : j = k
    · subst e; exact h.2
    · exact ih h.1 j (by omega)
theorem baseOf_pre {z : Nat} {x : V} {k : Nat} {get : Nat → V} {pre : Prop} {b : Option Nat} (h1 : baseOf h z x = some (true, k, get, pre, b)) : pre := by
  cases x <;> try (simp only [baseOf] at h1; cases h1; done)
  · rename_i s b0 es i0 k'
    unfold baseOf at h1
    dsimp only at h1
    cases hc : (Nat.beq z es && Nat.beq i0 0)
    · rw [hc] at h1; cases h1
    rw [hc] at h1
    simp only [cond_true] at h1
    cases hh : h b0 <;> rw [hh] at h1 <;> try (cases h1; done)
    · rename_i cs
      dsimp only at h1
      cases hc2 : (s && Nat.ble (k' * z) cs.len)
      · rw [hc2] at h1; cases h1
      rw [hc2] at h1
      simp only [cond_true, Option.some.injEq, Prod.mk.injEq] at h1
      rw [← h1.2.2.2.1]; trivial
    · rename_i es' k2 get2
      dsimp only at h1
      cases hc2 : Nat.beq z es'
      · rw [hc2] at h1; cases h1
      rw [hc2] at h1
      simp only [cond_true] at h1
      cases s with
      | true =>
        dsimp only at h1
        cases hc3 : Nat.ble k' k2
        · rw [hc3] at h1; cases h1
        rw [hc3] at h1
        simp only [cond_true, Option.some.injEq, Prod.mk.injEq] at h1
        rw [← h1.2.2.2.1]; trivial
      | false =>
        simp only [Option.some.injEq, Prod.mk.injEq] at h1
        cases h1.1
  · simp only [baseOf, Option.some.injEq, Prod.mk.injEq] at h1
    rw [← h1.2.2.2.1]; trivial
  · simp only [baseOf, Option.some.injEq, Prod.mk.injEq] at h1
    rw [← h1.2.2.2.1]; trivial
theorem baseOf_shape {z : Nat} {x : V} {X : Value} (hx : R F w x n m X) {st : Bool} {k : Nat} {get : Nat → V} {pre : Prop} {b : Option Nat} (h1 : baseOf h z x = some (st, k, get, pre, b)) : ∃ a cap, X = .slice a k cap ∧ k ≤ cap := by
  cases x <;> try (simp only [baseOf] at h1; cases h1; done)
  · rename_i s b0 es i0 k'
    have hk : k' = k := by
      unfold baseOf at h1
      dsimp only at h1
      cases hc : (Nat.beq z es && Nat.beq i0 0)
      · rw [hc] at h1; cases h1
      rw [hc] at h1
      simp only [cond_true] at h1
      cases hh : h b0 <;> rw [hh] at h1 <;> try (cases h1; done)
      · rename_i cs
        dsimp only at h1
        cases hc2 : (s && Nat.ble (k' * z) cs.len)
        · rw [hc2] at h1; cases h1
        rw [hc2] at h1
        simp only [cond_true, Option.some.injEq, Prod.mk.injEq] at h1
        exact h1.2.1
      · rename_i es' k2 get2
        dsimp only at h1
        cases hc2 : Nat.beq z es'
        · rw [hc2] at h1; cases h1
        rw [hc2] at h1
        simp only [cond_true] at h1
        cases s with
        | true =>
          dsimp only at h1
          cases hc3 : Nat.ble k' k2
          · rw [hc3] at h1; cases h1
          rw [hc3] at h1
          simp only [cond_true, Option.some.injEq, Prod.mk.injEq] at h1
          exact h1.2.1
        | false =>
          simp only [Option.some.injEq, Prod.mk.injEq] at h1
          exact h1.2.1
    subst hk
    rw [R_osl] at hx
    obtain ⟨_, a, cap, rfl, hk, _⟩ := hx
    exact ⟨a, cap, rfl, hk⟩
  · simp only [baseOf, Option.some.injEq, Prod.mk.injEq] at h1
    simp only [R] at hx
    rw [← h1.2.1]
    exact ⟨none, 0, hx, Nat.le_refl _⟩
  · simp only [baseOf, Option.some.injEq, Prod.mk.injEq] at h1
    simp only [R] at hx
    obtain ⟨ad, hx, _⟩ := hx
    rw [← h1.2.1]
    exact ⟨ad, 0, hx, Nat.le_refl _⟩
theorem baseOf_name (_hr : HR base m F h n w) {z : Nat} {x : V} {X : Value} (hx : R F w x n m X) {st : Bool} {k : Nat} {get : Nat → V} {pre : Prop} {b : Nat} (h1 : baseOf h z x = some (st, k, get, pre, some b)) : b < n := by
  cases x <;> try (simp only [baseOf] at h1; cases h1; done)
  rename_i s b0 es i0 k'
  have hb : b0 = b := by
    unfold baseOf at h1
    dsimp only at h1
    cases hc : (Nat.beq z es && Nat.beq i0 0)
    · rw [hc] at h1; cases h1
    rw [hc] at h1
    simp only [cond_true] at h1
    cases hh : h b0 <;> rw [hh] at h1 <;> try (cases h1; done)
    · rename_i cs
      dsimp only at h1
      cases hc2 : (s && Nat.ble (k' * z) cs.len)
      · rw [hc2] at h1; cases h1
      rw [hc2] at h1
      simp only [cond_true, Option.some.injEq, Prod.mk.injEq] at h1
      exact h1.2.2.2.2
    · rename_i es' k2 get2
      dsimp only at h1
      cases hc2 : Nat.beq z es'
      · rw [hc2] at h1; cases h1
      rw [hc2] at h1
      simp only [cond_true] at h1
      cases s with
      | true =>
        dsimp only at h1
        cases hc3 : Nat.ble k' k2
        · rw [hc3] at h1; cases h1
        rw [hc3] at h1
        simp only [cond_true, Option.some.injEq, Prod.mk.injEq] at h1
        exact h1.2.2.2.2
      | false =>
        simp only [Option.some.injEq, Prod.mk.injEq] at h1
        exact h1.2.2.2.2
  subst hb
  rw [R_osl] at hx
  exact hx.1
theorem evAppend_run {g : Nat → Blk} {h0h : PT Blk} (hr : HR base m F (look g h0h) n w) {ts : Array TypeId} {ty : TypeId} {args : V} {xs : Array Value} (hargs : RL F w args n m xs.toList) {Q : V × PT Blk × Nat → Prop}
    (hq : (evAppend P g h0h n ts.toList args).holds P Q) :
    ∃ v h' n' m' w' X, Q (v, h', n') ∧ (Builtin.append_ ts ty xs).run P w = .ok X w' ∧ Ext base m F n w m' F n' w' ∧ HR base m' F (look g h') n' w' ∧ R F w' v n' m' X := by
  unfold evAppend at hq
  split at hq
  case h_2 => exact hq.elim
  rename_i t t' hts
  cases htt : Nat.beq t t'
  · rw [htt] at hq; exact hq.elim
  rw [htt] at hq
  obtain rfl := Nat.eq_of_beq_eq_true htt
  simp only [cond_true] at hq
  split at hq
  case h_2 => exact hq.elim
  rename_i e ht
  split at hq
  case h_2 => exact hq.elim
  rename_i z zero by_ hz hzero hby
  cases hzl : Nat.beq zero.len z
  · rw [hzl] at hq; exact hq.elim
  cases hz0 : Nat.blt 0 z
  · rw [hzl, hz0] at hq; exact hq.elim
  rw [hzl, hz0] at hq
  simp only [Bool.and_self, cond_true] at hq
  split at hq
  case h_2 => exact hq.elim
  rename_i s x
  split at hq
  case h_2 => exact hq.elim
  rename_i st k old pre b st' mm new hbase hrows
  simp only [RL] at hargs
  obtain ⟨S, r, e1, hS, X, r', e2, hX, e3⟩ := hargs
  subst e3
  have hxs : xs = #[S, X] := by apply Array.ext'; rw [e1, e2]
  have htsa : ts = #[t, t] := by apply Array.ext'; rw [hts]
  subst hxs; subst htsa
  -- the type
  unfold tySize at hz
  unfold tyBytes at hby
  cases hi : P.info? e with
  | none => rw [hi] at hz; cases hz
  | some i =>
  rw [hi] at hz hby
  injection hz with hz; injection hby with hby
  subst hz; subst hby
  obtain ⟨zv, hzv, hzr⟩ := tyZero_run (F := F) (w := w) (n := n) (m := m) hzero
  have hzv' : i.zero = some zv := by
    unfold tyZero at hzero
    rw [hi] at hzero
    dsimp only at hzero
    cases hiz : i.zero with
    | none => rw [hiz] at hzero; cases hzero
    | some q =>
      simp only [zeroValue, typeInfo, Sem.run_bind, run_program, Result.andThen_ok, hi, hiz, Sem.run_pure] at hzv
      injection hzv with hzv _
      rw [hzv]
  have hzs : zv.cells.size = i.size := by
    have h1 := Nat.eq_of_beq_eq_true hzl
    rw [RL_len _ _ hzr] at h1
    simpa using h1
  have hzpos : 0 < i.size := by simpa [Nat.blt_eq] using hz0
  obtain ⟨a', c, rfl, hnew⟩ := rowsOf_run hr hX hrows
  cases st' with
  | false =>
    -- so many rows as are not known ahead, behind none
    dsimp only at hq
    cases b with
    | some b0 =>
      dsimp only at hq
      cases hcl : (!st || allN k fun j => (old j).clean)
      · rw [hcl] at hq; exact hq.elim
      rw [hcl] at hq
      obtain ⟨⟨hpre, hfit, hcells⟩, hq⟩ := hq
      obtain ⟨a, cap, L, rfl, hkc, hLr, hLc, hnone, hblk, hL0⟩ := baseOf_run hr hS hbase hpre
      have hold : Rows F w 0 (fun _ => none) i.size k old L := by
        cases st with
        | false => exact hL0 rfl
        | true => exact hLr.down fun j hj => allN_at (by simpa using hcl) j hj
      have hbn : b0 < n := (baseOf_name hr hS hbase)
      by_cases hm0 : mm = 0
      · subst hm0
        rw [Nat.add_zero] at hq
        rcases hblk with h0 | ⟨b', B, c0, el, hb', hbn', hB, hna, rfl, hcell, hsz, htk⟩
        · have hk0 : k = 0 := by omega
          subst hk0
          have k0 := hr.forget? (some b0)
          have k1 := k0.name (h' := look g ((h0h.set b0 .any).set n (.arr i.size 0 (rowsCat old 0 new)))) (B := none) (blk := .arr i.size 0 (rowsCat old 0 new)) (fun k hk => by cases hk) (fun c => look_set _ _ _ _ _) (.inl ⟨rfl, rfl⟩)
          refine ⟨_, _, _, _, w, _, hq, run_append_zero t ty e i ht hi a a' 0 cap c hkc, (Ext.refl base m F n w).name (fun k hk => by cases hk), k1, ?_⟩
          rw [R_osl]
          exact ⟨by omega, a, cap, rfl, hkc, .inl h0⟩
        · injection hb' with hb'; subst hb'
          have k0 := hr.forget? (some b0)
          have hfitk : k * i.size ≤ c0.size := Nat.le_trans (Nat.mul_le_mul_right _ hkc) hsz
          have k1 := k0.name (h' := look g ((h0h.set b0 .any).set n (.arr i.size k (rowsCat old k new)))) (B := some B) (blk := .arr i.size k (rowsCat old k new))
            (fun k hk => by
              injection hk with hk; subst hk
              refine ⟨hr.own b0 B hB, hr.dom b0 B hB, fun c hc => ?_⟩
              show look g (h0h.set b0 .any) c = .any
              rw [look_set]
              by_cases e : c = b0
              · rw [if_pos e]
              · rw [if_neg e]
                rcases hr.inj c b0 B hc hB e with h | h
                · exact h
                · exact absurd h hna) (fun c => look_set _ _ _ _ _)
            (.inr ⟨B, c0, el, rfl, hcell, hfitk, fun j hj => by
              obtain ⟨ys, g1, g2, g3⟩ := hold.2 j hj
              refine ⟨ys, ?_, g2, fun q hq => ?_⟩
              · rw [rowsCat_lt hj]; exact g1
              · rw [← g3 q hq, ← htk]
                have hmul : (j + 1) * i.size ≤ k * i.size := Nat.mul_le_mul_right _ hj
                rw [Nat.add_mul, Nat.one_mul] at hmul
                rw [List.getElem?_take_of_lt (by omega)]
                simp⟩)
          refine ⟨_, _, _, _, w, _, hq, run_append_zero t ty e i ht hi _ a' k cap c hkc, (Ext.refl base m F n w).name (fun k hk => by injection hk with hk; subst hk; exact .inr ⟨b0, hB⟩), k1, ?_⟩
          rw [R_osl]
          exact ⟨by omega, _, cap, rfl, hkc, .inr ⟨B, c0, el, (0, 0), by rw [Nat.zero_mul], by rw [if_pos rfl], hcell, by rw [Nat.zero_add]; exact hsz⟩⟩
      · obtain ⟨ad, N, rfl, hN, hNc⟩ := hnew.resolve_left hm0
        obtain ⟨w', B, arr, el, capn, rest, hrun, k1, k2, k3, k4, k5, k6, k7, k8⟩ := append_run hr ht hi hzv' hzs hkc hLr.1 hLc hnone hblk (by omega) hN.1 hNc (hN.one hzpos fun j hj => (hcells j hj).1) hfit
        have hall0 := (hold.app (hN.down fun j hj => (hcells j hj).2)).cat'
        have hfitsz : (k + mm) * i.size ≤ arr.size := Nat.le_trans (Nat.mul_le_mul_right _ k5) k6
        have j1 := k1.name (h' := look g ((lostB h0h (some b0)).set n (.arr i.size (k + mm) (rowsCat old k new)))) (B := some B) (blk := .arr i.size (k + mm) (rowsCat old k new)) (fun k hk => by injection hk with hk; subst hk; exact k3) (fun c => look_set _ _ _ _ _)
          (.inr ⟨B, arr, el, rfl, k4, hfitsz, fun j hj => by
            obtain ⟨ys, g1, g2, g3⟩ := hall0.2 j hj
            refine ⟨ys, (R_mono k2.sz k2.f (fun B hB => k2.keep B (.inr hB)) _ 0 0 _ _ (Nat.le_refl _) (fun _ _ _ h => h)).2 _ g1, g2, fun q hq => ?_⟩
            rw [← g3 q hq]
            have hmul : (j + 1) * i.size ≤ (k + mm) * i.size := Nat.mul_le_mul_right _ hj
            rw [Nat.add_mul, Nat.one_mul] at hmul
            exact prefix_get (ys := L ++ N) (zs := rest) k7 (by rw [hall0.1]; omega)⟩)
        refine ⟨_, _, _, _, w', _, hq, hrun, k2.name (fun k hk => by injection hk with hk; subst hk; exact k8), j1, ?_⟩
        rw [R_osl]
        exact ⟨by omega, _, capn, rfl, k5, .inr ⟨B, arr, el, (0, 0), by rw [Nat.zero_mul], by rw [if_pos rfl], k4, by rw [Nat.zero_add]; exact k6⟩⟩
    | none =>
      obtain ⟨⟨hpre, hfit, hcells⟩, hq⟩ := hq
      obtain ⟨a, cap, L, rfl, hkc, hLr, hLc, hnone, hblk, _⟩ := baseOf_run hr hS hbase hpre
      obtain ⟨rfl, rfl⟩ := hnone rfl
      by_cases hm0 : mm = 0
      · subst hm0
        have k1 := hr.name (h' := look g (h0h.set n (.arr i.size 0 new))) (B := none) (blk := .arr i.size 0 new) (fun k hk => by cases hk) (fun c => look_set _ _ _ _ _) (.inl ⟨rfl, rfl⟩)
        refine ⟨_, _, _, _, w, _, hq, run_append_zero t ty e i ht hi a a' 0 0 c (Nat.le_refl _), (Ext.refl base m F n w).name (fun k hk => by cases hk), k1, ?_⟩
        rw [R_osl]
        exact ⟨by omega, a, 0, rfl, Nat.le_refl _, .inl rfl⟩
      · obtain ⟨ad, N, rfl, hN, hNc⟩ := hnew.resolve_left hm0
        obtain ⟨w', B, arr, el, capn, rest, hrun, k1, k2, k3, k4, k5, k6, k7, k8⟩ := append_run hr ht hi hzv' hzs (Nat.le_refl 0) hLr.1 hLc (b := none) (fun _ => ⟨rfl, rfl⟩) (.inl rfl) (by omega) hN.1 hNc (hN.one hzpos fun j hj => (hcells j hj).1) (by rw [Nat.zero_add]; exact hfit)
        have hN0 := hN.down fun j hj => (hcells j hj).2
        have hL0 : L = [] := List.eq_nil_of_length_eq_zero (by simpa using hLr.1)
        subst hL0
        rw [Nat.zero_add] at hrun k5
        have hfitsz : mm * i.size ≤ arr.size := Nat.le_trans (Nat.mul_le_mul_right _ k5) k6
        have j1 := k1.name (h' := look g (h0h.set n (.arr i.size mm new))) (B := some B) (blk := .arr i.size mm new) (fun k hk => by injection hk with hk; subst hk; exact k3) (fun c => look_set _ _ _ _ _)
          (.inr ⟨B, arr, el, rfl, k4, hfitsz, fun j hj => by
            obtain ⟨ys, g1, g2, g3⟩ := hN0.2 j hj
            refine ⟨ys, (R_mono k2.sz k2.f (fun B hB => k2.keep B (.inr hB)) (new j) 0 0 _ _ (Nat.le_refl _) (fun _ _ _ h => h)).2 _ g1, g2, fun q hq => ?_⟩
            rw [← g3 q hq]
            have hmul : (j + 1) * i.size ≤ mm * i.size := Nat.mul_le_mul_right _ hj
            rw [Nat.add_mul, Nat.one_mul] at hmul
            exact prefix_get (ys := N) (zs := rest) (by simpa using k7) (by rw [hN.1]; omega)⟩)
        refine ⟨_, _, _, _, w', _, hq, hrun, k2.name (fun k hk => by injection hk with hk; subst hk; exact k8), j1, ?_⟩
        rw [R_osl]
        exact ⟨by omega, _, capn, rfl, k5, .inr ⟨B, arr, el, (0, 0), by rw [Nat.zero_mul], by rw [if_pos rfl], k4, by rw [Nat.zero_add]; exact k6⟩⟩
  | true =>
    dsimp only at hq
    have hb0n : ∀ b', b = some b' → b' < n := fun b' hb' => by
      have h1 := hbase
      rw [hb'] at h1
      exact baseOf_name hr hS h1
    obtain ⟨a, cap, rfl, hkc⟩ := baseOf_shape hS hbase
    cases hm0 : Nat.beq mm 0
    · rw [hm0] at hq
      simp only [cond_false] at hq
      have hm1 : mm ≠ 0 := fun e => by subst e; cases hm0
      obtain ⟨ad, N, rfl, hN, hNc⟩ := hnew.resolve_left hm1
      cases hall : allN mm fun j => (new j).allCell && Nat.beq (new j).len i.size
      · rw [hall] at hq; exact hq.elim
      rw [hall] at hq
      simp only [cond_true] at hq
      have hcell1 : ∀ j, j < mm → (new j).allCell = true := fun j hj => by
        have := allN_at hall j hj
        simp only [Bool.and_eq_true] at this
        exact this.1
      have hone := hN.one hzpos hcell1
      cases st with
      | true =>
        dsimp only at hq
        cases hfb : fitsB (k + mm) i.bytes
        · rw [hfb] at hq; exact hq.elim
        rw [hfb] at hq
        simp only [cond_true] at hq
        have hfit : fits (k + mm) i.bytes := by
          unfold fitsB at hfb
          simp only [Bool.and_eq_true] at hfb
          exact ⟨Nat.le_of_ble_eq_true hfb.1, Nat.le_of_ble_eq_true hfb.2⟩
        obtain ⟨a, cap, L, hSe, hkc, hLr, hLc, hnone, hblk, _⟩ := baseOf_run hr hS hbase (baseOf_pre hbase)
        injection hSe with s1 s2 s3
        subst s1; subst s3
        obtain ⟨w', B, arr, el, capn, rest, hrun, k1, k2, k3, k4, k5, k6, k7, k8⟩ := append_run hr ht hi hzv' hzs hkc hLr.1 hLc hnone hblk (by omega) hN.1 hNc hone hfit
        have j1 := k1.name (h' := look g ((lostB h0h b).set n (.var ((oldCells (look g h0h) i.size s old k).app (catRows new mm))))) (B := some B) (blk := .var ((oldCells (look g h0h) i.size s old k).app (catRows new mm))) (fun k hk => by injection hk with hk; subst hk; exact k3) (fun c => look_set _ _ _ _ _)
          ⟨B, arr, el, L ++ N, rest, rfl, k4, k7, by
            have hrow : RL F w ((oldCells (look g h0h) i.size s old k).app (catRows new mm)) n m (L ++ N) := RL_app _ _ (oldCells_RL hr hbase hLr hkc (hblk.imp id fun ⟨b', B, c0, el, e1, _, e2, _, _, e3, _, e4⟩ => ⟨b', B, c0, el, e1, e2, e3, e4⟩) hb0n (hLr.cat k L)) _ _ (hN.cat mm N)
            exact (R_mono k2.sz k2.f (fun B hB => k2.keep B (.inr hB)) _ n (n + 1) m _ (by omega) (fun c hc B hB => by rw [if_neg (by omega)]; exact hB)).2 _ hrow⟩
        refine ⟨_, _, _, _, w', _, hq, hrun, k2.name (fun k hk => by injection hk with hk; subst hk; exact k8), j1, ?_⟩
        rw [R_osl]
        exact ⟨by omega, _, capn, rfl, k5, .inr ⟨B, arr, el, (0, 0), by rw [Nat.zero_mul], by rw [if_pos rfl], k4, by rw [Nat.zero_add]; exact k6⟩⟩
      | false =>
        dsimp only at hq
        cases hcl : allN mm fun j => (new j).clean
        · rw [hcl] at hq; exact hq.elim
        rw [hcl] at hq
        obtain ⟨⟨hpre, hfit⟩, hq⟩ := hq
        obtain ⟨a, cap, L, hSe, hkc, hLr, hLc, hnone, hblk, hL0⟩ := baseOf_run hr hS hbase hpre
        injection hSe with s1 s2 s3
        subst s1; subst s3
        obtain ⟨w', B, arr, el, capn, rest, hrun, k1, k2, k3, k4, k5, k6, k7, k8⟩ := append_run hr ht hi hzv' hzs hkc hLr.1 hLc hnone hblk (by omega) hN.1 hNc hone hfit
        have hall0 := (hL0 rfl).appFrom (hN.down fun j hj => allN_at hcl j hj)
        have hfitsz : (k + mm) * i.size ≤ arr.size := Nat.le_trans (Nat.mul_le_mul_right _ k5) k6
        have j1 := k1.name (h' := look g ((lostB h0h b).set n (.arr i.size (k + mm) (rowsFrom old k new mm)))) (B := some B) (blk := .arr i.size (k + mm) (rowsFrom old k new mm)) (fun k hk => by injection hk with hk; subst hk; exact k3) (fun c => look_set _ _ _ _ _)
          (.inr ⟨B, arr, el, rfl, k4, hfitsz, fun j hj => by
            obtain ⟨ys, g1, g2, g3⟩ := hall0.2 j hj
            refine ⟨ys, (R_mono k2.sz k2.f (fun B hB => k2.keep B (.inr hB)) _ 0 0 _ _ (Nat.le_refl _) (fun _ _ _ h => h)).2 _ g1, g2, fun q hq => ?_⟩
            rw [← g3 q hq]
            have hmul : (j + 1) * i.size ≤ (k + mm) * i.size := Nat.mul_le_mul_right _ hj
            rw [Nat.add_mul, Nat.one_mul] at hmul
            exact prefix_get (ys := L ++ N) (zs := rest) k7 (by rw [hall0.1]; omega)⟩)
        refine ⟨_, _, _, _, w', _, hq, hrun, k2.name (fun k hk => by injection hk with hk; subst hk; exact k8), j1, ?_⟩
        rw [R_osl]
        exact ⟨by omega, _, capn, rfl, k5, .inr ⟨B, arr, el, (0, 0), by rw [Nat.zero_mul], by rw [if_pos rfl], k4, by rw [Nat.zero_add]; exact k6⟩⟩
    · rw [hm0] at hq
      have hm1 := Nat.eq_of_beq_eq_true hm0
      subst hm1
      exact ⟨_, _, _, m, w, _, hq, run_append_zero t ty e i ht hi a a' k cap c hkc, Ext.refl base m F n w, hr, hS⟩
end
end Go.Fw
