/- Structs and slices made, cut and measured; the least and the greatest: the evaluator's answer stands for the model's. -/
import Derived.Test.YtkkojdcchnailaaGreatDoorQGwG
namespace Go.Fw

section
variable {P : Program} {F : Nat → Prop} {w : World} {n : Nat} {m : Nat → Option Nat}

theorem tyZero_run {t : TypeId} {cs : V} (h : tyZero P t = some cs) : ∃ z, (zeroValue t).run P w = .ok z w ∧ RL F w cs n m z.cells.toList := by
  unfold tyZero at h
  cases hi : P.info? t with
  | none => rw [hi] at h; cases h
  | some i =>
    rw [hi] at h
    dsimp only at h
    cases hz : i.zero with
    | none => rw [hz] at h; cases h
    | some z =>
      rw [hz] at h
      injection h with h
      subst h
      refine ⟨z, by simp only [zeroValue, Sem.run_bind, run_typeInfo w hi, Result.andThen_ok, hz, Sem.run_pure], ?_⟩
      unfold V.ofValue
      split
      · exact RL_leaves _
      · rename_i hne
        have hc : z.cells = #[z] := by cases z <;> first | rfl | exact absurd rfl (hne _)
        rw [hc]
        have hr := R_leaf (F := F) (w := w) (n := n) (m := m) z
        cases ho : V.ofLeaf z with
        | agg cs => exfalso; unfold V.ofLeaf at ho; split at ho <;> first | (cases ho; done) | (split at ho <;> cases ho)
        | _ =>
          rw [ho] at hr
          simp only [V.cells, RL]
          exact ⟨z, [], rfl, hr, rfl⟩

/-- The parts of a struct or an array, one by one. -/
inductive Parts (F : Nat → Prop) (w : World) (n : Nat) (m : Nat → Option Nat) : List (Nat × V) → List (Nat × Value) → Prop
  | nil : Parts F w n m [] []
  | cons {i : Nat} {v : V} {x : Value} {l : List (Nat × V)} {r : List (Nat × Value)} (h : R F w v n m x) (hr : Parts F w n m l r) : Parts F w n m ((i, v) :: l) ((i, x) :: r)

theorem foldl_set (vs : List Value) : ∀ (k : Nat) (cs : Array Value) (o : Nat), 
    ((vs.zipIdx k).foldl (fun cs (c, j) => cs.setIfInBounds (o + j) c) cs).toList = spliceL cs.toList (o + k) vs := by
  induction vs with
  | nil =>
    intro k cs o
    simp only [List.zipIdx_nil, List.foldl_nil]
    apply List.ext_getElem?
    intro j
    by_cases hj : j < cs.toList.length
    · rw [spliceL_get _ _ _ _ hj]
      rw [if_neg (by simp only [List.length_nil]; omega)]
    · rw [List.getElem?_eq_none (by omega), List.getElem?_eq_none (by rw [spliceL_length]; omega)]
  | cons v vs ih =>
    intro k cs o
    simp only [List.zipIdx_cons, List.foldl_cons]
    rw [ih (k + 1) _ o]
    apply List.ext_getElem?
    intro j
    have hlen : (cs.setIfInBounds (o + k) v).toList.length = cs.toList.length := by simp
    by_cases hj : j < cs.toList.length
    · rw [spliceL_get _ _ _ _ (by rw [hlen]; exact hj), spliceL_get _ _ _ _ hj]
      simp only [List.length_cons]
      by_cases h1 : o + (k + 1) ≤ j ∧ j < o + (k + 1) + vs.length
      · rw [if_pos h1, if_pos (by omega)]
        have : j - (o + k) = (j - (o + (k + 1))) + 1 := by omega
        rw [this, List.getElem?_cons_succ]
      · rw [if_neg h1]
        by_cases h2 : j = o + k
        · subst h2
          rw [if_pos (by omega)]
          simp only [Nat.sub_self, List.getElem?_cons_zero, Array.getElem?_toList]
          rw [Array.getElem?_setIfInBounds_self_of_lt (by simpa using hj)]
        · rw [if_neg (by omega)]
          simp only [Array.getElem?_toList]
          rw [Array.getElem?_setIfInBounds_ne (by omega)]
    · rw [List.getElem?_eq_none (by rw [spliceL_length, hlen]; omega), List.getElem?_eq_none (by rw [spliceL_length]; omega)]

theorem fill_cons (place : Nat → Option (Nat × Nat)) (cells : Array Value) (i : Nat) (v : Value) (rest : List (Nat × Value)) (off z : Nat) (hp : place i = some (off, z))
    (h1 : v.cells.size = z) (h2 : off + z ≤ cells.size) :
    Instr.fill place cells ((i, v) :: rest) = Instr.fill place (spliceL cells.toList off v.cells.toList).toArray rest := by
  simp only [Instr.fill, hp]
  rw [if_neg (by simp [h1]; omega)]
  congr 1
  apply Array.ext'
  have := foldl_set v.cells.toList 0 cells off
  simp only [Nat.add_zero] at this
  rw [← this]
  rw [← Array.toList_zipIdx, Array.foldl_toList]
theorem fillRow_run {place : Nat → Option (Nat × Nat)} : ∀ (l : List (Nat × V)) (r : List (Nat × Value)), Parts F w n m l r → ∀ (cs : V) (out : V) (cells : Array Value),
    fillRow P place cs l = some out → RL F w cs n m cells.toList →
    ∃ outc, Instr.fill place cells r = some outc ∧ RL F w out n m outc.toList ∧ outc.size = cells.size := by
  intro l r h
  induction h with
  | nil => intro cs out cells hf hr; simp only [fillRow] at hf; injection hf with hf; subst hf; exact ⟨cells, rfl, hr, rfl⟩
  | @cons i v x l r hv hlr ih =>
    intro cs out cells hf hr
    simp only [fillRow] at hf
    cases hp : place i with
    | none => rw [hp] at hf; cases hf
    | some q =>
      obtain ⟨off, z⟩ := q
      rw [hp] at hf
      dsimp only at hf
      cases hsol : v.solid
      · rw [hsol] at hf; cases hf
      rw [hsol, Bool.true_and] at hf
      have hcells := RL_cells v x hv hsol
      rw [RL_len _ _ hcells, RL_len _ _ hr] at hf
      cases h1 : Nat.beq x.cells.toList.length z
      · rw [h1] at hf; cases hf
      · cases h2 : Nat.ble (off + z) cells.toList.length
        · rw [h1, h2] at hf; cases hf
        · rw [h1, h2] at hf
          have h1' : x.cells.size = z := by simpa using Nat.eq_of_beq_eq_true h1
          have h2' : off + z ≤ cells.size := by simpa using Nat.le_of_ble_eq_true h2
          obtain ⟨outc, g1, g2, g3⟩ := ih (cs.splice off v.cells) out (spliceL cells.toList off x.cells.toList).toArray hf
            (by simpa using RL_splice cs _ hr off v.cells _ hcells)
          refine ⟨outc, ?_, g2, ?_⟩
          · rw [fill_cons place cells i x r off z hp h1' h2']; exact g1
          · rw [g3]; simp [spliceL_length]
theorem places_run (w : World) : ∀ (fields : List Field), (∀ f ∈ fields, ∃ z, tySize P f.type = some z) →
    (fields.mapM (m := Sem) fun f => do pure (f.offset, ← sizeOf f.type)).run P w = .ok (fields.map fun f => (f.offset, (tySize P f.type).getD 0)) w := by
  intro fields
  induction fields with
  | nil => intro _; simp
  | cons f fs ih =>
    intro h
    obtain ⟨z, hz⟩ := h f (by simp)
    rw [List.mapM_cons]
    simp only [Sem.run_bind, tySize_run hz, Result.andThen_ok, Sem.run_pure, ih (fun g hg => h g (List.mem_cons_of_mem _ hg)), List.map_cons, hz, Option.getD_some]
theorem evBuild_val {t : TypeId} {l : List (Nat × V)} {r : Array (Nat × Value)} (h : Parts F w n m l r.toList) : Val P F w n m (evBuild P t l) (Instr.build t r) := by
  unfold evBuild
  cases hz : tyZero P t with
  | none => exact Val.stuck
  | some zero =>
    obtain ⟨z, hz1, hz2⟩ := tyZero_run (F := F) (w := w) (n := n) (m := m) hz
    dsimp only
    cases hu : P.underlying t with
    | none => exact Val.stuck
    | some d =>
      cases d <;> try exact Val.stuck
      · rename_i len e
        dsimp only
        cases hs : tySize P e with
        | none => exact Val.stuck
        | some q =>
          dsimp only
          cases hf : fillRow P (fun i => some (i * q, q)) zero l with
          | none => exact Val.stuck
          | some cs =>
            obtain ⟨outc, g1, g2, _⟩ := fillRow_run _ _ h _ _ _ hf hz2
            refine Val.leaf (x := .agg outc) ?_ (by rw [R_agg]; exact ⟨_, rfl, g2⟩)
            simp only [Instr.build, Sem.run_bind, hz1, run_underlying hu, Result.andThen_ok, tySize_run hs, g1, Sem.run_pure]
      · rename_i fields
        dsimp only
        cases ha : fields.toList.all fun f => (tySize P f.type).isSome
        · exact Val.stuck
        · simp only [cond_true]
          cases hf : fillRow P (fieldSpot P fields) zero l with
          | none => exact Val.stuck
          | some cs =>
            have hall : ∀ f ∈ fields.toList, ∃ z, tySize P f.type = some z := fun f hf => Option.isSome_iff_exists.1 (List.all_eq_true.1 ha f hf)
            have hpl := places_run (P := P) w fields.toList hall
            have hfun : (fun i => (fields.toList.map fun f => (f.offset, (tySize P f.type).getD 0)).toArray[i]?) = (fieldSpot P fields) := by
              funext i
              simp only [List.getElem?_toArray, List.getElem?_map, Array.getElem?_toList, fieldSpot]
              cases fields[i]? <;> rfl
            obtain ⟨outc, g1, g2, _⟩ := fillRow_run _ _ h _ _ _ hf hz2
            refine Val.leaf (x := .agg outc) ?_ (by rw [R_agg]; exact ⟨_, rfl, g2⟩)
            have hma : (fields.mapM (m := Sem) fun f => do pure (f.offset, ← sizeOf f.type)).run P w = .ok (fields.toList.map fun f => (f.offset, (tySize P f.type).getD 0)).toArray w := by
              have : (fields.mapM (m := Sem) fun f => do pure (f.offset, ← sizeOf f.type)) = List.toArray <$> (fields.toList.mapM fun f => do pure (f.offset, ← sizeOf f.type)) := by
                rw [Array.mapM_eq_mapM_toList]
              rw [this, Sem.run_map, hpl]; rfl
            simp only [Instr.build, Sem.run_bind, hz1, run_underlying hu, Result.andThen_ok, hma]
            rw [hfun, g1]
            simp only [Sem.run_pure]

theorem R_plain1 {v : V} {x : Value} (h : R F w v n m x) : R F w v.plain1 n m x := by
  cases v <;> try exact h
  rw [R_osp] at h
  obtain ⟨hb, a, cap, e, h1, h2, h3⟩ := h
  show R F w (.osl _ _ _ _ _) n m x
  rw [R_osl]
  exact ⟨hb, a, cap, e, by omega, h3⟩
/-! ### Slices cut -/
theorem sliceBound_ok {k : IntKind} {j : Int} {y : Nat} (code : BoundsCode) (h0 : 0 ≤ j) (h1 : j ≤ y) : Instr.sliceBound (.int k j) y code = pure j.toNat := by
  simp only [Instr.sliceBound, asIntOf, pure_bind]
  rw [if_pos ⟨h0, h1⟩]
theorem evBounds_val {st : Bool} {k cap : Nat} {lo hi : Option V} {vlo vhi : Option Value} {isSlice : Bool} {T : Bool → Nat → Nat → Tree V} {f : Nat × Nat × Nat → Sem Value}
    (hk : k ≤ cap) (hlo : ∀ a, lo = some a → ∃ x, vlo = some x ∧ R F w a n m x) (hlo0 : lo = none → vlo = none) (hhi : ∀ a, hi = some a → ∃ x, vhi = some x ∧ R F w a n m x) (hhi0 : hi = none → vhi = none)
    (h : ∀ st a b, a ≤ b → b ≤ k → (lo = none → a = 0) → Val P F w n m (T st a b) (f (a, b, cap))) :
    Val P F w n m (evBounds st k lo hi T) (Instr.sliceBounds isSlice k cap vlo vhi none >>= f) := by
  have hlow : ∀ st b, b ≤ k → Val P F w n m (match lo with | none => T st 0 b | some (.int s _ j) => uptoInt (st && s) j b fun q => T (st && s) q b | some _ => .stuck)
      ((match vlo with
          | some v => (do let l ← Instr.sliceBound v b (if (none : Option Value).isSome then .slice3C else .sliceB); pure (l, b, cap))
          | none => pure (0, b, cap)) >>= f) := by
    intro st b hb
    cases lo with
    | none =>
      rw [hlo0 rfl]
      intro Q hq
      obtain ⟨v, x, h1, h2, h3⟩ := h st 0 b (Nat.zero_le _) hb (fun _ => rfl) Q hq
      exact ⟨v, x, h1, by simp only [pure_bind]; exact h2, h3⟩
    | some a =>
      obtain ⟨x, rfl, hx⟩ := hlo a rfl
      cases a <;> try exact Val.stuck
      rename_i s kk j
      rw [R_int] at hx
      subst hx
      refine uptoInt_val fun h0 h1 => ?_
      intro Q hq
      obtain ⟨v, x, h1', h2, h3⟩ := h (st && s) j.toNat b (by omega) hb (fun h => by cases h) Q hq
      refine ⟨v, x, h1', ?_, h3⟩
      simp only [sliceBound_ok _ h0 h1, pure_bind]
      exact h2
  unfold evBounds
  cases hi with
  | none =>
    rw [hhi0 rfl]
    intro Q hq
    obtain ⟨v, x, h1, h2, h3⟩ := hlow st k (Nat.le_refl _) Q hq
    refine ⟨v, x, h1, ?_, h3⟩
    simp only [Instr.sliceBounds, pure_bind]
    exact h2
  | some a =>
    obtain ⟨x, rfl, hx⟩ := hhi a rfl
    cases a <;> try exact Val.stuck
    rename_i s kk j
    rw [R_int] at hx
    subst hx
    refine uptoInt_val fun h0 h1 => ?_
    intro Q hq
    obtain ⟨v, x, h1', h2, h3⟩ := hlow (st && s) j.toNat (by omega) Q hq
    refine ⟨v, x, h1', ?_, h3⟩
    simp only [Instr.sliceBounds, pure_bind, sliceBound_ok _ h0 (show j ≤ (cap : Int) by omega)]
    exact h2

theorem hasCells_run {base : Nat} {hb0 : Nat → Blk} (hr : HR base m F hb0 n w) {b B k : Nat} (hbn : b < n) (hB : m b = some B) (h : hasCells (hb0 b) k = true) : ∃ c el, w.heap[B]? = some (.cells c el (0, 0)) ∧ k ≤ c.size := by
  have hblk := hr.blk b hbn
  cases hh : hb0 b <;> rw [hh] at h hblk <;> try (cases h; done)
  rename_i cs
  obtain ⟨B', xs, el, ys, zs, hm, hcell, hsp, hrow⟩ := hblk
  obtain rfl : B = B' := by rw [hB] at hm; injection hm
  refine ⟨xs, el, hcell, ?_⟩
  have h1 := Nat.le_of_ble_eq_true h
  rw [RL_len _ _ hrow] at h1
  exact Nat.le_trans h1 (prefix_len hsp)
theorem evSlice0_val {t : TypeId} {a : V} {x : Value} {lo hi : Option V} {mx : V} {vlo vhi vmx : Option Value} (ha : R F w a n m x)
    (hlo0 : lo = none → vlo = none) (hhi : ∀ a, hi = some a → ∃ x, vhi = some x ∧ R F w a n m x) (hmx : ∃ x, vmx = some x ∧ R F w mx n m x) :
    Val P F w n m (evSlice0 P t a lo hi mx) (Instr.sliceAt t x vlo vhi vmx) := by
  unfold evSlice0
  cases lo with
  | some _ => exact Val.stuck
  | none =>
    cases hi with
    | none => exact Val.stuck
    | some hi =>
      dsimp only
      cases hz : isZeroV hi && isZeroV mx
      · exact Val.stuck
      simp only [cond_true]
      cases hu : P.underlying t with
      | none => exact Val.stuck
      | some d =>
        cases d <;> try exact Val.stuck
        dsimp only
        simp only [Bool.and_eq_true] at hz
        obtain ⟨yh, hyh, rh⟩ := hhi hi rfl
        obtain ⟨ym, hym, rm⟩ := hmx
        have zero : ∀ (v : V) (y : Value), isZeroV v = true → R F w v n m y → ∃ k, y = .int k 0 := by
          intro v y hv hy
          cases v <;> try (cases hv; done)
          rename_i st k i
          cases st <;> try (cases hv; done)
          cases i <;> try (cases hv; done)
          rename_i c
          have := Nat.eq_of_beq_eq_true hv
          subst this
          rw [R_int] at hy
          exact ⟨k, hy⟩
        obtain ⟨kh, rfl⟩ := zero _ _ hz.1 rh
        obtain ⟨km, rfl⟩ := zero _ _ hz.2 rm
        rename_i e
        cases hsz : tySize P e with
        | none => exact Val.stuck
        | some z =>
          dsimp only
          rw [hlo0 rfl, hyh, hym]
          have hrun : ∀ (ad : Option Addr) (l c : Nat), (Instr.sliceAt t (.slice ad l c) none (some (.int kh 0)) (some (.int km 0))).run P w = .ok (.slice ad 0 0) w := by
            intro ad l c
            simp [Instr.sliceAt, Instr.slice, Instr.sliceBounds, Instr.sliceBound, asIntOf, Sem.run_bind, run_underlying hu, Result.andThen_ok, tySize_run hsz]
          have pos : ∀ {st : Bool} {k : Nat}, (st && Nat.blt 0 k) = true → 0 < k := by
            intro st k h
            simp only [Bool.and_eq_true, Nat.blt_eq] at h
            exact h.2
          cases a <;> try exact Val.stuck
          case rsl =>
            rw [R_rsl] at ha
            obtain ⟨ad, c, rfl, _, hrow⟩ := ha
            refine Val.leaf (hrun ad _ c) ?_
            rw [R_esl]
            refine ⟨ad, rfl, fun h => ?_⟩
            have := pos h
            rcases hrow with h0 | ⟨B, off, rfl, _⟩
            · omega
            · simp
          case osl =>
            rw [R_osl] at ha
            obtain ⟨_, ad, c, rfl, hk, hrow⟩ := ha
            refine Val.leaf (hrun ad _ c) ?_
            rw [R_esl]
            refine ⟨ad, rfl, fun h => ?_⟩
            have := pos h
            rcases hrow with h0 | ⟨B, c0, el, fr, rfl, _⟩
            · omega
            · simp
          case osp =>
            rw [R_osp] at ha
            obtain ⟨_, ad, c, rfl, hk, hk2, hrow⟩ := ha
            refine Val.leaf (hrun ad _ c) ?_
            rw [R_esl]
            refine ⟨ad, rfl, fun h => ?_⟩
            have := pos h
            rcases hrow with h0 | ⟨B, c0, el, fr, rfl, _⟩
            · omega
            · simp
          case nilsl =>
            simp only [R] at ha
            subst ha
            exact Val.leaf (hrun none 0 0) (by simp only [R])
          case esl =>
            rw [R_esl] at ha
            obtain ⟨ad, rfl, hne⟩ := ha
            exact Val.leaf (hrun ad 0 0) (by rw [R_esl]; exact ⟨ad, rfl, hne⟩)
theorem plain1_osl {a : V} {x : Value} {st : Bool} {b es i k : Nat} (ha : R F w a n m x) (h : a.plain1 = .osl st b es i k) : R F w (.osl st b es i k) n m x := by
  cases a <;> simp only [V.plain1] at h <;> try (cases h; done)
  · injection h with h1 h2 h3 h4 h5; subst h1; subst h2; subst h3; subst h4; subst h5; exact ha
  · injection h with h1 h2 h3 h4 h5; subst h1; subst h2; subst h3; subst h4; subst h5
    rw [R_osp] at ha
    obtain ⟨hb, a, cap, e, h1, h2, h3⟩ := ha
    rw [R_osl]
    exact ⟨hb, a, cap, e, by omega, h3⟩
theorem evSlice3_val {t : TypeId} {a : V} {x : Value} {lo hi mx : V} {xl xh xm : Value} (ha : R F w a n m x) (hlo : R F w lo n m xl) (hhi : R F w hi n m xh) (hmx : R F w mx n m xm) :
    Val P F w n m (evSlice3 P t a lo hi mx) (Instr.sliceAt t x (some xl) (some xh) (some xm)) := by
  unfold evSlice3
  cases hu : P.underlying t with
  | none => exact Val.stuck
  | some d =>
    cases d <;> try exact Val.stuck
    rename_i e
    dsimp only
    cases hz : tySize P e with
    | none => exact Val.stuck
    | some z =>
      dsimp only
      cases hp : a.plain1 <;> try exact Val.stuck
      rename_i st bl es i k
      dsimp only
      cases he : Nat.beq z es
      · exact Val.stuck
      · obtain rfl := Nat.eq_of_beq_eq_true he
        simp only [cond_true]
        have ha' := plain1_osl ha hp
        rw [R_osl] at ha'
        obtain ⟨hbn, ad, cap, rfl, hk, hrow⟩ := ha'
        cases mx <;> try exact Val.stuck
        rename_i s kk j
        rw [R_int] at hmx
        subst hmx
        dsimp only
        refine uptoInt_val fun h0 h1 => ?_
        unfold evBounds
        dsimp only
        cases hi <;> try exact Val.stuck
        rename_i s2 k2 j2
        rw [R_int] at hhi
        subst hhi
        dsimp only
        refine uptoInt_val fun h2 h3 => ?_
        cases lo <;> try exact Val.stuck
        rename_i s3 k3 j3
        rw [R_int] at hlo
        subst hlo
        dsimp only
        refine uptoInt_val fun h4 h5 => ?_
        have hjc : j ≤ (cap : Int) := by omega
        refine Val.leaf (x := .slice (if j.toNat = j3.toNat then ad else ad.map (·.add (j3.toNat * z))) (j2.toNat - j3.toNat) (j.toNat - j3.toNat)) ?_ ?_
        · simp only [Instr.sliceAt, Instr.slice, Sem.run_bind, run_underlying hu, Result.andThen_ok, tySize_run hz, Instr.sliceBounds, sliceBound_ok _ h0 hjc, sliceBound_ok _ h2 h3, sliceBound_ok _ h4 h5, pure_bind, Sem.run_pure]
        · rw [R_osl]
          refine ⟨hbn, _, _, rfl, by omega, ?_⟩
          by_cases hab : j.toNat - j3.toNat = 0
          · exact .inl hab
          · right
            rcases hrow with h0' | ⟨B, c0, el0, fr0, rfl, hB, hc0, hz0⟩
            · omega
            · rw [if_neg (by omega)]
              have e : i + j3.toNat + (j.toNat - j3.toNat) = i + j.toNat := by omega
              refine ⟨B, c0, el0, fr0, by simp only [Option.map_some, add_plain, Nat.add_mul], hB, hc0, ?_⟩
              rw [e]
              exact Nat.le_trans (Nat.mul_le_mul_right z (by omega)) hz0
theorem evSlice_val {base : Nat} {hb0 : Nat → Blk} {t : TypeId} {a : V} {x : Value} {lo hi mx : Option V} {vlo vhi vmx : Option Value} (hr : HR base m F hb0 n w) (ha : R F w a n m x)
    (hlo : ∀ a, lo = some a → ∃ x, vlo = some x ∧ R F w a n m x) (hlo0 : lo = none → vlo = none) (hhi : ∀ a, hi = some a → ∃ x, vhi = some x ∧ R F w a n m x) (hhi0 : hi = none → vhi = none)
    (hmx : ∀ a, mx = some a → ∃ x, vmx = some x ∧ R F w a n m x) (hmx0 : mx = none → vmx = none) :
    Val P F w n m (evSlice P hb0 t a lo hi mx) (Instr.sliceAt t x vlo vhi vmx) := by
  unfold evSlice
  cases mx with
  | some mx =>
    dsimp only
    obtain ⟨xm, rfl, hm'⟩ := hmx mx rfl
    have h0 := evSlice0_val (P := P) (t := t) (mx := mx) (vmx := some xm) ha hlo0 hhi ⟨xm, rfl, hm'⟩
    cases hs : evSlice0 P t a lo hi mx <;> rw [hs] at h0 <;> try exact h0
    cases lo with
    | none => exact Val.stuck
    | some lo =>
      cases hi with
      | none => exact Val.stuck
      | some hi =>
        obtain ⟨xl, rfl, hl'⟩ := hlo lo rfl
        obtain ⟨xh, rfl, hh'⟩ := hhi hi rfl
        exact evSlice3_val ha hl' hh' hm'
  | none =>
    rw [hmx0 rfl]
    dsimp only
    cases hu : P.underlying t with
    | none => exact Val.stuck
    | some d =>
      cases d <;> try exact Val.stuck
      · dsimp only
        cases a <;> try exact Val.stuck
        rename_i st l
        rw [R_str] at ha
        subst ha
        have hsz : (ByteArray.mk l.toArray).size = l.length := by simp [ByteArray.size]
        have h := evBounds_val (P := P) (F := F) (w := w) (n := n) (m := m) (st := st) (k := l.length) (cap := l.length) (lo := lo) (hi := hi) (vlo := vlo) (vhi := vhi) (isSlice := false)
          (T := fun st a b => .leaf (.str st ((l.drop a).take (b - a)))) (f := fun r => pure (.string ((ByteArray.mk l.toArray).extract r.1 r.2.1))) (Nat.le_refl _) hlo hlo0 hhi hhi0
          (fun st a b h1 h2 hz0 => Val.leaf (x := .string ⟨((l.drop a).take (b - a)).toArray⟩) (by
            simp only [Sem.run_pure]
            congr 2
            apply ByteArray.ext
            apply Array.ext'
            simp [ByteArray.data_extract, List.extract_eq_take_drop]) (by rw [R_str]))
        intro Q hq
        obtain ⟨v, x, h1, h2, h3⟩ := h Q hq
        refine ⟨v, x, h1, ?_, h3⟩
        simp only [Instr.sliceAt, Instr.slice, Sem.run_bind, run_underlying hu, Result.andThen_ok, Option.isSome_none, Bool.false_eq_true, if_false, hsz]
        simpa only [Sem.run_bind] using h2
      · rename_i arr
        dsimp only
        cases a <;> try exact Val.stuck
        rename_i st bl es i o
        dsimp only
        cases hua : P.underlying arr with
        | none => exact Val.stuck
        | some da =>
          cases da <;> try exact Val.stuck
          rename_i len e
          dsimp only
          cases hz : tySize P e with
          | none => exact Val.stuck
          | some z =>
            dsimp only
            cases he : Nat.beq (i * es + o) ((i * es + o) / z * z)
            · exact Val.stuck
            cases hcs : hasCells (hb0 bl) (i * es + o + len * z)
            · exact Val.stuck
            · have he := Nat.eq_of_beq_eq_true he
              simp only [Bool.and_self, cond_true]
              rw [R_ptr] at ha
              obtain ⟨hbn, B, rfl, hB⟩ := ha
              obtain ⟨hc0, el0, hcell0, hsz0⟩ := hasCells_run hr hbn hB hcs
              generalize (i * es + o) / z = q0 at he ⊢
              rw [he]
              have h := evBounds_val (P := P) (F := F) (w := w) (n := n) (m := m) (st := st) (k := len) (cap := len) (lo := lo) (hi := hi) (vlo := vlo) (vhi := vhi) (isSlice := false)
                (T := fun st a b => .leaf (.osl st bl z (q0 + a) (b - a)))
                (f := fun r => pure (.slice (some (if r.2.2 = r.1 then (⟨B, q0 * z, none⟩ : Addr) else Addr.add ⟨B, q0 * z, none⟩ (r.1 * z))) (r.2.1 - r.1) (r.2.2 - r.1))) (Nat.le_refl _) hlo hlo0 hhi hhi0
                (fun st a b h1 h2 hz0 => Val.leaf (x := .slice (some (if len = a then (⟨B, q0 * z, none⟩ : Addr) else Addr.add ⟨B, q0 * z, none⟩ (a * z))) (b - a) (len - a)) (by simp only [Sem.run_pure]) (by
                  rw [R_osl]
                  refine ⟨hbn, _, _, rfl, by omega, ?_⟩
                  by_cases hab : len - a = 0
                  · exact .inl hab
                  · right
                    rw [if_neg (by omega)]
                    refine ⟨B, hc0, el0, (0, 0), by rw [add_plain, Nat.add_mul], hB, hcell0, ?_⟩
                    have e : q0 + a + (len - a) = q0 + len := by omega
                    rw [e, Nat.add_mul, ← he]
                    exact hsz0))
              intro Q hq
              obtain ⟨v, x, h1, h2, h3⟩ := h Q hq
              refine ⟨v, x, h1, ?_, h3⟩
              simp only [Instr.sliceAt, Instr.slice, Sem.run_bind, run_underlying hu, run_underlying hua, Result.andThen_ok, asAddr, pure_bind, Sem.run_pure]
              simp only [Sem.run_bind] at h2
              simp only [tySize_run hz, Result.andThen_ok]
              exact h2
      · rename_i e
        dsimp only
        cases a <;> try exact Val.stuck
        · rename_i st es k get
          dsimp only
          cases hz : tySize P e with
          | none => exact Val.stuck
          | some z =>
            dsimp only
            cases he : Nat.beq z es
            · exact Val.stuck
            · obtain rfl := Nat.eq_of_beq_eq_true he
              simp only [cond_true]
              rw [R_rsl] at ha
              obtain ⟨ad, cap, rfl, hk, hrow⟩ := ha
              have h := evBounds_val (P := P) (F := F) (w := w) (n := n) (m := m) (st := st) (k := k) (cap := cap) (lo := lo) (hi := hi) (vlo := vlo) (vhi := vhi) (isSlice := true)
                (T := fun st a b => .leaf (.rsl st z (b - a) fun j => get (a + j)))
                (f := fun r => pure (.slice (if r.2.2 = r.1 then ad else ad.map (·.add (r.1 * z))) (r.2.1 - r.1) (r.2.2 - r.1))) hk hlo hlo0 hhi hhi0
                (fun st a b h1 h2 hz0 => Val.leaf (x := .slice (if cap = a then ad else ad.map (·.add (a * z))) (b - a) (cap - a)) (by simp only [Sem.run_pure]) (by
                  rw [R_rsl]
                  refine ⟨_, _, rfl, by omega, ?_⟩
                  by_cases hab : b - a = 0
                  · exact .inl hab
                  · right
                    rcases hrow with h0 | ⟨B, off, rfl, hF, c, el, fr, hc, hr⟩
                    · omega
                    · rw [if_neg (by omega)]
                      refine ⟨B, off + a * z, by simp only [Option.map_some, add_plain], hF, c, el, fr, hc, fun j hj => ?_⟩
                      obtain ⟨xs, g1, g2, g3⟩ := hr (a + j) (by omega)
                      refine ⟨xs, g1, g2, fun q hq => ?_⟩
                      rw [← g3 q hq]
                      congr 1
                      rw [Nat.add_mul]
                      omega))
              intro Q hq
              obtain ⟨v, x, h1, h2, h3⟩ := h Q hq
              refine ⟨v, x, h1, ?_, h3⟩
              simp only [Instr.sliceAt, Instr.slice, Sem.run_bind, run_underlying hu, Result.andThen_ok]
              simp only [Sem.run_bind] at h2
              simp only [tySize_run hz, Result.andThen_ok]
              exact h2
        · rename_i st bl es i k
          dsimp only
          cases hz : tySize P e with
          | none => exact Val.stuck
          | some z =>
            dsimp only
            cases he : Nat.beq z es
            · exact Val.stuck
            · obtain rfl := Nat.eq_of_beq_eq_true he
              simp only [cond_true]
              rw [R_osl] at ha
              obtain ⟨hbn, ad, cap, rfl, hk, hrow⟩ := ha
              have h := evBounds_val (P := P) (F := F) (w := w) (n := n) (m := m) (st := st) (k := k) (cap := cap) (lo := lo) (hi := hi) (vlo := vlo) (vhi := vhi) (isSlice := true)
                (T := fun st a b => .leaf (ospB lo st bl z i k a b))
                (f := fun r => pure (.slice (if r.2.2 = r.1 then ad else ad.map (·.add (r.1 * z))) (r.2.1 - r.1) (r.2.2 - r.1))) hk hlo hlo0 hhi hhi0
                (fun st a b h1 h2 hzz => Val.leaf (x := .slice (if cap = a then ad else ad.map (·.add (a * z))) (b - a) (cap - a)) (by simp only [Sem.run_pure]) (by
                  have ho : R F w (.osl st bl z (i + a) (b - a)) n m (.slice (if cap = a then ad else ad.map (·.add (a * z))) (b - a) (cap - a)) := by
                    rw [R_osl]
                    refine ⟨hbn, _, _, rfl, by omega, ?_⟩
                    by_cases hab : cap - a = 0
                    · exact .inl hab
                    · right
                      rcases hrow with h0 | ⟨B, c0, el0, fr0, rfl, hB, hc0, hz0⟩
                      · omega
                      · rw [if_neg (by omega)]
                        have e : i + a + (cap - a) = i + cap := by omega
                        exact ⟨B, c0, el0, fr0, by simp only [Option.map_some, add_plain, Nat.add_mul], hB, hc0, by rw [e]; exact hz0⟩
                  unfold ospB
                  cases lo with
                  | some _ => exact ho
                  | none =>
                    have := hzz rfl
                    subst this
                    dsimp only
                    unfold ospOf
                    cases hcc : (st && Nat.beq b k)
                    · rw [R_osl] at ho
                      obtain ⟨g1, g2, g3, g4, g5, g6⟩ := ho
                      simp only [cond_false]
                      rw [R_osp]
                      injection g4 with g41 g42 g43
                      refine ⟨hbn, g2, g3, by rw [g41, g42, g43]; rfl, h2, by rw [← g43]; omega, ?_⟩
                      simpa using g6
                    · simpa using ho))
              intro Q hq
              obtain ⟨v, x, h1, h2, h3⟩ := h Q hq
              refine ⟨v, x, h1, ?_, h3⟩
              simp only [Instr.sliceAt, Instr.slice, Sem.run_bind, run_underlying hu, Result.andThen_ok]
              simp only [Sem.run_bind] at h2
              simp only [tySize_run hz, Result.andThen_ok]
              exact h2
        · rename_i st bl es i k c0
          dsimp only
          cases hz : tySize P e with
          | none => exact Val.stuck
          | some z =>
            dsimp only
            cases he : Nat.beq z es
            · exact Val.stuck
            · obtain rfl := Nat.eq_of_beq_eq_true he
              simp only [cond_true]
              rw [R_osp] at ha
              obtain ⟨hbn, ad, cap, rfl, hk, hk2, hrow⟩ := ha
              have main : ∀ kk, kk ≤ cap → (Instr.sliceBounds true k cap vlo vhi none = Instr.sliceBounds true kk cap vlo vhi none) → Val P F w n m (evBounds st kk lo hi fun st a b => .leaf (.osl st bl z (i + a) (b - a))) (Instr.sliceAt t (.slice ad k cap) vlo vhi none) := by
                intro kk hkk hsame
                have h := evBounds_val (P := P) (F := F) (w := w) (n := n) (m := m) (st := st) (k := kk) (cap := cap) (lo := lo) (hi := hi) (vlo := vlo) (vhi := vhi) (isSlice := true)
                  (T := fun st a b => .leaf (.osl st bl z (i + a) (b - a)))
                  (f := fun r => pure (.slice (if r.2.2 = r.1 then ad else ad.map (·.add (r.1 * z))) (r.2.1 - r.1) (r.2.2 - r.1))) hkk hlo hlo0 hhi hhi0
                  (fun st a b h1 h2 _ => Val.leaf (x := .slice (if cap = a then ad else ad.map (·.add (a * z))) (b - a) (cap - a)) (by simp only [Sem.run_pure]) (by
                    rw [R_osl]
                    refine ⟨hbn, _, _, rfl, by omega, ?_⟩
                    by_cases hab : cap - a = 0
                    · exact .inl hab
                    · right
                      rcases hrow with h0 | ⟨B, c0, el0, fr0, rfl, hB, hc0, hz0⟩
                      · omega
                      · rw [if_neg (by omega)]
                        have e : i + a + (cap - a) = i + cap := by omega
                        exact ⟨B, c0, el0, fr0, by simp only [Option.map_some, add_plain, Nat.add_mul], hB, hc0, by rw [e]; exact hz0⟩))
                intro Q hq
                obtain ⟨v, x, h1, h2, h3⟩ := h Q hq
                refine ⟨v, x, h1, ?_, h3⟩
                simp only [Instr.sliceAt, Instr.slice, Sem.run_bind, run_underlying hu, Result.andThen_ok]
                rw [hsame]
                simp only [Sem.run_bind] at h2
                simp only [tySize_run hz, Result.andThen_ok]
                exact h2
              cases hi with
              | none => exact main k (by omega) rfl
              | some hi =>
                obtain ⟨xh, rfl, _⟩ := hhi hi rfl
                exact main c0 hk2 rfl
        · dsimp only
          cases hz : tySize P e with
          | none => exact Val.stuck
          | some z =>
            dsimp only
            simp only [R] at ha
            subst ha
            have h := evBounds_val (P := P) (F := F) (w := w) (n := n) (m := m) (st := true) (k := 0) (cap := 0) (lo := lo) (hi := hi) (vlo := vlo) (vhi := vhi) (isSlice := true)
              (T := fun _ _ _ => .leaf .nilsl)
              (f := fun r => pure (.slice (if r.2.2 = r.1 then none else (none : Option Addr).map (·.add (r.1 * z))) (r.2.1 - r.1) (r.2.2 - r.1))) (Nat.le_refl _) hlo hlo0 hhi hhi0
              (fun st a b h1 h2 _ => Val.leaf (x := .slice none 0 0) (by
                obtain rfl : a = 0 := by omega
                obtain rfl : b = 0 := by omega
                simp only [Sem.run_pure]; rfl) (by simp only [R]))
            intro Q hq
            obtain ⟨v, x, h1, h2, h3⟩ := h Q hq
            refine ⟨v, x, h1, ?_, h3⟩
            simp only [Instr.sliceAt, Instr.slice, Sem.run_bind, run_underlying hu, Result.andThen_ok]
            simp only [Sem.run_bind] at h2
            simp only [tySize_run hz, Result.andThen_ok]
            exact h2
        · rename_i nn es
          dsimp only
          cases hz : tySize P e with
          | none => exact Val.stuck
          | some z =>
            dsimp only
            simp only [R] at ha
            obtain ⟨ad, rfl, hnn⟩ := ha
            have h := evBounds_val (P := P) (F := F) (w := w) (n := n) (m := m) (st := true) (k := 0) (cap := 0) (lo := lo) (hi := hi) (vlo := vlo) (vhi := vhi) (isSlice := true)
              (T := fun _ _ _ => .leaf (.esl nn es))
              (f := fun r => pure (.slice (if r.2.2 = r.1 then ad else ad.map (·.add (r.1 * z))) (r.2.1 - r.1) (r.2.2 - r.1))) (Nat.le_refl _) hlo hlo0 hhi hhi0
              (fun st a b h1 h2 _ => Val.leaf (x := .slice ad 0 0) (by
                obtain rfl : a = 0 := by omega
                obtain rfl : b = 0 := by omega
                simp only [Sem.run_pure]; rfl) (by simp only [R]; exact ⟨ad, rfl, hnn⟩))
            intro Q hq
            obtain ⟨v, x, h1, h2, h3⟩ := h Q hq
            refine ⟨v, x, h1, ?_, h3⟩
            simp only [Instr.sliceAt, Instr.slice, Sem.run_bind, run_underlying hu, Result.andThen_ok]
            simp only [Sem.run_bind] at h2
            simp only [tySize_run hz, Result.andThen_ok]
            exact h2
      · rename_i len e
        dsimp only
        cases a <;> try exact Val.stuck
        · rename_i st bl es i o
          dsimp only
          cases hz : tySize P e with
          | none => exact Val.stuck
          | some z =>
            dsimp only
            cases he : Nat.beq (i * es + o) ((i * es + o) / z * z)
            · exact Val.stuck
            cases hcs : hasCells (hb0 bl) (i * es + o + len * z)
            · exact Val.stuck
            · have he := Nat.eq_of_beq_eq_true he
              simp only [Bool.and_self, cond_true]
              rw [R_ptr] at ha
              obtain ⟨hbn, B, rfl, hB⟩ := ha
              obtain ⟨hc0, el0, hcell0, hsz0⟩ := hasCells_run hr hbn hB hcs
              generalize (i * es + o) / z = q0 at he ⊢
              rw [he]
              have h := evBounds_val (P := P) (F := F) (w := w) (n := n) (m := m) (st := st) (k := len) (cap := len) (lo := lo) (hi := hi) (vlo := vlo) (vhi := vhi) (isSlice := false)
                (T := fun st a b => .leaf (.osl st bl z (q0 + a) (b - a)))
                (f := fun r => pure (.slice (some (if r.2.2 = r.1 then (⟨B, q0 * z, none⟩ : Addr) else Addr.add ⟨B, q0 * z, none⟩ (r.1 * z))) (r.2.1 - r.1) (r.2.2 - r.1))) (Nat.le_refl _) hlo hlo0 hhi hhi0
                (fun st a b h1 h2 hz0 => Val.leaf (x := .slice (some (if len = a then (⟨B, q0 * z, none⟩ : Addr) else Addr.add ⟨B, q0 * z, none⟩ (a * z))) (b - a) (len - a)) (by simp only [Sem.run_pure]) (by
                  rw [R_osl]
                  refine ⟨hbn, _, _, rfl, by omega, ?_⟩
                  by_cases hab : len - a = 0
                  · exact .inl hab
                  · right
                    rw [if_neg (by omega)]
                    refine ⟨B, hc0, el0, (0, 0), by rw [add_plain, Nat.add_mul], hB, hcell0, ?_⟩
                    have e : q0 + a + (len - a) = q0 + len := by omega
                    rw [e, Nat.add_mul, ← he]
                    exact hsz0))
              intro Q hq
              obtain ⟨v, x, h1, h2, h3⟩ := h Q hq
              refine ⟨v, x, h1, ?_, h3⟩
              simp only [Instr.sliceAt, Instr.sureAddr, Sem.run_bind, run_underlying hu, Result.andThen_ok, pure_bind, Sem.run_pure]
              simp only [Sem.run_bind] at h2
              simp only [tySize_run hz, Result.andThen_ok]
              exact h2
        · rename_i st es n' get i o
          dsimp only
          cases hz : tySize P e with
          | none => exact Val.stuck
          | some z =>
            dsimp only
            cases hle : Nat.ble (o + len * z) (get i).len
            · exact Val.stuck
            · simp only [cond_true]
              obtain ⟨B, off, rfl, hF, c0, el0, fr0, hcell, hrow⟩ := view_rows ha (Nat.le_of_ble_eq_true hle)
              have h := evBounds_val (P := P) (F := F) (w := w) (n := n) (m := m) (st := st) (k := len) (cap := len) (lo := lo) (hi := hi) (vlo := vlo) (vhi := vhi) (isSlice := false)
                (T := fun st a b => .leaf (.rsl st z (b - a) fun q => elemAt (get i) o z (a + q)))
                (f := fun r => pure (.slice (some (if r.2.2 = r.1 then (⟨B, off, none⟩ : Addr) else Addr.add ⟨B, off, none⟩ (r.1 * z))) (r.2.1 - r.1) (r.2.2 - r.1))) (Nat.le_refl _) hlo hlo0 hhi hhi0
                (fun st a b h1 h2 hz0 => Val.leaf (x := .slice (some (if len = a then (⟨B, off, none⟩ : Addr) else Addr.add ⟨B, off, none⟩ (a * z))) (b - a) (len - a)) (by simp only [Sem.run_pure]) (by
                  rw [R_rsl]
                  refine ⟨_, _, rfl, by omega, ?_⟩
                  by_cases hab : b - a = 0
                  · exact .inl hab
                  · right
                    rw [if_neg (by omega)]
                    refine ⟨B, off + a * z, by rw [add_plain], hF, c0, el0, fr0, hcell, fun q hq => ?_⟩
                    obtain ⟨xs, g1, g2, g3⟩ := hrow (a + q) (by omega)
                    refine ⟨xs, g1, g2, fun p hp => ?_⟩
                    rw [← g3 p hp, Nat.add_mul]
                    congr 1
                    omega))
              intro Q hq
              obtain ⟨v, x, h1, h2, h3⟩ := h Q hq
              refine ⟨v, x, h1, ?_, h3⟩
              simp only [Instr.sliceAt, Instr.sureAddr, Sem.run_bind, run_underlying hu, Result.andThen_ok, pure_bind, Sem.run_pure]
              simp only [Sem.run_bind] at h2
              simp only [tySize_run hz, Result.andThen_ok]
              exact h2

theorem evCap_val {t : TypeId} {a : V} {x : Value} {ts : Array TypeId} {ty : TypeId} {args : Array Value} (ht : ts[0]? = some t) (hargs : args[0]? = some x) (h : R F w a n m x) :
    Val P F w n m (evCap P t a) (Builtin.cap_ ts ty args) := by
  unfold evCap
  cases hu : P.underlying t with
  | none => exact Val.stuck
  | some d =>
    cases d <;> try exact Val.stuck
    dsimp only
    have h := R_plain1 h
    generalize a.plain1 = a at h ⊢
    cases a <;> try exact Val.stuck
    · simp only [R] at h
      subst h
      refine Val.leaf (x := .int .i64 0) ?_ (by rw [R_int])
      simp only [Builtin.cap_, ht, hargs, Sem.run_bind, run_underlying hu, Result.andThen_ok, Sem.run_pure, goInt]
      rfl
    · simp only [R] at h
      obtain ⟨ad, rfl, _⟩ := h
      refine Val.leaf (x := .int .i64 0) ?_ (by rw [R_int])
      simp only [Builtin.cap_, ht, hargs, Sem.run_bind, run_underlying hu, Result.andThen_ok, Sem.run_pure, goInt]
      rfl
theorem evLen_val {t : TypeId} {a : V} {x : Value} {ts : Array TypeId} {ty : TypeId} {args : Array Value} (ht : ts[0]? = some t) (hargs : args[0]? = some x) (h : R F w a n m x) :
    Val P F w n m (evLen P t a) (Builtin.len_ ts ty args) := by
  unfold evLen
  cases hu : P.underlying t with
  | none => exact Val.stuck
  | some d =>
    cases d <;> try exact Val.stuck
    · dsimp only
      cases a <;> try exact Val.stuck
      rename_i st l
      rw [R_str] at h; subst h
      refine Val.leaf (x := .int .i64 l.length) ?_ (by rw [mkInt_eq, R_int])
      simp only [Builtin.len_, ht, hargs, Sem.run_bind, run_underlying hu, Result.andThen_ok, Sem.run_pure, goInt]
      simp [ByteArray.size]
    · dsimp only
      have h := R_plain1 h
      generalize a.plain1 = a at h ⊢
      cases a <;> try exact Val.stuck
      · rename_i st es k get
        rw [R_rsl] at h
        obtain ⟨_, _, rfl, _⟩ := h
        refine Val.leaf (x := .int .i64 k) ?_ (by rw [mkInt_eq, R_int])
        simp only [Builtin.len_, ht, hargs, Sem.run_bind, run_underlying hu, Result.andThen_ok, Sem.run_pure, goInt]
      · rename_i st b es i k
        rw [R_osl] at h
        obtain ⟨_, _, _, rfl, _⟩ := h
        refine Val.leaf (x := .int .i64 k) ?_ (by rw [mkInt_eq, R_int])
        simp only [Builtin.len_, ht, hargs, Sem.run_bind, run_underlying hu, Result.andThen_ok, Sem.run_pure, goInt]
      · simp only [R] at h
        subst h
        refine Val.leaf (x := .int .i64 0) ?_ (by rw [R_int])
        simp only [Builtin.len_, ht, hargs, Sem.run_bind, run_underlying hu, Result.andThen_ok, Sem.run_pure, goInt]
        rfl
      · simp only [R] at h
        obtain ⟨ad, rfl, _⟩ := h
        refine Val.leaf (x := .int .i64 0) ?_ (by rw [R_int])
        simp only [Builtin.len_, ht, hargs, Sem.run_bind, run_underlying hu, Result.andThen_ok, Sem.run_pure, goInt]
        rfl
    · rename_i k e
      dsimp only
      refine Val.leaf (x := .int .i64 k) ?_ (by rw [mkInt_eq, R_int])
      simp only [Builtin.len_, ht, hargs, Sem.run_bind, run_underlying hu, Result.andThen_ok, Sem.run_pure, goInt]

theorem ev2_val {less : Bool} {a b : V} {x y : Value} (hx : R F w a n m x) (hy : R F w b n m y) :
    Val P F w n m (ev2 less a b) (match less with | true => Builtin.min2 x y | false => Builtin.max2 x y) := by
  cases a <;> try exact fun _ hq => hq.elim
  cases b <;> try exact fun _ hq => hq.elim
  rw [R_int] at hx hy
  subst hx; subst hy
  cases less
  · exact Val.leaf rfl (by rw [mkInt_eq, R_int])
  · exact Val.leaf rfl (by rw [mkInt_eq, R_int])
theorem evMinMax_val {less : Bool} : ∀ (r : V) (ys : List Value), RL F w r n m ys → ∀ (a : V) (x : Value), R F w a n m x →
    Val P F w n m (evMinMax less a r) (ys.foldlM (match less with | true => Builtin.min2 | false => Builtin.max2) x) := by
  intro r
  induction r with
  | nil => intro ys h a x hx; simp only [RL] at h; subst h; exact Val.leaf (by simp only [List.foldlM_nil, Sem.run_pure]) hx
  | cons b t _ ih =>
    intro ys h a x hx
    simp only [RL] at h
    obtain ⟨y, r, rfl, h1, h2⟩ := h
    intro Q hq
    simp only [evMinMax] at hq
    rw [Tree.holds_bind] at hq
    obtain ⟨v, z, g1, g2, g3⟩ := ev2_val (P := P) (less := less) hx h1 _ hq
    obtain ⟨u, q, k1, k2, k3⟩ := ih r h2 v z g3 Q g1
    refine ⟨u, q, k1, ?_, k3⟩
    rw [List.foldlM_cons]
    cases less <;> simp only [Sem.run_bind, g2, Result.andThen_ok, k2]
  | _ => intro ys h; simp only [RL] at h
end
end Go.Fw
