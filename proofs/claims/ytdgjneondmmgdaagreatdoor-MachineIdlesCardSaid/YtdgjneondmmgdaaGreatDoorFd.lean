/- Rows laid over others: appended where there is room, brought to naught, copied; new rows of zeros. Stores; one operation; a region's operations in their order. A region that draws its order: its operations in the order of the text serve for every order. A region that draws its order: the proof that every order serves. -/
import Derived.Test.YtdgjneondmmgdaaGreatDoorFc
import Derived.Laws.MakeOwn
import Derived.RangeFuncRecord
set_option linter.unusedSimpArgs false
set_option linter.unusedVariables false
namespace Go.Fw
section
variable {P : Program} {base : Nat} {m : Nat → Option Nat} {F : Nat → Prop} {n : Nat} {w : World} {g : Nat → Blk} {h0 : PT Blk}

/-- Rows laid over those of a block of ours. -/
theorem layRows_run {h : Nat → Blk} (hr : HR base m F h n w) {b B z i mm : Nat} (hbn : b < n) (hB : m b = some B) {st : Bool} {new : Nat → V} {L : List Value} (hz : 0 < z) (hL : Rows F w n m z mm new L) {Q : Blk → Prop}
    (hq : (layRows (h b) z i st mm new).holds P Q) : ∃ blk w', Q blk ∧ (storeCells ⟨B, i * z, none⟩ L).run P w = .ok () w' ∧ (∀ h' : Nat → Blk, (∀ c, h' c = if c = b then blk else h c) → HR base m F h' n w') ∧ Ext base m F n w m F n w' := by
  have hblk := hr.blk b hbn
  unfold layRows at hq
  cases hh : h b <;> rw [hh] at hq hblk <;> try (exact hq.elim)
  · rename_i cs
    dsimp only at hq
    obtain ⟨B', xs, el, ys, zs, hm, hcell, hsp, hrow⟩ := hblk
    obtain rfl : B = B' := by rw [hB] at hm; injection hm
    cases hst : st
    · rw [hst] at hq; exact hq.elim
    cases hle : Nat.ble ((i + mm) * z) cs.len
    · rw [hst, hle] at hq; exact hq.elim
    cases hall : allN mm (fun j => (new j).allCell && Nat.beq (new j).len z)
    · rw [hst, hle, hall] at hq; exact hq.elim
    rw [hst, hle, hall] at hq
    have hle' := Nat.le_of_ble_eq_true hle
    rw [RL_len _ _ hrow] at hle'
    have hone : ∀ u ∈ L, u.oneCell' = true := hL.one hz fun j hj => by
      have := allN_at hall j hj
      simp only [Bool.and_eq_true] at this
      exact this.1
    have hlen : L.length = mm * z := hL.1
    have hadd : (i + mm) * z = i * z + mm * z := Nat.add_mul _ _ _
    have hpl := prefix_len hsp
    have hrun := run_storeCells_at P B (i * z) el L 0 xs w hcell (by omega) hone
    simp only [Nat.add_zero] at hrun
    rw [splice_eq _ _ _ (by simp; omega)] at hrun
    have hcat := Rows.cat mm L hL
    have ht := fun h' hh' => hr.turn (h' := h') hm hcell (new := (spliceL xs.toList (i * z) L).toArray) (by simp [spliceL_length]) (by rw [hh]; simp) (blk := .var (cs.splice (i * z) (catRows new mm))) hh' (fun hrl =>
      ⟨B, _, el, spliceL ys (i * z) L, zs, rfl, setRow_heap w B _ _ el _ hcell, by rw [List.toList_toArray, hsp, spliceL_app _ _ _ _ (by omega)], RL_splice cs _ (hrl _ _ _ _ hrow) (i * z) (catRows new mm) _ (hrl _ _ _ _ hcat)⟩)
    exact ⟨_, _, hq, hrun, fun h' hh' => (ht h' hh').1, (ht (fun c => if c = b then _ else h c) (fun _ => rfl)).2⟩
  · rename_i es k get
    dsimp only at hq
    cases he : Nat.beq z es
    · rw [he] at hq; exact hq.elim
    rw [he] at hq
    obtain rfl := Nat.eq_of_beq_eq_true he
    obtain ⟨⟨hik, hcl⟩, hq⟩ := hq
    have hone : ∀ u ∈ L, u.oneCell' = true := hL.one hz fun j hj => (hcl j hj).1
    have hL0 := hL.down fun j hj => (hcl j hj).2
    have hlen : L.length = mm * z := hL.1
    have hadd : (i + mm) * z = i * z + mm * z := Nat.add_mul _ _ _
    have hmulk : (i + mm) * z ≤ k * z := Nat.mul_le_mul_right z hik
    rcases hblk with ⟨hk0, hB0⟩ | ⟨B', c, el, hm, hcell, hsz, hrow⟩
    · rw [hB] at hB0; cases hB0
    obtain rfl : B = B' := by rw [hB] at hm; injection hm
    have hrun := run_storeCells_at P B (i * z) el L 0 c w hcell (by omega) hone
    simp only [Nat.add_zero] at hrun
    rw [splice_eq _ _ _ (by simp; omega)] at hrun
    have ht := fun h' hh' => hr.turn (h' := h') hm hcell (new := (spliceL c.toList (i * z) L).toArray) (by simp [spliceL_length]) (by rw [hh]; simp) (blk := .arr z k fun j => bif Nat.ble i j && Nat.blt j (i + mm) then new (j - i) else get j) hh' (fun hrl => by
      refine .inr ⟨B, _, el, rfl, setRow_heap w B _ _ el _ hcell, by simp [spliceL_length, hsz], fun j hj => ?_⟩
      have hmulj : (j + 1) * z ≤ k * z := Nat.mul_le_mul_right z hj
      rw [Nat.add_mul, Nat.one_mul] at hmulj
      cases hin : Nat.ble i j && Nat.blt j (i + mm)
      · obtain ⟨xs, h1, h2, h3⟩ := hrow j hj
        refine ⟨xs, by dsimp only; rw [hin]; exact hrl _ _ _ _ h1, h2, fun q hq' => ?_⟩
        simp only [List.getElem?_toArray]
        rw [spliceL_get _ _ _ _ (by simp; omega), if_neg, ← h3 q hq']
        · simp
        · intro hc
          have hj2 : i ≤ j ∧ j < i + mm := by
            constructor
            · rcases Nat.lt_or_ge j i with h | h
              · have : (j + 1) * z ≤ i * z := Nat.mul_le_mul_right z h
                rw [Nat.add_mul, Nat.one_mul] at this
                omega
              · exact h
            · rcases Nat.lt_or_ge j (i + mm) with h | h
              · exact h
              · have : (i + mm) * z ≤ j * z := Nat.mul_le_mul_right z h
                omega
          have : (Nat.ble i j && Nat.blt j (i + mm)) = true := by
            simp only [Bool.and_eq_true, Nat.blt_eq, Nat.ble_eq]; exact hj2
          rw [hin] at this; cases this
      · have hin2 := hin
        simp only [Bool.and_eq_true, Nat.blt_eq, Nat.ble_eq] at hin2
        obtain ⟨xs, g1, g2, g3⟩ := hL0.2 (j - i) (by omega)
        refine ⟨xs, by dsimp only; rw [hin]; exact hrl _ _ _ _ g1, g2, fun q hq' => ?_⟩
        simp only [List.getElem?_toArray]
        have hjm : j * z = i * z + (j - i) * z := by rw [← Nat.add_mul]; congr 1; omega
        have hmj : (j - i + 1) * z ≤ mm * z := Nat.mul_le_mul_right z (by omega)
        rw [Nat.add_mul, Nat.one_mul] at hmj
        rw [spliceL_get _ _ _ _ (by simp; omega), if_pos (by omega), ← g3 q hq']
        congr 1
        omega)
    exact ⟨_, _, hq, hrun, fun h' hh' => (ht h' hh').1, (ht (fun c => if c = b then _ else h c) (fun _ => rfl)).2⟩
theorem splice_nil : ∀ (cs : V) (o : Nat), cs.splice o .nil = cs := by
  intro cs
  induction cs with
  | cons h t _ ih =>
    intro o
    simp only [V.splice, ih]
    cases Nat.beq o 0 <;> rfl
  | _ => intro o; rfl
theorem layRows_zero {blk : Blk} {z i : Nat} {st : Bool} {new : Nat → V} {Q : Blk → Prop} (hq : (layRows blk z i st 0 new).holds P Q) : Q blk := by
  unfold layRows at hq
  cases blk <;> try (exact hq.elim)
  · rename_i cs
    dsimp only at hq
    cases hc : (st && (Nat.ble ((i + 0) * z) cs.len && allN 0 (fun j => (new j).allCell && Nat.beq (new j).len z)))
    · rw [hc] at hq; exact hq.elim
    · rw [hc] at hq
      have h : Q (.var (cs.splice (i * z) .nil)) := hq
      rw [splice_nil] at h
      exact h
  · rename_i es k get
    dsimp only at hq
    cases he : Nat.beq z es
    · rw [he] at hq; exact hq.elim
    rw [he] at hq
    have e : (fun j => bif Nat.ble i j && Nat.blt j (i + 0) then new (j - i) else get j) = get := by
      funext j
      have : (Nat.ble i j && Nat.blt j (i + 0)) = false := by
        cases h : Nat.ble i j && Nat.blt j (i + 0) with
        | false => rfl
        | true => simp only [Bool.and_eq_true, Nat.blt_eq, Nat.ble_eq] at h; omega
      rw [this]; rfl
    have h := hq.2
    rw [e] at h
    exact h
theorem leNeed_holds {α : Type} {st : Bool} {a b : Nat} {T : Tree α} {Q : α → Prop} (h : (leNeed st a b T).holds P Q) : a ≤ b ∧ T.holds P Q := by
  cases st with
  | false => exact h
  | true =>
    simp only [leNeed] at h
    cases hb : Nat.ble a b
    · rw [hb] at h; exact h.elim
    · rw [hb] at h; exact ⟨Nat.le_of_ble_eq_true hb, h⟩
theorem tySize_info {e : TypeId} {z : Nat} (hz : tySize P e = some z) : ∃ i, P.info? e = some i ∧ i.size = z := by
  unfold tySize at hz
  cases hi : P.info? e with
  | none => rw [hi] at hz; cases hz
  | some i => rw [hi] at hz; injection hz with hz; exact ⟨i, rfl, hz⟩
theorem set_same (b : Nat) : look g (h0.set b (look g h0 b)) = look g h0 := by
  funext c
  rw [look_set]
  by_cases e : c = b
  · rw [if_pos e, e]
  · rw [if_neg e]
theorem evAppendP_run (hr : HR base m F (look g h0) n w) {t ty e : TypeId} (ht : P.underlying t = some (.slice e)) {st : Bool} {b es i k c : Nat} {x : V} {S X : Value} (hS : R F w (.osp st b es i k c) n m S) (hX : R F w x n m X) {Q : V × PT Blk × Nat → Prop}
    (hq : (evAppendP P g h0 n e (.osp st b es i k c) x).holds P Q) :
    ∃ v h' n' m' w' Y, Q (v, h', n') ∧ (Builtin.append_ #[t, t] ty #[S, X]).run P w = .ok Y w' ∧ Ext base m F n w m' F n' w' ∧ HR base m' F (look g h') n' w' ∧ R F w' v n' m' Y := by
  unfold evAppendP at hq
  cases hz : tySize P e with
  | none => rw [hz] at hq; exact hq.elim
  | some z =>
    rw [hz] at hq
    dsimp only at hq
    cases hz0 : Nat.blt 0 z
    · rw [hz0] at hq; exact hq.elim
    rw [hz0] at hq
    simp only [cond_true] at hq
    cases he : Nat.beq z es
    · rw [he] at hq; exact hq.elim
    rw [he] at hq
    obtain rfl := Nat.eq_of_beq_eq_true he
    simp only [cond_true] at hq
    have hzpos : 0 < z := by simpa [Nat.blt_eq] using hz0
    cases hrows : rowsOf (look g h0) z x with
    | none => rw [hrows] at hq; exact hq.elim
    | some r =>
      obtain ⟨st', mm, new⟩ := r
      rw [hrows] at hq
      obtain ⟨hle, hq⟩ := leNeed_holds hq
      rw [Tree.holds_bind] at hq
      obtain ⟨i0, hi, hsz⟩ := tySize_info hz
      have hS0 := hS
      rw [R_osp] at hS
      obtain ⟨hbn, a, cap, rfl, hk, hk2, hcap⟩ := hS
      obtain ⟨a', c', rfl, hnew⟩ := rowsOf_run hr hX hrows
      rcases Nat.eq_zero_or_pos mm with hm0 | hm0
      · subst hm0
        have h1 := layRows_zero hq
        refine ⟨_, _, n, m, w, _, h1, run_append_zero (P := P) (w := w) t ty e i0 ht hi a a' k cap c' (by omega), Ext.refl _ _ _ _ _, by rw [set_same]; exact hr, ?_⟩
        rw [R_osp]
        exact ⟨hbn, a, cap, rfl, by omega, hk2, hcap⟩
      · rcases hcap with h0 | ⟨B, c0, el, fr, rfl, hB, hc0, hsz0⟩
        · omega
        rcases hnew with h0 | ⟨ad, L, rfl, hL, hLc⟩
        · omega
        have hkm : (look g h0 b) ≠ .any → True := fun _ => trivial
        obtain ⟨blk, w', h1, h2, h3, h4⟩ := layRows_run hr hbn hB hzpos hL hq
        have hfc := run_firstCells_some (P := P) w z mm ad mm c' L hL.1 hLc
        refine ⟨_, _, n, m, w', .slice (some ⟨B, i * z, none⟩) (k + mm) cap, h1, ?_, h4, h3 _ (fun c => look_set _ _ _ _ _), ?_⟩
        · have hadd : (⟨B, i * z, none⟩ : Addr).add (k * z) = ⟨B, (i + k) * z, none⟩ := by rw [add_plain, Nat.add_mul]
          have hroom : k + mm ≤ cap := by omega
          simp [Builtin.append_, run_underlying ht, sizeOf, typeInfo, hi, hsz, Builtin.lenOf, hroom, hfc, hadd, h2]
        · have h5 := h4.val hS0
          rw [R_osp] at h5 ⊢
          obtain ⟨g1, g2, g3, g4, g5, g6, g7⟩ := h5
          injection g4 with g41 g42 g43
          subst g41; subst g43
          exact ⟨g1, _, _, rfl, by omega, g6, g7⟩
/-! ### Zeros -/
theorem zeroCells_rows {z k : Nat} {cs : V} {zs : Array Value} (_ : 0 < z) (hs : zs.size = z) (hrl : RL F w cs n m zs.toList) : Rows F w n m z k (fun _ => cs) (Builtin.zeroCells zs k).toList := by
  have hlen : (Builtin.zeroCells zs k).toList.length = k * z := by simp [Builtin.zeroCells, hs]
  refine ⟨hlen, fun j hj => ⟨zs.toList, hrl, by simp [hs], fun q hq => ?_⟩⟩
  have hmul : (j + 1) * z ≤ k * z := Nat.mul_le_mul_right z hj
  rw [Nat.add_mul, Nat.one_mul] at hmul
  have hlt : j * z + q < k * z := by omega
  have hmod : (j * z + q) % z = q := by rw [Nat.mul_comm, Nat.mul_add_mod, Nat.mod_eq_of_lt hq]
  simp only [Builtin.zeroCells, Array.getElem?_toList, hs]
  rw [Array.getElem?_map, Array.getElem?_range, if_pos (by rw [hs] at *; exact hlt)]
  simp only [Option.map_some, hmod]
  rw [getElem!_pos zs q (by omega), Array.getElem?_eq_getElem (by omega)]
theorem evClear_run (hr : HR base m F (look g h0) n w) {ts : Array TypeId} {ty : TypeId} {args : V} {xs : Array Value} (hargs : RL F w args n m xs.toList) {Q : V × PT Blk × Nat → Prop}
    (hq : (evClear P g h0 n ts.toList args).holds P Q) :
    ∃ v h' n' m' w' X, Q (v, h', n') ∧ (Builtin.clear_ ts ty xs).run P w = .ok X w' ∧ Ext base m F n w m' F n' w' ∧ HR base m' F (look g h') n' w' ∧ R F w' v n' m' X := by
  unfold evClear at hq
  split at hq
  case h_2 => exact hq.elim
  rename_i t tr hts
  split at hq
  case h_2 => exact hq.elim
  rename_i e ht
  split at hq
  case h_2 => exact hq.elim
  rename_i z zero hz hzero
  cases hzl : Nat.beq zero.len z
  · rw [hzl] at hq; exact hq.elim
  cases hz0 : Nat.blt 0 z
  · rw [hzl, hz0] at hq; exact hq.elim
  rw [hzl, hz0] at hq
  simp only [Bool.and_self, cond_true] at hq
  split at hq
  case h_2 => exact hq.elim
  rename_i s rest
  simp only [RL] at hargs
  obtain ⟨S, r, e1, hS, hrest⟩ := hargs
  have hts0 : ts[0]? = some t := by rw [← Array.getElem?_toList, hts]; rfl
  have hxs0 : xs[0]? = some S := by rw [← Array.getElem?_toList, e1]; rfl
  have hzpos : 0 < z := by simpa [Nat.blt_eq] using hz0
  have unit : ∀ {w' : World} {m' : Nat → Option Nat} {n' : Nat}, R F w' (.tup .nil) n' m' (.tuple #[]) := by
    intro w' m' n'
    simp only [R]
    exact ⟨#[], rfl, by simp only [RL]⟩
  have hS' := R_plain1 hS
  cases hp : s.plain1 <;> rw [hp] at hq hS' <;> try exact hq.elim
  · rename_i st b es i k
    dsimp only at hq
    cases he : Nat.beq z es
    · rw [he] at hq; exact hq.elim
    rw [he] at hq
    obtain rfl := Nat.eq_of_beq_eq_true he
    simp only [cond_true] at hq
    rw [Tree.holds_bind] at hq
    rw [R_osl] at hS'
    obtain ⟨hbn, a, cap, rfl, hk, hcap⟩ := hS'
    rcases Nat.eq_zero_or_pos k with hk0 | hk0
    · subst hk0
      have h1 := layRows_zero hq
      refine ⟨_, _, n, m, w, .tuple #[], h1, ?_, Ext.refl _ _ _ _ _, by rw [set_same]; exact hr, unit⟩
      cases a <;> simp [Builtin.clear_, hts0, hxs0, run_underlying ht]
    · rcases hcap with h0 | ⟨B, c0, el, fr, rfl, hB, hc0, hsz0⟩
      · omega
      obtain ⟨zv, hzv⟩ := tyZero_run (F := F) (w := w) (n := n) (m := m) hzero
      have hzs : zv.cells.size = z := by
        have h1 := Nat.eq_of_beq_eq_true hzl
        rw [RL_len _ _ hzv.2] at h1
        simpa using h1
      have hL := zeroCells_rows (k := k) hzpos hzs hzv.2
      obtain ⟨blk, w', h1, h2, h3, h4⟩ := layRows_run hr hbn hB hzpos hL hq
      refine ⟨_, _, n, m, w', .tuple #[], h1, ?_, h4, h3 _ (fun c => look_set _ _ _ _ _), unit⟩
      obtain ⟨k', rfl⟩ : ∃ k', k = k' + 1 := ⟨k - 1, by omega⟩
      simp [Builtin.clear_, hts0, hxs0, run_underlying ht, hzv.1, h2]
  · simp only [R] at hS'
    subst hS'
    refine ⟨_, _, n, m, w, .tuple #[], hq, ?_, Ext.refl _ _ _ _ _, hr, unit⟩
    simp [Builtin.clear_, hts0, hxs0, run_underlying ht]
theorem evCopy_run (hr : HR base m F (look g h0) n w) {ts : Array TypeId} {ty : TypeId} {args : V} {xs : Array Value} (hargs : RL F w args n m xs.toList) {Q : V × PT Blk × Nat → Prop}
    (hq : (evCopy P g h0 n ts.toList args).holds P Q) :
    ∃ v h' n' m' w' X, Q (v, h', n') ∧ (Builtin.copy_ ts ty xs).run P w = .ok X w' ∧ Ext base m F n w m' F n' w' ∧ HR base m' F (look g h') n' w' ∧ R F w' v n' m' X := by
  unfold evCopy at hq
  split at hq
  case h_2 => exact hq.elim
  rename_i t tr hts
  split at hq
  case h_2 => exact hq.elim
  rename_i e ht
  split at hq
  case h_2 => exact hq.elim
  rename_i z hz
  cases hz0 : Nat.blt 0 z
  · rw [hz0] at hq; exact hq.elim
  rw [hz0] at hq
  simp only [cond_true] at hq
  split at hq
  case h_2 => exact hq.elim
  rename_i d x rest
  simp only [RL] at hargs
  obtain ⟨S, r, e1, hS, X, r2, e2, hX, hrest⟩ := hargs
  have hts0 : ts[0]? = some t := by rw [← Array.getElem?_toList, hts]; rfl
  have hxs0 : xs[0]? = some S := by rw [← Array.getElem?_toList, e1]; rfl
  have hxs1 : xs[1]? = some X := by rw [← Array.getElem?_toList, e1, e2]; rfl
  have hzpos : 0 < z := by simpa [Nat.blt_eq] using hz0
  obtain ⟨i0, hi, hsz⟩ := tySize_info hz
  have hS' := R_plain1 hS
  have none_ : ∀ (a : Option Addr), S = .slice a 0 0 → (match rowsOf (look g h0) z x with | some _ => Tree.leaf (V.int true .i64 0, h0, n) | none => .stuck).holds P Q →
      ∃ v h' n' m' w' X, Q (v, h', n') ∧ (Builtin.copy_ ts ty xs).run P w = .ok X w' ∧ Ext base m F n w m' F n' w' ∧ HR base m' F (look g h') n' w' ∧ R F w' v n' m' X := by
    intro a hSa hq
    subst hSa
    cases hrows : rowsOf (look g h0) z x with
    | none => rw [hrows] at hq; exact hq.elim
    | some r =>
      obtain ⟨st', mm, new⟩ := r
      rw [hrows] at hq
      obtain ⟨a', c', rfl, hnew⟩ := rowsOf_run hr hX hrows
      refine ⟨_, _, n, m, w, .int .i64 0, hq, ?_, Ext.refl _ _ _ _ _, hr, by rw [R_int]⟩
      cases a <;> cases a' <;> simp [Builtin.copy_, hts0, hxs0, hxs1, run_underlying ht, Builtin.lenOf, sizeOf, typeInfo, hi, Builtin.firstCells, loadCells, loadCellsFrom, storeCells, goInt]
  cases hp : d.plain1 <;> rw [hp] at hq hS' <;> try exact hq.elim
  case nilsl => simp only [R] at hS'; exact none_ _ hS' hq
  case esl => simp only [R] at hS'; obtain ⟨a, hS', _⟩ := hS'; exact none_ a hS' hq
  rename_i st b es i k
  dsimp only at hq
  cases he : Nat.beq z es
  · rw [he] at hq; exact hq.elim
  rw [he] at hq
  obtain rfl := Nat.eq_of_beq_eq_true he
  simp only [cond_true] at hq
  cases hrows : rowsOf (look g h0) z x with
  | none => rw [hrows] at hq; exact hq.elim
  | some r =>
    obtain ⟨st', mm, new⟩ := r
    rw [hrows] at hq
    obtain ⟨hle, hq⟩ := leNeed_holds hq
    rw [Tree.holds_bind] at hq
    rw [R_osl] at hS'
    obtain ⟨hbn, a, cap, rfl, hk, hcap⟩ := hS'
    obtain ⟨a', c', rfl, hnew⟩ := rowsOf_run hr hX hrows
    have hmin : Nat.min mm k = mm := Nat.min_eq_left hle
    rcases Nat.eq_zero_or_pos mm with hm0 | hm0
    · subst hm0
      have h1 := layRows_zero hq
      refine ⟨_, _, n, m, w, .int .i64 0, h1, ?_, Ext.refl _ _ _ _ _, by rw [set_same]; exact hr, by rw [mkInt_eq, R_int]; rfl⟩
      cases a <;> cases a' <;> simp [Builtin.copy_, hts0, hxs0, hxs1, run_underlying ht, Builtin.lenOf, sizeOf, typeInfo, hi, Builtin.firstCells, loadCells, loadCellsFrom, storeCells, goInt]
    · rcases hcap with h0 | ⟨B, c0, el, fr, rfl, hB, hc0, hsz0⟩
      · omega
      rcases hnew with h0 | ⟨ad, L, rfl, hL, hLc⟩
      · omega
      obtain ⟨blk, w', h1, h2, h3, h4⟩ := layRows_run hr hbn hB hzpos hL hq
      have hfc := run_firstCells_some (P := P) w z mm ad mm c' L hL.1 hLc
      refine ⟨_, _, n, m, w', .int .i64 mm, h1, ?_, h4, h3 _ (fun c => look_set _ _ _ _ _), by rw [mkInt_eq, R_int]⟩
      simp [Builtin.copy_, hts0, hxs0, hxs1, run_underlying ht, Builtin.lenOf, sizeOf, typeInfo, hi, hsz, hmin, hfc, h2, goInt]
theorem newRows_or (n z k : Nat) : newRows n z k = .osl true n z 0 k ∨ k = 0 ∧ newRows n z k = .esl true z := by
  unfold newRows
  cases h : Nat.beq k 0
  · exact .inl rfl
  · exact .inr ⟨Nat.eq_of_beq_eq_true h, rfl⟩
theorem fits_of {k b : Nat} (h : fitsB k b = true) : fits k b := by
  unfold fitsB at h
  simp only [Bool.and_eq_true, Nat.ble_eq] at h
  exact h
/-- The zero value of rows, as the model has it. -/
theorem zero_info {z : Nat} {e : TypeId} {zero : V} (hz : tySize P e = some z) (hzero : tyZero P e = some zero) (hzl : Nat.beq zero.len z = true) :
    ∃ i0 zv, P.info? e = some i0 ∧ i0.size = z ∧ i0.zero = some zv ∧ zv.cells.size = z ∧ RL F w zero n m zv.cells.toList ∧ ∀ by_, tyBytes P e = some by_ → i0.bytes = by_ := by
  obtain ⟨i0, hi, hsz⟩ := tySize_info hz
  obtain ⟨zv, hzv⟩ := tyZero_run (F := F) (w := w) (n := n) (m := m) hzero
  have hzv' : i0.zero = some zv := by
    have h := hzero
    unfold tyZero at h
    rw [hi] at h
    dsimp only at h
    cases hiz : i0.zero with
    | none => rw [hiz] at h; cases h
    | some q =>
      have h1 := hzv.1
      simp only [zeroValue, typeInfo, Sem.run_bind, run_program, Result.andThen_ok, hi, hiz, Sem.run_pure] at h1
      injection h1 with h1 _
      rw [h1]
  refine ⟨i0, zv, hi, hsz, hzv', ?_, hzv.2, fun by_ hby => by unfold tyBytes at hby; rw [hi] at hby; injection hby⟩
  have h1 := Nat.eq_of_beq_eq_true hzl
  rw [RL_len _ _ hzv.2] at h1
  simpa using h1
theorem run_makeLit {t : TypeId} {len cap cs : V} {xl xc : Value} {z k : Nat} (hl : R F w len n m xl) (hc : R F w cap n m xc) (h : evMakeLit P t len cap = some (z, k, cs)) :
    ∃ outc e, (Instr.makeSlice t xl xc).run P w = .ok (.slice (some ⟨w.heap.size, 0, none⟩) k k) (w.alloc (.cells outc e)) ∧ RL F w cs n m outc.toList ∧ outc.size = k * z := by
  unfold evMakeLit at h
  split at h
  case h_2 => cases h
  rename_i e ht
  split at h
  case h_2 => cases h
  rename_i z0 zero by_ hz hzero hby
  cases hzl : Nat.beq zero.len z0
  · rw [hzl] at h; cases h
  cases hz0 : Nat.blt 0 z0
  · rw [hzl, hz0] at h; cases h
  rw [hzl, hz0] at h
  simp only [Bool.and_self, cond_true] at h
  have hzpos : 0 < z0 := by simpa [Nat.blt_eq] using hz0
  split at h
  case h_2 => cases h
  rename_i kl k0
  split at h
  case h_2 => cases h
  rename_i kc k1
  cases hd : (Nat.beq k0 k1 && fitsB k0 by_)
  · rw [hd] at h; cases h
  rw [hd] at h
  simp only [cond_true, Option.some.injEq, Prod.mk.injEq] at h
  obtain ⟨rfl, rfl, rfl⟩ := h
  simp only [Bool.and_eq_true] at hd
  obtain rfl := Nat.eq_of_beq_eq_true hd.1
  obtain ⟨hf1, hf2⟩ := fits_of hd.2
  rw [R_int] at hl hc
  subst hl; subst hc
  obtain ⟨i0, zv, hi, hsz, hzv', hzs, hzr, hb⟩ := zero_info (F := F) (w := w) (n := n) (m := m) hz hzero hzl
  have hbytes := hb _ hby
  have hb' : (i0.bytes : Int) * (k0 : Int) ≤ 281474976710656 := by
    have h : ((i0.bytes * k0 : Nat) : Int) ≤ 281474976710656 := by rw [hbytes, Nat.mul_comm]; omega
    rwa [Int.natCast_mul] at h
  have hrun := run_make (P := P) w t e i0 zv ht hi hzv' kl kc (k0 : Int) (k0 : Int) (by omega) (Int.le_refl _) hb' (by omega)
  simp only [Int.toNat_natCast, hsz] at hrun
  refine ⟨madeCells zv.cells (k0 * z0), e, hrun, ?_, by simp [madeCells]⟩
  have h := zeroCells_rows (k := k0) hzpos hzs hzr
  have e1 : (madeCells zv.cells (k0 * z0)) = Builtin.zeroCells zv.cells k0 := by simp [madeCells, Builtin.zeroCells, hzs]
  rw [e1]
  exact Rows.cat k0 _ h
theorem run_append_zeros (t u ty e : TypeId) (i : TypeInfo) (z : Value) (k k' : IntKind) (ht : P.underlying t = some (.slice e)) (hu : P.underlying u = some (.int k)) (hi : P.info? e = some i) (hz : i.zero = some z)
    (j : Nat) (h0 : 0 < j) (hs : 0 < i.size) (h63 : (j : Int) ≤ 9223372036854775807) (h48 : j * i.bytes ≤ 281474976710656) :
    (Builtin.append_ #[t, u] ty #[.slice none 0 0, .int k' j]).run P w =
      .ok (.slice (some ⟨w.heap.size, 0, none⟩) j (grownCap w j 0 e)) (w.drew.alloc (.cells (Builtin.zeroCells z.cells j ++ Builtin.zeroCells z.cells (grownCap w j 0 e - j)) e)) := by
  have hn : j ≠ 0 := by omega
  have h63' : ¬ (9223372036854775807 < (j : Int)) := by omega
  have h48' : ¬ (281474976710656 < Builtin.nextslicecap j 0 * i.bytes) := by rw [nextslicecap_zero h0]; omega
  have hw : IntKind.i64.wrap (j : Int) = j := IntWalk.i64_in _ ⟨by omega, by omega⟩
  have hb : ¬ (281474976710656 < (j : Int) * (i.bytes : Int)) := by
    have : ((j * i.bytes : Nat) : Int) ≤ 281474976710656 := by omega
    rw [Int.natCast_mul] at this; omega
  have hjs : j * i.size ≠ 0 := Nat.ne_of_gt (Nat.mul_pos h0 hs)
  have hjs2 : ¬ i.size = 0 := by omega
  have hneg : ¬ ((j : Int) < 0) := by omega
  simp [hneg, hjs, Builtin.append_, run_underlying ht, run_underlying hu, sizeOf, typeInfo, zeroValue, hi, hz, asInt, asIntOf, hw, hn, hb, hjs2, h63', h48', Question.forced, run_firstCells_none, newRow, grownCap]
theorem evAppendZ_run (hr : HR base m F (look g h0) n w) {ts : Array TypeId} {ty : TypeId} {k' : IntKind} {j : Nat} {xs : Array Value} (hargs : xs.toList = [.slice none 0 0, .int k' j]) {Q : V × PT Blk × Nat → Prop}
    (hq : (evAppendZ P h0 n ts.toList j).holds P Q) :
    ∃ v h' n' m' w' X, Q (v, h', n') ∧ (Builtin.append_ ts ty xs).run P w = .ok X w' ∧ Ext base m F n w m' F n' w' ∧ HR base m' F (look g h') n' w' ∧ R F w' v n' m' X := by
  unfold evAppendZ at hq
  split at hq
  case h_2 => exact hq.elim
  rename_i t t' hts
  split at hq
  case h_2 => exact hq.elim
  rename_i k hu
  split at hq
  case h_2 => exact hq.elim
  rename_i e ht
  split at hq
  case h_2 => exact hq.elim
  rename_i z zero by_ hz hzero hby
  cases hzl : Nat.beq zero.len z
  · rw [hzl] at hq; exact hq.elim
  cases hz0 : Nat.blt 0 z
  · rw [hzl, hz0] at hq; exact hq.elim
  cases hj0 : Nat.blt 0 j
  · rw [hzl, hz0, hj0] at hq; exact hq.elim
  cases hjf : fitsB j by_
  · rw [hzl, hz0, hj0, hjf] at hq; exact hq.elim
  rw [hzl, hz0, hj0, hjf] at hq
  simp only [Bool.and_self, cond_true] at hq
  have hzpos : 0 < z := by simpa [Nat.blt_eq] using hz0
  have hjpos : 0 < j := by simpa [Nat.blt_eq] using hj0
  obtain ⟨hf1, hf2⟩ := fits_of hjf
  have hxs : xs = #[.slice none 0 0, .int k' j] := by apply Array.ext'; simpa using hargs
  have hts' : ts = #[t, t'] := by apply Array.ext'; simpa using hts
  subst hxs; subst hts'
  obtain ⟨i0, zv, hi, hsz, hzv', hzs, hzr, hb⟩ := zero_info (F := F) (w := w) (n := n) (m := m) hz hzero hzl
  have hbytes := hb _ hby
  have hrun := run_append_zeros (P := P) (w := w) t t' ty e i0 zv k k' ht hu hi hzv' j hjpos (by omega) (by omega) (by rw [hbytes]; omega)
  have hdrew : Later F w F w.drew := ⟨fun _ h => h, fun _ h => .inl h, fun _ _ => rfl, Nat.le_refl _, fun hd B hB => hd B hB, ⟨rfl, rfl, rfl⟩⟩
  have hr2 := hr.later hdrew
  have hrows := zeroCells_rows (k := j) hzpos hzs hzr
  obtain ⟨k1, k2⟩ := hr2.layO (h' := look g (h0.set n (.var (catRows (fun _ => zero) j)))) (nm := n) (n' := n + 1) (blk := .var (catRows (fun _ => zero) j)) (o := .cells (Builtin.zeroCells zv.cells j ++ Builtin.zeroCells zv.cells (grownCap w j 0 e - j)) e)
    (hr2.new n (Nat.le_refl _)) (by omega) (by omega) (fun b h1 h2 => by omega) (fun b => look_set _ _ _ _ _) (fun he =>
      ⟨_, _, e, (Builtin.zeroCells zv.cells j).toList, (Builtin.zeroCells zv.cells (grownCap w j 0 e - j)).toList, rfl, heap_alloc_new w.drew _, by simp, ((hr.ext hdrew).trans he).row (Rows.cat j _ hrows)⟩)
  have hge : j ≤ grownCap w j 0 e := by simp [grownCap, Question.cut]
  refine ⟨_, _, _, _, _, _, hq, hrun, (hr.ext hdrew).trans k2, k1, ?_⟩
  rw [R_osl]
  refine ⟨by omega, _, _, rfl, hge, .inr ⟨w.heap.size, _, e, (0, 0), by rw [Nat.zero_mul], by simp, heap_alloc_new w.drew _, ?_⟩⟩
  simp only [Nat.zero_add, Builtin.zeroCells, Array.size_append, Array.size_map, Array.size_range, hzs]
  rw [← Nat.add_mul]
  exact Nat.le_of_eq (by congr 1; omega)
theorem evAppendX_run (hr : HR base m F (look g h0) n w) {ts : Array TypeId} {ty : TypeId} {args : V} {xs : Array Value} (hargs : RL F w args n m xs.toList) {Q : V × PT Blk × Nat → Prop}
    (hq : (evAppendX P g h0 n ts.toList args).holds P Q) :
    ∃ v h' n' m' w' X, Q (v, h', n') ∧ (Builtin.append_ ts ty xs).run P w = .ok X w' ∧ Ext base m F n w m' F n' w' ∧ HR base m' F (look g h') n' w' ∧ R F w' v n' m' X := by
  unfold evAppendX at hq
  split at hq
  · rename_i st b es i k c x
    split at hq
    case h_2 => exact hq.elim
    rename_i t t' hts
    cases htt : Nat.beq t t'
    · rw [htt] at hq; exact hq.elim
    rw [htt] at hq
    obtain rfl := Nat.eq_of_beq_eq_true htt
    simp only [cond_true] at hq
    split at hq
    case h_2 => exact hq.elim
    rename_i e ht
    simp only [RL] at hargs
    obtain ⟨S, r, e1, hS, X, r', e2, hX, e3⟩ := hargs
    subst e3
    have hxs : xs = #[S, X] := by apply Array.ext'; rw [e1, e2]
    have htsa : ts = #[t, t] := by apply Array.ext'; rw [hts]
    subst hxs; subst htsa
    exact evAppendP_run hr ht hS hX hq
  · rename_i kk j
    simp only [RL, R] at hargs
    obtain ⟨_, r, e1, rfl, X, r', e2, rfl, e3⟩ := hargs
    subst e3
    exact evAppendZ_run hr (k' := kk) (j := j) (by rw [e1, e2]; rfl) hq
  · exact evAppend_run hr hargs hq

theorem evMakeSlice_run (hr : HR base m F (look g h0) n w) {t : TypeId} {len cap : V} {xl xc : Value} (hl : R F w len n m xl) (hc : R F w cap n m xc) {Q : V × PT Blk × Nat → Prop}
    (hq : (evMakeSlice P h0 n t len cap).holds P Q) :
    ∃ v h' n' m' w' X, Q (v, h', n') ∧ (Instr.makeSlice t xl xc).run P w = .ok X w' ∧ Ext base m F n w m' F n' w' ∧ HR base m' F (look g h') n' w' ∧ R F w' v n' m' X := by
  unfold evMakeSlice at hq
  split at hq
  case h_2 => exact hq.elim
  rename_i e ht
  split at hq
  case h_2 => exact hq.elim
  rename_i z zero by_ hz hzero hby
  cases hzl : Nat.beq zero.len z
  · rw [hzl] at hq; exact hq.elim
  cases hz0 : Nat.blt 0 z
  · rw [hzl, hz0] at hq; exact hq.elim
  rw [hzl, hz0] at hq
  simp only [Bool.and_self, cond_true] at hq
  have hzpos : 0 < z := by simpa [Nat.blt_eq] using hz0
  split at hq
  case h_2 => exact hq.elim
  rename_i st kl j
  split at hq
  case h_2 => exact hq.elim
  rename_i st' kc j'
  rw [R_int] at hl hc
  subst hl; subst hc
  obtain ⟨i0, hi, hsz⟩ := tySize_info hz
  have hbytes : i0.bytes = by_ := by unfold tyBytes at hby; rw [hi] at hby; injection hby
  obtain ⟨zv, hzv⟩ := tyZero_run (F := F) (w := w) (n := n) (m := m) hzero
  have hzv' : i0.zero = some zv := by
    have h := hzero
    unfold tyZero at h
    rw [hi] at h
    dsimp only at h
    cases hiz : i0.zero with
    | none => rw [hiz] at h; cases h
    | some q =>
      have h1 := hzv.1
      simp only [zeroValue, typeInfo, Sem.run_bind, run_program, Result.andThen_ok, hi, hiz, Sem.run_pure] at h1
      injection h1 with h1 _
      rw [h1]
  have hzs : zv.cells.size = z := by
    have h1 := Nat.eq_of_beq_eq_true hzl
    rw [RL_len _ _ hzv.2] at h1
    simpa using h1
  -- a new row of so many
  have main : ∀ k : Nat, j = (k : Int) → j' = (k : Int) → fits k by_ → ∀ (blk : Blk) (v : V), (∀ (w' : World) (m' : Nat → Option Nat), Ext base m F n w m' F (n + 1) w' → w'.heap[w.heap.size]? = some (.cells (madeCells zv.cells (k * z)) e) → RB F w' (n + 1) m' blk (some w.heap.size)) → (v = .osl (st && st') n z 0 k ∨ k = 0 ∧ v = .esl true z) →
      Q (v, h0.set n blk, n + 1) → ∃ v h' n' m' w' X, Q (v, h', n') ∧ (Instr.makeSlice t (.int kl j) (.int kc j')).run P w = .ok X w' ∧ Ext base m F n w m' F n' w' ∧ HR base m' F (look g h') n' w' ∧ R F w' v n' m' X := by
    intro k hj hj' hf blk v hrb hv hQ
    obtain ⟨hf1, hf2⟩ := hf
    have hb' : (i0.bytes : Int) * (k : Int) ≤ 281474976710656 := by
      have h : ((i0.bytes * k : Nat) : Int) ≤ 281474976710656 := by rw [hbytes, Nat.mul_comm]; omega
      rwa [Int.natCast_mul] at h
    have hrun := run_make (P := P) w t e i0 zv ht hi hzv' kl kc (k : Int) (k : Int) (by omega) (Int.le_refl _) hb' (by omega)
    simp only [Int.toNat_natCast, hsz] at hrun
    obtain ⟨k1, k2⟩ := hr.layO (h' := look g (h0.set n blk)) (nm := n) (n' := n + 1) (blk := blk) (o := .cells (madeCells zv.cells (k * z)) e) (hr.new n (Nat.le_refl _)) (by omega) (by omega) (fun b h1 h2 => by omega) (fun b => look_set _ _ _ _ _) (fun he => hrb _ _ he (heap_alloc_new w _))
    refine ⟨v, _, _, _, _, _, hQ, by rw [hj, hj']; exact hrun, k2, k1, ?_⟩
    rcases hv with hv | ⟨rfl, hv⟩
    · rw [hv, R_osl]
      refine ⟨by omega, _, _, rfl, Nat.le_refl _, .inr ⟨w.heap.size, _, e, (0, 0), by rw [Nat.zero_mul], by simp, heap_alloc_new w _, ?_⟩⟩
      simp [madeCells]
    · rw [hv]; simp only [R]; exact ⟨_, rfl, fun _ h => by cases h⟩
  have rows : ∀ k, Rows F w n m z k (fun _ => zero) (madeCells zv.cells (k * z)).toList := by
    intro k
    have h := zeroCells_rows (k := k) hzpos hzs hzv.2
    have e : (madeCells zv.cells (k * z)) = Builtin.zeroCells zv.cells k := by simp [madeCells, Builtin.zeroCells, hzs]
    rw [e]; exact h
  cases hss : st && st'
  · rw [hss] at hq
    dsimp only at hq
    obtain ⟨⟨h0', hjj, hf⟩, hq⟩ := hq
    refine main j.toNat (by omega) (by omega) hf _ _ (fun w' m' he hcell => ?_) (.inl (by rw [hss])) hq
    refine .inr ⟨_, _, e, rfl, hcell, by simp [madeCells], fun q hq' => ?_⟩
    obtain ⟨xs, g1, g2, g3⟩ := (rows j.toNat).2 q hq'
    refine ⟨xs, ?_, g2, fun r hr' => by rw [← g3 r hr']; simp⟩
    obtain ⟨z2, hz2⟩ := tyZero_run (F := F) (w := w') (n := 0) (m := fun _ => none) hzero
    have : z2 = zv := by
      have h1 := hz2.1
      simp only [zeroValue, typeInfo, Sem.run_bind, run_program, Result.andThen_ok, hi, hzv', Sem.run_pure] at h1
      injection h1 with h1 _
      exact h1.symm
    subst this
    have hxs : xs = z2.cells.toList := by
      apply List.ext_getElem?
      intro r
      by_cases hr' : r < z
      · rw [← g3 r hr']
        have hmul : (q + 1) * z ≤ j.toNat * z := Nat.mul_le_mul_right z hq'
        rw [Nat.add_mul, Nat.one_mul] at hmul
        have hmod : (q * z + r) % z = r := by rw [Nat.mul_comm, Nat.mul_add_mod, Nat.mod_eq_of_lt hr']
        simp only [madeCells, Array.getElem?_toList]
        rw [Array.getElem?_map, Array.getElem?_range, if_pos (by omega)]
        simp only [Option.map_some, hzs, hmod]
        rw [getElem!_pos z2.cells r (by omega), Array.getElem?_eq_getElem (by omega)]
      · rw [List.getElem?_eq_none (by omega), List.getElem?_eq_none (by simp; omega)]
    rw [hxs]
    exact hz2.2
  · rw [hss] at hq
    dsimp only at hq
    cases j with
    | negSucc _ => exact hq.elim
    | ofNat k =>
      dsimp only at hq
      cases hd : (decide (Int.ofNat k = j') && fitsB k by_)
      · rw [hd] at hq
        simp only [cond_false] at hq
        cases j' with
        | negSucc _ => exact hq.elim
        | ofNat c =>
        dsimp only at hq
        cases hd2 : (Nat.blt k c && fitsB c by_)
        · rw [hd2] at hq; exact hq.elim
        rw [hd2] at hq
        simp only [Bool.and_eq_true] at hd2
        have hkc : k < c := by simpa [Nat.blt_eq] using hd2.1
        obtain ⟨hf1, hf2⟩ : fits c by_ := by
          have := hd2.2
          unfold fitsB at this
          simp only [Bool.and_eq_true, Nat.ble_eq] at this
          exact this
        have hb' : (i0.bytes : Int) * (c : Int) ≤ 281474976710656 := by
          have h : ((i0.bytes * c : Nat) : Int) ≤ 281474976710656 := by rw [hbytes, Nat.mul_comm]; omega
          rwa [Int.natCast_mul] at h
        have hrun := run_make (P := P) w t e i0 zv ht hi hzv' kl kc (k : Int) (c : Int) (by omega) (by omega) hb' (by omega)
        simp only [Int.toNat_natCast, hsz] at hrun
        have hrb : ∀ (w' : World) (m' : Nat → Option Nat), Ext base m F n w m' F (n + 1) w' → w'.heap[w.heap.size]? = some (.cells (madeCells zv.cells (c * z)) e) → RB F w' (n + 1) m' (.var (catRows (fun _ => zero) c)) (some w.heap.size) := fun w' m' he hcell =>
          ⟨_, _, e, (madeCells zv.cells (c * z)).toList, [], rfl, hcell, by simp, he.row (Rows.cat c _ (rows c))⟩
        obtain ⟨k1, k2⟩ := hr.layO (h' := look g (h0.set n (.var (catRows (fun _ => zero) c)))) (nm := n) (n' := n + 1) (blk := .var (catRows (fun _ => zero) c)) (o := .cells (madeCells zv.cells (c * z)) e) (hr.new n (Nat.le_refl _)) (by omega) (by omega) (fun b h1 h2 => by omega) (fun b => look_set _ _ _ _ _) (fun he => hrb _ _ he (heap_alloc_new w _))
        refine ⟨_, _, _, _, _, _, hq, hrun, k2, k1, ?_⟩
        rw [R_osp]
        exact ⟨by omega, _, _, rfl, Nat.le_of_lt hkc, Nat.le_refl _, .inr ⟨w.heap.size, _, e, (0, 0), by rw [Nat.zero_mul], by simp, heap_alloc_new w _, by simp [madeCells]⟩⟩
      rw [hd] at hq
      simp only [Bool.and_eq_true, decide_eq_true_eq] at hd
      have hf : fits k by_ := by
        have := hd.2
        unfold fitsB at this
        simp only [Bool.and_eq_true, Nat.ble_eq] at this
        exact this
      refine main k rfl hd.1.symm hf _ _ (fun w' m' he hcell => ?_) (by rw [hss]; exact newRows_or n z k) hq
      exact ⟨_, _, e, (madeCells zv.cells (k * z)).toList, [], rfl, hcell, by simp, he.row (Rows.cat k _ (rows k))⟩
end
end Go.Fw
namespace Go.Fw

section
variable {P : Program} {base : Nat} {m : Nat → Option Nat} {F : Nat → Prop} {h : Nat → Blk} {n : Nat} {w : World} {a : Act}

/-- A store through a pointer into a block that is ours. -/
theorem evStoreB_run (hr : HR base m F h n w) {st : Bool} {b es i o z B : Nat} {v : V} {y : Value} (hb : b < n) (hB : m b = some B) (hv : R F w v n m y)
    (hs : v.solid = true) (hz : y.cells.size = z) (hc : v.cells.allCell = true) {Q : Blk → Prop} (hq : (evStoreB (h b) st es i o z v).holds P Q) :
    ∃ blk w', Q blk ∧ (storeCells ⟨B, i * es + o, none⟩ y.cells.toList).run P w = .ok () w' ∧ (∀ h' : Nat → Blk, (∀ c, h' c = if c = b then blk else h c) → HR base m F h' n w') ∧ Ext base m F n w m F n w' := by
  have hcells := RL_cells v y hv hs
  have hone := oneCell_of (RL_allCell _ _ hcells hc)
  have hblk := hr.blk b hb
  cases hh : h b with
  | none => rw [hh] at hq; exact hq.elim
  | any => rw [hh] at hq; exact hq.elim
  | rng => rw [hh] at hq; exact hq.elim
  | mapV => rw [hh] at hq; exact hq.elim
  | iter => rw [hh] at hq; exact hq.elim
  | var cs =>
    rw [hh] at hq hblk
    obtain ⟨B', xs, el, ys, zs, hm, hcell, hsp, hrow⟩ := hblk
    obtain rfl : B = B' := by rw [hB] at hm; injection hm
    unfold evStoreB at hq
    dsimp only at hq
    rw [RL_len _ _ hrow] at hq
    cases st with
    | false => exact hq.elim
    | true =>
      cases hle : Nat.ble (i * es + o + z) ys.length
      · rw [hle] at hq; exact hq.elim
      · rw [hle] at hq
        have hley : i * es + o + z ≤ ys.length := Nat.le_of_ble_eq_true hle
        have hle' : i * es + o + z ≤ xs.size := Nat.le_trans hley (prefix_len hsp)
        have hrun := run_storeCells_at P B (i * es + o) el y.cells.toList 0 xs w hcell (by simp [hz]; omega) hone
        simp only [Nat.add_zero] at hrun
        rw [splice_eq _ _ _ (by simp [hz]; omega)] at hrun
        have ht := fun h' hh' => hr.turn (h' := h') hm hcell (new := (spliceL xs.toList (i * es + o) y.cells.toList).toArray) (by simp [spliceL_length]) (by rw [hh]; simp) (blk := .var (cs.splice (i * es + o) v.cells)) hh' (fun hrl =>
          ⟨B, _, el, spliceL ys (i * es + o) y.cells.toList, zs, rfl, setRow_heap w B _ _ el _ hcell, by rw [List.toList_toArray, hsp, spliceL_app _ _ _ _ (by simp [hz]; omega)], RL_splice cs _ (hrl _ _ _ _ hrow) (i * es + o) v.cells _ (hrl _ _ _ _ hcells)⟩)
        exact ⟨_, _, hq, by simpa using hrun, fun h' hh' => (ht h' hh').1, (ht (fun c => if c = b then _ else h c) (fun _ => rfl)).2⟩
  | arr es' k get =>
    rw [hh] at hq hblk
    unfold evStoreB at hq
    dsimp only at hq
    cases he : Nat.beq es es'
    · rw [he] at hq; exact hq.elim
    · cases hle : Nat.ble (o + z) es
      · rw [he, hle] at hq; exact hq.elim
      cases hcl : v.clean
      · rw [he, hle, hcl] at hq; exact hq.elim
      · rw [he, hle, hcl] at hq
        obtain rfl := Nat.eq_of_beq_eq_true he
        have hle' := Nat.le_of_ble_eq_true hle
        have hik : i < k ∧ Q (.arr es k fun j => bif Nat.beq j i then (get i).splice o v.cells else get j) := by
          simp only [Bool.and_self, cond_true, atIdx] at hq
          cases st with
          | false => exact hq
          | true =>
            dsimp only at hq
            cases hlt : Nat.blt i k
            · rw [hlt] at hq; exact hq.elim
            · rw [hlt] at hq; exact ⟨by simpa [Nat.blt_eq] using hlt, hq⟩
        obtain ⟨hik, hq⟩ := hik
        obtain ⟨B', c, el, hm, hcell, hsz, hrow⟩ := hblk.resolve_left (fun h0 => by have := h0.1; omega)
        obtain rfl : B = B' := by rw [hB] at hm; injection hm
        have hcells0 := RL_cells v y ((R_clean v hcl n 0 m (fun _ => none)).1 _ hv) hs
        have hmul : i * es + es ≤ k * es := by
          have : (i + 1) * es ≤ k * es := Nat.mul_le_mul_right es hik
          rwa [Nat.add_mul, Nat.one_mul] at this
        have hrun := run_storeCells_at P B (i * es + o) el y.cells.toList 0 c w hcell (by simp [hz]; omega) hone
        simp only [Nat.add_zero] at hrun
        rw [splice_eq _ _ _ (by simp [hz]; omega)] at hrun
        have ht := fun h' hh' => hr.turn (h' := h') hm hcell (new := (spliceL c.toList (i * es + o) y.cells.toList).toArray) (by simp [spliceL_length]) (by rw [hh]; simp) (blk := .arr es k fun j => bif Nat.beq j i then (get i).splice o v.cells else get j) hh' (fun hrl => by
          refine .inr ⟨B, _, el, rfl, setRow_heap w B _ _ el _ hcell, by simp [spliceL_length, hsz], fun j hj => ?_⟩
          have hmulj : j * es + es ≤ k * es := by
            have : (j + 1) * es ≤ k * es := Nat.mul_le_mul_right es hj
            rwa [Nat.add_mul, Nat.one_mul] at this
          obtain ⟨xs, h1, h2, h3⟩ := hrow j hj
          cases hji : Nat.beq j i
          · have hne : j ≠ i := fun e => by subst e; simp at hji
            refine ⟨xs, by dsimp only; rw [hji]; exact hrl _ _ _ _ h1, h2, fun q hq' => ?_⟩
            simp only [List.getElem?_toArray]
            rw [spliceL_get _ _ _ _ (by simp; omega), if_neg, ← h3 q hq']
            · simp
            · simp only [Array.length_toList, hz]
              rcases Nat.lt_or_gt_of_ne hne with hlt | hlt
              · have : (j + 1) * es ≤ i * es := Nat.mul_le_mul_right es hlt
                rw [Nat.add_mul, Nat.one_mul] at this
                omega
              · have : (i + 1) * es ≤ j * es := Nat.mul_le_mul_right es hlt
                rw [Nat.add_mul, Nat.one_mul] at this
                omega
          · obtain rfl := Nat.eq_of_beq_eq_true hji
            refine ⟨spliceL xs o y.cells.toList, by dsimp only; rw [hji]; exact RL_splice _ _ (hrl _ _ _ _ h1) o _ _ (hrl _ _ _ _ hcells0), by rw [spliceL_length]; exact h2, fun q hq' => ?_⟩
            simp only [List.getElem?_toArray]
            rw [spliceL_get _ _ _ _ (by simp; omega), spliceL_get _ _ _ _ (by omega)]
            simp only [Array.length_toList, hz]
            by_cases hin2 : o ≤ q ∧ q < o + z
            · rw [if_pos (by omega), if_pos hin2]
              congr 1
              omega
            · rw [if_neg (by omega), if_neg hin2, ← h3 q hq']
              simp)
        exact ⟨_, _, hq, by simpa using hrun, fun h' hh' => (ht h' hh').1, (ht (fun c => if c = b then _ else h c) (fun _ => rfl)).2⟩

theorem evStore_run {g : Nat → Blk} {h : PT Blk} (hr : HR base m F (look g h) n w) {t : TypeId} {va vv : V} {x y : Value} (ha : R F w va n m x) (hv : R F w vv n m y) {Q : PT Blk → Prop} (hq : (evStore P g h t va vv).holds P Q) :
    ∃ h' w', Q h' ∧ (Instr.storeAt t x y).run P w = .ok () w' ∧ HR base m F (look g h') n w' ∧ Ext base m F n w m F n w' := by
  unfold evStore at hq
  cases hz : tySize P t with
  | none => rw [hz] at hq; exact hq.elim
  | some z =>
    rw [hz] at hq
    dsimp only at hq
    cases h1 : Nat.beq vv.cells.len z
    · rw [h1] at hq; exact hq.elim
    · cases h2 : vv.cells.allCell
      · rw [h1, h2] at hq; exact hq.elim
      · cases h3 : vv.solid
        · rw [h1, h2, h3] at hq; exact hq.elim
        · rw [h1, h2, h3] at hq
          simp only [Bool.and_self, cond_true] at hq
          cases va <;> try exact hq.elim
          rename_i st b es i o
          have hlen : y.cells.size = z := by
            have := RL_len _ _ (RL_cells vv y hv h3)
            rw [Nat.eq_of_beq_eq_true h1] at this
            simpa using this.symm
          rw [R_ptr] at ha
          obtain ⟨hb, B, rfl, hB⟩ := ha
          dsimp only at hq
          rw [Tree.holds_bind] at hq
          obtain ⟨blk, w', k1, k2, k3, k4⟩ := evStoreB_run hr hb hB hv h3 hlen h2 hq
          refine ⟨_, w', k1, ?_, k3 _ (fun c => look_set _ _ _ _ _), k4⟩
          simp only [Instr.storeAt, Instr.sureAddr, pure_bind, storeVar, Sem.run_bind, tySize_run hz, Result.andThen_ok]
          rw [if_neg (by simp [hlen])]
          exact k2
end

/-! ### One operation, and a region in its order -/
/-- What is asked of the calls that are walked in place. -/
def CallOk (E : Env) (call : CallF) : Prop :=
  ∀ (hb : Nat → Blk) (c : FuncId ⊕ Nat) (args : V) (h : PT Blk) (n : Nat) (base : Nat) (m : Nat → Option Nat) (F : Nat → Prop) (w : World) (xs : Array Value) (Q : V × PT Blk × Nat → Prop) (K : Ending → World → Prop),
    HR base m F (look hb h) n w → RL F w args n m xs.toList → (call hb c args h n).holds E.P Q →
    (∀ v h' n', Q (v, h', n') → ∀ m' F' w' x, Ext base m F n w m' F' n' w' → HR base m' F' (look hb h') n' w' → R F' w' v n' m' x → K (.returned x) w') →
    match c with
    | .inl g => Has E.P g ∧ Calls E.P g xs w K
    | .inr b => ∀ l, m b = some l → ∃ r, w.heap[l]? = some (.loop r) ∧ xs.size = r.params.size ∧ ∀ ro, RoundIn (fen ro) 0 E.P l r.fn ((r.params.zip xs).foldl (fun tmps (t, a) => tmps.setIfInBounds t a) r.tmps) r.assign r.body w K

theorem Act.defers_put (a : Act) (dst : Option Tmp) (v : Value) : (a.put dst v).defers = a.defers := by cases dst <;> rfl
theorem Act.size_put (a : Act) (dst : Option Tmp) (v : Value) : (a.put dst v).tmps.size = a.tmps.size := by cases dst <;> simp [Act.put]
theorem Rel.put {lo base : Nat} {m : Nat → Option Nat} {F : Nat → Prop} {Bs : Base} {s : St Bs} {a : Act} {w : World} (hr : Rel lo base m F s a w) {dst : Option Tmp} {v : V} {x : Value}
    (hv : R F w v s.n m x) (hd : ∀ d, dst = some d → d < s.N) : Rel lo base m F (s.put dst v) (a.put dst x) w := by
  cases dst with
  | none => exact hr
  | some d =>
    refine ⟨hr.hr, hr.defers, by simp [Act.put, St.put, hr.size], fun i => ?_⟩
    have hlt : d < a.tmps.size := by rw [hr.size]; exact hd d rfl
    simp only [St.put, St.tmp, Act.put]
    by_cases e : i = d
    · subst e
      have hget : (a.tmps.setIfInBounds i x).getD i Go.undef = x := by simp [Array.getD_eq_getD_getElem?, hlt]
      rw [look_set_eq, hget]; exact hv
    · rw [look_set_ne _ _ _ e]
      have hget : (a.tmps.setIfInBounds d x).getD i Go.undef = a.tmps.getD i Go.undef := by
        simp only [Array.getD_eq_getD_getElem?, Array.getElem?_setIfInBounds_ne (Ne.symm e)]
      rw [hget]
      exact hr.tmp i
theorem Rel.opnd {lo base : Nat} {m : Nat → Option Nat} {F : Nat → Prop} {Bs : Base} {s : St Bs} {a : Act} {w : World} (hr : Rel lo base m F s a w) : ∀ x, R F w (opnd s x) s.n m (a.eval x)
  | .tmp t => hr.tmp t
  | .const v => R_const v
  | .global g => by
    simp only [Fw.opnd]
    split
    · rename_i v hg
      obtain ⟨h1, h2, _⟩ := hr.hr.gl g v hg
      exact (R_clean v h1 0 s.n _ m).1 _ h2
    · simp only [R]
  | .func f => by simp only [Fw.opnd, R, Act.eval]; exact ⟨_, _, rfl, by simp only [RL], by simp only [RL]⟩
theorem Rel.move {lo base : Nat} {m m' : Nat → Option Nat} {F F' : Nat → Prop} {Bs : Base} {s : St Bs} {a : Act} {w w' : World} {h' : PT Blk} {n' : Nat} (hr : Rel lo base m F s a w)
    (he : Ext base m F s.n w m' F' n' w') (hh : HR base m' F' (look Bs.h h') n' w') : Rel lo base m' F' ({ s with h := h', n := n' } : St Bs) a w' :=
  ⟨hh, Marks.ext hr.defers he, hr.size, fun i => he.val (hr.tmp i)⟩

theorem evOp_nodefer {E : Env} {call : CallF} {Bs : Base} {s : St Bs} {o : Op} {Q : V × PT Blk × Nat → Prop} (hq : (evOp E call s o).holds E.P Q) : ∀ c, o ≠ .defer c := by
  intro c e
  subst e
  exact hq
theorem evOp_wp {E : Env} (hE : E.Ok) {ro : Option Nat} {call : CallF} (hcall : CallOk E call) {lo base : Nat} {m : Nat → Option Nat} {F : Nat → Prop} {Bs : Base} {s : St Bs} {a : Act} {w : World}
    (hr : Rel lo base m F s a w) {o : Oper} {Q : V × PT Blk × Nat → Prop} {K : Act → World → Prop} {Qx : Exit → Act → World → Prop} (hq : (evOp E call s o.op).holds E.P Q)
    (hK : ∀ v h' n', Q (v, h', n') → ∀ m' F' w' x, Ext base m F s.n w m' F' n' w' → HR base m' F' (look Bs.h h') n' w' → R F' w' v n' m' x → K (a.put o.dst x) w') : o.wpIn (fen ro) 0 E.P a w K Qx := by
  have hnd := evOp_nodefer hq
  unfold evOp at hq
  cases hT : evQ E (opnd s) s.blk o.op with
  | some T =>
    rw [hT] at hq
    dsimp only at hq
    rw [Tree.holds_bind] at hq
    refine wpIn_of_wp ?_ hnd
    exact evQ_wp hE hr.hr hr.opnd hT hq fun v x w' F' h1 h2 h3 => hK v s.h s.n h1 m F' w' x (hr.hr.ext h2) (hr.hr.later h2) h3
  | none =>
    rw [hT] at hq
    dsimp only at hq
    cases ho : o.op <;> rw [ho] at hq <;> dsimp only at hq <;> try (exact hq.elim)
    case alloc t =>
      cases hz : tyZero E.P t with
      | none => rw [hz] at hq; exact hq.elim
      | some cs =>
        rw [hz] at hq
        obtain ⟨z, hz1, hz2⟩ := tyZero_run (F := F) (w := w) (n := s.n) (m := m) hz
        obtain ⟨h1, h2⟩ := hr.hr.push (h' := look Bs.h (s.h.set s.n (.var cs))) t hz2 (fun b => look_set _ _ _ _ _)
        have hrun : (execOp a.eval o).run E.P w = .ok (.value (.pointer (some ⟨w.heap.size, 0, none⟩))) (w.alloc (.cells z.cells t)) := by
          simp only [execOp, ho, Instr.alloc, Sem.run_bind, hz1, Result.andThen_ok]
          rfl
        refine wpIn_of_wp ?_ hnd
        unfold Oper.wp
        rw [hrun]
        simp only [Oper.upon]
        exact hK _ _ _ hq _ F _ _ h2 h1 (by rw [R_ptr]; exact ⟨by omega, w.heap.size, by simp, by simp⟩)
    case box t x =>
      cases hs : (opnd s x).solid
      · rw [hs] at hq; exact hq.elim
      · rw [hs] at hq
        have hcells := RL_cells _ _ (hr.opnd x) hs
        obtain ⟨h1, h2⟩ := hr.hr.push (h' := look Bs.h (s.h.set s.n (.var (opnd s x).cells))) t hcells (fun b => look_set _ _ _ _ _)
        have hrun : (execOp a.eval o).run E.P w = .ok (.value (.pointer (some ⟨w.heap.size, 0, none⟩))) (w.alloc (.cells (a.eval x).cells t)) := by
          simp only [execOp, ho]; rfl
        refine wpIn_of_wp ?_ hnd
        unfold Oper.wp
        rw [hrun]
        simp only [Oper.upon]
        exact hK _ _ _ hq _ F _ _ h2 h1 (by rw [R_ptr]; exact ⟨by omega, w.heap.size, by simp, by simp⟩)
    case buildSlice t len parts =>
      cases hz : evBuildRow E.P t len (parts.toList.map fun p => (p.1, opnd s p.2)) with
      | none => rw [hz] at hq; exact hq.elim
      | some zc =>
        obtain ⟨z, cs⟩ := zc
        rw [hz] at hq
        obtain ⟨outc, e, hrun, hrow, hsz⟩ := run_buildSlice (E := E) ho hr.opnd hz
        obtain ⟨h1, h2⟩ := hr.hr.push (h' := look Bs.h (s.h.set s.n (.var cs))) e hrow (fun b => look_set _ _ _ _ _)
        refine wpIn_of_wp ?_ hnd
        unfold Oper.wp
        rw [hrun]
        simp only [Oper.upon]
        refine hK _ _ _ hq _ F _ _ h2 h1 ?_
        rcases newRows_or s.n z len with h | ⟨rfl, h⟩
        · rw [h, R_osl]; exact ⟨by omega, _, len, rfl, Nat.le_refl _, .inr ⟨w.heap.size, outc, e, (0, 0), by rw [Nat.zero_mul], by simp, heap_alloc_new w _, by rw [Nat.zero_add, hsz]; exact Nat.le_refl _⟩⟩
        · rw [h]; simp only [R]; exact ⟨_, rfl, fun _ h => by cases h⟩
    case makeMap t r =>
      cases hz : evMakeMap E.P t (r.map (opnd s)) with
      | none => rw [hz] at hq; exact hq.elim
      | some blk =>
        rw [hz] at hq
        obtain ⟨hrun0, kd, rfl⟩ := makeMap_run (F := F) (w := w) (n := s.n) (m := m) (X := r.map a.eval) hz (fun v hv => by
          cases r with
          | none => cases hv
          | some y => injection hv with hv; subst hv; exact ⟨_, rfl, hr.opnd y⟩) (fun hv => by cases r with | none => rfl | some y => cases hv)
        obtain ⟨h1, h2⟩ := hr.hr.layO (h' := look Bs.h (s.h.set s.n (.mapV kd true (fun _ => (false, .junk)) (some (0, []))))) (nm := s.n) (n' := s.n + 1) (o := .map #[] 0) (hr.hr.new s.n (Nat.le_refl _)) (by omega) (by omega) (fun b h1 h2 => by omega) (fun b => look_set _ _ _ _ _) (fun _ => RB_newMap (heap_alloc_new w _))
        have hrun : (execOp a.eval o).run E.P w = .ok (.value (.map (some w.heap.size))) (w.alloc (.map #[] 0)) := by
          simp only [execOp, ho, Sem.run_bind, hrun0, Result.andThen_ok]
          rfl
        refine wpIn_of_wp ?_ hnd
        unfold Oper.wp
        rw [hrun]
        simp only [Oper.upon]
        exact hK _ _ _ hq _ F _ _ h2 h1 (by simp only [R]; exact ⟨by omega, w.heap.size, rfl, by simp⟩)
    case makeSlice t len cap =>
      obtain ⟨v, h', n', m', w', X, q1, q2, q3, q4, q5⟩ := evMakeSlice_run (P := E.P) hr.hr (hr.opnd len) (hr.opnd cap) hq
      have hrun : (execOp a.eval o).run E.P w = .ok (.value X) w' := by
        simp only [execOp, ho, Sem.run_bind, q2, Result.andThen_ok]; rfl
      refine wpIn_of_wp ?_ hnd
      unfold Oper.wp
      rw [hrun]
      simp only [Oper.upon]
      exact hK v h' n' q1 m' F w' X q3 q4 q5
    case range t x =>
      cases hz : evRange E.P s.blk t (opnd s x) with
      | none => rw [hz] at hq; exact hq.elim
      | some blk =>
        rw [hz] at hq
        obtain ⟨ob, hrun0, hrb⟩ := evRange_run hr.hr (hr.opnd x) hz
        obtain ⟨h1, h2⟩ := hr.hr.layO (h' := look Bs.h (s.h.set s.n blk)) (nm := s.n) (n' := s.n + 1) (o := ob) (hr.hr.new s.n (Nat.le_refl _)) (by omega) (by omega) (fun b h1 h2 => by omega) (fun b => look_set _ _ _ _ _) (fun he => hrb _ _ _ (by omega) (fun b hb B hB => he.map b hb B hB) (heap_alloc_new w _))
        have hrun : (execOp a.eval o).run E.P w = .ok (.value (.pointer (some ⟨w.heap.size, 0, none⟩))) (w.alloc ob) := by
          simp only [execOp, ho, Sem.run_bind, hrun0, Result.andThen_ok]
          rfl
        refine wpIn_of_wp ?_ hnd
        unfold Oper.wp
        rw [hrun]
        simp only [Oper.upon]
        exact hK _ _ _ hq _ F _ _ h2 h1 (by rw [R_ptr]; exact ⟨by omega, w.heap.size, by simp, by simp⟩)
    case entry it =>
      rw [Tree.holds_bind] at hq
      refine wpIn_of_wp ?_ hnd
      refine wp_of_val (by simp only [execOp, ho]) (evEntry_val hr.hr (hr.opnd it)) hq fun v x w' F' h1 h2 h3 => hK v s.h s.n h1 m F' w' x (hr.hr.ext h2) (hr.hr.later h2) h3
    case next it str =>
      rw [Tree.holds_bind] at hq
      obtain ⟨v, wr, w', X, q1, q2, q3, q4, q5⟩ := evNext_run (P := E.P) hr.hr (hr.opnd it) o.type hq
      have hrun : (execOp a.eval o).run E.P w = .ok (.value X) w' := by
        simp only [execOp, ho, Sem.run_bind, q2, Result.andThen_ok]; rfl
      refine wpIn_of_wp ?_ hnd
      unfold Oper.wp
      rw [hrun]
      simp only [Oper.upon]
      cases wr with
      | none => exact hK v s.h s.n q1 m F w' X q3 (q4 _ fun c => rfl) q5
      | some bb => exact hK v _ s.n q1 m F w' X q3 (q4 _ fun c => look_set _ _ _ _ _) q5
    case mapUpdate t mx k x =>
      cases hz : evMapPut E.P s.blk t (opnd s mx) (opnd s k) (true, opnd s x) with
      | none => rw [hz] at hq; exact hq.elim
      | some bb =>
        obtain ⟨b, blk⟩ := bb
        rw [hz] at hq
        obtain ⟨w', hrun0, k1, k2⟩ := (mapPut_run hr.hr (hr.opnd mx) (hr.opnd k) hz).1 _ rfl (hr.opnd x)
        have hrun : (execOp a.eval o).run E.P w = .ok .skip w' := by
          simp only [execOp, ho, Sem.run_bind, hrun0, Result.andThen_ok, Sem.run_pure]
        refine wpIn_of_wp ?_ hnd
        unfold Oper.wp
        rw [hrun]
        simp only [Oper.upon]
        exact hK _ _ _ hq m F w' _ k2 (k1 _ fun c => look_set _ _ _ _ _) (by simp only [R])
    case insert t mx k x =>
      cases hz : evMapPut E.P s.blk t (opnd s mx) (opnd s k) (true, opnd s x) with
      | none => rw [hz] at hq; exact hq.elim
      | some bb =>
        obtain ⟨b, blk⟩ := bb
        rw [hz] at hq
        obtain ⟨w', hrun0, k1, k2⟩ := (mapPut_run hr.hr (hr.opnd mx) (hr.opnd k) hz).1 _ rfl (hr.opnd x)
        have hrun : (execOp a.eval o).run E.P w = .ok .skip w' := by
          simp only [execOp, ho, Sem.run_bind, hrun0, Result.andThen_ok, Sem.run_pure]
        refine wpIn_of_wp ?_ hnd
        unfold Oper.wp
        rw [hrun]
        simp only [Oper.upon]
        exact hK _ _ _ hq m F w' _ k2 (k1 _ fun c => look_set _ _ _ _ _) (by simp only [R])
    case store t x y =>
      rw [Tree.holds_bind] at hq
      obtain ⟨h', w', h1, h2, h3, h4⟩ := evStore_run hr.hr (hr.opnd x) (hr.opnd y) hq
      have hrun : (execOp a.eval o).run E.P w = .ok .skip w' := by
        simp only [execOp, ho, Sem.run_bind, h2, Result.andThen_ok, Sem.run_pure]
      refine wpIn_of_wp ?_ hnd
      unfold Oper.wp
      rw [hrun]
      simp only [Oper.upon]
      exact hK _ _ _ h1 m F w' _ h4 h3 (by simp only [R])
    case call c =>
      cases hcal : c.callee <;> rw [hcal] at hq <;> dsimp only at hq <;> try (exact hq.elim)
      case builtin bi =>
        cases bi <;> try (exact hq.elim)
        case delete =>
          dsimp only at hq
          cases hts : c.argTypes.toList with
          | nil => rw [hts] at hq; exact hq.elim
          | cons t ts =>
            rw [hts] at hq
            dsimp only at hq
            match hca : c.args.toList, hq with
            | [mx, k], hq =>
              dsimp only at hq
              cases hz : evMapPut E.P s.blk t (opnd s mx) (opnd s k) (false, .junk) with
              | none => rw [hz] at hq; exact hq.elim
              | some bb =>
                obtain ⟨b, blk⟩ := bb
                rw [hz] at hq
                have hts0 : c.argTypes[0]? = some t := by rw [← Array.getElem?_toList, hts]; rfl
                obtain ⟨w', hrun0, k1, k2⟩ := (mapPut_run hr.hr (hr.opnd mx) (hr.opnd k) hz).2 rfl 0 c.argTypes hts0
                have hargs : c.args.map a.eval = #[a.eval mx, a.eval k] := by
                  apply Array.ext'
                  rw [Array.toList_map, hca]; rfl
                have hrun := exec_builtin (P := E.P) (sem := Builtin.delete_ c.argTypes 0 (c.args.map a.eval)) ho hcal (fun consts ty => rfl) w
                rw [hargs, hrun0] at hrun
                refine wpIn_of_wp ?_ hnd
                unfold Oper.wp
                rw [hrun]
                simp only [Result.andThen_ok, Oper.upon]
                exact hK _ _ _ hq m F w' _ k2 (k1 _ fun c => look_set _ _ _ _ _) (by simp only [R, RL]; exact ⟨_, rfl, rfl⟩)
        all_goals have hargs : RL F w (.ofList (c.args.toList.map (opnd s))) s.n m (c.args.map a.eval).toList := (by simpa using RL_operands (a := a) hr.opnd c.args.toList)
        case append =>
          obtain ⟨v, h', n', m', w', X, q1, q2, q3, q4, q5⟩ := evAppendX_run (P := E.P) (ty := 0) hr.hr hargs hq
          have hrun := exec_builtin (P := E.P) (sem := Builtin.append_ c.argTypes 0 (c.args.map a.eval)) ho hcal (fun consts ty => rfl) w
          rw [q2] at hrun
          refine wpIn_of_wp ?_ hnd
          unfold Oper.wp
          rw [hrun]
          simp only [Result.andThen_ok, Oper.upon]
          exact hK v h' n' q1 m' F w' X q3 q4 q5
        case clear =>
          obtain ⟨v, h', n', m', w', X, q1, q2, q3, q4, q5⟩ := evClear_run (P := E.P) (ty := 0) hr.hr hargs hq
          have hrun := exec_builtin (P := E.P) (sem := Builtin.clear_ c.argTypes 0 (c.args.map a.eval)) ho hcal (fun consts ty => rfl) w
          rw [q2] at hrun
          refine wpIn_of_wp ?_ hnd
          unfold Oper.wp
          rw [hrun]
          simp only [Result.andThen_ok, Oper.upon]
          exact hK v h' n' q1 m' F w' X q3 q4 q5
        case copy =>
          obtain ⟨v, h', n', m', w', X, q1, q2, q3, q4, q5⟩ := evCopy_run (P := E.P) (ty := 0) hr.hr hargs hq
          have hrun := exec_builtin (P := E.P) (sem := Builtin.copy_ c.argTypes 0 (c.args.map a.eval)) ho hcal (fun consts ty => rfl) w
          rw [q2] at hrun
          refine wpIn_of_wp ?_ hnd
          unfold Oper.wp
          rw [hrun]
          simp only [Result.andThen_ok, Oper.upon]
          exact hK v h' n' q1 m' F w' X q3 q4 q5
      rename_i f
      cases hz : evFrozen E (opnd s) s.blk f c with
      | some T =>
        rw [hz] at hq
        dsimp only at hq
        rw [Tree.holds_bind] at hq
        refine wpIn_of_wp ?_ hnd
        exact evFrozen_wp hE ho hcal hr.hr hr.opnd hz hq fun v x w' F' h1 h2 h3 => hK v s.h s.n h1 m F' w' x (hr.hr.ext h2) (hr.hr.later h2) h3
      | none =>
      rw [hz] at hq
      dsimp only at hq
      have hargs : RL F w (.ofList (c.args.toList.map (opnd s))) s.n m (c.args.map a.eval).toList := by
        simpa using RL_operands (a := a) hr.opnd c.args.toList
      have fn_ : ∀ {g : FuncId} {args : V}, callee (opnd s f) (.ofList (c.args.toList.map (opnd s))) = some (g, args) → (call Bs.h (.inl g) args s.h s.n).holds E.P Q → o.wpIn (fen ro) 0 E.P a w K Qx := by
        intro g args hc hq
        obtain ⟨ys, hy, hy2⟩ := callee_run (P := E.P) hc (hr.opnd f) hargs
        obtain ⟨hhas, hcalls⟩ := hcall Bs.h (.inl g) args s.h s.n base m F w ys Q
          (fun e w'' => match e with | .returned v => K (a.put o.dst v) w'' | _ => False) hr.hr hy hq
          (fun v h' n' hQ m' F' w' x h1 h2 h3 => hK v h' n' hQ m' F' w' x h1 h2 h3)
        obtain ⟨hrun, hys⟩ := hy2 w
        have hexec : (execOp a.eval o).run E.P w = .ok (.enter g ys) w := by
          simp only [execOp, ho, resolve, hcal, Sem.run_bind, hrun, Result.andThen_ok, invoke, run_callFunc hhas, hys]
        refine wpIn_of_wp ?_ hnd
        unfold Oper.wp
        rw [hexec]
        simp only [Oper.upon]
        refine hcalls.mono fun e w' he => ?_
        cases e with
        | returned v => exact he
        | panicked c => exact he.elim
        | outgrown => exact he.elim
      have hf := hr.opnd f
      cases hv : opnd s f with
      | yld b =>
        rw [hv] at hq hf
        simp only [R] at hf
        obtain ⟨hbn, l, hfe, hml⟩ := hf
        obtain ⟨r, hl, hsz, hround⟩ := hcall Bs.h (.inr b) (.ofList (c.args.toList.map (opnd s))) s.h s.n base m F w (c.args.map a.eval) Q
          (fun e w'' => match e with | .returned v => K (a.put o.dst v) w'' | _ => False) hr.hr hargs hq
          (fun v h' n' hQ m' F' w' x h1 h2 h3 => hK v h' n' hQ m' F' w' x h1 h2 h3) l hml
        refine ⟨fun _ _ => trivial, ?_⟩
        rw [Oper.semAt_eq _ _ _ hnd]
        have hexec : (execOp a.eval o).run E.P w = .ok (.round l r.fn ((r.params.zip (c.args.map a.eval)).foldl (fun tmps (t, a) => tmps.setIfInBounds t a) r.tmps) r.assign r.body) w := by
          simp only [execOp, ho, resolve, hcal, hfe, Deferred.ofValue, Sem.run_bind, Sem.run_pure, Result.andThen_ok, invoke, Array.empty_append]
          exact run_yield hl hsz
        rw [hexec]
        refine ⟨fen_depth ro, (hround ro).mono fun e w' he => ?_⟩
        cases e with
        | returned v => exact he
        | panicked c => exact he.elim
        | outgrown => exact he.elim
      | _ =>
        rw [hv] at hq fn_
        simp only [calleeY] at hq
        split at hq
        · rename_i heq
          split at heq
          · rename_i g out hc
            injection heq with heq
            injection heq with e1 e2
            subst e1; subst e2
            exact fn_ hc hq
          · cases heq
        · exact hq.elim

theorem dst_lt {N : Nat} {o : Oper} (h : dstOk N o = true) : ∀ d, o.dst = some d → d < N := by
  intro d hd
  unfold dstOk at h
  rw [hd] at h
  simpa [Nat.blt_eq] using h
/-- Whether an operation is wanted, where that is to be seen off the values. -/
def truth (ops : Array Oper) (val : Nat → V) (o : Oper) : Option Bool :=
  match o.guard with
  | none => some true
  | some (j, want) => match ops[j]? with
    | some p => match p.dst with
      | some d => match val d with
        | .bool _ b => some (b == want)
        | .undef => some false
        | _ => none
      | none => some false
    | none => some false
theorem truth_of {ops : Array Oper} {val : Nat → V} {o : Oper} : match guardOf ops val o with
    | .yes => truth ops val o = some true
    | .no => truth ops val o = some false
    | .bad => True
    | .dyn d b want => truth ops val o = some (b == want) ∧ val d = .bool false b := by
  unfold guardOf truth
  cases o.guard with
  | none => rfl
  | some gw =>
    obtain ⟨j, want⟩ := gw
    dsimp only
    cases ops[j]? with
    | none => rfl
    | some p =>
      dsimp only
      cases p.dst with
      | none => rfl
      | some d =>
        dsimp only
        cases hv : val d <;> try trivial
        rename_i st b
        cases st
        · exact ⟨rfl, hv⟩
        · cases b <;> cases want <;> rfl
theorem yielded_of {ops : Array Oper} {lo base : Nat} {m : Nat → Option Nat} {F : Nat → Prop} {Bs : Base} {s : St Bs} {a : Act} {w : World} (hr : Rel lo base m F s a w) {o : Oper} {r : Bool}
    (h : truth ops s.tmp o = some r) : Region.wanted o (yielded ops a.tmps) = r := by
  unfold truth at h
  unfold Region.wanted
  cases hg : o.guard with
  | none => rw [hg] at h; injection h
  | some gw =>
    obtain ⟨j, want⟩ := gw
    rw [hg] at h
    dsimp only at h ⊢
    cases hj : ops[j]? with
    | none => rw [hj] at h; injection h with h; subst h; simp [yielded, hj]
    | some p =>
      rw [hj] at h
      dsimp only at h
      cases hd : p.dst with
      | none => rw [hd] at h; injection h with h; subst h; simp [yielded, hj, hd]
      | some d =>
        rw [hd] at h
        dsimp only at h
        have ht := hr.tmp d
        have hy : ∀ b, a.tmps.getD d Go.undef = .bool b → yielded ops a.tmps j = some b := by
          intro b hb
          simp only [yielded, hj, Option.bind_some, hd]
          cases hx : a.tmps[d]? with
          | none => simp [Array.getD_eq_getD_getElem?, hx, Go.undef] at hb
          | some x => simp [Array.getD_eq_getD_getElem?, hx] at hb; subst hb; rfl
        have hy0 : a.tmps.getD d Go.undef = Go.undef → yielded ops a.tmps j = none := by
          intro hb
          simp only [yielded, hj, Option.bind_some, hd]
          cases hx : a.tmps[d]? with
          | none => rfl
          | some x => simp [Array.getD_eq_getD_getElem?, hx] at hb; subst hb; rfl
        cases hs : s.tmp d <;> rw [hs] at h ht <;> try (cases h; done)
        · simp only [R] at ht
          injection h with h
          subst h
          simp [hy0 ht]
        · rename_i st b
          simp only [R] at ht
          injection h with h
          subst h
          rw [hy _ ht]
          cases b <;> cases want <;> rfl

/-- What is known of a temporary is so. -/
theorem Rel.know {lo base : Nat} {m : Nat → Option Nat} {F : Nat → Prop} {Bs : Base} {s : St Bs} {a : Act} {w : World} (hr : Rel lo base m F s a w) {d : Nat} {st b : Bool} (h : s.tmp d = .bool st b) : Rel lo base m F (s.know d b) a w := by
  refine ⟨hr.hr, hr.defers, hr.size, fun i => ?_⟩
  by_cases e : i = d
  · subst e
    have ht := hr.tmp i
    rw [h] at ht
    simp only [St.know, St.tmp, look_set_eq]
    simp only [R] at ht ⊢
    exact ht
  · simp only [St.know, St.tmp]
    rw [look_set_ne _ _ _ e]
    exact hr.tmp i

theorem evOps_wp {E : Env} (hE : E.Ok) {ro : Option Nat} {call : CallF} (hcall : CallOk E call) {lo base : Nat} {ops : Array Oper} {Qx : Exit → Act → World → Prop} {Bs : Base} :
    ∀ (l : List Oper) (s : St Bs) (a : Act) (w : World) (m : Nat → Option Nat) (F : Nat → Prop) (Q : St Bs → Prop), (∀ o ∈ l, dstOk s.N o = true) → Rel lo base m F s a w →
    (evOps E call ops l s).holds E.P Q → (∀ s', Q s' → ∀ m' F' a' w', Ext base m F s.n w m' F' s'.n w' → Rel lo base m' F' s' a' w' → Qx .normal a' w') →
    wpListIn (fen ro) 0 E.P ops Qx l a w := by
  intro l
  induction l with
  | nil => intro s a w m F Q _ hr hq hK; exact hK s hq m F a w (Ext.refl _ _ _ _ _) hr
  | cons o rest ih =>
    intro s a w m F Q hd hr hq hK
    have hdst : ∀ d, o.dst = some d → d < s.N := dst_lt (hd o (by simp))
    have run : ∀ (s' : St Bs), s'.n = s.n → s'.N = s.N → Rel lo base m F s' a w →
        (evOp E call s' o.op).holds E.P (fun r => (evOps E call ops rest (({ s' with h := r.2.1, n := r.2.2 } : St Bs).put o.dst r.1)).holds E.P Q) → o.wpIn (fen ro) 0 E.P a w (wpListIn (fen ro) 0 E.P ops Qx rest) Qx := by
      intro s' hn hN hr hq'
      refine evOp_wp hE hcall hr hq' fun v h' n' hQ m' F' w' x h1 h2 h3 => ?_
      have hr' : Rel lo base m' F' ({ s' with h := h', n := n' } : St Bs) a w' := hr.move h1 h2
      have hr'' := hr'.put (dst := o.dst) (v := v) (x := x) h3 (by rw [hN]; exact hdst)
      refine ih (({ s' with h := h', n := n' } : St Bs).put o.dst v) (a.put o.dst x) w' m' F' Q (fun p hp => ?_) hr'' hQ fun s'' hs' m'' F'' a' w'' h4 h5 => ?_
      · have := hd p (List.mem_cons_of_mem _ hp)
        rw [← hN] at this
        cases hdo : o.dst <;> exact this
      · rw [hn] at h1
        refine hK s'' hs' m'' F'' a' w'' (h1.trans ?_) h5
        cases hdo : o.dst <;> simpa only [St.put, hdo] using h4
    have skip : ∀ (s' : St Bs), s'.n = s.n → s'.N = s.N → Rel lo base m F s' a w → (evOps E call ops rest (s'.put o.dst .undef)).holds E.P Q → wpListIn (fen ro) 0 E.P ops Qx rest (a.put o.dst undef) w := by
      intro s' hn hN hr hq'
      have hr'' := hr.put (dst := o.dst) (v := .undef) (x := Go.undef) (by simp only [R]) (by rw [hN]; exact hdst)
      refine ih (s'.put o.dst .undef) _ w m F Q (fun p hp => ?_) hr'' hq' fun s'' hs' m'' F'' a' w'' h4 h5 => ?_
      · have := hd p (List.mem_cons_of_mem _ hp)
        rw [← hN] at this
        cases hdo : o.dst <;> exact this
      · refine hK s'' hs' m'' F'' a' w'' ?_ h5
        rw [← hn]
        cases hdo : o.dst <;> simpa only [St.put, hdo] using h4
    unfold wpListIn
    unfold evOps at hq
    have ht := truth_of (ops := ops) (val := s.tmp) (o := o)
    dsimp only at hq
    cases hg : guardOf ops s.tmp o with
    | bad => rw [hg] at hq; exact hq.elim
    | yes =>
      rw [hg] at hq ht
      dsimp only at hq ht
      rw [if_pos (yielded_of hr ht)]
      rw [Tree.holds_bind] at hq
      exact (run s rfl rfl hr hq)
    | no =>
      rw [hg] at hq ht
      dsimp only at hq ht
      rw [if_neg (by rw [yielded_of hr ht]; simp)]
      exact ⟨fun _ _ => trivial, skip s rfl rfl hr hq⟩
    | dyn d b want =>
      rw [hg] at hq ht
      dsimp only at hq ht
      obtain ⟨ht, hval⟩ := ht
      have hy := yielded_of hr ht
      cases want with
      | true =>
        dsimp only at hq
        cases b with
        | true =>
          rw [if_pos (by rw [hy]; rfl)]
          have hq' := hq.1 rfl
          rw [Tree.holds_bind] at hq'
          exact (run (s.know d true) rfl rfl (hr.know hval) hq')
        | false =>
          rw [if_neg (by rw [hy]; simp)]
          exact ⟨fun _ _ => trivial, skip (s.know d false) rfl rfl (hr.know hval) (hq.2 rfl)⟩
      | false =>
        dsimp only at hq
        cases b with
        | true =>
          rw [if_neg (by rw [hy]; simp)]
          exact ⟨fun _ _ => trivial, skip (s.know d true) rfl rfl (hr.know hval) (hq.1 rfl)⟩
        | false =>
          rw [if_pos (by rw [hy]; rfl)]
          have hq' := hq.2 rfl
          rw [Tree.holds_bind] at hq'
          exact (run (s.know d false) rfl rfl (hr.know hval) hq')
end Go.Fw
namespace Go.Fw

def cutM (m : Nat → Option Nat) (n : Nat) : Nat → Option Nat := fun b => if b < n then m b else none
theorem R_cut {F : Nat → Prop} {w : World} {n0 : Nat} {m : Nat → Option Nat} : ∀ (v : V) (n : Nat), v.belowB n0 = true → (∀ x, R F w v n m x → R F w v n0 (cutM m n0) x) ∧ (∀ xs, RL F w v n m xs → RL F w v n0 (cutM m n0) xs) := by
  intro v
  induction v with
  | cons h t ih1 ih2 =>
    intro n hb
    simp only [V.belowB, Bool.and_eq_true] at hb
    refine ⟨fun x h => by simp only [R] at h, fun xs h => ?_⟩
    simp only [RL] at h ⊢
    obtain ⟨x, r, rfl, h1, h2⟩ := h
    exact ⟨x, r, rfl, (ih1 n hb.1).1 _ h1, (ih2 n hb.2).2 _ h2⟩
  | agg cs ih =>
    intro n hb
    refine ⟨fun x h => ?_, fun xs h => by simp only [RL] at h⟩
    simp only [R] at h ⊢
    obtain ⟨xs, rfl, h1⟩ := h
    exact ⟨xs, rfl, (ih n hb).2 _ h1⟩
  | tup cs ih =>
    intro n hb
    refine ⟨fun x h => ?_, fun xs h => by simp only [RL] at h⟩
    simp only [R] at h ⊢
    obtain ⟨xs, rfl, h1⟩ := h
    exact ⟨xs, rfl, (ih n hb).2 _ h1⟩
  | fn f a b ih1 ih2 =>
    intro n hb
    simp only [V.belowB, Bool.and_eq_true] at hb
    refine ⟨fun x h => ?_, fun xs h => by simp only [RL] at h⟩
    simp only [R] at h ⊢
    obtain ⟨xs, ys, rfl, h1, h2⟩ := h
    exact ⟨xs, ys, rfl, (ih1 n hb.1).2 _ h1, (ih2 n hb.2).2 _ h2⟩
  | ptr st b es i o =>
    intro n hb
    have hb' : b < n0 := by simpa [V.belowB, Nat.blt_eq] using hb
    refine ⟨fun x h => ?_, fun xs h => by simp only [RL] at h⟩
    simp only [R] at h ⊢
    obtain ⟨_, B, hx, h⟩ := h
    exact ⟨hb', B, hx, by unfold cutM; rw [if_pos hb']; exact h⟩
  | osl st b es i k =>
    intro n hb
    have hb' : b < n0 := by simpa [V.belowB, Nat.blt_eq] using hb
    refine ⟨fun x h => ?_, fun xs h => by simp only [RL] at h⟩
    simp only [R] at h ⊢
    obtain ⟨_, a, cap, hx, hk, h⟩ := h
    exact ⟨hb', a, cap, hx, hk, h.imp id fun ⟨B, c, el, fr, ha, h, hc⟩ => ⟨B, c, el, fr, ha, by unfold cutM; rw [if_pos hb']; exact h, hc⟩⟩
  | osp st b es i k c =>
    intro n hb
    have hb' : b < n0 := by simpa [V.belowB, Nat.blt_eq] using hb
    refine ⟨fun x h => ?_, fun xs h => by simp only [RL] at h⟩
    simp only [R] at h ⊢
    obtain ⟨_, a, cap, hx, hk, hk2, h⟩ := h
    exact ⟨hb', a, cap, hx, hk, hk2, h.imp id fun ⟨B, c, el, fr, ha, h, hc⟩ => ⟨B, c, el, fr, ha, by unfold cutM; rw [if_pos hb']; exact h, hc⟩⟩
  | yld b =>
    intro n hb
    have hb' : b < n0 := by simpa [V.belowB, Nat.blt_eq] using hb
    refine ⟨fun x h => ?_, fun xs h => by simp only [RL] at h⟩
    simp only [R] at h ⊢
    obtain ⟨_, l, hx, h⟩ := h
    exact ⟨hb', l, hx, by unfold cutM; rw [if_pos hb']; exact h⟩
  | mp b =>
    intro n hb
    have hb' : b < n0 := by simpa [V.belowB, Nat.blt_eq] using hb
    refine ⟨fun x h => ?_, fun xs h => by simp only [RL] at h⟩
    simp only [R] at h ⊢
    obtain ⟨_, l, hx, h⟩ := h
    exact ⟨hb', l, hx, by unfold cutM; rw [if_pos hb']; exact h⟩
  | rptr st es k get i o ih =>
    intro n _
    exact ⟨fun x h => by simp only [R] at h ⊢; exact h, fun xs h => by simp only [RL] at h⟩
  | rsl st es k get ih =>
    intro n _
    exact ⟨fun x h => by simp only [R] at h ⊢; exact h, fun xs h => by simp only [RL] at h⟩
  | nil => intro n _; exact ⟨fun x h => by simp only [R] at h, fun xs h => by simp only [RL] at h ⊢; exact h⟩
  | junk => intro n _; exact ⟨fun x h => by simp only [R], fun xs h => by simp only [RL] at h⟩
  | _ => intro n _; exact ⟨fun x h => by simp only [R] at h ⊢; exact h, fun xs h => by simp only [RL] at h⟩


/-! ### Trees without loops -/
theorem Tree.pick {α : Type} {P : Program} : ∀ (T : Tree α) {Q : α → Prop}, T.flat = true → T.holds P Q → ∃ r, T.holds P (fun x => x = r) ∧ Q r := by
  intro T
  induction T with
  | leaf a => exact fun _ h => ⟨a, rfl, h⟩
  | stuck => exact fun _ h => h.elim
  | node b t f iht ihf =>
    intro Q hf h
    simp only [Tree.flat, Bool.and_eq_true] at hf
    cases b with
    | true => obtain ⟨r, h1, h2⟩ := iht hf.1 (h.1 rfl); exact ⟨r, ⟨fun _ => h1, fun h => by cases h⟩, h2⟩
    | false => obtain ⟨r, h1, h2⟩ := ihf hf.2 (h.2 rfl); exact ⟨r, ⟨(fun h => by cases h), fun _ => h1⟩, h2⟩
  | need p t ih => intro Q hf h; obtain ⟨r, h1, h2⟩ := ih hf h.2; exact ⟨r, ⟨h.1, h1⟩, h2⟩
  | all σ t _ => intro Q hf; cases hf
  | given p t _ => intro Q hf; cases hf
  | both t f _ _ => intro Q hf; cases hf

/-! ### The edges -/
theorem bfOf_bit (after : Array Edge) (acc : List Nat) (e : Nat) (h : (bfOf after acc).testBit e = true) :
    ∃ ed ∈ after.toList, Region.binds .any ed = true ∧ (e = ed.on ∨ (acc.getD ed.on 0).testBit e = true) := by
  have key : ∀ (l : List Edge) (s : Nat), (l.foldl (fun s e => if Region.binds .any e then s ||| 2 ^ e.on ||| acc.getD e.on 0 else s) s).testBit e = true →
      s.testBit e = true ∨ ∃ ed ∈ l, Region.binds .any ed = true ∧ (e = ed.on ∨ (acc.getD ed.on 0).testBit e = true) := by
    intro l
    induction l with
    | nil => exact fun s h => .inl h
    | cons ed l ih =>
      intro s h
      simp only [List.foldl_cons] at h
      rcases ih _ h with h1 | ⟨ed', h1, h2⟩
      · split at h1
        · rename_i hb
          simp only [Nat.testBit_or, Bool.or_eq_true] at h1
          rcases h1 with (h1 | h1) | h1
          · exact .inl h1
          · rw [Nat.testBit_two_pow] at h1
            exact .inr ⟨ed, by simp, hb, .inl (of_decide_eq_true h1).symm⟩
          · exact .inr ⟨ed, by simp, hb, .inr h1⟩
        · exact .inl h1
      · exact .inr ⟨ed', List.mem_cons_of_mem _ h1, h2⟩
  rcases key _ _ h with h | h
  · simp at h
  · exact h
theorem bfs_spec (ops : List Oper) : ∀ (l : List Oper) (acc : List Nat), acc.length + l.length = ops.length → (∀ i, l[i]? = ops[acc.length + i]?) →
    (∀ i, i < acc.length → ∀ o, ops[i]? = some o → ∀ e, (acc.getD i 0).testBit e = true → ∃ ed ∈ o.after.toList, Region.binds .any ed = true ∧ (e = ed.on ∨ (acc.getD ed.on 0).testBit e = true)) →
    ∀ i o, ops[i]? = some o → ∀ e, ((bfs l acc).getD i 0).testBit e = true → ∃ ed ∈ o.after.toList, Region.binds .any ed = true ∧ (e = ed.on ∨ ((bfs l acc).getD ed.on 0).testBit e = true) := by
  intro l
  induction l with
  | nil =>
    intro acc hl _ h i o ho e he
    have hi : i < acc.length := by
      rcases Nat.lt_or_ge i ops.length with h' | h'
      · simp at hl; omega
      · rw [List.getElem?_eq_none h'] at ho; cases ho
    exact h i hi o ho e he
  | cons o rest ih =>
    intro acc hl hget h
    simp only [bfs, forceNat_eq]
    have grow : ∀ k e, (acc.getD k 0).testBit e = true → ((acc ++ [bfOf o.after acc]).getD k 0).testBit e = true := by
      intro k e he
      by_cases hk : k < acc.length
      · rw [List.getD_eq_getElem?_getD, List.getElem?_append_left hk, ← List.getD_eq_getElem?_getD]; exact he
      · rw [List.getD_eq_getElem?_getD, List.getElem?_eq_none (by omega)] at he; simp at he
    refine ih (acc ++ [bfOf o.after acc]) (by simp at hl ⊢; omega) (fun i => ?_) (fun i hi o' ho' e he => ?_)
    · have := hget (i + 1)
      simp only [List.getElem?_cons_succ, List.length_append, List.length_cons, List.length_nil] at this ⊢
      rw [this]
      congr 1
      omega
    · by_cases hlt : i < acc.length
      · rw [List.getD_eq_getElem?_getD, List.getElem?_append_left hlt, ← List.getD_eq_getElem?_getD] at he
        obtain ⟨ed, h1, h2, h3⟩ := h i hlt o' ho' e he
        exact ⟨ed, h1, h2, h3.imp id (grow _ _)⟩
      · have hie : i = acc.length := by simp at hi; omega
        subst hie
        have h0 := hget 0
        simp only [List.getElem?_cons_zero, Nat.add_zero] at h0
        rw [← h0] at ho'
        injection ho' with ho'
        subst ho'
        rw [List.getD_eq_getElem?_getD, List.getElem?_append_right (Nat.le_refl _)] at he
        simp only [Nat.sub_self, List.getElem?_cons_zero, Option.getD_some] at he
        obtain ⟨ed, h1, h2, h3⟩ := bfOf_bit _ _ _ he
        exact ⟨ed, h1, h2, h3.imp id (grow _ _)⟩

/-! ### One operation of such a region -/
/-- What is known is so. -/
def KnOk {B : Base} (s : St B) (kn : List (Nat × Bool)) : Prop := ∀ p ∈ kn, s.tmp p.1 = .bool false p.2
def StepD (E : Env) (call : CallF) (ops : Array Oper) (nb nm : Nat) (o : Oper) {B : Base} (s s' : St B) (f : Ft) : Prop :=
  (∃ (r : V × Option (Nat × Blk)) (kn : List (Nat × Bool)), truth ops s.tmp o = some true ∧ KnOk s kn ∧ (∀ p ∈ kn, p.1 ∈ looks ops o) ∧ (evD E call s nb ops.size nm kn o.op).flat = true ∧
    ((evD E call s nb ops.size nm kn o.op).holds E.P fun x => x = r) ∧ dstOk s.N o = true ∧ s' = (s.wr r.2).put o.dst r.1 ∧ f = foot s nm o.op) ∨
  (∃ (r : V × PT Blk × Nat), truth ops s.tmp o = some true ∧ isBig o.op = true ∧ ((evOp E call s.sub o.op).holds E.P fun x => x = r) ∧ dstOk s.N o = true ∧ quietR s.n r = true ∧ s' = s.put o.dst r.1 ∧ f = quietFt) ∨
  (∃ (r : V × PT Blk × Nat), truth ops s.tmp o = some true ∧ isBig o.op = true ∧ ((evOp E call s.sub o.op).holds E.P fun x => x = r) ∧ dstOk s.N o = true ∧ s' = ({ s with h := s.h.over r.2.1, n := r.2.2 } : St B).put o.dst r.1 ∧ f = bigFt r.2.1) ∨
  (truth ops s.tmp o = some false ∧ dstOk s.N o = true ∧ s' = s.put o.dst .undef ∧ f = noFt)
theorem clash_none (nb sz : Nat) (a : Ft) : clash nb sz a noFt = false := by
  obtain ⟨m, l, q, w⟩ := a
  cases m with
  | none => cases l <;> rfl
  | some x => obtain ⟨w, c⟩ := x; cases c <;> cases l <;> rfl

theorem St.wr_N {B : Base} (s : St B) (x : Option (Nat × Blk)) : (s.wr x).N = s.N := by cases x <;> rfl
theorem St.wr_n {B : Base} (s : St B) (x : Option (Nat × Blk)) : (s.wr x).n = s.n := by cases x <;> rfl
theorem St.wr_t {B : Base} (s : St B) (x : Option (Nat × Blk)) : (s.wr x).t = s.t := by cases x <;> rfl
theorem St.put_N {B : Base} (s : St B) (d : Option Tmp) (v : V) : (s.put d v).N = s.N := by cases d <;> rfl
theorem St.put_n {B : Base} (s : St B) (d : Option Tmp) (v : V) : (s.put d v).n = s.n := by cases d <;> rfl
theorem St.put_h {B : Base} (s : St B) (d : Option Tmp) (v : V) : (s.put d v).h = s.h := by cases d <;> rfl

/-- All leaves of a tree are of a kind. -/
def Tree.All {α : Type} (p : α → Prop) : Tree α → Prop
  | .leaf a => p a
  | .stuck => True
  | .node _ t f => t.All p ∧ f.All p
  | .need _ t => t.All p
  | .all _ t => ∀ x, (t x).All p
  | .given _ t => t.All p
  | .both t f => t.All p ∧ f.All p
theorem Tree.All_bind {α β : Type} {p : β → Prop} {k : α → Tree β} (h : ∀ a, (k a).All p) : ∀ T : Tree α, (T.bind k).All p := by
  intro T
  induction T with
  | leaf a => exact h a
  | stuck => trivial
  | node b t f iht ihf => exact ⟨iht, ihf⟩
  | need q t ih => exact ih
  | all σ t ih => exact fun x => ih x
  | given p t ih => exact ih
  | both t f iht ihf => exact ⟨iht, ihf⟩
theorem Tree.All_bindA {α β : Type} {p : β → Prop} {q : α → Prop} {k : α → Tree β} (h : ∀ a, q a → (k a).All p) : ∀ T : Tree α, T.All q → (T.bind k).All p := by
  intro T
  induction T with
  | leaf a => exact h a
  | stuck => exact fun _ => trivial
  | node b t f iht ihf => exact fun hT => ⟨iht hT.1, ihf hT.2⟩
  | need q t ih => exact ih
  | all σ t ih => exact fun hT x => ih x (hT x)
  | given p t ih => exact ih
  | both t f iht ihf => exact fun hT => ⟨iht hT.1, ihf hT.2⟩
theorem withNeed_All {α : Type} {q : α → Prop} {p : Option Prop} {T : Tree α} (h : T.All q) : (withNeed p T).All q := by
  cases p <;> exact h
theorem Tree.All_holds {α : Type} {P : Program} {p : α → Prop} : ∀ (T : Tree α) {Q : α → Prop}, T.flat = true → T.All p → T.holds P Q → ∃ r, p r ∧ Q r := by
  intro T Q hf ha h
  induction T with
  | leaf a => exact ⟨a, ha, h⟩
  | stuck => exact h.elim
  | node b t f iht ihf =>
    simp only [Tree.flat, Bool.and_eq_true] at hf
    cases b with
    | true => exact iht hf.1 ha.1 (h.1 rfl)
    | false => exact ihf hf.2 ha.2 (h.2 rfl)
  | need q t ih => exact ih hf ha h.2
  | all σ t _ => cases hf
  | given p t _ => cases hf
  | both t f _ _ => cases hf
theorem evMapPut_mp {P : Program} {h : Nat → Blk} {t : TypeId} {x k : V} {y : Bool × V} {bb : Nat × Blk} (hp : evMapPut P h t x k y = some bb) : x = .mp bb.1 := by
  unfold evMapPut at hp
  split at hp
  case h_2 => cases hp
  split at hp
  case h_2 => cases hp
  split at hp
  case h_2 => cases hp
  split at hp
  case h_2 => cases hp
  split at hp
  case h_2 => cases hp
  injection hp with hp
  rw [← hp]
theorem evMapPut_congr {P : Program} {h h' : Nat → Blk} {t : TypeId} {x k : V} {y : Bool × V} (hb : ∀ b, x = .mp b → h b = h' b) : evMapPut P h t x k y = evMapPut P h' t x k y := by
  unfold evMapPut
  cases x <;> try rfl
  dsimp only
  rw [hb _ rfl]
theorem evLookup_congr {P : Program} {h h' : Nat → Blk} {t : TypeId} {x ix : V} {ok : Bool} (hb : ∀ b, x = .mp b → h b = h' b) : evLookup P h t x ix ok = evLookup P h' t x ix ok := by
  unfold evLookup
  cases x <;> try rfl
  dsimp only
  rw [hb _ rfl]
theorem evNew_All {B : Base} {s : St B} {nm : Nat} {blk : Blk} {v : V} {p : V × Option (Nat × Blk) → Prop} (h1 : ∀ v blk, p (v, some (nm, blk))) : (evNew s nm blk v).All p := by
  unfold evNew
  cases s.blk nm <;> first | trivial | exact h1 _ _
theorem layR0_All {B : Base} {s : St B} {nm : Nat} {rl : Bool} {r : V × PT Blk × Nat} {p : V × Option (Nat × Blk) → Prop} (h0 : ∀ v, p (v, none)) (h1 : ∀ v blk, p (v, some (nm, blk))) : (layR0 s nm rl r).All p := by
  unfold layR0
  cases (r.1.clean && (!rl || r.1.rowless))
  · simp only [cond_false]
    cases r.1 <;> try trivial
    rename_i st b es i n
    dsimp only
    cases look (fun _ => Blk.none) r.2.1 b <;> try trivial
    · rename_i cs
      dsimp only
      cases (cs.clean && (!rl || cs.rowless))
      · trivial
      · exact evNew_All h1
    · rename_i es' k get
      dsimp only
      cases rl
      · exact evNew_All h1
      · cases st
        · exact evNew_All h1
        · dsimp only
          cases allN k (fun j => (get j).rowless)
          · trivial
          · exact evNew_All h1
  · exact h0 _
theorem layR_All {B : Base} {s : St B} {nm : Nat} {rl : Bool} {r : V × PT Blk × Nat} {p : V × Option (Nat × Blk) → Prop} (h0 : ∀ v, p (v, none)) (h1 : ∀ v blk, p (v, some (nm, blk))) : (layR s nm rl r).All p := by
  obtain ⟨v, h', n'⟩ := r
  unfold layR
  dsimp only
  split
  · exact Tree.All_bindA (p := p) (q := fun (r : V × Option (Nat × Blk)) => ∀ u, p (u, r.2)) (k := fun x => .leaf (.agg (.cons x.1 .nil), x.2)) (fun a ha => by show p (_, a.2); exact ha _) _ (layR0_All (fun v u => h0 u) (fun v blk u => h1 u blk))
  · exact layR0_All h0 h1
theorem evSeen_All {E : Env} {call : CallF} {B : Base} {s : St B} {nm : Nat} {g : FuncId} {fa : V} {p : V × Option (Nat × Blk) → Prop} (h0 : ∀ v, p (v, none)) (h1 : ∀ v blk, p (v, some (nm, blk))) : (evSeen E call s nm g fa).All p := by
  unfold evSeen
  cases E.Γ g fa with
  | none => exact Tree.All_bind (fun r => layR_All h0 h1) _
  | some a =>
    cases a with
    | sure v => dsimp only; cases (v.clean && v.rowless); exact trivial; exact h0 _
    | where_ q v => dsimp only; cases (v.clean && v.rowless); exact trivial; exact h0 _
    | fork b v v' => exact trivial
/-- What an operation writes is what its footprint says. -/
theorem evD_All {E : Env} {call : CallF} {B : Base} {s : St B} {nb sz nm : Nat} {kn : List (Nat × Bool)} {o : Op} : (evD E call s nb sz nm kn o).All fun r => r.2 = none ∨ ∃ b blk, r.2 = some (b, blk) ∧ ((foot s nm o).m = some (true, some b) ∨ (foot s nm o).l = some b) := by
  have quiet : ∀ (o : Op), (evDQ E call s nb sz nm kn o).All fun r => r.2 = none ∨ ∃ b blk, r.2 = some (b, blk) ∧ ((foot s nm o).m = some (true, some b) ∨ (foot s nm o).l = some b) := by
    intro o
    unfold evDQ
    cases evQ E (opndK s kn) s.blk o with
    | none =>
      dsimp only
      unfold evVal
      cases o <;> try trivial
      rename_i c
      dsimp only
      cases hcal : c.callee <;> try trivial
      rename_i f
      have hl : (foot s nm (.call c)).l = some nm := by simp only [foot, hcal]
      generalize (ftBlk (foot s nm (.call c)).m (seen nb sz s.blk)) = hh
      dsimp only
      cases callee (opndK s kn f) (.ofList (c.args.toList.map (opndK s kn))) with
      | none => trivial
      | some r =>
        dsimp only
        cases r.2.clean
        · simp only [cond_false]
          cases (freeze hh r.2).clean
          · simp only [cond_false]
            cases (fz hh 6 r.2).clean
            · trivial
            · exact evSeen_All (fun v => .inl rfl) (fun v blk => .inr ⟨_, _, rfl, .inr hl⟩)
          · exact withNeed_All (evSeen_All (fun v => .inl rfl) (fun v blk => .inr ⟨_, _, rfl, .inr hl⟩))
        · exact Tree.All_bind (fun a => layR_All (fun v => .inl rfl) (fun v blk => .inr ⟨_, _, rfl, .inr hl⟩)) _
    | some T => refine Tree.All_bind ?_ T; intro a; exact Or.inl rfl
  have new : ∀ (cs : Blk) (v : V) {o : Op}, (foot s nm o).l = some nm → (evNew s nm cs v).All fun r => r.2 = none ∨ ∃ b blk, r.2 = some (b, blk) ∧ ((foot s nm o).m = some (true, some b) ∨ (foot s nm o).l = some b) := by
    intro cs v o hf
    exact evNew_All fun v blk => Or.inr ⟨_, _, rfl, .inr hf⟩
  cases o with
  | store t a x =>
    simp only [evD, evStoreD]
    cases tySize E.P t with
    | none => trivial
    | some z =>
      dsimp only
      cases (Nat.beq (opndK s kn x).cells.len z && ((opndK s kn x).cells.allCell && (opndK s kn x).solid))
      · trivial
      · simp only [cond_true, foot]
        cases opnd s a <;> try trivial
        refine Tree.All_bind ?_ _
        intro blk
        exact Or.inr ⟨_, _, rfl, .inl rfl⟩
  | load t a => simp only [evD]; refine Tree.All_bind ?_ _; intro v; exact Or.inl rfl
  | alloc t =>
    simp only [evD]
    cases tyZero E.P t with
    | none => trivial
    | some cs => exact new _ _ rfl
  | box t x =>
    simp only [evD]
    cases (opndK s kn x).solid
    · trivial
    · exact new _ _ rfl
  | buildSlice t len ps =>
    simp only [evD]
    cases evBuildRow E.P t len (ps.toList.map fun p => (p.1, opndK s kn p.2)) with
    | none => trivial
    | some zc => exact new _ _ rfl
  | makeSlice t len cap =>
    simp only [evD]
    cases evMakeLit E.P t (opndK s kn len) (opndK s kn cap) with
    | none => trivial
    | some zc => exact new _ _ rfl
  | makeMap t r =>
    simp only [evD]
    cases evMakeMap E.P t (r.map (opndK s kn)) with
    | none => trivial
    | some blk => exact new _ _ rfl
  | mapUpdate t mx k x =>
    simp only [evD]
    cases hz : evMapPut E.P s.blk t (opnd s mx) (opndK s kn k) (true, opndK s kn x) with
    | none => trivial
    | some bb => exact Or.inr ⟨_, _, rfl, .inl (by simp only [foot]; rw [evMapPut_mp hz])⟩
  | insert t mx k x =>
    simp only [evD]
    cases hz : evMapPut E.P s.blk t (opnd s mx) (opndK s kn k) (true, opndK s kn x) with
    | none => trivial
    | some bb => exact Or.inr ⟨_, _, rfl, .inl (by simp only [foot]; rw [evMapPut_mp hz])⟩
  | _ => exact quiet _

/-! ### The road through the text's order -/
structure Path (E : Env) (call : CallF) (ops : Array Oper) (bf : List Nat) (nb : Nat) {B : Base} (S : Nat → St B) (fp : Nat → Ft) : Prop where
  step : ∀ i o, ops[i]? = some o → StepD E call ops nb (nb + i) o (S i) (S (i + 1)) (fp i)
  cl : ∀ i j, i < j → j < ops.size → clashX ops bf nb i j (fp i) (fp j) = true → (bf.getD j 0).testBit i = true

def Road (E : Env) (call : CallF) (ops : Array Oper) (bf : List Nat) (nb : Nat) (l : List Oper) (j : Nat) (fps : List (Nat × Ft)) {B : Base} (s : St B) (Q : St B → Prop) : Prop :=
  ∃ (S : Nat → St B) (fp : Nat → Ft), S j = s ∧ Q (S (j + l.length)) ∧
      (∀ i o, l[i]? = some o → StepD E call ops nb (nb + (j + i)) o (S (j + i)) (S (j + i + 1)) (fp (j + i))) ∧
      (∀ i, i < l.length → ∀ p ∈ fps, clashX ops bf nb p.1 (j + i) p.2 (fp (j + i)) = true → (bf.getD (j + i) 0).testBit p.1 = true) ∧
      (∀ i k, i < k → k < l.length → clashX ops bf nb (j + i) (j + k) (fp (j + i)) (fp (j + k)) = true → (bf.getD (j + k) 0).testBit (j + i) = true)
/-- What is known stays known. -/
theorem kn_put' {o : Oper} {B : Base} {s s2 : St B} {kn : List (Nat × Bool)} (h : KnOk s kn) (v : V) (ht : s2.t = s.t) : KnOk (s2.put o.dst v) (knCut o kn) := by
  intro p hp
  unfold knCut at hp
  cases hd : o.dst with
  | none => rw [hd] at hp; simp only [St.put, St.tmp, ht]; exact h p hp
  | some d =>
    rw [hd] at hp
    simp only [List.mem_filter, Bool.not_eq_true'] at hp
    have hne : p.1 ≠ d := fun e => by rw [e] at hp; simp at hp
    simp only [St.put, St.tmp, ht]
    rw [look_set_ne _ _ _ hne]
    exact h p hp.1
theorem refine_ok {B : Base} {s : St B} {kn : List (Nat × Bool)} (h : KnOk s kn) (t : Nat) : refine kn t (s.tmp t) = s.tmp t ∨ ∃ c, refine kn t (s.tmp t) = .bool true c ∧ s.tmp t = .bool false c := by
  induction kn with
  | nil => exact .inl rfl
  | cons p kn ih =>
    obtain ⟨d, c⟩ := p
    simp only [refine]
    cases he : Nat.beq d t
    · exact ih fun p hp => h p (List.mem_cons_of_mem _ hp)
    · obtain rfl := Nat.eq_of_beq_eq_true he
      exact .inr ⟨c, rfl, h (d, c) (by simp)⟩
theorem kn_put {o : Oper} {B : Base} {s : St B} {kn : List (Nat × Bool)} (h : KnOk s kn) (v : V) (x : Option (Nat × Blk)) : KnOk ((s.wr x).put o.dst v) (knCut o kn) := kn_put' h v (by cases x <;> rfl)
/-- Whether an operation is wanted is the same, whatever is known. -/
theorem truth_kn {ops : Array Oper} {B : Base} {s : St B} {kn : List (Nat × Bool)} (h : KnOk s kn) {o : Oper} {r : Bool} (ht : truth ops (fun t => refine kn t (s.tmp t)) o = some r) : truth ops s.tmp o = some r := by
  unfold truth at ht ⊢
  cases hg : o.guard with
  | none => rw [hg] at ht; exact ht
  | some gw =>
    obtain ⟨j, want⟩ := gw
    rw [hg] at ht
    dsimp only at ht ⊢
    cases hj : ops[j]? with
    | none => rw [hj] at ht; exact ht
    | some p =>
      rw [hj] at ht
      dsimp only at ht ⊢
      cases hd : p.dst with
      | none => rw [hd] at ht; exact ht
      | some d =>
        rw [hd] at ht
        dsimp only at ht ⊢
        rcases refine_ok h d with h1 | ⟨c, h1, h2⟩
        · rw [h1] at ht; exact ht
        · rw [h1] at ht; rw [h2]; exact ht
theorem knOf_ok {ops : Array Oper} {o : Oper} {B : Base} {s : St B} {kn : List (Nat × Bool)} (h : KnOk s kn) : KnOk s (knOf ops o kn) ∧ ∀ p ∈ knOf ops o kn, p.1 ∈ looks ops o := by
  refine ⟨fun p hp => h p (List.mem_filter.1 hp).1, fun p hp => ?_⟩
  have := (List.mem_filter.1 hp).2
  simpa using this

theorem path_of {E : Env} {call : CallF} {ops : Array Oper} {bf : List Nat} {nb : Nat} {B : Base} : ∀ (l : List Oper) (j : Nat) (fps : List (Nat × Ft)) (kn : List (Nat × Bool)) (s : St B) (Q : St B → Prop),
    KnOk s kn → (evOpsD E call ops bf nb l j fps kn s).holds E.P Q → Road E call ops bf nb l j fps s Q := by
  intro l
  induction l with
  | nil => intro j fps kn s Q _ h; exact ⟨fun _ => s, fun _ => noFt, rfl, h, by simp, by simp, by simp⟩
  | cons o rest ih =>
    intro j fps kn s Q hkn h
    -- what follows, once the first step is known
    have glue : ∀ (kn : List (Nat × Bool)) (s' : St B) (fp0 : Ft), KnOk s' kn → StepD E call ops nb (nb + j) o s s' fp0 → (∀ p ∈ fps, clashX ops bf nb p.1 j p.2 fp0 = true → (bf.getD j 0).testBit p.1 = true) →
        (evOpsD E call ops bf nb rest (j + 1) ((j, fp0) :: fps) kn s').holds E.P Q → Road E call ops bf nb (o :: rest) j fps s Q := by
      intro kn s' fp0 hkn' hstep hcl hrest
      obtain ⟨S, fp, h0, h1, h2, h3, h4⟩ := ih (j + 1) ((j, fp0) :: fps) kn s' Q hkn' hrest
      refine ⟨fun i => if i = j then s else S i, fun i => if i = j then fp0 else fp i, by simp, ?_, ?_, ?_, ?_⟩
      · simp only [List.length_cons]
        rw [if_neg (by omega)]
        rw [show j + (rest.length + 1) = j + 1 + rest.length by omega]
        exact h1
      · intro i o' ho'
        cases i with
        | zero =>
          simp only [List.getElem?_cons_zero, Option.some.injEq] at ho'
          subst ho'
          simp only [Nat.add_zero, if_true]
          rw [if_neg (by omega), h0]
          exact hstep
        | succ i =>
          simp only [List.getElem?_cons_succ] at ho'
          have := h2 i o' ho'
          dsimp only
          simp only [if_neg (show ¬ j + (i + 1) = j by omega), if_neg (show ¬ j + (i + 1) + 1 = j by omega)]
          rw [show j + (i + 1) = j + 1 + i by omega]
          exact this
      · intro i hi p hp hc
        cases i with
        | zero => simp only [Nat.add_zero, if_true] at hc ⊢; exact hcl p hp hc
        | succ i =>
          dsimp only at hc
          simp only [if_neg (show ¬ j + (i + 1) = j by omega)] at hc
          rw [show j + (i + 1) = j + 1 + i by omega] at hc ⊢
          exact h3 i (by simpa using hi) p (List.mem_cons_of_mem _ hp) hc
      · intro i k hik hk hc
        cases i with
        | zero =>
          obtain ⟨k', rfl⟩ : ∃ k', k = k' + 1 := ⟨k - 1, by omega⟩
          simp only [Nat.add_zero, if_true] at hc
          simp only [if_neg (show ¬ j + (k' + 1) = j by omega)] at hc
          rw [show j + (k' + 1) = j + 1 + k' by omega] at hc ⊢
          exact h3 k' (by simpa using hk) (j, fp0) (by simp) hc
        | succ i =>
          obtain ⟨k', rfl⟩ : ∃ k', k = k' + 1 := ⟨k - 1, by omega⟩
          simp only [if_neg (show ¬ j + (i + 1) = j by omega), if_neg (show ¬ j + (k' + 1) = j by omega)] at hc
          rw [show j + (i + 1) = j + 1 + i by omega, show j + (k' + 1) = j + 1 + k' by omega] at hc ⊢
          exact h4 i k' (by omega) (by simpa using hk) hc
    have small : ∀ (kn : List (Nat × Bool)), KnOk s kn → truth ops s.tmp o = some true → (bif freeOf ops bf nb j fps (foot s (nb + j) o.op) && ((evD E call s nb ops.size (nb + j) (knOf ops o kn) o.op).flat && dstOk s.N o) then
          (evD E call s nb ops.size (nb + j) (knOf ops o kn) o.op).bind fun r => evOpsD E call ops bf nb rest (j + 1) ((j, foot s (nb + j) o.op) :: fps) (knCut o kn) ((s.wr r.2).put o.dst r.1)
        else .stuck).holds E.P Q → Road E call ops bf nb (o :: rest) j fps s Q := by
      intro kn hkn hw hq
      cases hall : freeOf ops bf nb j fps (foot s (nb + j) o.op)
      · rw [hall] at hq; exact hq.elim
      · cases hfl : (evD E call s nb ops.size (nb + j) (knOf ops o kn) o.op).flat
        · rw [hall, hfl] at hq; exact hq.elim
        · cases hd : dstOk s.N o
          · rw [hall, hfl, hd] at hq; exact hq.elim
          · rw [hall, hfl, hd] at hq
            simp only [Bool.and_self, cond_true] at hq
            rw [Tree.holds_bind] at hq
            obtain ⟨r, hr1, hr2⟩ := Tree.pick _ hfl hq
            refine glue _ _ (foot s (nb + j) o.op) (kn_put hkn r.1 r.2) (.inl ⟨r, knOf ops o kn, hw, (knOf_ok hkn).1, (knOf_ok hkn).2, hfl, hr1, hd, rfl, rfl⟩) (fun p hp hc => ?_) hr2
            have := List.all_eq_true.1 hall p hp
            simpa [hc] using this
    have go : ∀ (kn : List (Nat × Bool)), KnOk s kn → truth ops s.tmp o = some true → (bif isBig o.op && ((!argsClean s o.op || (evD E call s nb ops.size (nb + j) (knOf ops o kn) o.op).isStuck) && (!(evOp E call s.sub o.op).isStuck && ((evOp E call s.sub o.op).flat && dstOk s.N o))) then
        (evOp E call s.sub o.op).bind fun r =>
          bif quietR s.n r && freeOf ops bf nb j fps quietFt then evOpsD E call ops bf nb rest (j + 1) ((j, quietFt) :: fps) (knCut o kn) (s.put o.dst r.1)
          else bif bigAt ops bf j o && freeOf ops bf nb j fps (bigFt r.2.1) then evOpsD E call ops bf nb rest (j + 1) ((j, bigFt r.2.1) :: fps) (knCut o kn) (({ s with h := s.h.over r.2.1, n := r.2.2 } : St B).put o.dst r.1)
          else (bif freeOf ops bf nb j fps (foot s (nb + j) o.op) && ((evD E call s nb ops.size (nb + j) (knOf ops o kn) o.op).flat && dstOk s.N o) then
            (evD E call s nb ops.size (nb + j) (knOf ops o kn) o.op).bind fun r => evOpsD E call ops bf nb rest (j + 1) ((j, foot s (nb + j) o.op) :: fps) (knCut o kn) ((s.wr r.2).put o.dst r.1)
          else .stuck)
        else (bif freeOf ops bf nb j fps (foot s (nb + j) o.op) && ((evD E call s nb ops.size (nb + j) (knOf ops o kn) o.op).flat && dstOk s.N o) then
            (evD E call s nb ops.size (nb + j) (knOf ops o kn) o.op).bind fun r => evOpsD E call ops bf nb rest (j + 1) ((j, foot s (nb + j) o.op) :: fps) (knCut o kn) ((s.wr r.2).put o.dst r.1)
          else .stuck)).holds E.P Q → Road E call ops bf nb (o :: rest) j fps s Q := by
      intro kn hkn hw hq
      cases hcond : (isBig o.op && ((!argsClean s o.op || (evD E call s nb ops.size (nb + j) (knOf ops o kn) o.op).isStuck) && (!(evOp E call s.sub o.op).isStuck && ((evOp E call s.sub o.op).flat && dstOk s.N o))))
      · rw [hcond] at hq
        exact small kn hkn hw hq
      · rw [hcond] at hq
        simp only [cond_true] at hq
        simp only [Bool.and_eq_true] at hcond
        obtain ⟨hib, _, _, hfl, hd⟩ := hcond
        rw [Tree.holds_bind] at hq
        obtain ⟨r, hr1, hr2⟩ := Tree.pick _ hfl hq
        cases hqu : quietR s.n r && freeOf ops bf nb j fps quietFt
        · rw [hqu] at hr2
          simp only [cond_false] at hr2
          cases hbg : bigAt ops bf j o && freeOf ops bf nb j fps (bigFt r.2.1)
          · rw [hbg] at hr2
            exact small kn hkn hw hr2
          · rw [hbg] at hr2
            simp only [cond_true] at hr2
            simp only [Bool.and_eq_true] at hbg
            refine glue (knCut o kn) (({ s with h := s.h.over r.2.1, n := r.2.2 } : St B).put o.dst r.1) (bigFt r.2.1) (kn_put' (s2 := { s with h := s.h.over r.2.1, n := r.2.2 }) hkn r.1 rfl) (.inr (.inr (.inl ⟨r, hw, hib, hr1, hd, rfl, rfl⟩))) (fun p hp hc => ?_) hr2
            have := List.all_eq_true.1 hbg.2 p hp
            simpa [hc] using this
        · rw [hqu] at hr2
          simp only [cond_true] at hr2
          simp only [Bool.and_eq_true] at hqu
          refine glue (knCut o kn) (s.put o.dst r.1) quietFt (kn_put' hkn r.1 rfl) (.inr (.inl ⟨r, hw, hib, hr1, hd, hqu.1, rfl, rfl⟩)) (fun p hp hc => ?_) hr2
          have := List.all_eq_true.1 hqu.2 p hp
          simpa [hc] using this
    have no : ∀ (kn : List (Nat × Bool)), KnOk s kn → truth ops s.tmp o = some false → (bif dstOk s.N o then evOpsD E call ops bf nb rest (j + 1) ((j, noFt) :: fps) (knCut o kn) (s.put o.dst .undef) else .stuck).holds E.P Q →
        Road E call ops bf nb (o :: rest) j fps s Q := by
      intro kn hkn hw hq
      cases hd : dstOk s.N o
      · rw [hd] at hq; exact hq.elim
      · rw [hd] at hq
        exact glue _ _ noFt (kn_put hkn .undef none) (.inr (.inr (.inr ⟨hw, hd, rfl, rfl⟩))) (fun p _ hc => by unfold clashX at hc; rw [clash_none] at hc; cases hc) hq
    unfold evOpsD at h
    dsimp only at h
    have ht := truth_of (ops := ops) (val := fun t => refine kn t (s.tmp t)) (o := o)
    cases hg : guardOf ops (fun t => refine kn t (s.tmp t)) o with
    | bad => rw [hg] at h; exact h.elim
    | yes => rw [hg] at h ht; exact go kn hkn (truth_kn hkn ht) h
    | no => rw [hg] at h ht; exact no kn hkn (truth_kn hkn ht) h
    | dyn d b want =>
      rw [hg] at h ht
      obtain ⟨ht, hval⟩ := ht
      have ht := truth_kn hkn ht
      have hd : s.tmp d = .bool false b := by
        rcases refine_ok hkn d with h1 | ⟨c, h1, _⟩
        · rw [← h1]; exact hval
        · rw [h1] at hval; cases hval
      have hkn' : KnOk s ((d, b) :: kn) := by
        intro p hp
        cases hp with
        | head => exact hd
        | tail _ hp => exact hkn p hp
      cases want with
      | true =>
        cases b with
        | true => exact go _ hkn' ht (h.1 rfl)
        | false => exact no _ hkn' ht (h.2 rfl)
      | false =>
        cases b with
        | true => exact no _ hkn' ht (h.1 rfl)
        | false => exact go _ hkn' ht (h.2 rfl)

/-! ### Every order comes to where the text's order comes -/
theorem truth_congr {ops : Array Oper} {B : Base} {s s' : St B} {o : Oper} (h : ∀ t ∈ looks ops o, s.tmp t = s'.tmp t) : truth ops s.tmp o = truth ops s'.tmp o := by
  unfold truth
  cases hg : o.guard with
  | none => rfl
  | some gw =>
    obtain ⟨j, want⟩ := gw
    dsimp only
    cases hj : ops[j]? with
    | none => rfl
    | some p =>
      dsimp only
      cases hd : p.dst with
      | none => rfl
      | some d =>
        dsimp only
        rw [h d (by simp [looks, hg, hj, hd])]
theorem opnd_congr {B : Base} {s s' : St B} : ∀ {x : Operand}, (∀ t, x = .tmp t → s.tmp t = s'.tmp t) → opnd s x = opnd s' x
  | .tmp t, h => h t rfl
  | .const _, _ => rfl
  | .global _, _ => rfl
  | .func _, _ => rfl
theorem opndK_congr {B : Base} {s s' : St B} {kn : List (Nat × Bool)} {x : Operand} (h : opnd s x = opnd s' x) : opndK s kn x = opndK s' kn x := by
  cases x with
  | tmp t => simp only [opndK]; rw [show s.tmp t = s'.tmp t from h]
  | _ => exact h
theorem evLoad_congr {P : Program} {h h' : Nat → Blk} {t : TypeId} {x : V} (hb : ∀ st b es i o, x = .ptr st b es i o → h b = h' b) : evLoad P h t x = evLoad P h' t x := by
  unfold evLoad
  cases x <;> try rfl
  dsimp only
  rw [hb _ _ _ _ _ rfl]
theorem evConv_congr {P : Program} {h h' : Nat → Blk} {src dst : TypeId} {x : V} (hb : ∀ st b es i k, x = .osl st b es i k → h b = h' b) : evConv P h src dst x = evConv P h' src dst x := by
  unfold evConv evText
  cases x <;> try rfl
  dsimp only
  rw [hb _ _ _ _ _ rfl]
theorem evSlice_congr {P : Program} {h h' : Nat → Blk} {t : TypeId} {x : V} {lo hi mx : Option V} (hb : ∀ st b es i o, x = .ptr st b es i o → h b = h' b) : evSlice P h t x lo hi mx = evSlice P h' t x lo hi mx := by
  unfold evSlice
  cases x <;> try rfl
  dsimp only
  rw [hb _ _ _ _ _ rfl]
theorem refine_ptr {v : V} {t : Nat} {st : Bool} {b es i o : Nat} : ∀ kn : List (Nat × Bool), refine kn t v = .ptr st b es i o → v = .ptr st b es i o := by
  intro kn
  induction kn with
  | nil => exact fun h => h
  | cons p kn ih =>
    intro h
    simp only [refine] at h
    cases hp : Nat.beq p.1 t <;> rw [hp] at h
    · exact ih h
    · cases h
theorem layR_congr {B : Base} {s s' : St B} {nm : Nat} {rl : Bool} (h : s.blk nm = s'.blk nm) : layR s nm rl = layR s' nm rl := by
  funext r
  unfold layR layR0 evNew
  rw [h]
theorem evD_congr {E : Env} {call : CallF} {B : Base} {s s' : St B} {nb sz nm : Nat} {kn : List (Nat × Bool)} {o : Op} (hx : ∀ x ∈ o.operands, opnd s x = opnd s' x) (hb0 : ∀ w c b, (foot s' nm o).m = some (w, c) → ((c = none ∧ inRes nb sz b = false) ∨ c = some b) → s.blk b = s'.blk b)
    (hl0 : ∀ b, (foot s' nm o).l = some b → s.blk b = s'.blk b) : evD E call s nb sz nm kn o = evD E call s' nb sz nm kn o := by
  have hb : ∀ w b, (foot s' nm o).m = some (w, some b) → s.blk b = s'.blk b := fun w b h => hb0 w _ b h (.inr rfl)
  have hnew : ∀ (cs : Blk) v, s.blk nm = s'.blk nm → evNew s nm cs v = evNew s' nm cs v := fun cs v h => by unfold evNew; rw [h]
  have hK : ∀ x ∈ o.operands, opndK s kn x = opndK s' kn x := fun x h => opndK_congr (hx x h)
  have lists : ∀ (l : List Operand), (∀ x ∈ l, opndK s kn x = opndK s' kn x) → l.map (opndK s kn) = l.map (opndK s' kn) := fun l h => List.map_congr_left h
  have opts : ∀ (l : Option Operand), (∀ x ∈ l.toArray, opndK s kn x = opndK s' kn x) → l.map (opndK s kn) = l.map (opndK s' kn) := fun l h => by
    cases l with
    | none => rfl
    | some x => simp only [Option.map_some, h x (by simp)]
  have parts : ∀ (ps : List (Nat × Operand)), (∀ p ∈ ps, opndK s kn p.2 = opndK s' kn p.2) → (ps.map fun p => (p.1, opndK s kn p.2)) = (ps.map fun p => (p.1, opndK s' kn p.2)) :=
    fun ps h => List.map_congr_left fun p hp => by rw [h p hp]
  cases o <;> simp only [Op.operands] at hx hK <;> simp only [evD, evDQ, evQ, evVal]
  case store t a x =>
    rw [hx a (by simp), hK x (by simp)]
    unfold evStoreD
    cases tySize E.P t with
    | none => rfl
    | some z =>
      dsimp only
      cases hc : opnd s' a <;> try rfl
      dsimp only
      rw [hb true _ (by simp only [foot, hc])]
  case load t a =>
    rw [hx a (by simp)]
    rw [evLoad_congr fun st b es i o h => hb false b (by simp only [foot, h])]
  case alloc t =>
    have h1 := hl0 nm rfl
    cases tyZero E.P t with
    | none => rfl
    | some cs => exact hnew _ _ h1
  case box t x =>
    have h1 := hl0 nm rfl
    rw [hK x (by simp), hnew _ _ h1]
  case makeSlice t len cap =>
    have h1 := hl0 nm rfl
    rw [hK len (by simp), hK cap (by simp)]
    cases evMakeLit E.P t (opndK s' kn len) (opndK s' kn cap) with
    | none => rfl
    | some zc => exact hnew _ _ h1
  case makeMap t r =>
    have h1 := hl0 nm rfl
    rw [opts r fun y h => hK y (by simp at h ⊢; simp [h])]
    cases evMakeMap E.P t (r.map (opndK s' kn)) with
    | none => rfl
    | some blk => exact hnew _ _ h1
  case mapUpdate t mx k x =>
    rw [hx mx (by simp), hK k (by simp), hK x (by simp)]
    rw [evMapPut_congr fun b h => hb true b (by simp only [foot, h])]
  case insert t mx k x =>
    rw [hx mx (by simp), hK k (by simp), hK x (by simp)]
    rw [evMapPut_congr fun b h => hb true b (by simp only [foot, h])]
  case lookup t x ix ok =>
    rw [hK x (by simp), hK ix (by simp)]
    have hc : ∀ b, opndK s' kn x = .mp b → s.blk b = s'.blk b := by
      intro b h
      refine hb false b ?_
      have h2 : opnd s' x = .mp b := by
        cases x with
        | tmp t =>
          simp only [opndK] at h
          have key : ∀ kn : List (Nat × Bool), refine kn t (s'.tmp t) = .mp b → s'.tmp t = .mp b := by
            intro kn
            induction kn with
            | nil => exact fun h => h
            | cons p kn ih =>
              intro h
              simp only [refine] at h
              cases hp : Nat.beq p.1 t <;> rw [hp] at h
              · exact ih h
              · cases h
          exact key kn h
        | _ => exact h
      simp only [foot, h2]
    rw [evLookup_congr hc]
  case convert src dst x =>
    rw [hK x (by simp)]
    have hc : ∀ st b es i k, opndK s' kn x = .osl st b es i k → s.blk b = s'.blk b := by
      intro st b es i k h
      refine hb false b ?_
      have h2 : opnd s' x = .osl st b es i k := by
        cases x with
        | tmp t =>
          simp only [opndK] at h
          have key : ∀ kn : List (Nat × Bool), refine kn t (s'.tmp t) = .osl st b es i k → s'.tmp t = .osl st b es i k := by
            intro kn
            induction kn with
            | nil => exact fun h => h
            | cons p kn ih =>
              intro h
              simp only [refine] at h
              cases hp : Nat.beq p.1 t <;> rw [hp] at h
              · exact ih h
              · cases h
          exact key kn h
        | _ => exact h
      simp only [foot, h2]
    rw [evConv_congr hc]
  case call c =>
    have hargs : c.args.toList.map (opndK s kn) = c.args.toList.map (opndK s' kn) := lists _ fun x h => hK x (by simp [Call.operands]; right; simpa using h)
    cases hcal : c.callee <;> dsimp only
    · rename_i f
      have ho : ∀ l : List Operand, (∀ x ∈ l, opnd s x = opnd s' x) → l.map (opnd s) = l.map (opnd s') := fun l h => List.map_congr_left h
      have e : foot s nm (.call c) = foot s' nm (.call c) := by
        simp only [foot, hcal]
        rw [hx f (by simp [Call.operands, hcal]), ho c.args.toList fun x h => hx x (by simp [Call.operands]; right; simpa using h)]
      have e2 : ftBlk (foot s nm (.call c)).m (seen nb sz s.blk) = ftBlk (foot s' nm (.call c)).m (seen nb sz s'.blk) := by
        rw [e]
        cases hf : (foot s' nm (.call c)).m with
        | none => rfl
        | some r =>
          obtain ⟨w, cc⟩ := r
          have hcc : cc = none := by
            simp only [foot, hcal] at hf
            cases hz : callee (opnd s' f) (.ofList (c.args.toList.map (opnd s'))) with
            | none => rw [hz] at hf; cases hf
            | some q =>
              rw [hz] at hf
              dsimp only at hf
              cases hq : q.2.clean <;> rw [hq] at hf
              · injection hf with hf; injection hf with _ hf; exact hf.symm
              · cases hf
          have hb' : ∀ w c' b, (foot s' nm (.call c)).m = some (w, c') → ((c' = none ∧ inRes nb sz b = false) ∨ c' = some b) → s.blk b = s'.blk b := hb0
          refine funext fun b => ?_
          show (bif inRes nb sz b then Blk.any else s.blk b) = (bif inRes nb sz b then Blk.any else s'.blk b)
          cases hr : inRes nb sz b
          · exact hb' w cc b hf (.inl ⟨hcc, hr⟩)
          · rfl
      have e3 : ∀ rl, layR s nm rl = layR s' nm rl := fun rl => layR_congr (hl0 nm (by simp only [foot, hcal]))
      have e4 : ∀ g fa, evSeen E call s nm g fa = evSeen E call s' nm g fa := fun g fa => by unfold evSeen; rw [e3]
      simp only [e3, e4]
      rw [hargs, hK f (by simp [Call.operands, hcal]), e2]
    · rw [hargs]
  case build t ps => rw [parts _ fun p hp => hK p.2 (by simp; exact ⟨p.1, by simpa using hp⟩)]
  case buildSlice t n ps =>
    have h1 := hl0 nm rfl
    rw [parts _ fun p hp => hK p.2 (by simp; exact ⟨p.1, by simpa using hp⟩)]
    cases evBuildRow E.P t n (ps.toList.map fun p => (p.1, opndK s' kn p.2)) with
    | none => rfl
    | some zc => exact hnew _ _ h1
  case makeFunc f first cap =>
    rw [lists first.toList fun x h => hK x (by simp; left; simpa using h), lists cap.toList fun x h => hK x (by simp; right; simpa using h)]
  case slice t x lo hi mx =>
    rw [hK x (by simp), opts lo fun y h => hK y (by simp at h ⊢; simp [h]), opts hi fun y h => hK y (by simp at h ⊢; simp [h]), opts mx fun y h => hK y (by simp at h ⊢; simp [h])]
    have hc : ∀ st b es i o, opndK s' kn x = .ptr st b es i o → s.blk b = s'.blk b := by
      intro st b es i o h
      refine hb false b ?_
      have h2 : opnd s' x = .ptr st b es i o := by
        cases x with
        | tmp t => exact refine_ptr kn h
        | _ => exact h
      simp only [foot, h2]
    rw [evSlice_congr hc]
  case pick c x y => rw [hK c (by simp), hK x (by simp), hK y (by simp)]
  all_goals first
    | rfl
    | (rename_i x _; rw [hK x (by simp)]; done)
    | (rename_i x; rw [hK x (by simp)]; done)
    | (rename_i x y; rw [hK x (by simp), hK y (by simp)]; done)
    | (rename_i x y _; rw [hK x (by simp), hK y (by simp)]; done)
end Go.Fw
namespace Go.Fw

/-- A value that a step writes stays till it is written again. -/
theorem stays {α : Type} {f : Nat → α} {W : Nat → Prop} {N : Nat} (h : ∀ i, i < N → ¬ W i → f (i + 1) = f i) : ∀ a c, a ≤ c → c ≤ N → (∀ d, a ≤ d → d < c → ¬ W d) → f c = f a := by
  intro a c
  induction c with
  | zero => intro ha _ _; have : a = 0 := by omega
            subst this; rfl
  | succ c ih =>
    intro ha hc hw
    by_cases e : a = c + 1
    · subst e; rfl
    · rw [h c (by omega) (hw c (by omega) (by omega)), ih (by omega) (by omega) (fun d h1 h2 => hw d h1 (by omega))]

/-- What may be read in whatever order: 'W': who writes a place; 'L': who has been carried out. -/
theorem reads {α : Type} {f : Nat → α} {W : Nat → Prop} {N : Nat} {L : Nat → Prop} (h : ∀ i, i < N → ¬ W i → f (i + 1) = f i) {k i : Nat} (hk : k ≤ N) (hi : i < N)
    (hL : ∀ d, d < N → W d → (L d ↔ d < k)) (hlow : ∀ d, d < i → W d → L d) (hhigh : ∀ d, i ≤ d → d < N → W d → ¬ L d) : f k = f i := by
  rcases Nat.le_total k i with hki | hki
  · exact (stays h k i hki (by omega) fun d h1 h2 hw => by have := (hL d (by omega) hw).1 (hlow d h2 hw); omega).symm
  · exact stays h i k hki hk fun d h1 h2 hw => hhigh d h1 (by omega) hw ((hL d (by omega) hw).2 h2)

theorem cnt_lt (p q : Nat → Bool) (i : Nat) : ∀ (l : List Nat), (∀ j, q j = true → p j = true) → i ∈ l → p i = true → q i = false → (l.filter q).length < (l.filter p).length := by
  have le : ∀ (l : List Nat), (∀ j, q j = true → p j = true) → (l.filter q).length ≤ (l.filter p).length := by
    intro l h
    induction l with
    | nil => simp
    | cons x l ih =>
      simp only [List.filter_cons]
      cases hq : q x
      · cases hp : p x <;> simp <;> omega
      · rw [h x hq]; simpa using ih
  intro l
  induction l with
  | nil => intro _ h; cases h
  | cons x l ih =>
    intro h hi hp hq
    simp only [List.filter_cons]
    by_cases e : x = i
    · subst e
      rw [hp, hq]
      have := le l h
      simp; omega
    · have hi' : i ∈ l := by
        cases hi with
        | head => exact absurd rfl e
        | tail _ h => exact h
      have := ih h hi' hp hq
      cases hqx : q x
      · cases hpx : p x <;> simp <;> omega
      · rw [h x hqx]; simpa using this

section
variable {E : Env} {call : CallF} {ops : Array Oper} {bf : List Nat} {nb : Nat} {Bs : Base} {S : Nat → St Bs} {fp : Nat → Ft}

def WrT (ops : Array Oper) (t d : Nat) : Prop := ∃ o, ops[d]? = some o ∧ o.dst = some t
def WrB (fp : Nat → Ft) (b d : Nat) : Prop := (fp d).m = some (true, some b) ∨ ((fp d).m = some (true, none) ∧ (fp d).w b = true) ∨ (fp d).l = some b
def BigF (fp : Nat → Ft) (d : Nat) : Prop := (fp d).m = some (true, none)
theorem foot_l {s : St Bs} {nm : Nat} {o : Op} {b : Nat} (h : (foot s nm o).l = some b) : b = nm := by
  cases o <;> simp only [foot] at h <;> try (cases h; done)
  all_goals first
    | (injection h with h; exact h.symm)
    | (split at h <;> first | (cases h; done) | (injection h with h; exact h.symm))
theorem foot_lays {s : St Bs} {nm : Nat} {o : Oper} {b : Nat} (h : (foot s nm o.op).l = some b) : lays o = true := by
  unfold lays
  cases hop : o.op <;> rw [hop] at h <;> simp only [foot] at h <;> try rfl
  all_goals try (cases h; done)
  all_goals try (split at h <;> cases h; done)
  rename_i c
  dsimp only
  cases hc : c.callee <;> rw [hc] at h <;> first | rfl | (cases h; done)
theorem foot_notBig {s : St Bs} {nm : Nat} {o : Op} : (foot s nm o).m ≠ some (true, none) := by
  intro h
  cases o <;> simp only [foot] at h <;> try (cases h; done)
  all_goals split at h <;> try (cases h; done)
  dsimp only at h
  split at h
  · rename_i q _
    cases hq : q.clean <;> rw [hq] at h <;> cases h
  · cases h

theorem put_tmp_ne {s : St Bs} {dst : Option Tmp} {v : V} {t : Nat} (h : dst ≠ some t) : (s.put dst v).tmp t = s.tmp t := by
  unfold St.put
  cases dst with
  | none => rfl
  | some d => exact look_set_ne _ _ _ (fun e => h (by rw [e]))
theorem wr_blk_ne {s : St Bs} {x : Option (Nat × Blk)} {b : Nat} (h : ∀ blk, x ≠ some (b, blk)) : (s.wr x).blk b = s.blk b := by
  cases x with
  | none => rfl
  | some q => obtain ⟨b', blk⟩ := q; exact look_set_ne _ _ _ (fun e => h blk (by rw [e]))
/-- What an operation writes is what its footprint says. -/
theorem evD_foot {s : St Bs} {nb sz nm : Nat} {kn : List (Nat × Bool)} {o : Op} {r : V × Option (Nat × Blk)} (hf : (evD E call s nb sz nm kn o).flat = true) (hr : (evD E call s nb sz nm kn o).holds E.P fun x => x = r) {b : Nat} {blk : Blk} (h2 : r.2 = some (b, blk)) :
    (foot s nm o).m = some (true, some b) ∨ (foot s nm o).l = some b := by
  obtain ⟨r', hp', e⟩ := Tree.All_holds _ hf evD_All hr
  subst e
  rcases hp' with hp' | ⟨b2, blk2, h3, h4⟩
  · rw [h2] at hp'; cases hp'
  · rw [h2] at h3; injection h3 with h3; injection h3 with h3 _; subst h3; exact h4

theorem over_look {α : Type} (d : Nat → α) (t u : PT α) (i : Nat) : look d (t.over u) i = look (look d t) u i := by
  unfold look
  rw [PT.get_over]
  cases u.get i <;> rfl
theorem over_blk (s : St Bs) (o : PT Blk) (n' b : Nat) : ({ s with h := s.h.over o, n := n' } : St Bs).blk b = look s.blk o b := over_look _ _ _ _
theorem Path.tmp (hp : Path E call ops bf nb S fp) (t : Nat) : ∀ i, i < ops.size → ¬ WrT ops t i → (S (i + 1)).tmp t = (S i).tmp t := by
  intro i hi hw
  have ho : ops[i]? = some ops[i] := Array.getElem?_eq_getElem hi
  have hne : ops[i].dst ≠ some t := fun e => hw ⟨ops[i], ho, e⟩
  rcases hp.step i _ ho with ⟨r, _, _, _, _, _, _, _, e, _⟩ | ⟨r, _, _, _, _, _, e, _⟩ | ⟨r, _, _, _, _, e, _⟩ | ⟨_, _, e, _⟩
  · rw [e, put_tmp_ne hne]; simp only [St.tmp, St.wr_t]
  · rw [e, put_tmp_ne hne]
  · rw [e, put_tmp_ne hne]
  · rw [e, put_tmp_ne hne]
theorem Path.blk (hp : Path E call ops bf nb S fp) (b : Nat) : ∀ i, i < ops.size → ¬ WrB fp b i → (S (i + 1)).blk b = (S i).blk b := by
  intro i hi hw
  have ho : ops[i]? = some ops[i] := Array.getElem?_eq_getElem hi
  rcases hp.step i _ ho with ⟨r, _, _, _, _, hf, hr, _, e, hfp⟩ | ⟨r, _, _, _, _, _, e, hfp⟩ | ⟨r, _, _, _, _, e, hfp⟩ | ⟨_, _, e, _⟩
  · rw [e]
    simp only [St.blk, St.put_h]
    exact wr_blk_ne fun blk h2 => hw (by rw [WrB, hfp]; exact (evD_foot hf hr h2).imp id .inr)
  · rw [e]; simp only [St.blk, St.put_h]
  · rw [e]
    have h1 : (({ S i with h := (S i).h.over r.2.1, n := r.2.2 } : St Bs).put ops[i].dst r.1).blk b = look (S i).blk r.2.1 b := by
      rw [show (({ S i with h := (S i).h.over r.2.1, n := r.2.2 } : St Bs).put ops[i].dst r.1).blk b = ({ S i with h := (S i).h.over r.2.1, n := r.2.2 } : St Bs).blk b by simp only [St.blk, St.put_h]]
      exact over_blk _ _ _ _
    rw [h1]
    unfold look
    cases hg : r.2.1.get b with
    | none => rfl
    | some y => exact absurd (show WrB fp b i by rw [WrB, hfp]; exact .inr (.inl ⟨rfl, by simp [bigFt, hg]⟩)) hw
  · rw [e]; simp only [St.blk, St.put_h]
theorem Path.nn (hp : Path E call ops bf nb S fp) : ∀ i, i < ops.size → ¬ BigF fp i → (S (i + 1)).n = (S i).n := by
  intro i hi hw
  have ho : ops[i]? = some ops[i] := Array.getElem?_eq_getElem hi
  rcases hp.step i _ ho with ⟨r, _, _, _, _, hf, hr, _, e, hfp⟩ | ⟨r, _, _, _, _, _, e, hfp⟩ | ⟨r, _, _, _, _, e, hfp⟩ | ⟨_, _, e, _⟩
  · rw [e, St.put_n, St.wr_n]
  · rw [e, St.put_n]
  · exact absurd (show BigF fp i by rw [BigF, hfp]; rfl) hw
  · rw [e, St.put_n]
theorem Path.fixed (hp : Path E call ops bf nb S fp) : ∀ i, i ≤ ops.size → (S i).N = (S 0).N := by
  intro i
  induction i with
  | zero => exact fun _ => rfl
  | succ i ih =>
    intro hi
    have h2 := ih (by omega)
    have ho : ops[i]? = some ops[i] := Array.getElem?_eq_getElem (by omega)
    rcases hp.step i _ ho with ⟨r, _, _, _, _, _, _, _, e, _⟩ | ⟨r, _, _, _, _, _, e, _⟩ | ⟨r, _, _, _, _, e, _⟩ | ⟨_, _, e, _⟩
    · rw [e, St.put_N, St.wr_N, h2]
    · rw [e, St.put_N]; exact h2
    · rw [e, St.put_N]; exact h2
    · rw [e, St.put_N, h2]
/-- What is laid is laid under its own name. -/
theorem Path.lay (hp : Path E call ops bf nb S fp) {i b : Nat} (hi : i < ops.size) (h : (fp i).l = some b) : b = nb + i := by
  have ho : ops[i]? = some ops[i] := Array.getElem?_eq_getElem hi
  rcases hp.step i _ ho with ⟨r, _, _, _, _, _, _, _, _, hfp⟩ | ⟨r, _, _, _, _, _, _, hfp⟩ | ⟨r, _, _, _, _, _, hfp⟩ | ⟨_, _, _, hfp⟩
  · rw [hfp] at h; exact foot_l h
  · rw [hfp] at h; cases h
  · rw [hfp] at h; cases h
  · rw [hfp] at h; cases h

/-- Where a run in another order stands. -/
structure Inv (ops : Array Oper) (bf : List Nat) (nb : Nat) (S : Nat → St Bs) (fp : Nat → Ft) (L : Array Bool) (s : St Bs) : Prop where
  size : L.size = ops.size
  closed : ∀ d e, L.getD d false = true → (bf.getD d 0).testBit e = true → L.getD e false = true
  tmp : ∀ t, ∃ k, k ≤ ops.size ∧ s.tmp t = (S k).tmp t ∧ ∀ d, d < ops.size → WrT ops t d → (L.getD d false = true ↔ d < k)
  blk : ∀ b, ∃ k, k ≤ ops.size ∧ s.blk b = (S k).blk b ∧ ∀ d, d < ops.size → WrB fp b d → (L.getD d false = true ↔ d < k)
  n : ∃ k, k ≤ ops.size ∧ s.n = (S k).n ∧ ∀ d, d < ops.size → BigF fp d → (L.getD d false = true ↔ d < k)
  N : s.N = (S 0).N
  res : ops.toList.any lays = true → nb + ops.size ≤ s.n
  late : ∀ i d, lateB ops bf i d (fp i) = true → L.getD d false = true → L.getD i false = true

theorem getD_none (N d : Nat) : (Array.replicate N false).getD d false = false := by
  rw [Array.getD_eq_getD_getElem?, Array.getElem?_replicate]
  split <;> rfl
theorem Inv.start (hres : ops.toList.any lays = true → nb + ops.size ≤ (S 0).n) : Inv ops bf nb S fp (Array.replicate ops.size false) (S 0) where
  size := by simp
  closed d e h := by rw [getD_none] at h; cases h
  tmp t := ⟨0, Nat.zero_le _, rfl, fun d hd _ => by rw [getD_none]; simp⟩
  blk b := ⟨0, Nat.zero_le _, rfl, fun d hd _ => by rw [getD_none]; simp⟩
  n := ⟨0, Nat.zero_le _, rfl, fun d hd _ => by rw [getD_none]; simp⟩
  N := rfl
  res := hres
  late i d _ h := by rw [getD_none] at h; cases h

theorem tied_spec {x y : Oper} (h : tied ops x y = false) : (∀ d, x.dst = some d → d ∉ looks ops y ∧ y.dst ≠ some d) ∧ (∀ d, y.dst = some d → d ∉ looks ops x) := by
  unfold tied at h
  refine ⟨fun d hd => ?_, fun d hd => ?_⟩ <;> simp [hd] at h
  · exact h.1
  · exact h.2

/-- What holds of the edges. -/
structure Edges (ops : Array Oper) (bf : List Nat) : Prop where
  ties : ∀ i j x y, i < j → ops[i]? = some x → ops[j]? = some y → tied ops x y = true → (bf.getD j 0).testBit i = true
  edge : ∀ i o, ops[i]? = some o → ∀ e, (bf.getD i 0).testBit e = true → ∃ ed ∈ o.after.toList, Region.binds .any ed = true ∧ (e = ed.on ∨ (bf.getD ed.on 0).testBit e = true)
  back : ∀ i o, ops[i]? = some o → ∀ ed ∈ o.after.toList, Region.binds .any ed = true → ed.on < i

theorem backOk_spec : ∀ (l : List Oper) (j : Nat), backOk l j = true → ∀ i o, l[i]? = some o → ∀ ed ∈ o.after.toList, Region.binds .any ed = true → ed.on < j + i := by
  intro l
  induction l with
  | nil => intro j _ i o h; cases h
  | cons a l ih =>
    intro j h i o ho ed hed hb
    simp only [backOk, Bool.and_eq_true] at h
    cases i with
    | zero =>
      simp only [List.getElem?_cons_zero, Option.some.injEq] at ho
      subst ho
      have := List.all_eq_true.1 h.1 ed hed
      rw [hb] at this
      simpa [Nat.blt_eq] using this
    | succ i =>
      simp only [List.getElem?_cons_succ] at ho
      have := ih (j + 1) h.2 i o ho ed hed hb
      omega
theorem edges_of (h : drawOk ops (bfs ops.toList []) = true) : Edges ops (bfs ops.toList []) := by
  simp only [drawOk, Bool.and_eq_true] at h
  refine ⟨fun i j x y hij hx hy ht => ?_, fun i o ho => ?_, fun i o ho ed hed hb => ?_⟩
  · have hj : j < ops.size := (Array.getElem?_eq_some_iff.1 hy).1
    have h1 := List.all_eq_true.1 h.2 j (List.mem_range.2 hj)
    have h2 := List.all_eq_true.1 h1 i (List.mem_range.2 hij)
    rw [hx, hy] at h2
    simpa [ht] using h2
  · exact bfs_spec ops.toList ops.toList [] (by simp) (fun i => by simp) (fun i hi => absurd hi (Nat.not_lt_zero _)) i o (by simpa using ho)
  · have := backOk_spec ops.toList 0 h.1 i o (by simpa using ho) ed hed hb
    omega

section
variable {L : Array Bool} {s : St Bs} {i : Nat} {o : Oper}

theorem getD_set (hi : i < L.size) (d : Nat) : (L.setIfInBounds i true).getD d false = true ↔ d = i ∨ L.getD d false = true := by
  by_cases e : d = i
  · subst e; simp [Array.getD_eq_getD_getElem?, hi]
  · simp [Array.getD_eq_getD_getElem?, Array.getElem?_setIfInBounds_ne (Ne.symm e), e]

/-- It writes a block. -/
def Wr (f : Ft) (b : Nat) : Prop := f.m = some (true, some b) ∨ (f.m = some (true, none) ∧ f.w b = true) ∨ f.l = some b
/-- Two that touch one block stand in an order. -/
theorem clash_wr {nb sz b : Nat} {f g : Ft} (hf : Wr f b) (hg : Wr g b) : clash nb sz f g = true := by
  unfold clash
  rcases hf with hf | ⟨hf, hf2⟩ | hf <;> rcases hg with hg | ⟨hg, hg2⟩ | hg <;> simp [clashM, clashL, clashLL, hf, hg]
theorem clash_big {nb sz : Nat} {f g : Ft} {w : Bool} (hf : f.m = some (true, none)) (hg : g.m = some (w, none)) : clash nb sz f g = true ∧ clash nb sz g f = true := by
  unfold clash; constructor <;> simp [clashM, hf, hg]
theorem clash_rd {nb sz b : Nat} {w : Bool} {f g : Ft} (hf : Wr f b) (hg : g.m = some (w, some b)) : clash nb sz f g = true ∧ clash nb sz g f = true := by
  unfold clash
  constructor <;> rcases hf with hf | ⟨hf, hf2⟩ | hf <;> simp [clashM, clashL, clashLL, hf, hg]
  · simp [hf2]
  · simp [hf2]
theorem clash_all {nb sz b : Nat} {w : Bool} {f g : Ft} (hf : Wr f b) (hl : f.l = some b → inRes nb sz b = true) (hb : w = true ∨ g.q = true ∨ inRes nb sz b = false) (hg : g.m = some (w, none)) : clash nb sz f g = true ∧ clash nb sz g f = true := by
  unfold clash
  rcases hf with hf | ⟨hf, hf2⟩ | hf
  · cases w with
    | true => constructor <;> simp [clashM, hf, hg]
    | false =>
      have : (g.q || !inRes nb sz b) = true := by
        rcases hb with hb | hb | hb
        · cases hb
        · rw [hb]; rfl
        · rw [hb]; simp
      constructor <;> simp only [clashM, hf, hg, cond_false, Bool.true_and, this, Bool.true_or]
  · constructor <;> simp [clashM, hf, hg]
  · have : (w || g.q) = true := by
      rcases hb with hb | hb | hb
      · rw [hb]; rfl
      · rw [hb]; simp
      · have := hl hf; rw [hb] at this; cases this
    constructor <;> simp only [clashL, hf, hg, this, Bool.true_or, Bool.or_true]
theorem clash_lay {nb sz b : Nat} {f g : Ft} (hf : Wr f b) (hg : g.l = some b) : clash nb sz f g = true ∧ clash nb sz g f = true := by
  unfold clash
  constructor <;> rcases hf with hf | ⟨hf, hf2⟩ | hf <;> simp [clashM, clashL, clashLL, hf, hg]
section
variable (hp : Path E call ops bf nb S fp) (he : Edges ops bf) (hv : Inv ops bf nb S fp L s) (hi : i < ops.size) (ho : ops[i]? = some o) (hn : L.getD i false = false)
    (hready : ∀ e, (bf.getD i 0).testBit e = true → L.getD e false = true) (hlate : ∀ i', lateB ops bf i' i (fp i') = true → L.getD i' false = true)
include hp he hv hi ho hn hready hlate
theorem Inv.next_tmp {v : V} {s2 S2 : St Bs} (h1 : s2.t = s.t) (h2 : S2.t = (S i).t) (hS : S (i + 1) = S2.put o.dst v) (t : Nat) : ∃ k, k ≤ ops.size ∧ (s2.put o.dst v).tmp t = (S k).tmp t ∧ ∀ d, d < ops.size → WrT ops t d → ((L.setIfInBounds i true).getD d false = true ↔ d < k) := by
  have _ := hp
  have hiL : i < L.size := by rw [hv.size]; exact hi
  have high : ∀ d, L.getD d false = true → (bf.getD d 0).testBit i = true → False := fun d h1 h2 => by
    have := hv.closed d i h1 h2; rw [hn] at this; cases this
  by_cases ht : o.dst = some t
  · refine ⟨i + 1, by omega, ?_, fun d hd hwr => ?_⟩
    · rw [hS]
      unfold St.put
      rw [ht]
      show look _ (PT.set _ _ _) _ = look _ (PT.set _ _ _) _
      rw [look_set_eq, look_set_eq]
    · rw [getD_set hiL]
      obtain ⟨o', ho', hd'⟩ := hwr
      constructor
      · rintro (rfl | h)
        · omega
        · rcases Nat.lt_or_ge i d with hlt | hge
          · exfalso
            refine high d h (he.ties i d o o' hlt ho ho' ?_)
            cases htt : tied ops o o' with
            | true => rfl
            | false => exact absurd hd' ((tied_spec htt).1 t ht).2
          · omega
      · intro hlt
        by_cases e : d = i
        · exact .inl e
        · right
          refine hready d (he.ties d i o' o (by omega) ho' ho ?_)
          cases htt : tied ops o' o with
          | true => rfl
          | false => exact absurd ht ((tied_spec htt).1 t hd').2
  · obtain ⟨k, hk, h3, h4⟩ := hv.tmp t
    refine ⟨k, hk, by rw [put_tmp_ne ht]; simp only [St.tmp, h1]; exact h3, fun d hd hwr => ?_⟩
    rw [getD_set hiL]
    have hne : d ≠ i := by
      rintro rfl
      obtain ⟨o', ho', hd'⟩ := hwr
      rw [ho] at ho'; injection ho' with ho'; subst ho'
      exact ht hd'
    simp only [hne, false_or]
    exact h4 d hd hwr
/-- A place that the operation writes, and what others write there. -/
theorem Inv.order {W : Nat → Prop} (hW : ∀ d, W d → d ≠ i → clash nb ops.size (fp d) (fp i) = true ∧ clash nb ops.size (fp i) (fp d) = true) (d : Nat) (hd : d < ops.size) (hwr : W d) : (L.setIfInBounds i true).getD d false = true ↔ d < i + 1 := by
  have _ := he
  have hiL : i < L.size := by rw [hv.size]; exact hi
  have high : ∀ d, L.getD d false = true → (bf.getD d 0).testBit i = true → False := fun d h1 h2 => by
    have := hv.closed d i h1 h2; rw [hn] at this; cases this
  rw [getD_set hiL]
  constructor
  · rintro (rfl | h)
    · omega
    · rcases Nat.lt_or_ge i d with hlt | hge
      · cases hlb : lateB ops bf i d (fp i) with
        | true => have := hv.late i d hlb h; rw [hn] at this; cases this
        | false => exact absurd (hp.cl i d hlt hd (by unfold clashX; rw [(hW d hwr (by omega)).2, hlb]; rfl)) (fun hbit => high d h hbit)
      · omega
  · intro hlt
    by_cases e : d = i
    · exact .inl e
    · cases hlb : lateB ops bf d i (fp d) with
      | true => exact .inr (hlate d hlb)
      | false => exact .inr (hready d (hp.cl d i (by omega) hi (by unfold clashX; rw [(hW d hwr e).1, hlb]; rfl)))
/-- Behind one more operation. -/
theorem Inv.next {v : V} {x : Option (Nat × Blk)} (hx : ∀ b blk, x = some (b, blk) → WrB fp b i) (hnb : ¬ BigF fp i)
    (hrd : ∀ b, WrB fp b i → s.blk b = (S i).blk b) (hS : S (i + 1) = ((S i).wr x).put o.dst v) : Inv ops bf nb S fp (L.setIfInBounds i true) ((s.wr x).put o.dst v) := by
  have hiL : i < L.size := by rw [hv.size]; exact hi
  refine ⟨by simp [hv.size], fun d e hd hb => ?_, fun t => hv.next_tmp hp he hi ho hn hready hlate (St.wr_t _ _) (St.wr_t _ _) hS t, fun b => ?_, ?_, by rw [St.put_N, St.wr_N, hv.N], fun h => by rw [St.put_n, St.wr_n]; exact hv.res h, fun i' d hl hd => by
    rw [getD_set hiL] at hd ⊢
    rcases hd with rfl | hd
    · exact .inr (hlate i' hl)
    · exact .inr (hv.late i' d hl hd)⟩
  · rw [getD_set hiL] at hd ⊢
    rcases hd with rfl | hd
    · exact .inr (hready e hb)
    · exact .inr (hv.closed d e hd hb)
  · by_cases hb : WrB fp b i
    · refine ⟨i + 1, by omega, ?_, hv.order hp he hi ho hn hready hlate (W := WrB fp b) fun d hd _ => ⟨clash_wr hd hb, clash_wr hb hd⟩⟩
      rw [hS]
      simp only [St.blk, St.put_h]
      cases x with
      | none => exact hrd b hb
      | some q =>
        obtain ⟨b', blk⟩ := q
        show look _ (PT.set _ _ _) _ = look _ (PT.set _ _ _) _
        rw [look_set, look_set]
        by_cases e : b = b'
        · rw [if_pos e, if_pos e]
        · rw [if_neg e, if_neg e]; exact hrd b hb
    · obtain ⟨k, hk, h1, h2⟩ := hv.blk b
      refine ⟨k, hk, ?_, fun d hd hwr => ?_⟩
      · rw [← h1]
        simp only [St.blk, St.put_h]
        exact wr_blk_ne fun blk e => hb (hx b blk e)
      · rw [getD_set hiL]
        have hne : d ≠ i := fun e => by subst e; exact hb hwr
        simp only [hne, false_or]
        exact h2 d hd hwr
  · obtain ⟨k, hk, h1, h2⟩ := hv.n
    refine ⟨k, hk, by rw [St.put_n, St.wr_n, h1], fun d hd hwr => ?_⟩
    rw [getD_set hiL]
    have hne : d ≠ i := fun e => by subst e; exact hnb hwr
    simp only [hne, false_or]
    exact h2 d hd hwr
/-- Behind one that does whatever it likes. -/
theorem Inv.nextBig {r : V × PT Blk × Nat} (hb : fp i = bigFt r.2.1) (hle : s.n ≤ r.2.2) (hS : S (i + 1) = (({ S i with h := (S i).h.over r.2.1, n := r.2.2 } : St Bs)).put o.dst r.1) : Inv ops bf nb S fp (L.setIfInBounds i true) ((({ s with h := s.h.over r.2.1, n := r.2.2 } : St Bs)).put o.dst r.1) := by
  have hiL : i < L.size := by rw [hv.size]; exact hi
  have hbig : BigF fp i := by rw [BigF, hb]; rfl
  have hblk : ∀ (s : St Bs) b, ((({ s with h := s.h.over r.2.1, n := r.2.2 } : St Bs)).put o.dst r.1).blk b = look s.blk r.2.1 b := fun s b => by
    rw [show (({ s with h := s.h.over r.2.1, n := r.2.2 } : St Bs).put o.dst r.1).blk b = ({ s with h := s.h.over r.2.1, n := r.2.2 } : St Bs).blk b by simp only [St.blk, St.put_h]]
    exact over_blk _ _ _ _
  refine ⟨by simp [hv.size], fun d e hd hbit => ?_, fun t => hv.next_tmp hp he hi ho hn hready hlate (s2 := { s with h := s.h.over r.2.1, n := r.2.2 }) (S2 := { S i with h := (S i).h.over r.2.1, n := r.2.2 }) rfl rfl hS t, fun b => ?_, ?_, by rw [St.put_N]; exact hv.N, fun h => by rw [St.put_n]; exact Nat.le_trans (hv.res h) hle, fun i' d hl hd => by
    rw [getD_set hiL] at hd ⊢
    rcases hd with rfl | hd
    · exact .inr (hlate i' hl)
    · exact .inr (hv.late i' d hl hd)⟩
  · rw [getD_set hiL] at hd ⊢
    rcases hd with rfl | hd
    · exact .inr (hready e hbit)
    · exact .inr (hv.closed d e hd hbit)
  · rw [hblk]
    cases hg : r.2.1.get b with
    | some y =>
      have hB : WrB fp b i := by rw [WrB, hb]; exact .inr (.inl ⟨rfl, by simp [bigFt, hg]⟩)
      refine ⟨i + 1, by omega, ?_, hv.order hp he hi ho hn hready hlate (W := WrB fp b) fun d hd _ => ⟨clash_wr hd hB, clash_wr hB hd⟩⟩
      rw [hS, hblk]
      unfold look
      rw [hg]
    | none =>
      have hB : ¬ WrB fp b i := fun h => by
        rw [WrB, hb] at h
        rcases h with h | ⟨_, h⟩ | h
        · cases h
        · simp [bigFt, hg] at h
        · cases h
      obtain ⟨k, hk, h1, h2⟩ := hv.blk b
      refine ⟨k, hk, ?_, fun d hd hwr => ?_⟩
      · rw [← h1]
        unfold look
        rw [hg]
      · rw [getD_set hiL]
        have hne : d ≠ i := fun e => by subst e; exact hB hwr
        simp only [hne, false_or]
        exact h2 d hd hwr
  · exact ⟨i + 1, by omega, by rw [hS]; simp only [St.put_n], hv.order hp he hi ho hn hready hlate (W := BigF fp) fun d hd _ => clash_big hd hbig⟩
/-- What is read in whatever order, as in the text's order. -/
theorem Inv.readsF {α : Type} {f : Nat → α} {W : Nat → Prop} (hst : ∀ j, j < ops.size → ¬ W j → f (j + 1) = f j) {k : Nat} (hk : k ≤ ops.size) (h2 : ∀ d, d < ops.size → W d → (L.getD d false = true ↔ d < k))
    (hW : ∀ d, d < ops.size → W d → clash nb ops.size (fp d) (fp i) = true ∧ clash nb ops.size (fp i) (fp d) = true) : f k = f i := by
  have _ := he
  have high : ∀ d, L.getD d false = true → (bf.getD d 0).testBit i = true → False := fun d h1 h2 => by
    have := hv.closed d i h1 h2; rw [hn] at this; cases this
  refine Fw.reads (f := f) (W := W) (L := fun d => L.getD d false = true) hst hk hi h2 (fun d hd hwr => ?_) (fun d h3 h4 hwr h5 => ?_)
  · cases hlb : lateB ops bf d i (fp d) with
    | true => exact hlate d hlb
    | false => exact hready d (hp.cl d i hd hi (by unfold clashX; rw [(hW d (by omega) hwr).1, hlb]; rfl))
  · by_cases e : d = i
    · subst e; rw [hn] at h5; cases h5
    · cases hlb : lateB ops bf i d (fp i) with
      | true => have := hv.late i d hlb h5; rw [hn] at this; cases this
      | false => exact high d h5 (hp.cl i d (by omega) h4 (by unfold clashX; rw [(hW d h4 hwr).2, hlb]; rfl))
/-- An operation that is ready reads what it reads in the text's order. -/
theorem Inv.reads :
    (∀ t ∈ looks ops o, s.tmp t = (S i).tmp t) ∧ (∀ w c b, (fp i).m = some (w, c) → ((c = none ∧ (w = true ∨ (fp i).q = true ∨ inRes nb ops.size b = false)) ∨ c = some b) → s.blk b = (S i).blk b) ∧
      (∀ b, (fp i).l = some b → s.blk b = (S i).blk b) ∧ ((∃ w, (fp i).m = some (w, none)) → s.n = (S i).n) := by
  have high : ∀ d, L.getD d false = true → (bf.getD d 0).testBit i = true → False := fun d h1 h2 => by
    have := hv.closed d i h1 h2; rw [hn] at this; cases this
  refine ⟨fun t ht => ?_, fun w c b hf hcb => ?_, fun b hb => ?_, fun hb => ?_⟩
  · obtain ⟨k, hk, h1, h2⟩ := hv.tmp t
    rw [h1]
    refine Fw.reads (f := fun k => (S k).tmp t) (W := WrT ops t) (L := fun d => L.getD d false = true) (hp.tmp t) hk hi h2 (fun d hd hwr => ?_) (fun d h3 h4 hwr h5 => ?_)
    · obtain ⟨o', ho', hd'⟩ := hwr
      refine hready d (he.ties d i o' o hd ho' ho ?_)
      cases htt : tied ops o' o with
      | true => rfl
      | false => exact absurd ht ((tied_spec htt).1 t hd').1
    · obtain ⟨o', ho', hd'⟩ := hwr
      by_cases e : d = i
      · subst e; rw [hn] at h5; cases h5
      · refine high d h5 (he.ties i d o o' (by omega) ho ho' ?_)
        cases htt : tied ops o o' with
        | true => rfl
        | false => exact absurd ht ((tied_spec htt).2 t hd')
  · obtain ⟨k, hk, h1, h2⟩ := hv.blk b
    rw [h1]
    refine hv.readsF hp he hi ho hn hready hlate (f := fun k => (S k).blk b) (W := WrB fp b) (hp.blk b) hk h2 fun d hd hwr => ?_
    rcases hcb with ⟨rfl, hw⟩ | rfl
    · refine clash_all hwr (fun hl => ?_) hw hf
      have := hp.lay hd hl
      unfold inRes
      simp only [Bool.and_eq_true, Nat.blt_eq, Nat.ble_eq]
      omega
    · exact clash_rd hwr hf
  · obtain ⟨k, hk, h1, h2⟩ := hv.blk b
    rw [h1]
    exact hv.readsF hp he hi ho hn hready hlate (f := fun k => (S k).blk b) (W := WrB fp b) (hp.blk b) hk h2 fun d hd hwr => clash_lay hwr hb
  · obtain ⟨k, hk, h1, h2⟩ := hv.n
    rw [h1]
    obtain ⟨w, hb⟩ := hb
    exact hv.readsF hp he hi ho hn hready hlate (f := fun k => (S k).n) (W := BigF fp) hp.nn hk h2 fun d hd hwr => clash_big hwr hb
end
end

/-- A block that was laid behind a later world. -/
theorem HR.lay2 {base n : Nat} {m : Nat → Option Nat} {F F' : Nat → Prop} {h h' : Nat → Blk} {w w' : World} (hr : HR base m F h n w) (hl : Later F w F' w') {nm B : Nat} {blk : Blk} (hnm : m nm = none) (hlt : nm < n) (hB1 : w.heap.size ≤ B) (hB2 : B < w'.heap.size) (hBF : ¬ F' B)
    (hh : ∀ b, h' b = if b = nm then blk else h b) (hblk : RB F' w' n (fun b => if b = nm then some B else m b) blk (some B)) :
    HR base (fun b => if b = nm then some B else m b) F' h' n w' ∧ Ext base m F n w (fun b => if b = nm then some B else m b) F' n w' := by
  have hext : Ext base m F n w (fun b => if b = nm then some B else m b) F' n w' :=
    ⟨hl.f, hl.back, fun C hC => hl.keep C (hC.elim (fun h => Nat.lt_of_lt_of_le h hr.low) (hr.fdom C)), hl.size, Sizes.of_keep hl.keep,
      ⟨fun C hC _ => hl.keep C hC, fun b C hb hC => by
        by_cases e : b = nm
        · rw [if_pos e] at hb; injection hb with hb; omega
        · rw [if_neg e] at hb; exact ⟨b, hb⟩⟩, Nat.le_refl _,
      fun b hb C hC => by
        rw [if_neg (fun e => by rw [e, hnm] at hC; cases hC)]
        exact hC, hl.calm⟩
  have hlater := hr.later hl
  refine ⟨⟨hlater.low, hlater.fdom, fun b hb => ?_, fun b C hC => ?_, fun b hb => ?_, hlater.gl, fun b C hC => ?_, fun b b' C h1 h2 hne => ?_⟩, hext⟩
  · rw [hh b]
    by_cases e : b = nm
    · subst e
      rw [if_pos rfl, if_pos rfl]
      exact hblk
    · rw [if_neg e, if_neg e]
      exact RB_ext hext (fun C hC => hl.keep C (hr.dom b C hC)) (hr.blk b hb)
  · by_cases e : b = nm
    · rw [if_pos e] at hC; injection hC with hC; subst hC; exact hB2
    · rw [if_neg e] at hC; exact hlater.dom b C hC
  · rw [if_neg (by omega)]
    exact hr.new b hb
  · by_cases e : b = nm
    · rw [if_pos e] at hC; injection hC with hC; subst hC
      exact ⟨Nat.le_trans hr.low hB1, hBF⟩
    · rw [if_neg e] at hC; exact hlater.own b C hC
  · by_cases e1 : b = nm <;> by_cases e2 : b' = nm
    · exact absurd (e1.trans e2.symm) hne
    · rw [if_pos e1] at h1; rw [if_neg e2] at h2
      injection h1 with h1; subst h1
      exact absurd (hr.dom _ _ h2) (Nat.not_lt.2 hB1)
    · rw [if_neg e1] at h1; rw [if_pos e2] at h2
      injection h2 with h2; subst h2
      exact absurd (hr.dom _ _ h1) (Nat.not_lt.2 hB1)
    · rw [if_neg e1] at h1; rw [if_neg e2] at h2
      rw [hh b, hh b', if_neg e1, if_neg e2]
      exact hr.inj b b' C h1 h2 hne
/-- What is told of nothing of ours names nothing of ours. -/
theorem R_zero {F : Nat → Prop} {w : World} : ∀ (v : V) (m : Nat → Option Nat), (∀ x, R F w v 0 m x → v.clean = true) ∧ (∀ xs, RL F w v 0 m xs → v.clean = true) := by
  intro v
  induction v with
  | cons h t ih1 ih2 =>
    intro m
    refine ⟨fun x h => by simp only [R] at h, fun xs h => ?_⟩
    simp only [RL] at h
    obtain ⟨x, r, rfl, h1, h2⟩ := h
    simp only [V.clean, (ih1 m).1 _ h1, (ih2 m).2 _ h2, Bool.and_self]
  | agg cs ih =>
    intro m
    refine ⟨fun x h => ?_, fun xs h => by simp only [RL] at h⟩
    simp only [R] at h
    obtain ⟨xs, rfl, h1⟩ := h
    simp only [V.clean, (ih m).2 _ h1]
  | tup cs ih =>
    intro m
    refine ⟨fun x h => ?_, fun xs h => by simp only [RL] at h⟩
    simp only [R] at h
    obtain ⟨xs, rfl, h1⟩ := h
    simp only [V.clean, (ih m).2 _ h1]
  | fn f a b ih1 ih2 =>
    intro m
    refine ⟨fun x h => ?_, fun xs h => by simp only [RL] at h⟩
    simp only [R] at h
    obtain ⟨xs, ys, rfl, h1, h2⟩ := h
    simp only [V.clean, (ih1 m).2 _ h1, (ih2 m).2 _ h2, Bool.and_self]
  | ptr st b es i o => intro m; exact ⟨fun x h => by simp only [R] at h; exact absurd h.1 (Nat.not_lt_zero _), fun xs h => by simp only [RL] at h⟩
  | osl st b es i k => intro m; exact ⟨fun x h => by simp only [R] at h; exact absurd h.1 (Nat.not_lt_zero _), fun xs h => by simp only [RL] at h⟩
  | osp st b es i k c => intro m; exact ⟨fun x h => by simp only [R] at h; exact absurd h.1 (Nat.not_lt_zero _), fun xs h => by simp only [RL] at h⟩
  | yld b => intro m; exact ⟨fun x h => by simp only [R] at h; exact absurd h.1 (Nat.not_lt_zero _), fun xs h => by simp only [RL] at h⟩
  | mp b => intro m; exact ⟨fun x h => by simp only [R] at h; exact absurd h.1 (Nat.not_lt_zero _), fun xs h => by simp only [RL] at h⟩
  | _ => intro m; exact ⟨fun x _ => rfl, fun xs _ => rfl⟩
theorem R_lt {F : Nat → Prop} {w : World} {n : Nat} : ∀ (v : V) (m : Nat → Option Nat), (∀ x, R F w v n m x → v.belowB n = true) ∧ (∀ xs, RL F w v n m xs → v.belowB n = true) := by
  intro v
  induction v with
  | cons h t ih1 ih2 =>
    intro m
    refine ⟨fun x h => by simp only [R] at h, fun xs h => ?_⟩
    simp only [RL] at h
    obtain ⟨x, r, rfl, h1, h2⟩ := h
    simp only [V.belowB, (ih1 m).1 _ h1, (ih2 m).2 _ h2, Bool.and_self]
  | agg cs ih =>
    intro m
    refine ⟨fun x h => ?_, fun xs h => by simp only [RL] at h⟩
    simp only [R] at h
    obtain ⟨xs, rfl, h1⟩ := h
    simp only [V.belowB, (ih m).2 _ h1]
  | tup cs ih =>
    intro m
    refine ⟨fun x h => ?_, fun xs h => by simp only [RL] at h⟩
    simp only [R] at h
    obtain ⟨xs, rfl, h1⟩ := h
    simp only [V.belowB, (ih m).2 _ h1]
  | fn f a b ih1 ih2 =>
    intro m
    refine ⟨fun x h => ?_, fun xs h => by simp only [RL] at h⟩
    simp only [R] at h
    obtain ⟨xs, ys, rfl, h1, h2⟩ := h
    simp only [V.belowB, (ih1 m).2 _ h1, (ih2 m).2 _ h2, Bool.and_self]
  | ptr st b es i o => intro m; exact ⟨fun x h => by simp only [R] at h; simp only [V.belowB, Nat.blt_eq]; exact h.1, fun xs h => by simp only [RL] at h⟩
  | osl st b es i k => intro m; exact ⟨fun x h => by simp only [R] at h; simp only [V.belowB, Nat.blt_eq]; exact h.1, fun xs h => by simp only [RL] at h⟩
  | osp st b es i k c => intro m; exact ⟨fun x h => by simp only [R] at h; simp only [V.belowB, Nat.blt_eq]; exact h.1, fun xs h => by simp only [RL] at h⟩
  | yld b => intro m; exact ⟨fun x h => by simp only [R] at h; simp only [V.belowB, Nat.blt_eq]; exact h.1, fun xs h => by simp only [RL] at h⟩
  | mp b => intro m; exact ⟨fun x h => by simp only [R] at h; simp only [V.belowB, Nat.blt_eq]; exact h.1, fun xs h => by simp only [RL] at h⟩
  | _ => intro m; exact ⟨fun x _ => rfl, fun xs _ => rfl⟩
theorem RB_cut {F F' : Nat → Prop} {w w' : World} {n n' : Nat} {m m' : Nat → Option Nat} {blk : Blk} {B B' : Option Nat} (h : RB F w n m blk B) (h' : RB F' w' n' m' blk B') : RB F' w' n (cutM m' n) blk B' := by
  cases blk with
  | none => exact h'
  | any => exact trivial
  | var cs =>
    obtain ⟨_, _, _, ys, _, _, _, _, h1⟩ := h
    obtain ⟨b, xs, el, ys', zs, e1, e2, e3, e4⟩ := h'
    exact ⟨b, xs, el, ys', zs, e1, e2, e3, (R_cut cs n' ((R_lt cs m).2 _ h1)).2 _ e4⟩
  | arr es k get => exact h'
  | iter mb since seen last =>
    obtain ⟨_, _, _, _, k0⟩ := h
    obtain ⟨r, x, e, hc, h1⟩ := h'
    refine ⟨r, x, e, hc, ?_⟩
    cases mb with
    | none => exact h1
    | some b =>
      obtain ⟨_, k1, _, _⟩ := k0
      obtain ⟨y, h2, h3, h4⟩ := h1
      exact ⟨y, k1, h3, by unfold cutM; rw [if_pos k1]; exact h4⟩
  | mapV kd st f ks =>
    obtain ⟨_, es0, _, _, _, _, k0⟩ := h
    obtain ⟨b', es, clock, k1, k2, k3, k4⟩ := h'
    refine ⟨b', es, clock, k1, k2, k3, fun k hk => ?_⟩
    obtain ⟨h1, h2⟩ := k4 k hk
    refine ⟨h1, fun v hv => ?_⟩
    have ht : (f k).1 = true := by rw [h1, hv]; rfl
    obtain ⟨h5, h6⟩ := k0 k hk
    rw [ht] at h5
    obtain ⟨v0, hv0⟩ := Option.isSome_iff_exists.1 h5.symm
    exact (R_cut _ n' ((R_lt _ m).1 _ (h6 v0 hv0))).1 _ (h2 v hv)
  | rng f ps asg bd row N st pend =>
    obtain ⟨_, r0, _, _, _, _, _, _, _, _, k0⟩ := h
    obtain ⟨l, r, k1, k2, k3, k4, k5, k6, k7, k8, k9⟩ := h'
    exact ⟨l, r, k1, k2, k3, k4, k5, k6, k7, k8, fun i => (R_cut _ n' ((R_lt _ m).1 _ (k0 i))).1 _ (k9 i)⟩
/-- Behind a call that changed nothing that was there: what it laid is forgotten. -/
theorem HR.cut {base n n' : Nat} {m m' : Nat → Option Nat} {F F' : Nat → Prop} {h h' : Nat → Blk} {w w' : World} (hr : HR base m F h n w) (he : Ext base m F n w m' F' n' w') (hh : HR base m' F' h' n' w') (hs : ∀ b, b < n → h' b = h b) :
    HR base (cutM m' n) F' h n w' ∧ Ext base m F n w (cutM m' n) F' n w' := by
  have hc : ∀ b B, cutM m' n b = some B → b < n ∧ m' b = some B := fun b B hb => by
    unfold cutM at hb
    by_cases e : b < n
    · rw [if_pos e] at hb; exact ⟨e, hb⟩
    · rw [if_neg e] at hb; cases hb
  refine ⟨⟨hh.low, hh.fdom, fun b hb => ?_, fun b B hb => hh.dom b B (hc b B hb).2, fun b hb => by unfold cutM; rw [if_neg (by omega)], hh.gl, fun b B hb => hh.own b B (hc b B hb).2, fun b b' B h1 h2 hne => ?_⟩, ?_⟩
  · have h1 := hh.blk b (Nat.lt_of_lt_of_le hb he.le)
    rw [hs b hb] at h1
    have e : cutM m' n b = m' b := by unfold cutM; rw [if_pos hb]
    rw [e]
    exact RB_cut (hr.blk b hb) h1
  · obtain ⟨l1, k1⟩ := hc b B h1
    obtain ⟨l2, k2⟩ := hc b' B h2
    rw [← hs b l1, ← hs b' l2]
    exact hh.inj b b' B k1 k2 hne
  · exact ⟨he.f, he.back, he.keep, he.size, he.sz, he.ow.sub fun b B hb => ⟨b, (hc b B hb).2⟩, Nat.le_refl _, fun b hb B hB => by unfold cutM; rw [if_pos hb]; exact he.map b hb B hB, he.calm⟩
theorem sub_rel0 {s : St Bs} {lo base : Nat} {m : Nat → Option Nat} {F : Nat → Prop} {a : Act} {w : World} (hr : Rel lo base m F s a w) : Rel lo base m F s.sub a w := ⟨hr.hr, hr.defers, hr.size, hr.tmp⟩
/-- What a call answers that saw nothing of ours. -/
theorem layR0_ok {base : Nat} {m : Nat → Option Nat} {F : Nat → Prop} {s : St Bs} {w : World} (hr : HR base m F s.blk s.n w) {nm : Nat} (hnm : nm < s.n) {rl : Bool} {F0 : Nat → Prop} (hF0 : ∀ B, F B → F0 B) (hrl : rl = false → ∀ B, F0 B → F B)
    {v : V} {h' : PT Blk} {n' : Nat} {Q : V × Option (Nat × Blk) → Prop} (hq : (layR0 s nm rl (v, h', n')).holds E.P Q) {m' : Nat → Option Nat} {F' : Nat → Prop} {w' : World} {x : Value}
    (he : Ext w.heap.size (fun _ => none) F0 0 w m' F' n' w') (hh : HR w.heap.size m' F' (look (fun _ => .none) h') n' w') (hx : R F' w' v n' m' x) :
    ∃ v' wr m'' F'', Q (v', wr) ∧ Ext base m F s.n w m'' F'' s.n w' ∧ HR base m'' F'' (s.wr wr).blk s.n w' ∧ R F'' w' v' s.n m'' x := by
  have hl0 : Later F w F w' := ⟨fun _ h => h, fun _ h => .inl h, fun B hB => he.keep B (.inl hB), he.size, fun h B hB => Nat.lt_of_lt_of_le (h B hB) he.size, he.calm⟩
  have hl1 : rl = false → Later F w F' w' := fun e => ⟨fun B hB => he.f B (hF0 B hB), fun B hB => (he.back B hB).imp (hrl e B) id, fun B hB => he.keep B (.inl hB), he.size, fun _ => hh.fdom, he.calm⟩
  -- the frozen blocks that are told of behind the call
  obtain ⟨F2, hF2⟩ : ∃ F2 : Nat → Prop, (Later F w F2 w') ∧ (∀ B, F2 B → F B ∨ F' B) ∧ (rl = false → F2 = F') := by
    cases rl with
    | false => exact ⟨F', hl1 rfl, fun B h => .inr h, fun _ => rfl⟩
    | true => exact ⟨F, hl0, fun B h => .inl h, fun h => by cases h⟩
  obtain ⟨hl, hF2', hF2e⟩ := hF2
  have val : ∀ (u : V), u.clean = true → (!rl || u.rowless) = true → ∀ (k : Nat) (mm : Nat → Option Nat) (k' : Nat) (mm' : Nat → Option Nat), (∀ y, R F' w' u k mm y → R F2 w' u k' mm' y) ∧ (∀ ys, RL F' w' u k mm ys → RL F2 w' u k' mm' ys) := by
    intro u hc hrow k mm k' mm'
    cases rl with
    | false => rw [hF2e rfl]; exact R_clean u hc k k' mm mm'
    | true => exact R_rowless u hc (by simpa using hrow) k k' mm mm'
  unfold layR0 at hq
  dsimp only at hq
  cases hc : (v.clean && (!rl || v.rowless))
  · rw [hc] at hq
    simp only [cond_false] at hq
    cases v <;> try exact hq.elim
    rename_i st b es i k
    dsimp only at hq
    rw [R_osl] at hx
    obtain ⟨hb, a, cap, rfl, hk, hcap⟩ := hx
    -- the row, under its own name
    have main : ∀ blk, (∀ B, m' b = some B → RB F2 w' s.n (fun c => if c = nm then some B else m c) blk (some B)) → (m' b = none → RB F2 w' s.n m blk none) → (evNew s nm blk (.osl st nm es i k)).holds E.P Q →
        ∃ v' wr m'' F'', Q (v', wr) ∧ Ext base m F s.n w m'' F'' s.n w' ∧ HR base m'' F'' (s.wr wr).blk s.n w' ∧ R F'' w' v' s.n m'' (.slice a k cap) := by
      intro blk hrb hrb0 hq
      unfold evNew at hq
      have hbn := hr.blk nm hnm
      cases hnb : s.blk nm <;> rw [hnb] at hq <;> try exact hq.elim
      rw [hnb] at hbn
      have hm0 : m nm = none := hbn
      cases hmb : m' b with
      | none =>
        have hcap0 : cap = 0 := by
          rcases hcap with h | ⟨B, _, _, _, _, h, _⟩
          · exact h
          · rw [hmb] at h; cases h
        have hlat := hr.later hl
        refine ⟨_, _, m, F2, hq, hr.ext hl, ⟨hlat.low, hlat.fdom, fun c hc => ?_, hlat.dom, hlat.new, hlat.gl, hlat.own, fun c c' C h1 h2 hne => ?_⟩, ?_⟩
        · show RB F2 w' s.n m (look _ (PT.set _ _ _) c) (m c)
          rw [look_set]
          by_cases e : c = nm
          · subst e; rw [if_pos rfl, hm0]; exact hrb0 hmb
          · rw [if_neg e]; exact hlat.blk c hc
        · have e1 : c ≠ nm := fun e => by rw [e, hm0] at h1; cases h1
          have e2 : c' ≠ nm := fun e => by rw [e, hm0] at h2; cases h2
          show look _ (PT.set _ _ _) c = Blk.any ∨ look _ (PT.set _ _ _) c' = Blk.any
          rw [look_set, look_set, if_neg e1, if_neg e2]
          exact hlat.inj c c' C h1 h2 hne
        · rw [R_osl]
          exact ⟨hnm, a, cap, rfl, hk, .inl hcap0⟩
      | some B =>
        have hown := hh.own b B hmb
        have hBF : ¬ F2 B := fun h => (hF2' B h).elim (fun h => absurd (hr.fdom B h) (Nat.not_lt.2 hown.1)) hown.2
        obtain ⟨k1, k2⟩ := hr.lay2 (h' := (s.wr (some (nm, blk))).blk) hl hm0 hnm hown.1 (hh.dom b B hmb) hBF (fun c => look_set _ _ _ _ _) (hrb B hmb)
        refine ⟨_, _, _, F2, hq, k2, k1, ?_⟩
        rw [R_osl]
        refine ⟨hnm, a, cap, rfl, hk, hcap.imp id fun ⟨B', c, el, fr, h1, h2, h3, h4⟩ => ⟨B', c, el, fr, h1, ?_, h3, h4⟩⟩
        rw [hmb] at h2
        simpa using h2
    have hbb := hh.blk b hb
    cases hblk : look (fun _ => Blk.none) h' b <;> rw [hblk] at hq hbb <;> try exact hq.elim
    · rename_i cs
      dsimp only at hq
      cases hcc : (cs.clean && (!rl || cs.rowless))
      · rw [hcc] at hq; exact hq.elim
      · rw [hcc] at hq
        simp only [Bool.and_eq_true] at hcc
        obtain ⟨B, xs, el, ys, zs, h1, h2, h3, h4⟩ := hbb
        refine main (.var cs) (fun B' hB' => ?_) (fun h => by rw [h] at h1; cases h1) hq
        rw [h1] at hB'
        injection hB' with hB'
        subst hB'
        exact ⟨B, xs, el, ys, zs, rfl, h2, h3, (val cs hcc.1 hcc.2 _ _ _ _).2 _ h4⟩
    · rename_i es' k' get
      dsimp only at hq
      have go : (∀ j, j < k' → (!rl || (get j).rowless) = true) → (evNew s nm (.arr es' k' get) (.osl st nm es i k)).holds E.P Q → ∃ v' wr m'' F'', Q (v', wr) ∧ Ext base m F s.n w m'' F'' s.n w' ∧ HR base m'' F'' (s.wr wr).blk s.n w' ∧ R F'' w' v' s.n m'' (.slice a k cap) := by
        intro hrow hq
        refine main (.arr es' k' get) (fun B' hB' => ?_) (fun h => ?_) hq
        · rcases hbb with ⟨_, h1⟩ | ⟨B, c, el, h1, h2, h3, h4⟩
          · rw [hB'] at h1; cases h1
          · rw [hB'] at h1
            injection h1 with h1
            subst h1
            refine .inr ⟨B', c, el, rfl, h2, h3, fun j hj => ?_⟩
            obtain ⟨xs, h5, h6, h7⟩ := h4 j hj
            exact ⟨xs, (val (get j) ((R_zero _ _).2 _ h5) (hrow j hj) _ _ _ _).2 _ h5, h6, h7⟩
        · rcases hbb with ⟨h1, _⟩ | ⟨B, c, el, h1, _⟩
          · exact .inl ⟨h1, rfl⟩
          · rw [h] at h1; cases h1
      cases rl with
      | false => exact go (fun _ _ => rfl) hq
      | true =>
        dsimp only at hq
        cases st with
        | true =>
          dsimp only at hq
          cases hall : allN k' (fun j => (get j).rowless)
          · rw [hall] at hq; exact hq.elim
          · rw [hall] at hq
            exact go (fun j hj => by simpa using allN_at hall j hj) hq
        | false => exact go (fun j hj => by simpa using hq.1 j hj) hq.2
  · rw [hc] at hq
    simp only [Bool.and_eq_true] at hc
    exact ⟨v, none, m, F2, hq, hr.ext hl, hr.later hl, (val v hc.1 hc.2 n' m' s.n m).1 _ hx⟩
theorem layR_ok {base : Nat} {m : Nat → Option Nat} {F : Nat → Prop} {s : St Bs} {w : World} (hr : HR base m F s.blk s.n w) {nm : Nat} (hnm : nm < s.n) {rl : Bool} {F0 : Nat → Prop} (hF0 : ∀ B, F B → F0 B) (hrl : rl = false → ∀ B, F0 B → F B)
    {v : V} {h' : PT Blk} {n' : Nat} {Q : V × Option (Nat × Blk) → Prop} (hq : (layR s nm rl (v, h', n')).holds E.P Q) {m' : Nat → Option Nat} {F' : Nat → Prop} {w' : World} {x : Value}
    (he : Ext w.heap.size (fun _ => none) F0 0 w m' F' n' w') (hh : HR w.heap.size m' F' (look (fun _ => .none) h') n' w') (hx : R F' w' v n' m' x) :
    ∃ v' wr m'' F'', Q (v', wr) ∧ Ext base m F s.n w m'' F'' s.n w' ∧ HR base m'' F'' (s.wr wr).blk s.n w' ∧ R F'' w' v' s.n m'' x := by
  unfold layR at hq
  dsimp only at hq
  split at hq
  · rename_i u
    rw [Tree.holds_bind] at hq
    rw [R_agg] at hx
    obtain ⟨xs, rfl, hxs⟩ := hx
    simp only [RL] at hxs
    obtain ⟨y, l, hl, hy, hnil⟩ := hxs
    · subst hnil
      obtain ⟨v', wr, m2, F2, k1, k2, k3, k4⟩ := layR0_ok hr hnm hF0 hrl hq he hh hy
      refine ⟨_, wr, m2, F2, k1, k2, k3, ?_⟩
      rw [R_agg]
      refine ⟨xs, rfl, ?_⟩
      simp only [RL]
      exact ⟨y, [], hl, k4, rfl⟩
  · exact layR0_ok hr hnm hF0 hrl hq he hh hx
theorem HR.weak {base n : Nat} {m : Nat → Option Nat} {F : Nat → Prop} {h h' : Nat → Blk} {w : World} (hr : HR base m F h n w) (hh : ∀ b, h' b = h b ∨ h' b = .any) : HR base m F h' n w :=
  ⟨hr.low, hr.fdom, fun b hb => (hh b).elim (fun e => e ▸ hr.blk b hb) (fun e => by rw [e]; simp only [RB]), hr.dom, hr.new, hr.gl, hr.own, fun b b' B h1 h2 hne => by
    rcases hh b with e | e
    · rcases hh b' with e' | e'
      · rw [e, e']; exact hr.inj b b' B h1 h2 hne
      · exact .inr e'
    · exact .inl e⟩
/-- One operation of such a region, in the model's rule. -/
theorem evD_wp (hE : E.Ok) (hcall : CallOk E call) {lo base : Nat} {m : Nat → Option Nat} {F : Nat → Prop} {s : St Bs} {a : Act} {w : World} (hr : Rel lo base m F s a w) {o : Oper} {sz nm : Nat} (hnm : ∀ b, (foot s nm o.op).l = some b → nm < s.n) {kn : List (Nat × Bool)} (hkn : KnOk s kn) {Q : V × Option (Nat × Blk) → Prop}
    {K : Act → World → Prop} {Qx : Exit → Act → World → Prop} (hq : (evD E call s nb sz nm kn o.op).holds E.P Q)
    (hK : ∀ v wr, Q (v, wr) → ∀ m' F' w' x, Ext base m F s.n w m' F' s.n w' → HR base m' F' (s.wr wr).blk s.n w' → R F' w' v s.n m' x → K (a.put o.dst x) w') : o.wp E.P a w K Qx := by
  have hopndK : ∀ x, R F w (opndK s kn x) s.n m (a.eval x) := by
    intro x
    cases x with
    | tmp t =>
      have := hr.tmp t
      simp only [opndK, Act.eval]
      rcases refine_ok hkn t with h | ⟨c, h1, h2⟩
      · rw [h]; exact this
      · rw [h2] at this; simp only [R] at this; rw [h1]; simp only [R]; exact this
    | const v => exact hr.opnd (.const v)
    | global g => exact hr.opnd (.global g)
    | func f => exact hr.opnd (.func f)
  have quiet : (evDQ E call s nb sz nm kn o.op).holds E.P Q → o.wp E.P a w K Qx := by
    intro hq
    unfold evDQ at hq
    cases hT : evQ E (opndK s kn) s.blk o.op with
    | none =>
      rw [hT] at hq
      dsimp only at hq
      unfold evVal at hq
      cases ho : o.op <;> rw [ho] at hq <;> try exact hq.elim
      rename_i c
      dsimp only at hq
      cases hcal : c.callee <;> rw [hcal] at hq <;> try exact hq.elim
      rename_i f
      dsimp only at hq
      have hnm' : nm < s.n := hnm nm (by rw [ho]; simp only [foot, hcal])
      have hone : HR base m F (ftBlk (foot s nm (.call c)).m (seen nb sz s.blk)) s.n w := hr.hr.weak fun b => by
        unfold ftBlk seen
        cases (foot s nm (.call c)).m with
        | none => exact .inr rfl
        | some r => cases hi : inRes nb sz b <;> simp [hi]
      generalize (ftBlk (foot s nm (.call c)).m (seen nb sz s.blk)) = hh at hq hone
      cases hc : callee (opndK s kn f) (.ofList (c.args.toList.map (opndK s kn))) with
      | none => rw [hc] at hq; exact hq.elim
      | some r =>
        obtain ⟨g, args⟩ := r
        rw [hc] at hq
        dsimp only at hq
        have hargs : RL F w (.ofList (c.args.toList.map (opndK s kn))) s.n m (c.args.map a.eval).toList := by
          simpa using RL_operands (a := a) hopndK c.args.toList
        obtain ⟨ys, hy, hy2⟩ := callee_run (P := E.P) hc (hopndK f) hargs
        obtain ⟨hrun, hys⟩ := hy2 w
        have fin : ∀ {K' : Ending → World → Prop}, Has E.P g → (∀ e w'', K' e w'' → match e with | .returned v => K (a.put o.dst v) w'' | _ => False) → Calls E.P g ys w K' → o.wp E.P a w K Qx := by
          intro K' hhas hK' hcalls
          have hexec : (execOp a.eval o).run E.P w = .ok (.enter g ys) w := by
            simp only [execOp, ho, resolve, hcal, Sem.run_bind, hrun, Result.andThen_ok, invoke, run_callFunc hhas, hys]
          unfold Oper.wp
          rw [hexec]
          simp only [Oper.upon]
          refine hcalls.mono fun e w' he => ?_
          have he := hK' e w' he
          cases e with
          | returned v => exact he
          | panicked c => exact he.elim
          | outgrown => exact he.elim
        cases hcl : args.clean
        · rw [hcl] at hq
          simp only [cond_false] at hq
          have hfd : ∀ B, (F B ∨ ∃ b, m b = some B) → B < w.heap.size := fun B hB => hB.elim (hr.hr.fdom B) fun ⟨b, hb⟩ => hr.hr.dom b B hb
          have hgl : GOk (fun B => F B ∨ ∃ b, m b = some B) w := hr.hr.gl.mono (Sizes.refl w) (fun B h => .inl h) (fun _ _ => rfl)
          have hr0 : HR w.heap.size (fun _ => none) (fun B => F B ∨ ∃ b, m b = some B) (look (fun _ => .none) .nil) 0 w :=
            ⟨Nat.le_refl _, hfd, fun b hb => absurd hb (Nat.not_lt_zero _), fun b B hB => (by cases hB), fun _ _ => rfl, hgl, fun b B hB => (by cases hB), fun b b' B hB => (by cases hB)⟩
          have frz : ∀ fv : V, fv.clean = true → (∀ ys, RL F w args s.n m ys → RL (fun B => F B ∨ ∃ b, m b = some B) w fv s.n m ys) → (evSeen E call s nm g fv).holds E.P Q → o.wp E.P a w K Qx := by
            intro fv hfc hfv hq
            have hfy : RL (fun B => F B ∨ ∃ b, m b = some B) w fv 0 (fun _ => none) ys.toList := (R_clean _ hfc s.n 0 m _).2 _ (hfv _ hy)
            have told : ∀ v, Meets E.P g fv v → (bif v.clean && v.rowless then Tree.leaf (v, (none : Option (Nat × Blk))) else .stuck).holds E.P Q → o.wp E.P a w K Qx := by
              intro v hm hq
              cases hcv : v.clean
              · rw [hcv] at hq; exact hq.elim
              cases hrv : v.rowless
              · rw [hcv, hrv] at hq; exact hq.elim
              rw [hcv, hrv] at hq
              refine fin hm.1 (fun e w'' h => ?_) (hm.2 _ w ys hfd hgl hfy)
              obtain ⟨x, F', rfl, h1, h2⟩ := h
              have hl : Later F w F w'' := ⟨fun _ h => h, fun _ h => .inl h, fun B hB => h1.keep B hB, h1.size, fun h B hB => Nat.lt_of_lt_of_le (h B hB) h1.size, h1.calm⟩
              exact hK v none hq m F w'' x (hr.hr.ext hl) (hr.hr.later hl) ((R_rowless v hcv hrv 0 s.n _ m).1 _ h2)
            unfold evSeen at hq
            cases hΓ : E.Γ g fv with
            | none =>
              rw [hΓ] at hq
              dsimp only at hq
              rw [Tree.holds_bind] at hq
              obtain ⟨hhas, hcalls⟩ := hcall (fun _ => .none) (.inl g) fv .nil 0 w.heap.size (fun _ => none) (fun B => F B ∨ ∃ b, m b = some B) w ys _
                (fun e w'' => match e with | .returned v => K (a.put o.dst v) w'' | _ => False) hr0 hfy hq
                (fun v h' n' hQ m' F' w' x h1 h2 h3 => by
                  obtain ⟨v', wr, m2, F2, k1, k2, k3, k4⟩ := layR_ok hr.hr hnm' (fun B h => .inl h) (fun h => by cases h) hQ h1 h2 h3
                  exact hK v' wr k1 m2 F2 w' x k2 k3 k4)
              exact fin hhas (fun e w'' h => h) hcalls
            | some an =>
              rw [hΓ] at hq
              cases an with
              | sure v => exact told v (hE.sure g fv v hΓ) hq
              | where_ p v =>
                dsimp only at hq
                cases hcv : (v.clean && v.rowless)
                · rw [hcv] at hq; exact hq.elim
                · rw [hcv] at hq
                  refine told v (hE.where_ g fv p v hΓ hq.1) ?_
                  rw [hcv]; exact hq.2
              | fork b v v' => exact hq.elim
          cases hfc : (freeze hh args).clean
          · rw [hfc] at hq
            simp only [cond_false] at hq
            cases hfd2 : (fz hh 6 args).clean
            · rw [hfd2] at hq; exact hq.elim
            rw [hfd2] at hq
            exact frz _ hfd2 (fz_R hone 6 args).2 hq
          rw [hfc] at hq
          simp only [cond_true] at hq
          obtain ⟨hfn, hq⟩ := withNeed_holds hq
          exact frz _ hfc (freeze_R hone _ hfn).2 hq
        · rw [hcl] at hq
          simp only [cond_true] at hq
          rw [Tree.holds_bind] at hq
          have hr0 : HR w.heap.size (fun _ => none) F (look (fun _ => .none) .nil) 0 w :=
            ⟨Nat.le_refl _, hr.hr.fdom, fun b hb => absurd hb (Nat.not_lt_zero _), fun b B hB => (by cases hB), fun _ _ => rfl, hr.hr.gl, fun b B hB => (by cases hB), fun b b' B hB => (by cases hB)⟩
          obtain ⟨hhas, hcalls⟩ := hcall (fun _ => .none) (.inl g) args .nil 0 w.heap.size (fun _ => none) F w ys _
            (fun e w'' => match e with | .returned v => K (a.put o.dst v) w'' | _ => False) hr0 ((R_clean args hcl s.n 0 m _).2 _ hy) hq
            (fun v h' n' hQ m' F' w' x h1 h2 h3 => by
              obtain ⟨v', wr, m2, F2, k1, k2, k3, k4⟩ := layR_ok hr.hr hnm' (fun B h => h) (fun _ B h => h) hQ h1 h2 h3
              exact hK v' wr k1 m2 F2 w' x k2 k3 k4)
          exact fin hhas (fun e w'' h => h) hcalls
    | some T =>
      rw [hT] at hq
      dsimp only at hq
      rw [Tree.holds_bind] at hq
      exact evQ_wp hE hr.hr hopndK hT hq fun v x w' F' h1 h2 h3 => hK v none h1 m F' w' x (hr.hr.ext h2) (hr.hr.later h2) h3
  have newO : nm < s.n → ∀ (blk : Blk) (v : V) (X : Value) (ob : Obj), (∀ m', (∀ b, b < s.n → ∀ B, m b = some B → m' b = some B) → Ext base m F s.n w m' F s.n (w.alloc ob) → RB F (w.alloc ob) s.n m' blk (some w.heap.size)) → (execOp a.eval o).run E.P w = .ok (.value X) (w.alloc ob) →
      (nm < s.n → ∀ m', m' nm = some w.heap.size → R F (w.alloc ob) v s.n m' X) → (evNew s nm blk v).holds E.P Q → o.wp E.P a w K Qx := by
    intro hlt' blk v X ob hrb hrun hX hq
    unfold evNew at hq
    · have hb := hr.hr.blk nm hlt'
      cases hbl : s.blk nm <;> rw [hbl] at hq <;> try exact hq.elim
      rw [hbl] at hb
      have h0 : m nm = none := hb
      obtain ⟨h1, h2⟩ := hr.hr.layO (h' := (s.wr (some (nm, blk))).blk) (nm := nm) (n' := s.n) (o := ob) h0 (Nat.le_refl _) hlt' (fun b h3 h4 => by omega) (fun b => look_set _ _ _ _ _) (fun he => hrb _ he.map he)
      unfold Oper.wp
      rw [hrun]
      simp only [Oper.upon]
      exact hK _ _ hq _ F _ _ h2 h1 (hX hlt' _ (by simp))
  have new : nm < s.n → ∀ (cs v : V) (X : Value) (xs : Array Value) (el : TypeId), RL F w cs s.n m xs.toList → (execOp a.eval o).run E.P w = .ok (.value X) (w.alloc (.cells xs el)) →
      (nm < s.n → ∀ m', m' nm = some w.heap.size → R F (w.alloc (.cells xs el)) v s.n m' X) → (evNew s nm (.var cs) v).holds E.P Q → o.wp E.P a w K Qx := fun hlt' cs v X xs el hrow hrun hX hq =>
    newO hlt' (.var cs) v X (.cells xs el) (fun m' hm he => ⟨_, xs, el, xs.toList, [], rfl, heap_alloc_new w _, by simp, he.row hrow⟩) hrun hX hq
  have ptr : nm < s.n → ∀ (w' : World) (m' : Nat → Option Nat), m' nm = some w.heap.size → R F w' (.ptr true nm 0 0 0) s.n m' (.pointer (some ⟨w.heap.size, 0, none⟩)) := fun hlt w' m' hm => by
    rw [R_ptr]; exact ⟨hlt, w.heap.size, by simp, hm⟩
  cases ho : o.op <;> rw [ho] at hq <;> try (exact quiet (by rw [ho]; exact hq))
  case alloc t =>
    simp only [evD] at hq
    cases hz : tyZero E.P t with
    | none => rw [hz] at hq; exact hq.elim
    | some cs =>
      rw [hz] at hq
      obtain ⟨z, hz1, hz2⟩ := tyZero_run (F := F) (w := w) (n := s.n) (m := m) hz
      exact new (hnm nm (by rw [ho]; rfl)) cs _ _ z.cells t hz2 (by simp only [execOp, ho, Instr.alloc, Sem.run_bind, hz1, Result.andThen_ok]; rfl) (fun hlt m' hm => ptr hlt _ m' hm) hq
  case box t x =>
    simp only [evD] at hq
    cases hs : (opndK s kn x).solid
    · rw [hs] at hq; exact hq.elim
    · rw [hs] at hq
      exact new (hnm nm (by rw [ho]; rfl)) _ _ _ (a.eval x).cells t (RL_cells _ _ (hopndK x) hs) (by simp only [execOp, ho]; rfl) (fun hlt m' hm => ptr hlt _ m' hm) hq
  case buildSlice t len parts =>
    simp only [evD] at hq
    cases hz : evBuildRow E.P t len (parts.toList.map fun p => (p.1, opndK s kn p.2)) with
    | none => rw [hz] at hq; exact hq.elim
    | some zc =>
      obtain ⟨z, cs⟩ := zc
      rw [hz] at hq
      obtain ⟨outc, e, hrun, hrow, hsz⟩ := run_buildSlice (E := E) ho hopndK hz
      exact new (hnm nm (by rw [ho]; rfl)) _ _ _ outc e hrow hrun (fun hlt m' hm => by
        rcases newRows_or nm z len with h | ⟨rfl, h⟩
        · rw [h, R_osl]; exact ⟨hlt, _, len, rfl, Nat.le_refl _, .inr ⟨w.heap.size, outc, e, (0, 0), by rw [Nat.zero_mul], hm, heap_alloc_new w _, by rw [Nat.zero_add, hsz]; exact Nat.le_refl _⟩⟩
        · rw [h]; simp only [R]; exact ⟨_, rfl, fun _ h => by cases h⟩) hq
  case makeSlice t len cap =>
    simp only [evD] at hq
    cases hz : evMakeLit E.P t (opndK s kn len) (opndK s kn cap) with
    | none => rw [hz] at hq; exact hq.elim
    | some zc =>
      obtain ⟨z, k, cs⟩ := zc
      rw [hz] at hq
      obtain ⟨outc, e, hrun0, hrow, hsz⟩ := run_makeLit (w := w) (F := F) (n := s.n) (m := m) (hopndK len) (hopndK cap) hz
      exact new (hnm nm (by rw [ho]; rfl)) _ _ _ outc e hrow (by simp only [execOp, ho, Sem.run_bind, hrun0, Result.andThen_ok]; rfl) (fun hlt m' hm => by
        rcases newRows_or nm z k with h | ⟨rfl, h⟩
        · rw [h, R_osl]; exact ⟨hlt, _, k, rfl, Nat.le_refl _, .inr ⟨w.heap.size, outc, e, (0, 0), by rw [Nat.zero_mul], hm, heap_alloc_new w _, by rw [Nat.zero_add, hsz]; exact Nat.le_refl _⟩⟩
        · rw [h]; simp only [R]; exact ⟨_, rfl, fun _ h => by cases h⟩) hq
  case makeMap t r =>
    simp only [evD] at hq
    cases hz : evMakeMap E.P t (r.map (opndK s kn)) with
    | none => rw [hz] at hq; exact hq.elim
    | some blk =>
      rw [hz] at hq
      obtain ⟨hrun0, kd, rfl⟩ := makeMap_run (F := F) (w := w) (n := s.n) (m := m) (X := r.map a.eval) hz (fun v hv => by
        cases r with
        | none => cases hv
        | some y => injection hv with hv; subst hv; exact ⟨_, rfl, hopndK y⟩) (fun hv => by cases r with | none => rfl | some y => cases hv)
      exact newO (hnm nm (by rw [ho]; rfl)) _ _ _ (.map #[] 0) (fun m' _ _ => RB_newMap (heap_alloc_new w _)) (by simp only [execOp, ho, Sem.run_bind, hrun0, Result.andThen_ok]; rfl) (fun hlt m' hm => by simp only [R]; exact ⟨hlt, _, rfl, hm⟩) hq
  case mapUpdate t mx k x =>
    simp only [evD] at hq
    cases hz : evMapPut E.P s.blk t (opnd s mx) (opndK s kn k) (true, opndK s kn x) with
    | none => rw [hz] at hq; exact hq.elim
    | some bb =>
      obtain ⟨b, blk⟩ := bb
      rw [hz] at hq
      obtain ⟨w', hrun0, k1, k2⟩ := (mapPut_run hr.hr (hr.opnd mx) (hopndK k) hz).1 _ rfl (hopndK x)
      have hrun : (execOp a.eval o).run E.P w = .ok .skip w' := by
        simp only [execOp, ho, Sem.run_bind, hrun0, Result.andThen_ok, Sem.run_pure]
      unfold Oper.wp
      rw [hrun]
      simp only [Oper.upon]
      exact hK _ _ hq m F w' _ k2 (k1 _ (fun c => look_set _ _ _ _ _)) (by simp only [R])
  case insert t mx k x =>
    simp only [evD] at hq
    cases hz : evMapPut E.P s.blk t (opnd s mx) (opndK s kn k) (true, opndK s kn x) with
    | none => rw [hz] at hq; exact hq.elim
    | some bb =>
      obtain ⟨b, blk⟩ := bb
      rw [hz] at hq
      obtain ⟨w', hrun0, k1, k2⟩ := (mapPut_run hr.hr (hr.opnd mx) (hopndK k) hz).1 _ rfl (hopndK x)
      have hrun : (execOp a.eval o).run E.P w = .ok .skip w' := by
        simp only [execOp, ho, Sem.run_bind, hrun0, Result.andThen_ok, Sem.run_pure]
      unfold Oper.wp
      rw [hrun]
      simp only [Oper.upon]
      exact hK _ _ hq m F w' _ k2 (k1 _ (fun c => look_set _ _ _ _ _)) (by simp only [R])
  case load t ax =>
    simp only [evD] at hq
    rw [Tree.holds_bind] at hq
    exact wp_of_val (by simp only [execOp, ho]) (evLoad_val hr.hr (hr.opnd ax)) hq fun v x w' F' h1 h2 h3 => hK v none h1 m F' w' x (hr.hr.ext h2) (hr.hr.later h2) h3
  rename_i t ax xx
  simp only [evD, evStoreD] at hq
  cases hz : tySize E.P t with
  | none => rw [hz] at hq; exact hq.elim
  | some z =>
    rw [hz] at hq
    dsimp only at hq
    cases h1 : Nat.beq (opndK s kn xx).cells.len z
    · rw [h1] at hq; exact hq.elim
    · cases h2 : (opndK s kn xx).cells.allCell
      · rw [h1, h2] at hq; exact hq.elim
      · cases h3 : (opndK s kn xx).solid
        · rw [h1, h2, h3] at hq; exact hq.elim
        · rw [h1, h2, h3] at hq
          simp only [Bool.and_self, cond_true] at hq
          have hax := hr.opnd ax
          have hxx := hopndK xx
          cases hva : opnd s ax <;> rw [hva] at hq <;> try exact hq.elim
          rename_i st b es i' o'
          have hlen : (a.eval xx).cells.size = z := by
            have := RL_len _ _ (RL_cells _ _ hxx h3)
            rw [Nat.eq_of_beq_eq_true h1] at this
            simpa using this.symm
          rw [hva, R_ptr] at hax
          obtain ⟨hb, B, hae, hB⟩ := hax
          dsimp only at hq
          rw [Tree.holds_bind] at hq
          obtain ⟨blk, w', k1, k2, k3, k4⟩ := evStoreB_run hr.hr hb hB hxx h3 hlen h2 hq
          have hrun : (execOp a.eval o).run E.P w = .ok .skip w' := by
            simp only [execOp, ho, Sem.run_bind, Instr.storeAt, hae, Instr.sureAddr, pure_bind, storeVar, tySize_run hz, Result.andThen_ok]
            rw [if_neg (by simp [hlen])]
            simp only [k2, Result.andThen_ok, Sem.run_pure]
          unfold Oper.wp
          rw [hrun]
          simp only [Oper.upon]
          exact hK _ _ k1 m F w' _ k4 (k3 _ (fun c => look_set _ _ _ _ _)) (by simp only [R])

theorem evStoreB_flat (blk : Blk) (st : Bool) (es i o z : Nat) (v : V) : (evStoreB blk st es i o z v).flat = true := by
  unfold evStoreB
  cases blk with
  | none => rfl
  | any => rfl
  | rng => rfl
  | mapV => rfl
  | iter => rfl
  | var cs => dsimp only; cases (st && Nat.ble (i * es + o + z) cs.len) <;> rfl
  | arr es' n get =>
    dsimp only
    cases (Nat.beq es es' && (Nat.ble (o + z) es && v.clean))
    · rfl
    · simp only [cond_true, atIdx]
      cases st with
      | false => rfl
      | true => dsimp only; cases Nat.blt i n <;> rfl
theorem evD_nodefer {E : Env} {call : CallF} {Bs : Base} {s : St Bs} {nb sz nm : Nat} {kn : List (Nat × Bool)} {o : Op} {Q : V × Option (Nat × Blk) → Prop} (hq : (evD E call s nb sz nm kn o).holds E.P Q) : ∀ c, o ≠ .defer c := by
  intro c e
  subst e
  exact hq
theorem evOp_call_congr {B B' : Base} {s : St B} {s' : St B'} {c : Call} (hx : ∀ x ∈ (Op.call c).operands, opnd s x = opnd s' x) (hB : B.h = B'.h) (hh : s.h = s'.h) (hn : s.n = s'.n) : evOp E call s (.call c) = evOp E call s' (.call c) := by
  have hb : s.blk = s'.blk := by unfold St.blk; rw [hh, hB]
  simp only [Op.operands] at hx
  have hargs : c.args.toList.map (opnd s) = c.args.toList.map (opnd s') := List.map_congr_left fun x h => hx x (by simp [Call.operands]; right; simpa using h)
  simp only [evOp, evQ]
  rw [hargs, hb, hh, hn, hB]
  cases hcal : c.callee with
  | value f =>
    have hf : opnd s f = opnd s' f := hx f (by simp [Call.operands, hcal])
    simp only [evFrozen, hf, hargs]
  | builtin b =>
    dsimp only
    cases b <;> try rfl
    dsimp only
    cases c.argTypes.toList with
    | nil => rfl
    | cons t ts =>
      dsimp only
      cases hl : c.args.toList with
      | nil => rfl
      | cons m l =>
        cases l with
        | nil => rfl
        | cons k l =>
          cases l with
          | cons _ _ => rfl
          | nil =>
            dsimp only
            have hm : opnd s m = opnd s' m := hx m (by simp [Call.operands]; right; have : m ∈ c.args.toList := (by rw [hl]; simp); simpa using this)
            have hk : opnd s k = opnd s' k := hx k (by simp [Call.operands]; right; have : k ∈ c.args.toList := (by rw [hl]; simp); simpa using this)
            rw [hm, hk]
  | invoke r m => rfl
theorem zero_run {P : Program} {t : TypeId} {i : TypeInfo} {z : Value} (hi : P.info? t = some i) (hz : i.zero = some z) (w : World) : (zeroValue t).run P w = .ok z w := by
  simp only [zeroValue, Sem.run_bind, run_typeInfo w hi, Result.andThen_ok, hz, Sem.run_pure]
theorem tyZero_all {P : Program} {t : TypeId} {cs : V} (h : tyZero P t = some cs) : ∃ z, ∀ (F : Nat → Prop) (w : World) (n : Nat) (m : Nat → Option Nat), (zeroValue t).run P w = .ok z w ∧ RL F w cs n m z.cells.toList := by
  have h0 := h
  unfold tyZero at h0
  cases hi : P.info? t with
  | none => rw [hi] at h0; cases h0
  | some i =>
    rw [hi] at h0
    dsimp only at h0
    cases hz : i.zero with
    | none => rw [hz] at h0; cases h0
    | some z =>
      refine ⟨z, fun F w n m => ⟨zero_run hi hz w, ?_⟩⟩
      obtain ⟨z2, h1, h2⟩ := tyZero_run (F := F) (w := w) (n := n) (m := m) h
      rw [zero_run hi hz w] at h1
      injection h1 with h1
      subst h1
      exact h2
/-- What is ready: it has not been carried out, and what must come ahead of it has. -/
theorem ready_spec {L : Array Bool} (he : Edges ops bf) (hsz : L.size = ops.size) (hcl : ∀ d e, L.getD d false = true → (bf.getD d 0).testBit e = true → L.getD e false = true) {i : Nat} (hmem : i ∈ Region.ready .any ops L) :
    i < ops.size ∧ L.getD i false = false ∧ ∀ e, (bf.getD i 0).testBit e = true → L.getD e false = true := by
  unfold Region.ready at hmem
  rw [List.mem_filter] at hmem
  obtain ⟨hi, hcond⟩ := hmem
  have hi := List.mem_range.1 hi
  have hlt : i < L.size := by rw [hsz]; exact hi
  have ho : ops[i]? = some ops[i] := Array.getElem?_eq_getElem hi
  simp only [ho, Option.map_some, Option.getD_some, Bool.and_eq_true, Bool.not_eq_true'] at hcond
  obtain ⟨hL, hedges⟩ := hcond
  refine ⟨hi, by simp [Array.getD_eq_getD_getElem?, hlt] at hL ⊢; exact hL, fun e hbit => ?_⟩
  obtain ⟨ed, h1, h2, h3⟩ := he.edge i _ ho e hbit
  rw [← Array.all_toList, List.all_eq_true] at hedges
  have := hedges ed h1
  rw [h2] at this
  have hon : L.getD ed.on false = true := by simpa using this
  rcases h3 with rfl | h3
  · exact hon
  · exact hcl _ _ hon h3
/-- Whatever has all that comes ahead of it by the text's order is ready. -/
theorem ready_of {L : Array Bool} (he : Edges ops bf) (hsz : L.size = ops.size) {i : Nat} (hi : i < ops.size) (hn : L.getD i false = false) (hb : ∀ j, j < i → L.getD j false = true) : i ∈ Region.ready .any ops L := by
  unfold Region.ready
  rw [List.mem_filter]
  refine ⟨List.mem_range.2 hi, ?_⟩
  have ho : ops[i]? = some ops[i] := Array.getElem?_eq_getElem hi
  have hL' : L.getD i true = false := by
    have hlt : i < L.size := by rw [hsz]; exact hi
    simp [Array.getD_eq_getD_getElem?, hlt] at hn ⊢; exact hn
  simp only [hL', Bool.not_false, Bool.true_and, ho, Option.map_some, Option.getD_some]
  rw [← Array.all_toList, List.all_eq_true]
  intro ed hed
  cases hbd : Region.binds .any ed with
  | false => rfl
  | true =>
    have hlt := he.back i _ ho ed hed hbd
    simp [hb ed.on hlt]
/-- All has been carried out. -/
theorem any_end {ro : Option Nat} {L : Array Bool} {fuel : Nat} {a : Act} {w : World} {Qx : Exit → Act → World → Prop} (hsz : L.size = ops.size) (hall : ∀ i, i < ops.size → L.getD i false = true) (h : Qx .normal a w) : wpAnyIn (fen ro) 0 E.P .any ops Qx fuel L a w := by
  have hnil : Region.ready .any ops L = [] := by
    unfold Region.ready
    rw [List.filter_eq_nil_iff]
    intro i hi
    have hi' := List.mem_range.1 hi
    have hlt : i < L.size := by rw [hsz]; exact hi'
    have h1 := hall i hi'
    have hL' : L.getD i true = true := by simp [Array.getD_eq_getD_getElem?, hlt] at h1 ⊢; exact h1
    simp [hL']
  cases fuel with
  | zero => exact ⟨hnil, h⟩
  | succ n => exact ⟨fun _ => h, fun i hi => by rw [hnil] at hi; cases hi⟩
theorem Rel.congr {lo base : Nat} {m : Nat → Option Nat} {F : Nat → Prop} {s s' : St Bs} {a : Act} {w : World} (hr : Rel lo base m F s a w) (hb : ∀ b, s'.blk b = s.blk b) (hn : s'.n = s.n) (hN : s'.N = s.N) (ht : ∀ t, s'.tmp t = s.tmp t ∨ s'.tmp t = .junk) : Rel lo base m F s' a w := by
  refine ⟨by rw [hn, funext hb]; exact hr.hr, hr.defers, by rw [hr.size, hN], fun t => ?_⟩
  rw [hn]
  rcases ht t with h | h
  · rw [h]; exact hr.tmp t
  · rw [h]; simp only [R]
/-- Some temporaries are as if they were not known. -/
def St.junkAt (s : St Bs) (ts : List Nat) : St Bs := { s with t := ts.foldr (fun d t => t.set d .junk) s.t }
theorem junkAt_tmp (s : St Bs) (ts : List Nat) (t : Nat) : (s.junkAt ts).tmp t = if t ∈ ts then .junk else s.tmp t := by
  unfold St.junkAt St.tmp
  dsimp only
  induction ts with
  | nil => simp
  | cons d ts ih =>
    simp only [List.foldr_cons]
    rw [look_set]
    by_cases e : t = d
    · rw [if_pos e, if_pos (by simp [e])]
    · rw [if_neg e, ih]
      simp [e]
/-- A variable that the model has laid, and the text's order has not yet: an operation, its temporary, the block. -/
structure Pend (P : Program) (ops : Array Oper) (bf : List Nat) (fp : Nat → Ft) (base : Nat) (w0 : World) (L' : Array Bool) (m : Nat → Option Nat) (F : Nat → Prop) (a : Act) (w : World) (e : Nat × Nat × Nat) : Prop where
  lt : e.1 < ops.size
  op : ∃ o t cs xs, ops[e.1]? = some o ∧ o.op = .alloc t ∧ o.dst = some e.2.1 ∧ o.guard = none ∧ tyZero P t = some cs ∧ w.heap[e.2.2]? = some (.cells xs t) ∧ ∀ (F : Nat → Prop) (w : World) (n : Nat) (m : Nat → Option Nat), RL F w cs n m xs.toList
  tmp : e.2.1 < a.tmps.size ∧ a.tmps.getD e.2.1 Go.undef = .pointer (some ⟨e.2.2, 0, none⟩)
  base : base ≤ e.2.2
  new : w0.heap.size ≤ e.2.2
  fr : ¬ F e.2.2
  un : ∀ b, m b ≠ some e.2.2
  rdy : ∀ x, (bf.getD e.1 0).testBit x = true → L'.getD x false = true
  not : L'.getD e.1 false = false
theorem Pend.lt' {P : Program} {ops : Array Oper} {bf : List Nat} {fp : Nat → Ft} {base : Nat} {w0 : World} {L' : Array Bool} {m : Nat → Option Nat} {F : Nat → Prop} {a : Act} {w : World} {e : Nat × Nat × Nat} (h : Pend P ops bf fp base w0 L' m F a w e) : e.2.2 < w.heap.size := by
  obtain ⟨o, t, cs, xs, _, _, _, _, _, h2, _⟩ := h.op
  rcases Nat.lt_or_ge e.2.2 w.heap.size with h' | h'
  · exact h'
  · rw [Array.getElem?_eq_none h'] at h2; cases h2
/-- It stays so behind another operation. -/
theorem Pend.next {P : Program} {ops : Array Oper} {bf : List Nat} {fp : Nat → Ft} {base : Nat} {w0 : World} {L' : Array Bool} {m m' : Nat → Option Nat} {F F' : Nat → Prop} {n n' : Nat} {a : Act} {w w' : World} {e : Nat × Nat × Nat} (h : Pend P ops bf fp base w0 L' m F a w e) (hx : Ext base m F n w m' F' n' w')
    {i : Nat} (hi : i < L'.size) (hne : i ≠ e.1) {dst : Option Tmp} {v : Value} (hd : dst ≠ some e.2.1) : Pend P ops bf fp base w0 (L'.setIfInBounds i true) m' F' (a.put dst v) w' e := by
  have hlt := h.lt'
  obtain ⟨o, t, cs, xs, h1, h2, h3, h4, h5, h6, h7⟩ := h.op
  refine ⟨h.lt, ⟨o, t, cs, xs, h1, h2, h3, h4, h5, by rw [hx.ow.un _ hlt h.un]; exact h6, h7⟩, ?_, h.base, h.new, fun hF => (hx.back _ hF).elim h.fr (fun hge => absurd hlt (Nat.not_lt.2 hge)), fun b hb => ?_, fun x hb => (getD_set hi x).2 (.inr (h.rdy x hb)), ?_⟩
  · cases dst with
    | none => exact h.tmp
    | some d =>
      have hne' : d ≠ e.2.1 := fun e' => hd (by rw [e'])
      refine ⟨by simp [Act.put, h.tmp.1], ?_⟩
      have := h.tmp.2
      simp only [Act.put, Array.getD_eq_getD_getElem?] at this ⊢
      rw [Array.getElem?_setIfInBounds_ne hne']
      exact this
  · obtain ⟨c, hc⟩ := hx.ow.old b _ hb hlt
    exact h.un c hc
  · cases hg : (L'.setIfInBounds i true).getD e.1 false with
    | false => rfl
    | true =>
      rcases (getD_set hi e.1).1 hg with h' | h'
      · exact absurd h'.symm hne
      · rw [h.not] at h'; cases h'
/-- Where a run in another order stands, some new variables held back. -/
structure Held (P : Program) (ops : Array Oper) (bf : List Nat) (nb : Nat) (S : Nat → St Bs) (fp : Nat → Ft) (lo base : Nat) (m0 : Nat → Option Nat) (F0 : Nat → Prop) (n0 : Nat) (w0 : World) (L L' : Array Bool) (PL : List (Nat × Nat × Nat)) (s : St Bs) (a : Act) (w : World) (m : Nat → Option Nat) (F : Nat → Prop) : Prop where
  inv : Inv ops bf nb S fp L' s
  rel : Rel lo base m F (s.junkAt (PL.map (·.2.1))) a w
  ext : Ext base m0 F0 n0 w0 m F s.n w
  size : L.size = ops.size
  mem : ∀ d, L.getD d false = true ↔ L'.getD d false = true ∨ ∃ e ∈ PL, e.1 = d
  nod : PL.Pairwise fun e e' => e.1 ≠ e'.1 ∧ e.2.2 ≠ e'.2.2
  each : ∀ e ∈ PL, Pend P ops bf fp base w0 L' m F a w e
theorem lateB_lt {ops : Array Oper} {bf : List Nat} {i j : Nat} {f : Ft} (h : lateB ops bf i j f = true) : i < j := by
  unfold lateB at h
  simp only [Bool.and_eq_true, Nat.blt_eq] at h
  exact h.1
theorem lateB_spec {ops : Array Oper} {bf : List Nat} {i j : Nat} {f : Ft} (h : lateB ops bf i j f = true) : (∃ w, f.m = some (w, none)) ∧ (∃ o, ops[j]? = some o ∧ isAlloc o = true) ∧ ∀ e, e < ops.size → (bf.getD e 0).testBit j = true → (bf.getD e 0).testBit i = true := by
  unfold lateB at h
  simp only [Bool.and_eq_true] at h
  obtain ⟨_, h1, h2⟩ := h
  refine ⟨?_, ?_⟩
  · unfold isBigF at h1
    split at h1
    · rename_i w hm; exact ⟨w, hm⟩
    · cases h1
  · cases ho : ops[j]? with
    | none => rw [ho] at h2; cases h2
    | some o =>
      rw [ho] at h2
      simp only [Bool.and_eq_true] at h2
      refine ⟨⟨o, rfl, h2.1⟩, fun e he hb => ?_⟩
      have := List.all_eq_true.1 h2.2 e (List.mem_range.2 he)
      rw [hb] at this
      simpa using this
section
variable {lo base : Nat} {m0 : Nat → Option Nat} {F0 : Nat → Prop} {n0 : Nat} {w0 : World} {L L' : Array Bool} {PL : List (Nat × Nat × Nat)} {s : St Bs} {a : Act} {w : World} {m : Nat → Option Nat} {F : Nat → Prop}
theorem Pend.small (hp : Path E call ops bf nb S fp) {e : Nat × Nat × Nat} (h : Pend E.P ops bf fp base w0 L' m F a w e) : (fp e.1).m = none ∧ ∃ cs, (∃ xs t, w.heap[e.2.2]? = some (.cells xs t) ∧ ∀ (F : Nat → Prop) (w : World) (n : Nat) (m : Nat → Option Nat), RL F w cs n m xs.toList) ∧ S (e.1 + 1) = ((S e.1).wr (some (nb + e.1, .var cs))).put (some e.2.1) (.ptr true (nb + e.1) 0 0 0) ∧ (S e.1).blk (nb + e.1) = .none ∧ fp e.1 = { m := none, l := some (nb + e.1) } ∧ e.2.1 < (S e.1).N := by
  obtain ⟨o, t, cs, xs, h1, h2, h3, h4, h5, h6, h7⟩ := h.op
  rcases hp.step e.1 o h1 with ⟨r, kn, hw, hkn, hknl, hf, hh, hd, hS, hfp⟩ | ⟨r, hw, hbg, _⟩ | ⟨r, hw, hbg, _⟩ | ⟨hw, _⟩
  · rw [h2] at hfp hh
    refine ⟨by rw [hfp]; rfl, cs, ⟨xs, t, h6, h7⟩, ?_⟩
    simp only [evD, h5] at hh
    unfold evNew at hh
    cases hb : (S e.1).blk (nb + e.1) <;> rw [hb] at hh <;> try exact hh.elim
    have hh' : (V.ptr true (nb + e.1) 0 0 0, some (nb + e.1, Blk.var cs)) = r := hh
    subst hh'
    rw [h3] at hS
    exact ⟨hS, rfl, hfp, dst_lt (o := o) hd _ h3⟩
  · rw [h2] at hbg; cases hbg
  · rw [h2] at hbg; cases hbg
  · unfold truth at hw; rw [h4] at hw; cases hw
/-- What comes ahead of what is ready is not held back. -/
theorem Held.ready (hp : Path E call ops bf nb S fp) (hh : Held E.P ops bf nb S fp lo base m0 F0 n0 w0 L L' PL s a w m F) (hwait : ∀ e ∈ PL, ∃ i, lateB ops bf i e.1 (fp i) = true ∧ L'.getD i false = false)
    {i : Nat} (hi : i < ops.size) (hready : ∀ e, (bf.getD i 0).testBit e = true → L.getD e false = true) : ∀ e, (bf.getD i 0).testBit e = true → L'.getD e false = true := by
  intro x hx
  rcases (hh.mem x).1 (hready x hx) with h | ⟨e, he, rfl⟩
  · exact h
  · obtain ⟨i1, h1, h2⟩ := hwait e he
    obtain ⟨k1, _, k3⟩ := lateB_spec h1
    have hL1 := hready i1 (k3 i hi hx)
    rcases (hh.mem i1).1 hL1 with h | ⟨e', he', rfl⟩
    · rw [h2] at h; cases h
    · have := ((hh.each e' he').small hp).1
      obtain ⟨_, k1⟩ := k1
      rw [k1] at this; cases this
/-- A variable that need not be held back any more. -/
theorem Held.realize (hp : Path E call ops bf nb S fp) (he : Edges ops bf) {l1 l2 : List (Nat × Nat × Nat)} {e : Nat × Nat × Nat} (hh : Held E.P ops bf nb S fp lo base m0 F0 n0 w0 L L' (l1 ++ e :: l2) s a w m F)
    (hlate : ∀ i', lateB ops bf i' e.1 (fp i') = true → L'.getD i' false = true) : ∃ L'' s'' m'', Held E.P ops bf nb S fp lo base m0 F0 n0 w0 L L'' (l1 ++ l2) s'' a w m'' F := by
  have hmem : e ∈ l1 ++ e :: l2 := by simp
  have hpe := hh.each e hmem
  obtain ⟨hm, cs, ⟨xs, t, h6, h7⟩, hS, hbS, hfp, hdN⟩ := hpe.small hp
  obtain ⟨o, t', cs', xs', g1, g2, g3, g4, _⟩ := hpe.op
  obtain ⟨_, _, hrl, _⟩ := hh.inv.reads hp he hpe.lt g1 hpe.not hpe.rdy hlate
  have hbs : s.blk (nb + e.1) = .none := by rw [hrl _ (by rw [hfp]), hbS]
  have hlt : nb + e.1 < s.n := by
    have hl : ops.toList.any lays = true := List.any_eq_true.2 ⟨o, Array.mem_toList_iff.2 (Array.mem_of_getElem? g1), by unfold lays; rw [g2]⟩
    have h1 := hh.inv.res hl
    have h2 := hpe.lt
    omega
  have hjb : ∀ (s : St Bs) ts b, (s.junkAt ts).blk b = s.blk b := fun _ _ _ => rfl
  have hm0 : m (nb + e.1) = none := by
    have := hh.rel.hr.blk (nb + e.1) hlt
    rw [show (s.junkAt ((l1 ++ e :: l2).map (·.2.1))).blk (nb + e.1) = .none from hbs] at this
    exact this
  have hdiff : ∀ e' ∈ l1 ++ l2, e'.1 ≠ e.1 ∧ e'.2.2 ≠ e.2.2 := by
    intro e' he'
    have hpw := List.pairwise_append.1 hh.nod
    rcases List.mem_append.1 he' with h | h
    · exact hpw.2.2 e' h e (by simp)
    · have := (List.pairwise_cons.1 hpw.2.1).1 e' h
      exact ⟨fun h => this.1 h.symm, fun h => this.2 h.symm⟩
  have hLs : L'.size = ops.size := hh.inv.size
  have hiL : e.1 < L'.size := by rw [hLs]; exact hpe.lt
  have hinv := hh.inv.next hp he hpe.lt g1 hpe.not hpe.rdy hlate (v := .ptr true (nb + e.1) 0 0 0) (x := some (nb + e.1, .var cs))
    (fun b blk hx => by injection hx with hx; injection hx with hx _; subst hx; rw [WrB, hfp]; exact .inr (.inr rfl)) (fun h => by rw [BigF, hm] at h; cases h)
    (fun b hb => by
      rw [WrB, hfp] at hb
      rcases hb with hb | ⟨hb, _⟩ | hb
      · cases hb
      · cases hb
      · injection hb with hb; subst hb; rw [hbs, hbS]) (by rw [g3]; exact hS)
  rw [g3] at hinv
  have hext : Ext base m0 F0 n0 w0 (fun b => if b = nb + e.1 then some e.2.2 else m b) F s.n w := by
    have h := hh.ext
    refine ⟨h.f, h.back, h.keep, h.size, h.sz, ⟨h.ow.un, fun b C hb hC => ?_⟩, h.le, fun b hb C hC => ?_, h.calm⟩
    · by_cases e1 : b = nb + e.1
      · rw [if_pos e1] at hb; injection hb with hb; have := hpe.new; omega
      · rw [if_neg e1] at hb; exact h.ow.old b C hb hC
    · have := h.map b hb C hC
      rw [if_neg (fun e1 => by rw [e1, hm0] at this; cases this)]
      exact this
  have mono : ∀ (v : V) (x : Value), R F w v s.n m x → R F w v s.n (fun b => if b = nb + e.1 then some e.2.2 else m b) x := fun v x h =>
    (R_mono (Sizes.refl w) (fun _ h => h) (fun _ _ => rfl) v s.n s.n m _ (Nat.le_refl _) (fun b _ B hb => by rw [if_neg (fun e1 => by rw [e1, hm0] at hb; cases hb)]; exact hb)).1 x h
  have hr := hh.rel.hr
  have hHR : HR base (fun b => if b = nb + e.1 then some e.2.2 else m b) F (s.wr (some (nb + e.1, .var cs))).blk s.n w := by
    refine ⟨hr.low, hr.fdom, fun b hb => ?_, fun b C hC => ?_, fun b hb => ?_, hr.gl, fun b C hC => ?_, fun b b' C h1 h2 hne => ?_⟩
    · show RB F w s.n _ (look _ (PT.set _ _ _) b) _
      rw [look_set]
      by_cases e1 : b = nb + e.1
      · rw [if_pos e1, if_pos e1]
        exact ⟨e.2.2, xs, t, xs.toList, [], rfl, h6, by simp, h7 _ _ _ _⟩
      · rw [if_neg e1, if_neg e1]
        exact RB_more (Nat.le_refl _) (fun c _ C hc => by rw [if_neg (fun e1 => by rw [e1, hm0] at hc; cases hc)]; exact hc) (hr.blk b hb)
    · by_cases e1 : b = nb + e.1
      · rw [if_pos e1] at hC; injection hC with hC; subst hC; exact hpe.lt'
      · rw [if_neg e1] at hC; exact hr.dom b C hC
    · rw [if_neg (by have hb' : s.n ≤ b := hb; omega)]; exact hr.new b hb
    · by_cases e1 : b = nb + e.1
      · rw [if_pos e1] at hC; injection hC with hC; subst hC; exact ⟨hpe.base, hpe.fr⟩
      · rw [if_neg e1] at hC; exact hr.own b C hC
    · by_cases e1 : b = nb + e.1 <;> by_cases e2 : b' = nb + e.1
      · exact absurd (e1.trans e2.symm) hne
      · rw [if_pos e1] at h1; rw [if_neg e2] at h2; injection h1 with h1; subst h1; exact absurd h2 (hpe.un b')
      · rw [if_neg e1] at h1; rw [if_pos e2] at h2; injection h2 with h2; subst h2; exact absurd h1 (hpe.un b)
      · rw [if_neg e1] at h1; rw [if_neg e2] at h2
        show look _ (PT.set _ _ _) b = Blk.any ∨ look _ (PT.set _ _ _) b' = Blk.any
        rw [look_set, look_set, if_neg e1, if_neg e2]
        exact hr.inj b b' C h1 h2 hne
  refine ⟨L'.setIfInBounds e.1 true, (s.wr (some (nb + e.1, .var cs))).put (some e.2.1) (.ptr true (nb + e.1) 0 0 0), fun b => if b = nb + e.1 then some e.2.2 else m b, hinv, ?_, by rw [St.put_n, St.wr_n]; exact hext, hh.size, fun d => ?_, ?_, fun e' he' => ?_⟩
  · refine ⟨?_, ?_, ?_, fun t => ?_⟩
    · show HR base _ F (s.wr (some (nb + e.1, .var cs))).blk s.n w
      exact hHR
    · obtain ⟨rs, hk⟩ := hh.rel.defers
      refine ⟨rs, hk.eq, hk.nodup, hk.le, hk.lo, hk.obj, fun r hr' => ⟨(hk.un r hr').1, fun b hb => ?_⟩⟩
      by_cases e1 : b = nb + e.1
      · rw [if_pos e1] at hb
        injection hb with hb
        have := hk.obj r hr'
        rw [← hb, h6] at this
        cases this
      · rw [if_neg e1] at hb; exact (hk.un r hr').2 b hb
    · exact hh.rel.size
    · rw [junkAt_tmp]
      have hn' : (((s.wr (some (nb + e.1, .var cs))).put (some e.2.1) (.ptr true (nb + e.1) 0 0 0)).junkAt ((l1 ++ l2).map (·.2.1))).n = s.n := rfl
      rw [hn']
      by_cases ht : t ∈ (l1 ++ l2).map (·.2.1)
      · rw [if_pos ht]; simp only [R]
      · rw [if_neg ht]
        by_cases e1 : t = e.2.1
        · subst e1
          have : ((s.wr (some (nb + e.1, .var cs))).put (some e.2.1) (.ptr true (nb + e.1) 0 0 0)).tmp e.2.1 = .ptr true (nb + e.1) 0 0 0 := by show look _ (PT.set _ _ _) _ = _; rw [look_set_eq]
          rw [this, hpe.tmp.2, R_ptr]
          exact ⟨hlt, e.2.2, by simp, by simp⟩
        · rw [put_tmp_ne (fun h => e1 (by injection h with h; exact h.symm))]
          have h1 := hh.rel.tmp t
          rw [junkAt_tmp, if_neg (fun h => by
            simp only [List.map_append, List.map_cons, List.mem_append, List.mem_cons] at h ht
            rcases h with h | h | h
            · exact ht (.inl h)
            · exact e1 h
            · exact ht (.inr h))] at h1
          exact mono _ _ h1
  · rw [hh.mem, getD_set hiL]
    constructor
    · rintro (h | ⟨x, hx, rfl⟩)
      · exact .inl (.inr h)
      · rcases List.mem_append.1 hx with h | h
        · exact .inr ⟨x, by simp [h], rfl⟩
        · rcases List.mem_cons.1 h with rfl | h
          · exact .inl (.inl rfl)
          · exact .inr ⟨x, by simp [h], rfl⟩
    · rintro ((rfl | h) | ⟨x, hx, rfl⟩)
      · exact .inr ⟨e, hmem, rfl⟩
      · exact .inl h
      · refine .inr ⟨x, ?_, rfl⟩
        rcases List.mem_append.1 hx with h | h <;> simp [h]
  · have hpw := List.pairwise_append.1 hh.nod
    exact List.pairwise_append.2 ⟨hpw.1, (List.pairwise_cons.1 hpw.2.1).2, fun x hx y hy => hpw.2.2 x hx y (by simp [hy])⟩
  · have h' := hh.each e' (by rcases List.mem_append.1 he' with h | h <;> simp [h])
    obtain ⟨k1, k2⟩ := hdiff e' he'
    refine ⟨h'.lt, h'.op, h'.tmp, h'.base, h'.new, h'.fr, fun b hb => ?_, fun x hx => (getD_set hiL x).2 (.inr (h'.rdy x hx)), ?_⟩
    · by_cases e1 : b = nb + e.1
      · rw [if_pos e1] at hb; injection hb with hb; exact k2 hb.symm
      · rw [if_neg e1] at hb; exact h'.un b hb
    · cases hg : (L'.setIfInBounds e.1 true).getD e'.1 false with
      | false => rfl
      | true =>
        rcases (getD_set hiL e'.1).1 hg with h | h
        · exact absurd h k1
        · rw [h'.not] at h; cases h
/-- All that need not be held back are not. -/
theorem Held.all (hp : Path E call ops bf nb S fp) (he : Edges ops bf) : ∀ (k : Nat) (L' : Array Bool) (PL : List (Nat × Nat × Nat)) (s : St Bs) (m : Nat → Option Nat), PL.length ≤ k → Held E.P ops bf nb S fp lo base m0 F0 n0 w0 L L' PL s a w m F →
    ∃ L'' PL'' s'' m'', Held E.P ops bf nb S fp lo base m0 F0 n0 w0 L L'' PL'' s'' a w m'' F ∧ ∀ e ∈ PL'', ∃ i, lateB ops bf i e.1 (fp i) = true ∧ L''.getD i false = false := by
  intro k
  induction k with
  | zero =>
    intro L' PL s m hk hh
    have : PL = [] := List.eq_nil_of_length_eq_zero (by omega)
    subst this
    exact ⟨L', [], s, m, hh, fun e he => by cases he⟩
  | succ k ih =>
    intro L' PL s m hk hh
    by_cases hall : ∀ e ∈ PL, ∃ i, lateB ops bf i e.1 (fp i) = true ∧ L'.getD i false = false
    · exact ⟨L', PL, s, m, hh, hall⟩
    · have : ∃ e ∈ PL, ∀ i, lateB ops bf i e.1 (fp i) = true → L'.getD i false = true := by
        refine Classical.byContradiction fun hno => hall fun e he => Classical.byContradiction fun hno2 => hno ⟨e, he, fun i hi => ?_⟩
        cases hL : L'.getD i false with
        | true => rfl
        | false => exact absurd ⟨i, hi, hL⟩ hno2
      obtain ⟨e, hmem, hl⟩ := this
      obtain ⟨l1, l2, rfl⟩ := List.append_of_mem hmem
      obtain ⟨L2, s2, m2, hh2⟩ := hh.realize hp he hl
      exact ih L2 (l1 ++ l2) s2 m2 (by simp at hk ⊢; omega) hh2
end
theorem any_wp {ro : Option Nat} (hE : E.Ok) (hcall : CallOk E call) (hp : Path E call ops bf nb S fp) (he : Edges ops bf) {lo base : Nat} {Qx : Exit → Act → World → Prop} {m0 : Nat → Option Nat} {F0 : Nat → Prop} {n0 : Nat} {w0 : World}
    (hK : ∀ m' F' a' w', Ext base m0 F0 n0 w0 m' F' (S ops.size).n w' → Rel lo base m' F' (S ops.size) a' w' → Qx .normal a' w') :
    ∀ (fuel : Nat) (L L' : Array Bool) (PL : List (Nat × Nat × Nat)) (s : St Bs) (a : Act) (w : World) (m : Nat → Option Nat) (F : Nat → Prop), Held E.P ops bf nb S fp lo base m0 F0 n0 w0 L L' PL s a w m F →
    (∀ e ∈ PL, ∃ i, lateB ops bf i e.1 (fp i) = true ∧ L'.getD i false = false) →
    ((List.range ops.size).filter fun i => !L.getD i false).length ≤ fuel → wpAnyIn (fen ro) 0 E.P .any ops Qx fuel L a w := by
  -- where nothing is ready, all has been carried out
  have done : ∀ (L L' : Array Bool) PL s a w m F, Held E.P ops bf nb S fp lo base m0 F0 n0 w0 L L' PL s a w m F → Region.ready .any ops L = [] → ∀ i, i < ops.size → L.getD i false = true := by
    intro L L' PL s a w m F hv hnil i
    induction i using Nat.strongRecOn with
    | _ i ih =>
      intro hi
      cases hL : L.getD i false with
      | true => rfl
      | false =>
        have := ready_of he hv.size hi hL fun j hj => ih j hj (by omega)
        rw [hnil] at this
        cases this
  have final : ∀ (L L' : Array Bool) PL s a w m F, Held E.P ops bf nb S fp lo base m0 F0 n0 w0 L L' PL s a w m F → (∀ e ∈ PL, ∃ i, lateB ops bf i e.1 (fp i) = true ∧ L'.getD i false = false) →
      (∀ i, i < ops.size → L.getD i false = true) → Qx .normal a w := by
    intro L L' PL s a w m F hh hwait hall
    have hPL : PL = [] := by
      cases PL with
      | nil => rfl
      | cons e PL =>
        exfalso
        obtain ⟨i, h1, h2⟩ := hwait e (by simp)
        obtain ⟨k1, _, _⟩ := lateB_spec h1
        have hi : i < ops.size := Nat.lt_trans (lateB_lt h1) (hh.each e (by simp)).lt
        rcases (hh.mem i).1 (hall i hi) with h | ⟨e', he', rfl⟩
        · rw [h2] at h; cases h
        · have := ((hh.each e' he').small hp).1
          obtain ⟨_, k1⟩ := k1
          rw [k1] at this; cases this
    subst hPL
    have hv := hh.inv
    have hr : Rel lo base m F s a w := hh.rel
    have hall' : ∀ i, i < ops.size → L'.getD i false = true := fun i hi => by
      rcases (hh.mem i).1 (hall i hi) with h | ⟨e, he, _⟩
      · exact h
      · cases he
    have hfix := hp.fixed ops.size (Nat.le_refl _)
    have ht : ∀ t, s.tmp t = (S ops.size).tmp t := by
      intro t
      obtain ⟨k, hk, h1, h2⟩ := hv.tmp t
      rw [h1]
      exact (stays (f := fun k => (S k).tmp t) (hp.tmp t) k ops.size hk (Nat.le_refl _) fun d h3 h4 hw => by have := (h2 d h4 hw).1 (hall' d h4); omega).symm
    have hb : ∀ b, s.blk b = (S ops.size).blk b := by
      intro b
      obtain ⟨k, hk, h1, h2⟩ := hv.blk b
      rw [h1]
      exact (stays (f := fun k => (S k).blk b) (hp.blk b) k ops.size hk (Nat.le_refl _) fun d h3 h4 hw => by have := (h2 d h4 hw).1 (hall' d h4); omega).symm
    have hn : (S ops.size).n = s.n := by
      obtain ⟨k, hk, h1, h2⟩ := hv.n
      rw [h1]
      exact stays (f := fun k => (S k).n) hp.nn k ops.size hk (Nat.le_refl _) fun d h3 h4 hw => by have := (h2 d h4 hw).1 (hall' d h4); omega
    exact hK m F a w (by rw [hn]; exact hh.ext) (hr.congr (fun b => (hb b).symm) hn (by rw [hfix, hv.N]) fun t => .inl (ht t).symm)
  intro fuel
  induction fuel with
  | zero =>
    intro L L' PL s a w m F hh hwait hcnt
    have hall : ∀ i, i < ops.size → L.getD i false = true := by
      intro i hi
      cases hL : L.getD i false with
      | true => rfl
      | false =>
        exfalso
        have hnil : ((List.range ops.size).filter fun i => !L.getD i false) = [] := List.eq_nil_of_length_eq_zero (by omega)
        have : i ∈ ((List.range ops.size).filter fun i => !L.getD i false) := by
          rw [List.mem_filter]; exact ⟨List.mem_range.2 hi, by simp only [hL, Bool.not_false]⟩
        rw [hnil] at this
        cases this
    exact any_end (ro := ro) (fuel := 0) hh.size hall (final L L' PL s a w m F hh hwait hall)
  | succ fuel ih =>
    intro L L' PL s a w m F hh hwait hcnt
    refine ⟨fun hnil => final L L' PL s a w m F hh hwait (done L L' PL s a w m F hh hnil), fun i hmem => ?_⟩
    have hclL : ∀ d e, L.getD d false = true → (bf.getD d 0).testBit e = true → L.getD e false = true := by
      intro d e hd hb
      rcases (hh.mem d).1 hd with h | ⟨x, hx, rfl⟩
      · exact (hh.mem e).2 (.inl (hh.inv.closed d e h hb))
      · exact (hh.mem e).2 (.inl ((hh.each x hx).rdy e hb))
    obtain ⟨hi, hn, hready⟩ := ready_spec he hh.size hclL hmem
    have hlt : i < L.size := by rw [hh.size]; exact hi
    have hv := hh.inv
    have hlt' : i < L'.size := by rw [hv.size]; exact hi
    have ho : ops[i]? = some ops[i] := Array.getElem?_eq_getElem hi
    have hcnt' : ((List.range ops.size).filter fun j => !(L.setIfInBounds i true).getD j false).length ≤ fuel := by
      have := cnt_lt (fun j => !L.getD j false) (fun j => !(L.setIfInBounds i true).getD j false) i (List.range ops.size) (fun j hj => by
        by_cases e : L.getD j false = true
        · have := (getD_set hlt j).2 (.inr e); simp only [this, Bool.not_true] at hj; cases hj
        · simp at e; simp [e]) (List.mem_range.2 hi) (by simp only [hn, Bool.not_false]) (by have := (getD_set hlt i).2 (.inl rfl); simp only [this, Bool.not_true])
      omega
    have hready' := hh.ready hp hwait hi hready
    have hn' : L'.getD i false = false := by
      cases h : L'.getD i false with
      | false => rfl
      | true => rw [(hh.mem i).2 (.inl h)] at hn; cases hn
    -- it is none of those that are held back, and touches no temporary of theirs
    have hneP : ∀ e ∈ PL, i ≠ e.1 := fun e he' h => by rw [(hh.mem i).2 (.inr ⟨e, he', h.symm⟩)] at hn; cases hn
    have hfree : ∀ e ∈ PL, e.2.1 ∉ looks ops ops[i] ∧ ops[i].dst ≠ some e.2.1 := by
      intro e hemem
      have hpe := hh.each e hemem
      obtain ⟨o', t', _, _, g1, g2, g3, _⟩ := hpe.op
      rcases Nat.lt_or_gt_of_ne (hneP e hemem) with hlt2 | hlt2
      · have hno : tied ops ops[i] o' = false := by
          cases htt : tied ops ops[i] o' with
          | false => rfl
          | true =>
            have := hpe.rdy i (he.ties i e.1 _ _ hlt2 ho g1 htt)
            rw [hn'] at this; cases this
        exact ⟨(tied_spec hno).2 _ g3, fun h => ((tied_spec hno).1 _ h).2 g3⟩
      · have hno : tied ops o' ops[i] = false := by
          cases htt : tied ops o' ops[i] with
          | false => rfl
          | true =>
            have := hready' e.1 (he.ties e.1 i _ _ hlt2 g1 ho htt)
            rw [hpe.not] at this; cases this
        exact (tied_spec hno).1 _ g3
    have hN : s.N = (S i).N := by rw [hv.N, hp.fixed i (by omega)]
    have htsl : ∀ t ∈ looks ops ops[i], t ∉ PL.map (·.2.1) := fun t ht h => by
      obtain ⟨e, he', rfl⟩ := List.mem_map.1 h
      exact (hfree e he').1 ht
    have htsd : ∀ t, ops[i].dst = some t → t ∉ PL.map (·.2.1) := fun t ht h => by
      obtain ⟨e, he', rfl⟩ := List.mem_map.1 h
      exact (hfree e he').2 ht
    generalize hts : PL.map (·.2.1) = ts at htsl htsd
    have hr : Rel lo base m F (s.junkAt ts) a w := by rw [← hts]; exact hh.rel
    have hjl : ∀ t ∈ looks ops ops[i], (s.junkAt ts).tmp t = s.tmp t := fun t ht => by rw [junkAt_tmp, if_neg (htsl t ht)]
    -- what follows a step of the model that is one of the text's
    have glue : ∀ {s2 : St Bs} {v : V} {x : Value} {a2 : Act} {w2 : World} {m2 : Nat → Option Nat} {F2 : Nat → Prop}, a2 = a.put ops[i].dst x → Inv ops bf nb S fp (L'.setIfInBounds i true) (s2.put ops[i].dst v) → Ext base m F s.n w m2 F2 s2.n w2 →
        Rel lo base m2 F2 ((s2.junkAt ts).put ops[i].dst v) a2 w2 → wpAnyIn (fen ro) 0 E.P .any ops Qx fuel (L.setIfInBounds i true) a2 w2 := by
      intro s2 v x a2 w2 m2 F2 ha hinv hx hrel
      subst ha
      have hh2 : Held E.P ops bf nb S fp lo base m0 F0 n0 w0 (L.setIfInBounds i true) (L'.setIfInBounds i true) PL (s2.put ops[i].dst v) (a.put ops[i].dst x) w2 m2 F2 := by
        refine ⟨hinv, ?_, by rw [St.put_n]; exact hh.ext.trans hx, by simp [hh.size], fun d => ?_, hh.nod, fun e he' => (hh.each e he').next hx hlt' (hneP e he') (hfree e he').2⟩
        · rw [hts]
          refine hrel.congr (fun b => ?_) ?_ ?_ fun t => ?_
          · show (s2.put ops[i].dst v).blk b = ((s2.junkAt ts).put ops[i].dst v).blk b
            simp only [St.blk, St.put_h]; rfl
          · show (s2.put ops[i].dst v).n = ((s2.junkAt ts).put ops[i].dst v).n
            rw [St.put_n, St.put_n]; rfl
          · show (s2.put ops[i].dst v).N = ((s2.junkAt ts).put ops[i].dst v).N
            rw [St.put_N, St.put_N]; rfl
          · rw [junkAt_tmp]
            by_cases h1 : t ∈ ts
            · rw [if_pos h1]; exact .inr rfl
            · rw [if_neg h1]
              left
              by_cases h2 : ops[i].dst = some t
              · unfold St.put
                rw [h2]
                show look _ (PT.set _ _ _) _ = look _ (PT.set _ _ _) _
                rw [look_set_eq, look_set_eq]
              · rw [put_tmp_ne h2, put_tmp_ne h2, junkAt_tmp, if_neg h1]
        · rw [getD_set hlt, getD_set hlt', hh.mem]
          constructor
          · rintro (h | h | h)
            · exact .inl (.inl h)
            · exact .inl (.inr h)
            · exact .inr h
          · rintro ((h | h) | h)
            · exact .inl h
            · exact .inr (.inl h)
            · exact .inr (.inr h)
      obtain ⟨L3, PL3, s3, m3, hh3, hw3⟩ := Held.all hp he PL.length _ PL _ _ (Nat.le_refl _) hh2
      exact ih _ L3 PL3 s3 _ _ m3 F2 hh3 hw3 hcnt'
    unfold wpOpIn
    rw [ho]
    dsimp only
    by_cases hdel : ∃ i0, lateB ops bf i0 i (fp i0) = true ∧ L'.getD i0 false = false
    · -- a variable that is held back
      obtain ⟨i0, hl0, hl1⟩ := hdel
      obtain ⟨_, ⟨o', ho', hal⟩, _⟩ := lateB_spec hl0
      rw [ho] at ho'
      injection ho' with ho'
      subst ho'
      unfold isAlloc at hal
      cases hop : ops[i].op <;> rw [hop] at hal <;> try (cases hal; done)
      rename_i t
      simp only [Bool.and_eq_true] at hal
      have hg : ops[i].guard = none := by simpa using hal.1
      obtain ⟨td, htd⟩ := Option.isSome_iff_exists.1 hal.2
      have htr : truth ops s.tmp ops[i] = some true := by unfold truth; rw [hg]
      have htr' : truth ops (s.junkAt ts).tmp ops[i] = some true := by unfold truth; rw [hg]
      rw [if_pos (yielded_of hr htr')]
      rcases hp.step i _ ho with ⟨r, kn, _, _, _, hf, hhd, hd, hS, hfp⟩ | ⟨r, _, hbg, _⟩ | ⟨r, _, hbg, _⟩ | ⟨hw, _⟩
      · rw [hop] at hhd
        simp only [evD] at hhd
        cases hz : tyZero E.P t with
        | none => rw [hz] at hhd; exact hhd.elim
        | some cs =>
          obtain ⟨z, hz0⟩ := tyZero_all hz
          have hz1 := (hz0 F w s.n m).1
          have hz3 : ∀ (F : Nat → Prop) (w : World) (n : Nat) (m : Nat → Option Nat), RL F w cs n m z.cells.toList := fun F w' n m => (hz0 F w' n m).2
          have hrun : (execOp a.eval ops[i]).run E.P w = .ok (.value (.pointer (some ⟨w.heap.size, 0, none⟩))) (w.alloc (.cells z.cells t)) := by
            simp only [execOp, hop, Instr.alloc, Sem.run_bind, hz1, Result.andThen_ok]
            rfl
          refine wpIn_of_wp ?_ (by rw [hop]; intro c h; cases h)
          unfold Oper.wp
          rw [hrun]
          simp only [Oper.upon]
          have keep : ∀ B, B < w.heap.size → (w.alloc (.cells z.cells t)).heap[B]? = w.heap[B]? := fun B hB => heap_alloc_old w _ B hB
          have hl : Later F w F (w.alloc (.cells z.cells t)) := ⟨fun _ h => h, fun _ h => .inl h, keep, by simp, fun h B hB => by have := h B hB; simp; omega, ⟨rfl, rfl, rfl⟩⟩
          have hxx := hr.hr.ext hl
          have hdN : td < (s.junkAt ts).N := by show td < s.N; rw [hN]; exact dst_lt hd _ htd
          have hr2 : Rel lo base m F (s.junkAt ts) a (w.alloc (.cells z.cells t)) := ⟨hr.hr.later hl, Marks.ext hr.defers hxx, hr.size, fun t => hxx.val (hr.tmp t)⟩
          have hr3 : Rel lo base m F ((s.junkAt ts).put (some td) .junk) (a.put (some td) (.pointer (some ⟨w.heap.size, 0, none⟩))) (w.alloc (.cells z.cells t)) := hr2.put (by simp only [R]) (fun d h => by injection h with h; subst h; exact hdN)
          have hhe : ∀ e ∈ PL, Pend E.P ops bf fp base w0 L' m F (a.put (some td) (.pointer (some ⟨w.heap.size, 0, none⟩))) (w.alloc (.cells z.cells t)) e := by
            intro e hemem
            have hpe := hh.each e hemem
            have hlte := hpe.lt'
            obtain ⟨o, t1, cs1, xs1, h1, h2, h3, h4, h5, h6, h7⟩ := hpe.op
            refine ⟨hpe.lt, ⟨o, t1, cs1, xs1, h1, h2, h3, h4, h5, by rw [keep _ hlte]; exact h6, h7⟩, ?_, hpe.base, hpe.new, hpe.fr, hpe.un, hpe.rdy, hpe.not⟩
            have hne' : td ≠ e.2.1 := fun h => (hfree e hemem).2 (by rw [htd, h])
            refine ⟨by simp [Act.put, hpe.tmp.1], ?_⟩
            have := hpe.tmp.2
            simp only [Act.put, Array.getD_eq_getD_getElem?] at this ⊢
            rw [Array.getElem?_setIfInBounds_ne hne']
            exact this
          rw [htd]
          refine ih _ L' ((i, td, w.heap.size) :: PL) s _ _ m F ⟨hv, ?_, hh.ext.trans hxx, by simp [hh.size], fun d => ?_, ?_, fun e he' => ?_⟩ (fun e he' => ?_) hcnt'
          · refine hr3.congr (fun b => ?_) ?_ ?_ fun t => ?_
            · show s.blk b = ((s.junkAt ts).put (some td) .junk).blk b
              simp only [St.blk, St.put_h]; rfl
            · show s.n = ((s.junkAt ts).put (some td) .junk).n
              rw [St.put_n]; rfl
            · show s.N = ((s.junkAt ts).put (some td) .junk).N
              rw [St.put_N]; rfl
            · rw [junkAt_tmp]
              by_cases h1 : t ∈ List.map (·.2.1) ((i, td, w.heap.size) :: PL)
              · rw [if_pos h1]; exact .inr rfl
              · rw [if_neg h1]
                simp only [List.map_cons, List.mem_cons, not_or] at h1
                left
                rw [put_tmp_ne (fun h => h1.1 (by injection h with h; exact h.symm)), junkAt_tmp, if_neg (by rw [← hts]; exact h1.2)]
          · rw [getD_set hlt, hh.mem]
            constructor
            · rintro (e0 | h | ⟨x, hx, rfl⟩)
              · exact .inr ⟨(i, td, w.heap.size), by simp, e0.symm⟩
              · exact .inl h
              · exact .inr ⟨x, by simp [hx], rfl⟩
            · rintro (h | ⟨x, hx, rfl⟩)
              · exact .inr (.inl h)
              · rcases List.mem_cons.1 hx with rfl | hx
                · exact .inl rfl
                · exact .inr (.inr ⟨x, hx, rfl⟩)
          · refine List.pairwise_cons.2 ⟨fun e he' => ⟨hneP e he', ?_⟩, hh.nod⟩
            have := (hh.each e he').lt'
            show w.heap.size ≠ e.2.2
            omega
          · rcases List.mem_cons.1 he' with rfl | he'
            · refine ⟨hi, ⟨_, t, cs, z.cells, ho, hop, htd, hg, hz, heap_alloc_new w _, hz3⟩, ?_, hr.hr.low, hh.ext.size, fun h => absurd (hr.hr.fdom _ h) (Nat.lt_irrefl _), fun b hb => absurd (hr.hr.dom b _ hb) (Nat.lt_irrefl _), hready', hn'⟩
              have hlt3 : td < a.tmps.size := by rw [hr.size]; exact hdN
              exact ⟨by simp [Act.put, hlt3], by simp [Act.put, Array.getD_eq_getD_getElem?, hlt3]⟩
            · exact hhe e he'
          · rcases List.mem_cons.1 he' with rfl | he'
            · exact ⟨i0, hl0, hl1⟩
            · exact hwait e he'
      · rw [hop] at hbg; cases hbg
      · rw [hop] at hbg; cases hbg
      · unfold truth at hw; rw [hg] at hw; cases hw
    have hlate : ∀ i', lateB ops bf i' i (fp i') = true → L'.getD i' false = true := fun i' h => by
      cases hL : L'.getD i' false with
      | true => rfl
      | false => exact absurd ⟨i', h, hL⟩ hdel
    obtain ⟨hrt0, hrb, hrl, hrn⟩ := hv.reads hp he hi ho hn' hready' hlate
    have hrt : ∀ t ∈ looks ops ops[i], (s.junkAt ts).tmp t = (S i).tmp t := fun t ht => by rw [hjl t ht]; exact hrt0 t ht
    -- an operation that may see whatever is there: the state that has its temporaries, and the heap of the text's order
    have whole : ∀ {f : Ft} {w0 : Bool}, fp i = f → f.m = some (w0, none) → (w0 = true ∨ f.q = true) → isBig ops[i].op = true → s.n = (S i).n ∧ (∀ b, s.blk b = (S i).blk b) ∧
        Rel lo base m F ({ S i with t := (s.junkAt ts).t } : St Bs) a w ∧ evOp E call ({ S i with t := (s.junkAt ts).t } : St Bs).sub ops[i].op = evOp E call (S i).sub ops[i].op := by
      intro f w0 hf hm hq hbg
      have hnn := hrn ⟨w0, by rw [hf]; exact hm⟩
      have hblk : ∀ b, s.blk b = (S i).blk b := fun b => hrb w0 none b (by rw [hf]; exact hm) (.inl ⟨rfl, by rw [hf]; exact hq.imp id .inl⟩)
      have hopnd : ∀ x ∈ ops[i].op.operands, opnd (s.junkAt ts) x = opnd (S i) x := fun x hx => opnd_congr fun t e => hrt t (by
        subst e
        simp only [looks, List.mem_append, List.mem_filterMap]
        exact .inl ⟨.tmp t, by simpa using hx, rfl⟩)
      refine ⟨hnn, hblk, hr.congr (fun b => (hblk b).symm) hnn.symm (by rw [show (s.junkAt ts).N = s.N from rfl, hN]) fun t => .inl rfl, ?_⟩
      cases hop : ops[i].op <;> rw [hop] at hbg <;> try (cases hbg; done)
      rename_i c
      have h1 : ∀ x ∈ (Op.call c).operands, opnd ({ S i with t := (s.junkAt ts).t } : St Bs).sub x = opnd (S i).sub x := fun x hx => by
        have := hopnd x (by rw [hop]; exact hx)
        cases x <;> first | exact this | rfl
      exact evOp_call_congr h1 rfl rfl rfl
    rcases hp.step i _ ho with ⟨r, kn, hw, hkn, hknl, hf, hhd, hd, hS, hfp⟩ | ⟨r, hw, hbg, hhd, hd, hqr, hS, hfp⟩ | ⟨r, hw, hbg, hhd, hd, hS, hfp⟩ | ⟨hw, hd, hS, hfp⟩
    · rw [← truth_congr hrt] at hw
      rw [if_pos (yielded_of hr hw)]
      have hkn' : KnOk (s.junkAt ts) kn := fun p hp => by rw [hrt p.1 (hknl p hp)]; exact hkn p hp
      have hopnd : ∀ x ∈ ops[i].op.operands, opnd (s.junkAt ts) x = opnd (S i) x := fun x hx => opnd_congr fun t e => hrt t (by
        subst e
        simp only [looks, List.mem_append, List.mem_filterMap]
        exact .inl ⟨.tmp t, by simpa using hx, rfl⟩)
      have hev : evD E call (s.junkAt ts) nb ops.size (nb + i) kn ops[i].op = evD E call (S i) nb ops.size (nb + i) kn ops[i].op := evD_congr hopnd (fun w c b hfo hcb => hrb w c b (by rw [hfp, hfo]) (hcb.imp (fun h => ⟨h.1, .inr (.inr h.2)⟩) id)) (fun b hfo => hrl b (by rw [hfp, hfo]))
      rw [← hev] at hhd hf
      have hfoot : foot (s.junkAt ts) (nb + i) ops[i].op = foot (S i) (nb + i) ops[i].op := by
        unfold foot
        cases hop : ops[i].op <;> try rfl
        case call c =>
          dsimp only
          cases hcal : c.callee <;> dsimp only
          rename_i f
          rw [hopnd f (by rw [hop]; simp [Op.operands, Call.operands, hcal]), List.map_congr_left (l := c.args.toList) fun x h => hopnd x (by rw [hop]; simp [Op.operands, Call.operands]; right; simpa using h)]
        case slice t ax lo hi mx => dsimp only; rw [hopnd ax (by rw [hop]; simp [Op.operands])]
        case lookup t ax ix ok => dsimp only; rw [hopnd ax (by rw [hop]; simp [Op.operands])]
        case mapUpdate t ax k x => dsimp only; rw [hopnd ax (by rw [hop]; simp [Op.operands])]
        case insert t ax k x => dsimp only; rw [hopnd ax (by rw [hop]; simp [Op.operands])]
        · rename_i t ax; dsimp only; rw [hopnd ax (by rw [hop]; simp [Op.operands])]
        · rename_i t ax xx; dsimp only; rw [hopnd ax (by rw [hop]; simp [Op.operands])]
        · rename_i t t' ax; dsimp only; rw [hopnd ax (by rw [hop]; simp [Op.operands])]
      have hres : ∀ b, (foot (s.junkAt ts) (nb + i) ops[i].op).l = some b → nb + i < (s.junkAt ts).n := fun b hb => by
        have := hv.res (List.any_eq_true.2 ⟨ops[i], by simp, foot_lays hb⟩)
        show nb + i < s.n
        omega
      refine wpIn_of_wp (evD_wp hE hcall hr hres hkn' hhd fun v wr hvr m' F' w' x h1 h2 h3 => ?_) (evD_nodefer hhd)
      subst hvr
      have hinv := hv.next hp he hi ho hn' hready' hlate (v := v) (x := wr) (fun b blk e => by rw [WrB, hfp, ← hfoot]; exact (evD_foot hf hhd e).imp id .inr) (fun h => by rw [BigF, hfp] at h; exact foot_notBig h) (fun b hb => by
        rw [WrB] at hb
        rcases hb with hb | ⟨hb, _⟩ | hb
        · exact hrb _ _ b hb (.inr rfl)
        · rw [hfp] at hb; exact absurd hb foot_notBig
        · exact hrl b hb) hS
      refine glue (s2 := s.wr wr) rfl hinv (by rw [St.wr_n]; exact h1) ?_
      have hr' : Rel lo base m' F' ((s.wr wr).junkAt ts) a w' := by
        refine ⟨?_, Marks.ext hr.defers h1, by show a.tmps.size = (s.wr wr).N; rw [St.wr_N]; exact hr.size, fun i => ?_⟩
        · show HR base m' F' (s.wr wr).blk (s.wr wr).n w'
          rw [St.wr_n]
          have h2' : HR base m' F' ((s.junkAt ts).wr wr).blk s.n w' := h2
          have e : ((s.junkAt ts).wr wr).blk = (s.wr wr).blk := by cases wr <;> rfl
          rw [e] at h2'
          exact h2'
        · have h4 := h1.val (hr.tmp i)
          rw [junkAt_tmp] at h4 ⊢
          show R F' w' _ (s.wr wr).n m' _
          rw [St.wr_n]
          by_cases h5 : i ∈ ts
          · rw [if_pos h5]; simp only [R]
          · rw [if_neg h5] at h4 ⊢
            simp only [St.tmp, St.wr_t]
            exact h4
      exact hr'.put (dst := ops[i].dst) (v := v) (x := x) (by show R F' w' v (s.wr wr).n m' x; rw [St.wr_n]; exact h3) (by show ∀ d, ops[i].dst = some d → d < (s.wr wr).N; rw [St.wr_N, hN]; exact dst_lt hd)
    · rw [← truth_congr hrt] at hw
      rw [if_pos (yielded_of hr hw)]
      obtain ⟨hnn, hblk, hr1, hev⟩ := whole hfp rfl (.inr rfl) hbg
      rw [← hev] at hhd
      refine evOp_wp hE hcall (sub_rel0 hr1) hhd fun v h' n' hQ m' F' w' x h1 h2 h3 => ?_
      subst hQ
      have h1' : Ext base m F s.n w m' F' n' w' := by rw [hnn]; exact h1
      simp only [quietR, Bool.and_eq_true] at hqr
      have hsame : ∀ b, b < s.n → look (S i).blk h' b = (S i).blk b := fun b hb => by
        unfold look
        cases hg : h'.get b with
        | none => rfl
        | some y =>
          have := PT.allK_get _ _ 1 0 hqr.1 b y hg
          simp only [Nat.one_mul, Nat.add_zero, Nat.ble_eq] at this
          omega
      have hHR : HR base m F (S i).blk s.n w := by rw [← funext hblk]; exact hr.hr
      obtain ⟨k1, k2⟩ := hHR.cut h1' h2 hsame
      have hbel : v.belowB s.n = true := by rw [hnn]; exact hqr.2
      have h3' := (R_cut v n' hbel).1 x h3
      have hinv := hv.next hp he hi ho hn' hready' hlate (v := v) (x := none) (fun b blk e => by cases e) (fun h => by rw [BigF, hfp] at h; cases h) (fun b hb => by rw [WrB, hfp] at hb; rcases hb with h | ⟨h, _⟩ | h <;> cases h) hS
      refine glue (s2 := s) rfl hinv k2 ?_
      have hr' : Rel lo base (cutM m' s.n) F' (s.junkAt ts) a w' := by
        refine ⟨?_, Marks.ext hr.defers k2, hr.size, fun t => k2.val (hr.tmp t)⟩
        show HR base (cutM m' s.n) F' s.blk s.n w'
        rw [funext hblk]; exact k1
      exact hr'.put (dst := ops[i].dst) (v := v) (x := x) h3' (by show ∀ d, ops[i].dst = some d → d < s.N; rw [hN]; exact dst_lt hd)
    · rw [← truth_congr hrt] at hw
      rw [if_pos (yielded_of hr hw)]
      obtain ⟨hnn, hblk, hr1, hev⟩ := whole hfp rfl (.inl rfl) hbg
      rw [← hev] at hhd
      refine evOp_wp hE hcall (sub_rel0 hr1) hhd fun v h' n' hQ m' F' w' x h1 h2 h3 => ?_
      subst hQ
      have h1' : Ext base m F s.n w m' F' n' w' := by rw [hnn]; exact h1
      have hinv := hv.nextBig hp he hi ho hn' hready' hlate hfp (by rw [hnn]; exact h1.le) hS
      refine glue (s2 := { s with h := s.h.over h', n := n' }) rfl hinv h1' ?_
      have h2' : HR base m' F' (look Bs.h (s.h.over h')) n' w' := by
        have e : look Bs.h (s.h.over h') = look (S i).blk h' := funext fun b => by
          rw [over_look]
          show look s.blk h' b = _
          rw [funext hblk]
        rw [e]; exact h2
      have hr' : Rel lo base m' F' (({ s with h := s.h.over h', n := n' } : St Bs).junkAt ts) a w' := hr.move (h' := s.h.over h') (n' := n') h1' h2'
      exact hr'.put (dst := ops[i].dst) (v := v) (x := x) h3 (by show ∀ d, ops[i].dst = some d → d < s.N; rw [hN]; exact dst_lt hd)
    · rw [← truth_congr hrt] at hw
      rw [if_neg (by rw [yielded_of hr hw]; simp)]
      refine ⟨fun _ _ => trivial, ?_⟩
      have hr'' := hr.put (dst := ops[i].dst) (v := .undef) (x := Go.undef) (by simp only [R]) (by show ∀ d, ops[i].dst = some d → d < s.N; rw [hN]; exact dst_lt hd)
      have hinv := hv.next hp he hi ho hn' hready' hlate (v := .undef) (x := none) (fun b blk e => by cases e) (fun h => by rw [BigF, hfp] at h; cases h) (fun b hb => by rw [WrB, hfp] at hb; rcases hb with h | ⟨h, _⟩ | h <;> cases h) hS
      exact glue (s2 := s) rfl hinv (Ext.refl _ _ _ _ _) hr''
/-- From the beginning on. -/
theorem any_start {ro : Option Nat} (hE : E.Ok) (hcall : CallOk E call) (hp : Path E call ops bf nb S fp) (he : Edges ops bf) {lo base : Nat} {Qx : Exit → Act → World → Prop} (hres : ops.toList.any lays = true → nb + ops.size ≤ (S 0).n)
    {a : Act} {w : World} {m : Nat → Option Nat} {F : Nat → Prop} (hr : Rel lo base m F (S 0) a w) (hK : ∀ m' F' a' w', Ext base m F (S 0).n w m' F' (S ops.size).n w' → Rel lo base m' F' (S ops.size) a' w' → Qx .normal a' w') :
    wpAnyIn (fen ro) 0 E.P .any ops Qx ops.size (Array.replicate ops.size false) a w := by
  refine any_wp hE hcall hp he hK ops.size _ _ [] (S 0) a w m F ⟨Inv.start hres, hr, Ext.refl _ _ _ _ _, by simp, fun d => by simp, List.Pairwise.nil, fun e he => by cases he⟩ (fun e he => by cases he) ?_
  exact Nat.le_trans (List.length_filter_le _ _) (by simp)

theorem noneRange_look (g : Nat → Blk) (h : PT Blk) (n k j : Nat) : look g (noneRange h n k) j = if n ≤ j ∧ j < n + k then .none else look g h j := by
  induction k with
  | zero => rw [if_neg (by omega)]; rfl
  | succ k ih =>
    show look g ((noneRange h n k).set (n + k) .none) j = _
    rw [look_set, ih]
    by_cases e : j = n + k
    · rw [if_pos e, if_pos (by omega)]
    · rw [if_neg e]
      by_cases e2 : n ≤ j ∧ j < n + k
      · rw [if_pos e2, if_pos (by omega)]
      · rw [if_neg e2, if_neg (by omega)]
theorem keep_rel {lo base : Nat} {m : Nat → Option Nat} {F : Nat → Prop} {s : St Bs} {a : Act} {w : World} (hr : Rel lo base m F s a w) : Rel lo base m F (s.keepNames ops) a w ∧ s.n ≤ (s.keepNames ops).n := by
  unfold St.keepNames
  cases ops.toList.any lays
  · exact ⟨hr, Nat.le_refl _⟩
  · simp only [cond_true]
    have hext : Ext base m F s.n w m F (s.n + ops.size) w := ⟨fun _ h => h, fun _ h => .inl h, fun _ _ => rfl, Nat.le_refl _, Sizes.refl w, Own.refl m w, by omega, fun _ _ _ h => h, Calm.refl w⟩
    refine ⟨⟨⟨hr.hr.low, hr.hr.fdom, fun b hb => ?_, hr.hr.dom, fun b hb => hr.hr.new b (Nat.le_trans (Nat.le_add_right _ _) hb), hr.hr.gl, hr.hr.own, fun b b' C h1 h2 hne => ?_⟩, hr.defers, hr.size, fun i => hext.val (hr.tmp i)⟩, by omega⟩
    · simp only [St.blk]
      rw [noneRange_look]
      by_cases e : s.n ≤ b ∧ b < s.n + ops.size
      · rw [if_pos e]
        exact hr.hr.new b e.1
      rw [if_neg e]
      have hbn : b < s.n := by
        have hb' : b < s.n + ops.size := hb
        omega
      exact RB_ext hext (fun _ _ => rfl) (hr.hr.blk b hbn)
    · simp only [St.blk]
      have hb1 := hr.hr.lt (b := b) (by rw [h1]; simp)
      have hb2 := hr.hr.lt (b := b') (by rw [h2]; simp)
      rw [noneRange_look, noneRange_look, if_neg (by omega), if_neg (by omega)]
      exact hr.hr.inj b b' C h1 h2 hne
theorem evOpsD_wp {ro : Option Nat} (hE : E.Ok) (hcall : CallOk E call) {lo base : Nat} {m : Nat → Option Nat} {F : Nat → Prop} {s : St Bs} {a : Act} {w : World} (hr : Rel lo base m F s a w) (hok : drawOk ops (bfs ops.toList []) = true)
    {id : Nat} {Q : St Bs → Prop} {Qx : Exit → Act → World → Prop} (hq : (evOpsD E call ops (bfs ops.toList []) s.n ops.toList 0 [] [] (s.keepNames ops)).holds E.P Q)
    (hK : ∀ s', Q s' → ∀ m' F' a' w', Ext base m F s.n w m' F' s'.n w' → Rel lo base m' F' s' a' w' → Qx .normal a' w') : (Code.region id ops true).wpIn (fen ro) 0 E.P Qx a w := by
  obtain ⟨S, fp, h0, h1, h2, h3, h4⟩ := path_of _ _ _ _ _ _ (fun p hp => by cases hp) hq
  obtain ⟨hkr, hkn⟩ := keep_rel (ops := ops) hr
  have hlen : ops.toList.length = ops.size := by simp
  simp only [Nat.zero_add, hlen] at h1 h2 h3 h4
  have hp : Path E call ops (bfs ops.toList []) s.n S fp := ⟨fun i o ho => h2 i o (by simpa using ho), fun i j hij hj hc => h4 i j hij hj hc⟩
  have hr' : Rel lo base m F (S 0) a { w with drawn := w.drawn + 1 } := by
    rw [h0]
    have hext : Ext base m F (s.keepNames ops).n w m F (s.keepNames ops).n { w with drawn := w.drawn + 1 } := ⟨fun _ h => h, fun _ h => .inl h, fun _ _ => rfl, Nat.le_refl _, Sizes.of_keep (fun _ _ => rfl), Own.of_keep (fun _ _ => rfl), Nat.le_refl _, fun _ _ _ h => h, ⟨rfl, rfl, rfl⟩⟩
    refine ⟨⟨hkr.hr.low, hkr.hr.fdom, fun b hb => RB_ext hext (fun _ _ => rfl) (hkr.hr.blk b hb), hkr.hr.dom, hkr.hr.new, hkr.hr.gl.mono hext.sz (fun _ h => h) (fun _ _ => rfl), hkr.hr.own, hkr.hr.inj⟩, Marks.ext hkr.defers hext, hkr.size, fun i => hext.val (hkr.tmp i)⟩
  refine wpIn_region_any hE.mixed ?_
  refine any_start hE hcall hp (edges_of hok) (fun h => by rw [h0]; unfold St.keepNames; rw [h]; exact Nat.le_refl _) hr' fun m' F' a' w' hx hrel => ?_
  · refine hK (S ops.size) h1 m' F' a' w' ?_ hrel
    rw [h0] at hx
    exact ⟨hx.f, hx.back, hx.keep, hx.size, Sizes.trans (Sizes.of_keep (fun _ _ => rfl)) hx.sz, Own.trans (w1 := { w with drawn := w.drawn + 1 }) (Own.of_keep (fun _ _ => rfl)) hx.ow (Nat.le_refl _), Nat.le_trans hkn hx.le, fun b hb => hx.map b (Nat.lt_of_lt_of_le hb hkn), ⟨hx.calm.os, hx.calm.tape, hx.calm.output⟩⟩
end
end Go.Fw
