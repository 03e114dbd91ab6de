/- Rows laid over others: appended where there is room, brought to naught, copied; new rows of zeros. -/
import Derived.Test.YtkkojdcchnailaaGreatDoorQGwV
import Derived.Laws.MakeOwn
namespace Go.Fw
section
variable {P : Program} {base : Nat} {m : Nat → Option Nat} {F : Nat → Prop} {n : Nat} {w : World} {g : Nat → Blk} {h0 : PT Blk}

/-- Rows laid over those of a block of ours. -/
theorem layRows_run {h : Nat → Blk} (hr : HR base m F h n w) {b B z i mm : Nat} (hbn : b < n) (hB : m b = some B) {st : Bool} {new : Nat → V} {L : List Value} (hz : 0 < z) (hL : Rows F w n m z mm new L) {Q : Blk → Prop}
    (hq : (layRows (h b) z i st mm new).holds P Q) : ∃ blk w', Q blk ∧ (storeCells ⟨B, i * z, none⟩ L).run P w = .ok () w' ∧ (∀ h' : Nat → Blk, (∀ c, h' c = if c = b then blk else h c) → HR base m F h' n w') ∧ Ext base m F n w m F n w' := by
  have hblk := hr.blk b hbn
  unfold layRows at hq
  cases hh : h b <;> rw [hh] at hq hblk <;> try (exact hq.elim)
  · rename_i cs
    dsimp only at hq
    obtain ⟨B', xs, el, ys, zs, hm, hcell, hsp, hrow⟩ := hblk
    obtain rfl : B = B' := by rw [hB] at hm; injection hm
    cases hst : st
    · rw [hst] at hq; exact hq.elim
    cases hle : Nat.ble ((i + mm) * z) cs.len
    · rw [hst, hle] at hq; exact hq.elim
    cases hall : allN mm (fun j => (new j).allCell && Nat.beq (new j).len z)
    · rw [hst, hle, hall] at hq; exact hq.elim
    rw [hst, hle, hall] at hq
    have hle' := Nat.le_of_ble_eq_true hle
    rw [RL_len _ _ hrow] at hle'
    have hone : ∀ u ∈ L, u.oneCell' = true := hL.one hz fun j hj => by
      have := allN_at hall j hj
      simp only [Bool.and_eq_true] at this
      exact this.1
    have hlen : L.length = mm * z := hL.1
    have hadd : (i + mm) * z = i * z + mm * z := Nat.add_mul _ _ _
    have hpl := prefix_len hsp
    have hrun := run_storeCells_at P B (i * z) el L 0 xs w hcell (by omega) hone
    simp only [Nat.add_zero] at hrun
    rw [splice_eq _ _ _ (by simp; omega)] at hrun
    have hcat := Rows.cat mm L hL
    have ht := fun h' hh' => hr.turn (h' := h') hm hcell (new := (spliceL xs.toList (i * z) L).toArray) (by simp [spliceL_length]) (by rw [hh]; simp) (blk := .var (cs.splice (i * z) (catRows new mm))) hh' (fun hrl =>
      ⟨B, _, el, spliceL ys (i * z) L, zs, rfl, setRow_heap w B _ _ el _ hcell, by rw [List.toList_toArray, hsp, spliceL_app _ _ _ _ (by omega)], RL_splice cs _ (hrl _ _ _ _ hrow) (i * z) (catRows new mm) _ (hrl _ _ _ _ hcat)⟩)
    exact ⟨_, _, hq, hrun, fun h' hh' => (ht h' hh').1, (ht (fun c => if c = b then _ else h c) (fun _ => rfl)).2⟩
  · rename_i es k get
    dsimp only at hq
    cases he : Nat.beq z es
    · rw [he] at hq; exact hq.elim
    rw [he] at hq
    obtain rfl := Nat.eq_of_beq_eq_true he
    obtain ⟨⟨hik, hcl⟩, hq⟩ := hq
    have hone : ∀ u ∈ L, u.oneCell' = true := hL.one hz fun j hj => (hcl j hj).1
    have hL0 := hL.down fun j hj => (hcl j hj).2
    have hlen : L.length = mm * z := hL.1
    have hadd : (i + mm) * z = i * z + mm * z := Nat.add_mul _ _ _
    have hmulk : (i + mm) * z ≤ k * z := Nat.mul_le_mul_right z hik
    rcases hblk with ⟨hk0, hB0⟩ | ⟨B', c, el, hm, hcell, hsz, hrow⟩
    · rw [hB] at hB0; cases hB0
    obtain rfl : B = B' := by rw [hB] at hm; injection hm
    have hrun := run_storeCells_at P B (i * z) el L 0 c w hcell (by omega) hone
    simp only [Nat.add_zero] at hrun
    rw [splice_eq _ _ _ (by simp; omega)] at hrun
    have ht := fun h' hh' => hr.turn (h' := h') hm hcell (new := (spliceL c.toList (i * z) L).toArray) (by simp [spliceL_length]) (by rw [hh]; simp) (blk := .arr z k fun j => bif Nat.ble i j && Nat.blt j (i + mm) then new (j - i) else get j) hh' (fun hrl => by
      refine .inr ⟨B, _, el, rfl, setRow_heap w B _ _ el _ hcell, by simp [spliceL_length, hsz], fun j hj => ?_⟩
      have hmulj : (j + 1) * z ≤ k * z := Nat.mul_le_mul_right z hj
      rw [Nat.add_mul, Nat.one_mul] at hmulj
      cases hin : Nat.ble i j && Nat.blt j (i + mm)
      · obtain ⟨xs, h1, h2, h3⟩ := hrow j hj
        refine ⟨xs, by dsimp only; rw [hin]; exact hrl _ _ _ _ h1, h2, fun q hq' => ?_⟩
        simp only [List.getElem?_toArray]
        rw [spliceL_get _ _ _ _ (by simp; omega), if_neg, ← h3 q hq']
        · simp
        · intro hc
          have hj2 : i ≤ j ∧ j < i + mm := by
            constructor
            · rcases Nat.lt_or_ge j i with h | h
              · have : (j + 1) * z ≤ i * z := Nat.mul_le_mul_right z h
                rw [Nat.add_mul, Nat.one_mul] at this
                omega
              · exact h
            · rcases Nat.lt_or_ge j (i + mm) with h | h
              · exact h
              · have : (i + mm) * z ≤ j * z := Nat.mul_le_mul_right z h
                omega
          have : (Nat.ble i j && Nat.blt j (i + mm)) = true := by
            simp only [Bool.and_eq_true, Nat.blt_eq, Nat.ble_eq]; exact hj2
          rw [hin] at this; cases this
      · have hin2 := hin
        simp only [Bool.and_eq_true, Nat.blt_eq, Nat.ble_eq] at hin2
        obtain ⟨xs, g1, g2, g3⟩ := hL0.2 (j - i) (by omega)
        refine ⟨xs, by dsimp only; rw [hin]; exact hrl _ _ _ _ g1, g2, fun q hq' => ?_⟩
        simp only [List.getElem?_toArray]
        have hjm : j * z = i * z + (j - i) * z := by rw [← Nat.add_mul]; congr 1; omega
        have hmj : (j - i + 1) * z ≤ mm * z := Nat.mul_le_mul_right z (by omega)
        rw [Nat.add_mul, Nat.one_mul] at hmj
        rw [spliceL_get _ _ _ _ (by simp; omega), if_pos (by omega), ← g3 q hq']
        congr 1
        omega)
    exact ⟨_, _, hq, hrun, fun h' hh' => (ht h' hh').1, (ht (fun c => if c = b then _ else h c) (fun _ => rfl)).2⟩
theorem splice_nil : ∀ (cs : V) (o : Nat), cs.splice o .nil = cs := by
  intro cs
  induction cs with
  | cons h t _ ih =>
    intro o
    simp only [V.splice, ih]
    cases Nat.beq o 0 <;> rfl
  | _ => intro o; rfl
theorem layRows_zero {blk : Blk} {z i : Nat} {st : Bool} {new : Nat → V} {Q : Blk → Prop} (hq : (layRows blk z i st 0 new).holds P Q) : Q blk := by
  unfold layRows at hq
  cases blk <;> try (exact hq.elim)
  · rename_i cs
    dsimp only at hq
    cases hc : (st && (Nat.ble ((i + 0) * z) cs.len && allN 0 (fun j => (new j).allCell && Nat.beq (new j).len z)))
    · rw [hc] at hq; exact hq.elim
    · rw [hc] at hq
      have h : Q (.var (cs.splice (i * z) .nil)) := hq
      rw [splice_nil] at h
      exact h
  · rename_i es k get
    dsimp only at hq
    cases he : Nat.beq z es
    · rw [he] at hq; exact hq.elim
    rw [he] at hq
    have e : (fun j => bif Nat.ble i j && Nat.blt j (i + 0) then new (j - i) else get j) = get := by
      funext j
      have : (Nat.ble i j && Nat.blt j (i + 0)) = false := by
        cases h : Nat.ble i j && Nat.blt j (i + 0) with
        | false => rfl
        | true => simp only [Bool.and_eq_true, Nat.blt_eq, Nat.ble_eq] at h; omega
      rw [this]; rfl
    have h := hq.2
    rw [e] at h
    exact h
theorem leNeed_holds {α : Type} {st : Bool} {a b : Nat} {T : Tree α} {Q : α → Prop} (h : (leNeed st a b T).holds P Q) : a ≤ b ∧ T.holds P Q := by
  cases st with
  | false => exact h
  | true =>
    simp only [leNeed] at h
    cases hb : Nat.ble a b
    · rw [hb] at h; exact h.elim
    · rw [hb] at h; exact ⟨Nat.le_of_ble_eq_true hb, h⟩
theorem tySize_info {e : TypeId} {z : Nat} (hz : tySize P e = some z) : ∃ i, P.info? e = some i ∧ i.size = z := by
  unfold tySize at hz
  cases hi : P.info? e with
  | none => rw [hi] at hz; cases hz
  | some i => rw [hi] at hz; injection hz with hz; exact ⟨i, rfl, hz⟩
theorem set_same (b : Nat) : look g (h0.set b (look g h0 b)) = look g h0 := by
  funext c
  rw [look_set]
  by_cases e : c = b
  · rw [if_pos e, e]
  · rw [if_neg e]
theorem evAppendP_run (hr : HR base m F (look g h0) n w) {t ty e : TypeId} (ht : P.underlying t = some (.slice e)) {st : Bool} {b es i k c : Nat} {x : V} {S X : Value} (hS : R F w (.osp st b es i k c) n m S) (hX : R F w x n m X) {Q : V × PT Blk × Nat → Prop}
    (hq : (evAppendP P g h0 n e (.osp st b es i k c) x).holds P Q) :
    ∃ v h' n' m' w' Y, Q (v, h', n') ∧ (Builtin.append_ #[t, t] ty #[S, X]).run P w = .ok Y w' ∧ Ext base m F n w m' F n' w' ∧ HR base m' F (look g h') n' w' ∧ R F w' v n' m' Y := by
  unfold evAppendP at hq
  cases hz : tySize P e with
  | none => rw [hz] at hq; exact hq.elim
  | some z =>
    rw [hz] at hq
    dsimp only at hq
    cases hz0 : Nat.blt 0 z
    · rw [hz0] at hq; exact hq.elim
    rw [hz0] at hq
    simp only [cond_true] at hq
    cases he : Nat.beq z es
    · rw [he] at hq; exact hq.elim
    rw [he] at hq
    obtain rfl := Nat.eq_of_beq_eq_true he
    simp only [cond_true] at hq
    have hzpos : 0 < z := by simpa [Nat.blt_eq] using hz0
    cases hrows : rowsOf (look g h0) z x with
    | none => rw [hrows] at hq; exact hq.elim
    | some r =>
      obtain ⟨st', mm, new⟩ := r
      rw [hrows] at hq
      obtain ⟨hle, hq⟩ := leNeed_holds hq
      rw [Tree.holds_bind] at hq
      obtain ⟨i0, hi, hsz⟩ := tySize_info hz
      have hS0 := hS
      rw [R_osp] at hS
      obtain ⟨hbn, a, cap, rfl, hk, hk2, hcap⟩ := hS
      obtain ⟨a', c', rfl, hnew⟩ := rowsOf_run hr hX hrows
      rcases Nat.eq_zero_or_pos mm with hm0 | hm0
      · subst hm0
        have h1 := layRows_zero hq
        refine ⟨_, _, n, m, w, _, h1, run_append_zero (P := P) (w := w) t ty e i0 ht hi a a' k cap c' (by omega), Ext.refl _ _ _ _ _, by rw [set_same]; exact hr, ?_⟩
        rw [R_osp]
        exact ⟨hbn, a, cap, rfl, by omega, hk2, hcap⟩
      · rcases hcap with h0 | ⟨B, c0, el, fr, rfl, hB, hc0, hsz0⟩
        · omega
        rcases hnew with h0 | ⟨ad, L, rfl, hL, hLc⟩
        · omega
        have hkm : (look g h0 b) ≠ .any → True := fun _ => trivial
        obtain ⟨blk, w', h1, h2, h3, h4⟩ := layRows_run hr hbn hB hzpos hL hq
        have hfc := run_firstCells_some (P := P) w z mm ad mm c' L hL.1 hLc
        refine ⟨_, _, n, m, w', .slice (some ⟨B, i * z, none⟩) (k + mm) cap, h1, ?_, h4, h3 _ (fun c => look_set _ _ _ _ _), ?_⟩
        · have hadd : (⟨B, i * z, none⟩ : Addr).add (k * z) = ⟨B, (i + k) * z, none⟩ := by rw [add_plain, Nat.add_mul]
          have hroom : k + mm ≤ cap := by omega
          simp [Builtin.append_, run_underlying ht, sizeOf, typeInfo, hi, hsz, Builtin.lenOf, hroom, hfc, hadd, h2]
        · have h5 := h4.val hS0
          rw [R_osp] at h5 ⊢
          obtain ⟨g1, g2, g3, g4, g5, g6, g7⟩ := h5
          injection g4 with g41 g42 g43
          subst g41; subst g43
          exact ⟨g1, _, _, rfl, by omega, g6, g7⟩
/-! ### Zeros -/
theorem zeroCells_rows {z k : Nat} {cs : V} {zs : Array Value} (_ : 0 < z) (hs : zs.size = z) (hrl : RL F w cs n m zs.toList) : Rows F w n m z k (fun _ => cs) (Builtin.zeroCells zs k).toList := by
  have hlen : (Builtin.zeroCells zs k).toList.length = k * z := by simp [Builtin.zeroCells, hs]
  refine ⟨hlen, fun j hj => ⟨zs.toList, hrl, by simp [hs], fun q hq => ?_⟩⟩
  have hmul : (j + 1) * z ≤ k * z := Nat.mul_le_mul_right z hj
  rw [Nat.add_mul, Nat.one_mul] at hmul
  have hlt : j * z + q < k * z := by omega
  have hmod : (j * z + q) % z = q := by rw [Nat.mul_comm, Nat.mul_add_mod, Nat.mod_eq_of_lt hq]
  simp only [Builtin.zeroCells, Array.getElem?_toList, hs]
  rw [Array.getElem?_map, Array.getElem?_range, if_pos (by rw [hs] at *; exact hlt)]
  simp only [Option.map_some, hmod]
  rw [getElem!_pos zs q (by omega), Array.getElem?_eq_getElem (by omega)]
theorem evClear_run (hr : HR base m F (look g h0) n w) {ts : Array TypeId} {ty : TypeId} {args : V} {xs : Array Value} (hargs : RL F w args n m xs.toList) {Q : V × PT Blk × Nat → Prop}
    (hq : (evClear P g h0 n ts.toList args).holds P Q) :
    ∃ v h' n' m' w' X, Q (v, h', n') ∧ (Builtin.clear_ ts ty xs).run P w = .ok X w' ∧ Ext base m F n w m' F n' w' ∧ HR base m' F (look g h') n' w' ∧ R F w' v n' m' X := by
  unfold evClear at hq
  split at hq
  case h_2 => exact hq.elim
  rename_i t tr hts
  split at hq
  case h_2 => exact hq.elim
  rename_i e ht
  split at hq
  case h_2 => exact hq.elim
  rename_i z zero hz hzero
  cases hzl : Nat.beq zero.len z
  · rw [hzl] at hq; exact hq.elim
  cases hz0 : Nat.blt 0 z
  · rw [hzl, hz0] at hq; exact hq.elim
  rw [hzl, hz0] at hq
  simp only [Bool.and_self, cond_true] at hq
  split at hq
  case h_2 => exact hq.elim
  rename_i s rest
  simp only [RL] at hargs
  obtain ⟨S, r, e1, hS, hrest⟩ := hargs
  have hts0 : ts[0]? = some t := by rw [← Array.getElem?_toList, hts]; rfl
  have hxs0 : xs[0]? = some S := by rw [← Array.getElem?_toList, e1]; rfl
  have hzpos : 0 < z := by simpa [Nat.blt_eq] using hz0
  have unit : ∀ {w' : World} {m' : Nat → Option Nat} {n' : Nat}, R F w' (.tup .nil) n' m' (.tuple #[]) := by
    intro w' m' n'
    simp only [R]
    exact ⟨#[], rfl, by simp only [RL]⟩
  have hS' := R_plain1 hS
  cases hp : s.plain1 <;> rw [hp] at hq hS' <;> try exact hq.elim
  · rename_i st b es i k
    dsimp only at hq
    cases he : Nat.beq z es
    · rw [he] at hq; exact hq.elim
    rw [he] at hq
    obtain rfl := Nat.eq_of_beq_eq_true he
    simp only [cond_true] at hq
    rw [Tree.holds_bind] at hq
    rw [R_osl] at hS'
    obtain ⟨hbn, a, cap, rfl, hk, hcap⟩ := hS'
    rcases Nat.eq_zero_or_pos k with hk0 | hk0
    · subst hk0
      have h1 := layRows_zero hq
      refine ⟨_, _, n, m, w, .tuple #[], h1, ?_, Ext.refl _ _ _ _ _, by rw [set_same]; exact hr, unit⟩
      cases a <;> simp [Builtin.clear_, hts0, hxs0, run_underlying ht]
    · rcases hcap with h0 | ⟨B, c0, el, fr, rfl, hB, hc0, hsz0⟩
      · omega
      obtain ⟨zv, hzv⟩ := tyZero_run (F := F) (w := w) (n := n) (m := m) hzero
      have hzs : zv.cells.size = z := by
        have h1 := Nat.eq_of_beq_eq_true hzl
        rw [RL_len _ _ hzv.2] at h1
        simpa using h1
      have hL := zeroCells_rows (k := k) hzpos hzs hzv.2
      obtain ⟨blk, w', h1, h2, h3, h4⟩ := layRows_run hr hbn hB hzpos hL hq
      refine ⟨_, _, n, m, w', .tuple #[], h1, ?_, h4, h3 _ (fun c => look_set _ _ _ _ _), unit⟩
      obtain ⟨k', rfl⟩ : ∃ k', k = k' + 1 := ⟨k - 1, by omega⟩
      simp [Builtin.clear_, hts0, hxs0, run_underlying ht, hzv.1, h2]
  · simp only [R] at hS'
    subst hS'
    refine ⟨_, _, n, m, w, .tuple #[], hq, ?_, Ext.refl _ _ _ _ _, hr, unit⟩
    simp [Builtin.clear_, hts0, hxs0, run_underlying ht]
theorem evCopy_run (hr : HR base m F (look g h0) n w) {ts : Array TypeId} {ty : TypeId} {args : V} {xs : Array Value} (hargs : RL F w args n m xs.toList) {Q : V × PT Blk × Nat → Prop}
    (hq : (evCopy P g h0 n ts.toList args).holds P Q) :
    ∃ v h' n' m' w' X, Q (v, h', n') ∧ (Builtin.copy_ ts ty xs).run P w = .ok X w' ∧ Ext base m F n w m' F n' w' ∧ HR base m' F (look g h') n' w' ∧ R F w' v n' m' X := by
  unfold evCopy at hq
  split at hq
  case h_2 => exact hq.elim
  rename_i t tr hts
  split at hq
  case h_2 => exact hq.elim
  rename_i e ht
  split at hq
  case h_2 => exact hq.elim
  rename_i z hz
  cases hz0 : Nat.blt 0 z
  · rw [hz0] at hq; exact hq.elim
  rw [hz0] at hq
  simp only [cond_true] at hq
  split at hq
  case h_2 => exact hq.elim
  rename_i d x rest
  simp only [RL] at hargs
  obtain ⟨S, r, e1, hS, X, r2, e2, hX, hrest⟩ := hargs
  have hts0 : ts[0]? = some t := by rw [← Array.getElem?_toList, hts]; rfl
  have hxs0 : xs[0]? = some S := by rw [← Array.getElem?_toList, e1]; rfl
  have hxs1 : xs[1]? = some X := by rw [← Array.getElem?_toList, e1, e2]; rfl
  have hzpos : 0 < z := by simpa [Nat.blt_eq] using hz0
  obtain ⟨i0, hi, hsz⟩ := tySize_info hz
  have hS' := R_plain1 hS
  have none_ : ∀ (a : Option Addr), S = .slice a 0 0 → (match rowsOf (look g h0) z x with | some _ => Tree.leaf (V.int true .i64 0, h0, n) | none => .stuck).holds P Q →
      ∃ v h' n' m' w' X, Q (v, h', n') ∧ (Builtin.copy_ ts ty xs).run P w = .ok X w' ∧ Ext base m F n w m' F n' w' ∧ HR base m' F (look g h') n' w' ∧ R F w' v n' m' X := by
    intro a hSa hq
    subst hSa
    cases hrows : rowsOf (look g h0) z x with
    | none => rw [hrows] at hq; exact hq.elim
    | some r =>
      obtain ⟨st', mm, new⟩ := r
      rw [hrows] at hq
      obtain ⟨a', c', rfl, hnew⟩ := rowsOf_run hr hX hrows
      refine ⟨_, _, n, m, w, .int .i64 0, hq, ?_, Ext.refl _ _ _ _ _, hr, by rw [R_int]⟩
      cases a <;> cases a' <;> simp [Builtin.copy_, hts0, hxs0, hxs1, run_underlying ht, Builtin.lenOf, sizeOf, typeInfo, hi, Builtin.firstCells, loadCells, loadCellsFrom, storeCells, goInt]
  cases hp : d.plain1 <;> rw [hp] at hq hS' <;> try exact hq.elim
  case nilsl => simp only [R] at hS'; exact none_ _ hS' hq
  case esl => simp only [R] at hS'; obtain ⟨a, hS', _⟩ := hS'; exact none_ a hS' hq
  rename_i st b es i k
  dsimp only at hq
  cases he : Nat.beq z es
  · rw [he] at hq; exact hq.elim
  rw [he] at hq
  obtain rfl := Nat.eq_of_beq_eq_true he
  simp only [cond_true] at hq
  cases hrows : rowsOf (look g h0) z x with
  | none => rw [hrows] at hq; exact hq.elim
  | some r =>
    obtain ⟨st', mm, new⟩ := r
    rw [hrows] at hq
    obtain ⟨hle, hq⟩ := leNeed_holds hq
    rw [Tree.holds_bind] at hq
    rw [R_osl] at hS'
    obtain ⟨hbn, a, cap, rfl, hk, hcap⟩ := hS'
    obtain ⟨a', c', rfl, hnew⟩ := rowsOf_run hr hX hrows
    have hmin : Nat.min mm k = mm := Nat.min_eq_left hle
    rcases Nat.eq_zero_or_pos mm with hm0 | hm0
    · subst hm0
      have h1 := layRows_zero hq
      refine ⟨_, _, n, m, w, .int .i64 0, h1, ?_, Ext.refl _ _ _ _ _, by rw [set_same]; exact hr, by rw [mkInt_eq, R_int]; rfl⟩
      cases a <;> cases a' <;> simp [Builtin.copy_, hts0, hxs0, hxs1, run_underlying ht, Builtin.lenOf, sizeOf, typeInfo, hi, Builtin.firstCells, loadCells, loadCellsFrom, storeCells, goInt]
    · rcases hcap with h0 | ⟨B, c0, el, fr, rfl, hB, hc0, hsz0⟩
      · omega
      rcases hnew with h0 | ⟨ad, L, rfl, hL, hLc⟩
      · omega
      obtain ⟨blk, w', h1, h2, h3, h4⟩ := layRows_run hr hbn hB hzpos hL hq
      have hfc := run_firstCells_some (P := P) w z mm ad mm c' L hL.1 hLc
      refine ⟨_, _, n, m, w', .int .i64 mm, h1, ?_, h4, h3 _ (fun c => look_set _ _ _ _ _), by rw [mkInt_eq, R_int]⟩
      simp [Builtin.copy_, hts0, hxs0, hxs1, run_underlying ht, Builtin.lenOf, sizeOf, typeInfo, hi, hsz, hmin, hfc, h2, goInt]
theorem newRows_or (n z k : Nat) : newRows n z k = .osl true n z 0 k ∨ k = 0 ∧ newRows n z k = .esl true z := by
  unfold newRows
  cases h : Nat.beq k 0
  · exact .inl rfl
  · exact .inr ⟨Nat.eq_of_beq_eq_true h, rfl⟩
theorem fits_of {k b : Nat} (h : fitsB k b = true) : fits k b := by
  unfold fitsB at h
  simp only [Bool.and_eq_true, Nat.ble_eq] at h
  exact h
/-- The zero value of rows, as the model has it. -/
theorem zero_info {z : Nat} {e : TypeId} {zero : V} (hz : tySize P e = some z) (hzero : tyZero P e = some zero) (hzl : Nat.beq zero.len z = true) :
    ∃ i0 zv, P.info? e = some i0 ∧ i0.size = z ∧ i0.zero = some zv ∧ zv.cells.size = z ∧ RL F w zero n m zv.cells.toList ∧ ∀ by_, tyBytes P e = some by_ → i0.bytes = by_ := by
  obtain ⟨i0, hi, hsz⟩ := tySize_info hz
  obtain ⟨zv, hzv⟩ := tyZero_run (F := F) (w := w) (n := n) (m := m) hzero
  have hzv' : i0.zero = some zv := by
    have h := hzero
    unfold tyZero at h
    rw [hi] at h
    dsimp only at h
    cases hiz : i0.zero with
    | none => rw [hiz] at h; cases h
    | some q =>
      have h1 := hzv.1
      simp only [zeroValue, typeInfo, Sem.run_bind, run_program, Result.andThen_ok, hi, hiz, Sem.run_pure] at h1
      injection h1 with h1 _
      rw [h1]
  refine ⟨i0, zv, hi, hsz, hzv', ?_, hzv.2, fun by_ hby => by unfold tyBytes at hby; rw [hi] at hby; injection hby⟩
  have h1 := Nat.eq_of_beq_eq_true hzl
  rw [RL_len _ _ hzv.2] at h1
  simpa using h1
theorem run_makeLit {t : TypeId} {len cap cs : V} {xl xc : Value} {z k : Nat} (hl : R F w len n m xl) (hc : R F w cap n m xc) (h : evMakeLit P t len cap = some (z, k, cs)) :
    ∃ outc e, (Instr.makeSlice t xl xc).run P w = .ok (.slice (some ⟨w.heap.size, 0, none⟩) k k) (w.alloc (.cells outc e)) ∧ RL F w cs n m outc.toList ∧ outc.size = k * z := by
  unfold evMakeLit at h
  split at h
  case h_2 => cases h
  rename_i e ht
  split at h
  case h_2 => cases h
  rename_i z0 zero by_ hz hzero hby
  cases hzl : Nat.beq zero.len z0
  · rw [hzl] at h; cases h
  cases hz0 : Nat.blt 0 z0
  · rw [hzl, hz0] at h; cases h
  rw [hzl, hz0] at h
  simp only [Bool.and_self, cond_true] at h
  have hzpos : 0 < z0 := by simpa [Nat.blt_eq] using hz0
  split at h
  case h_2 => cases h
  rename_i kl k0
  split at h
  case h_2 => cases h
  rename_i kc k1
  cases hd : (Nat.beq k0 k1 && fitsB k0 by_)
  · rw [hd] at h; cases h
  rw [hd] at h
  simp only [cond_true, Option.some.injEq, Prod.mk.injEq] at h
  obtain ⟨rfl, rfl, rfl⟩ := h
  simp only [Bool.and_eq_true] at hd
  obtain rfl := Nat.eq_of_beq_eq_true hd.1
  obtain ⟨hf1, hf2⟩ := fits_of hd.2
  rw [R_int] at hl hc
  subst hl; subst hc
  obtain ⟨i0, zv, hi, hsz, hzv', hzs, hzr, hb⟩ := zero_info (F := F) (w := w) (n := n) (m := m) hz hzero hzl
  have hbytes := hb _ hby
  have hb' : (i0.bytes : Int) * (k0 : Int) ≤ 281474976710656 := by
    have h : ((i0.bytes * k0 : Nat) : Int) ≤ 281474976710656 := by rw [hbytes, Nat.mul_comm]; omega
    rwa [Int.natCast_mul] at h
  have hrun := run_make (P := P) w t e i0 zv ht hi hzv' kl kc (k0 : Int) (k0 : Int) (by omega) (Int.le_refl _) hb' (by omega)
  simp only [Int.toNat_natCast, hsz] at hrun
  refine ⟨madeCells zv.cells (k0 * z0), e, hrun, ?_, by simp [madeCells]⟩
  have h := zeroCells_rows (k := k0) hzpos hzs hzr
  have e1 : (madeCells zv.cells (k0 * z0)) = Builtin.zeroCells zv.cells k0 := by simp [madeCells, Builtin.zeroCells, hzs]
  rw [e1]
  exact Rows.cat k0 _ h
theorem run_append_zeros (t u ty e : TypeId) (i : TypeInfo) (z : Value) (k k' : IntKind) (ht : P.underlying t = some (.slice e)) (hu : P.underlying u = some (.int k)) (hi : P.info? e = some i) (hz : i.zero = some z)
    (j : Nat) (h0 : 0 < j) (hs : 0 < i.size) (h63 : (j : Int) ≤ 9223372036854775807) (h48 : j * i.bytes ≤ 281474976710656) :
    (Builtin.append_ #[t, u] ty #[.slice none 0 0, .int k' j]).run P w =
      .ok (.slice (some ⟨w.heap.size, 0, none⟩) j (grownCap w j 0 e)) (w.drew.alloc (.cells (Builtin.zeroCells z.cells j ++ Builtin.zeroCells z.cells (grownCap w j 0 e - j)) e)) := by
  have hn : j ≠ 0 := by omega
  have h63' : ¬ (9223372036854775807 < (j : Int)) := by omega
  have h48' : ¬ (281474976710656 < Builtin.nextslicecap j 0 * i.bytes) := by rw [nextslicecap_zero h0]; omega
  have hw : IntKind.i64.wrap (j : Int) = j := IntWalk.i64_in _ ⟨by omega, by omega⟩
  have hb : ¬ (281474976710656 < (j : Int) * (i.bytes : Int)) := by
    have : ((j * i.bytes : Nat) : Int) ≤ 281474976710656 := by omega
    rw [Int.natCast_mul] at this; omega
  have hjs : j * i.size ≠ 0 := Nat.ne_of_gt (Nat.mul_pos h0 hs)
  have hjs2 : ¬ i.size = 0 := by omega
  have hneg : ¬ ((j : Int) < 0) := by omega
  simp [hneg, hjs, Builtin.append_, run_underlying ht, run_underlying hu, sizeOf, typeInfo, zeroValue, hi, hz, asInt, asIntOf, hw, hn, hb, hjs2, h63', h48', Question.forced, run_firstCells_none, newRow, grownCap]
theorem evAppendZ_run (hr : HR base m F (look g h0) n w) {ts : Array TypeId} {ty : TypeId} {k' : IntKind} {j : Nat} {xs : Array Value} (hargs : xs.toList = [.slice none 0 0, .int k' j]) {Q : V × PT Blk × Nat → Prop}
    (hq : (evAppendZ P h0 n ts.toList j).holds P Q) :
    ∃ v h' n' m' w' X, Q (v, h', n') ∧ (Builtin.append_ ts ty xs).run P w = .ok X w' ∧ Ext base m F n w m' F n' w' ∧ HR base m' F (look g h') n' w' ∧ R F w' v n' m' X := by
  unfold evAppendZ at hq
  split at hq
  case h_2 => exact hq.elim
  rename_i t t' hts
  split at hq
  case h_2 => exact hq.elim
  rename_i k hu
  split at hq
  case h_2 => exact hq.elim
  rename_i e ht
  split at hq
  case h_2 => exact hq.elim
  rename_i z zero by_ hz hzero hby
  cases hzl : Nat.beq zero.len z
  · rw [hzl] at hq; exact hq.elim
  cases hz0 : Nat.blt 0 z
  · rw [hzl, hz0] at hq; exact hq.elim
  cases hj0 : Nat.blt 0 j
  · rw [hzl, hz0, hj0] at hq; exact hq.elim
  cases hjf : fitsB j by_
  · rw [hzl, hz0, hj0, hjf] at hq; exact hq.elim
  rw [hzl, hz0, hj0, hjf] at hq
  simp only [Bool.and_self, cond_true] at hq
  have hzpos : 0 < z := by simpa [Nat.blt_eq] using hz0
  have hjpos : 0 < j := by simpa [Nat.blt_eq] using hj0
  obtain ⟨hf1, hf2⟩ := fits_of hjf
  have hxs : xs = #[.slice none 0 0, .int k' j] := by apply Array.ext'; simpa using hargs
  have hts' : ts = #[t, t'] := by apply Array.ext'; simpa using hts
  subst hxs; subst hts'
  obtain ⟨i0, zv, hi, hsz, hzv', hzs, hzr, hb⟩ := zero_info (F := F) (w := w) (n := n) (m := m) hz hzero hzl
  have hbytes := hb _ hby
  have hrun := run_append_zeros (P := P) (w := w) t t' ty e i0 zv k k' ht hu hi hzv' j hjpos (by omega) (by omega) (by rw [hbytes]; omega)
  have hdrew : Later F w F w.drew := ⟨fun _ h => h, fun _ h => .inl h, fun _ _ => rfl, Nat.le_refl _, fun hd B hB => hd B hB, ⟨rfl, rfl, rfl⟩⟩
  have hr2 := hr.later hdrew
  have hrows := zeroCells_rows (k := j) hzpos hzs hzr
  obtain ⟨k1, k2⟩ := hr2.layO (h' := look g (h0.set n (.var (catRows (fun _ => zero) j)))) (nm := n) (n' := n + 1) (blk := .var (catRows (fun _ => zero) j)) (o := .cells (Builtin.zeroCells zv.cells j ++ Builtin.zeroCells zv.cells (grownCap w j 0 e - j)) e)
    (hr2.new n (Nat.le_refl _)) (by omega) (by omega) (fun b h1 h2 => by omega) (fun b => look_set _ _ _ _ _) (fun he =>
      ⟨_, _, e, (Builtin.zeroCells zv.cells j).toList, (Builtin.zeroCells zv.cells (grownCap w j 0 e - j)).toList, rfl, heap_alloc_new w.drew _, by simp, ((hr.ext hdrew).trans he).row (Rows.cat j _ hrows)⟩)
  have hge : j ≤ grownCap w j 0 e := by simp [grownCap, Question.cut]
  refine ⟨_, _, _, _, _, _, hq, hrun, (hr.ext hdrew).trans k2, k1, ?_⟩
  rw [R_osl]
  refine ⟨by omega, _, _, rfl, hge, .inr ⟨w.heap.size, _, e, (0, 0), by rw [Nat.zero_mul], by simp, heap_alloc_new w.drew _, ?_⟩⟩
  simp only [Nat.zero_add, Builtin.zeroCells, Array.size_append, Array.size_map, Array.size_range, hzs]
  rw [← Nat.add_mul]
  exact Nat.le_of_eq (by congr 1; omega)
theorem evAppendX_run (hr : HR base m F (look g h0) n w) {ts : Array TypeId} {ty : TypeId} {args : V} {xs : Array Value} (hargs : RL F w args n m xs.toList) {Q : V × PT Blk × Nat → Prop}
    (hq : (evAppendX P g h0 n ts.toList args).holds P Q) :
    ∃ v h' n' m' w' X, Q (v, h', n') ∧ (Builtin.append_ ts ty xs).run P w = .ok X w' ∧ Ext base m F n w m' F n' w' ∧ HR base m' F (look g h') n' w' ∧ R F w' v n' m' X := by
  unfold evAppendX at hq
  split at hq
  · rename_i st b es i k c x
    split at hq
    case h_2 => exact hq.elim
    rename_i t t' hts
    cases htt : Nat.beq t t'
    · rw [htt] at hq; exact hq.elim
    rw [htt] at hq
    obtain rfl := Nat.eq_of_beq_eq_true htt
    simp only [cond_true] at hq
    split at hq
    case h_2 => exact hq.elim
    rename_i e ht
    simp only [RL] at hargs
    obtain ⟨S, r, e1, hS, X, r', e2, hX, e3⟩ := hargs
    subst e3
    have hxs : xs = #[S, X] := by apply Array.ext'; rw [e1, e2]
    have htsa : ts = #[t, t] := by apply Array.ext'; rw [hts]
    subst hxs; subst htsa
    exact evAppendP_run hr ht hS hX hq
  · rename_i kk j
    simp only [RL, R] at hargs
    obtain ⟨_, r, e1, rfl, X, r', e2, rfl, e3⟩ := hargs
    subst e3
    exact evAppendZ_run hr (k' := kk) (j := j) (by rw [e1, e2]; rfl) hq
  · exact evAppend_run hr hargs hq

theorem evMakeSlice_run (hr : HR base m F (look g h0) n w) {t : TypeId} {len cap : V} {xl xc : Value} (hl : R F w len n m xl) (hc : R F w cap n m xc) {Q : V × PT Blk × Nat → Prop}
    (hq : (evMakeSlice P h0 n t len cap).holds P Q) :
    ∃ v h' n' m' w' X, Q (v, h', n') ∧ (Instr.makeSlice t xl xc).run P w = .ok X w' ∧ Ext base m F n w m' F n' w' ∧ HR base m' F (look g h') n' w' ∧ R F w' v n' m' X := by
  unfold evMakeSlice at hq
  split at hq
  case h_2 => exact hq.elim
  rename_i e ht
  split at hq
  case h_2 => exact hq.elim
  rename_i z zero by_ hz hzero hby
  cases hzl : Nat.beq zero.len z
  · rw [hzl] at hq; exact hq.elim
  cases hz0 : Nat.blt 0 z
  · rw [hzl, hz0] at hq; exact hq.elim
  rw [hzl, hz0] at hq
  simp only [Bool.and_self, cond_true] at hq
  have hzpos : 0 < z := by simpa [Nat.blt_eq] using hz0
  split at hq
  case h_2 => exact hq.elim
  rename_i st kl j
  split at hq
  case h_2 => exact hq.elim
  rename_i st' kc j'
  rw [R_int] at hl hc
  subst hl; subst hc
  obtain ⟨i0, hi, hsz⟩ := tySize_info hz
  have hbytes : i0.bytes = by_ := by unfold tyBytes at hby; rw [hi] at hby; injection hby
  obtain ⟨zv, hzv⟩ := tyZero_run (F := F) (w := w) (n := n) (m := m) hzero
  have hzv' : i0.zero = some zv := by
    have h := hzero
    unfold tyZero at h
    rw [hi] at h
    dsimp only at h
    cases hiz : i0.zero with
    | none => rw [hiz] at h; cases h
    | some q =>
      have h1 := hzv.1
      simp only [zeroValue, typeInfo, Sem.run_bind, run_program, Result.andThen_ok, hi, hiz, Sem.run_pure] at h1
      injection h1 with h1 _
      rw [h1]
  have hzs : zv.cells.size = z := by
    have h1 := Nat.eq_of_beq_eq_true hzl
    rw [RL_len _ _ hzv.2] at h1
    simpa using h1
  -- a new row of so many
  have main : ∀ k : Nat, j = (k : Int) → j' = (k : Int) → fits k by_ → ∀ (blk : Blk) (v : V), (∀ (w' : World) (m' : Nat → Option Nat), Ext base m F n w m' F (n + 1) w' → w'.heap[w.heap.size]? = some (.cells (madeCells zv.cells (k * z)) e) → RB F w' (n + 1) m' blk (some w.heap.size)) → (v = .osl (st && st') n z 0 k ∨ k = 0 ∧ v = .esl true z) →
      Q (v, h0.set n blk, n + 1) → ∃ v h' n' m' w' X, Q (v, h', n') ∧ (Instr.makeSlice t (.int kl j) (.int kc j')).run P w = .ok X w' ∧ Ext base m F n w m' F n' w' ∧ HR base m' F (look g h') n' w' ∧ R F w' v n' m' X := by
    intro k hj hj' hf blk v hrb hv hQ
    obtain ⟨hf1, hf2⟩ := hf
    have hb' : (i0.bytes : Int) * (k : Int) ≤ 281474976710656 := by
      have h : ((i0.bytes * k : Nat) : Int) ≤ 281474976710656 := by rw [hbytes, Nat.mul_comm]; omega
      rwa [Int.natCast_mul] at h
    have hrun := run_make (P := P) w t e i0 zv ht hi hzv' kl kc (k : Int) (k : Int) (by omega) (Int.le_refl _) hb' (by omega)
    simp only [Int.toNat_natCast, hsz] at hrun
    obtain ⟨k1, k2⟩ := hr.layO (h' := look g (h0.set n blk)) (nm := n) (n' := n + 1) (blk := blk) (o := .cells (madeCells zv.cells (k * z)) e) (hr.new n (Nat.le_refl _)) (by omega) (by omega) (fun b h1 h2 => by omega) (fun b => look_set _ _ _ _ _) (fun he => hrb _ _ he (heap_alloc_new w _))
    refine ⟨v, _, _, _, _, _, hQ, by rw [hj, hj']; exact hrun, k2, k1, ?_⟩
    rcases hv with hv | ⟨rfl, hv⟩
    · rw [hv, R_osl]
      refine ⟨by omega, _, _, rfl, Nat.le_refl _, .inr ⟨w.heap.size, _, e, (0, 0), by rw [Nat.zero_mul], by simp, heap_alloc_new w _, ?_⟩⟩
      simp [madeCells]
    · rw [hv]; simp only [R]; exact ⟨_, rfl, fun _ h => by cases h⟩
  have rows : ∀ k, Rows F w n m z k (fun _ => zero) (madeCells zv.cells (k * z)).toList := by
    intro k
    have h := zeroCells_rows (k := k) hzpos hzs hzv.2
    have e : (madeCells zv.cells (k * z)) = Builtin.zeroCells zv.cells k := by simp [madeCells, Builtin.zeroCells, hzs]
    rw [e]; exact h
  cases hss : st && st'
  · rw [hss] at hq
    dsimp only at hq
    obtain ⟨⟨h0', hjj, hf⟩, hq⟩ := hq
    refine main j.toNat (by omega) (by omega) hf _ _ (fun w' m' he hcell => ?_) (.inl (by rw [hss])) hq
    refine .inr ⟨_, _, e, rfl, hcell, by simp [madeCells], fun q hq' => ?_⟩
    obtain ⟨xs, g1, g2, g3⟩ := (rows j.toNat).2 q hq'
    refine ⟨xs, ?_, g2, fun r hr' => by rw [← g3 r hr']; simp⟩
    obtain ⟨z2, hz2⟩ := tyZero_run (F := F) (w := w') (n := 0) (m := fun _ => none) hzero
    have : z2 = zv := by
      have h1 := hz2.1
      simp only [zeroValue, typeInfo, Sem.run_bind, run_program, Result.andThen_ok, hi, hzv', Sem.run_pure] at h1
      injection h1 with h1 _
      exact h1.symm
    subst this
    have hxs : xs = z2.cells.toList := by
      apply List.ext_getElem?
      intro r
      by_cases hr' : r < z
      · rw [← g3 r hr']
        have hmul : (q + 1) * z ≤ j.toNat * z := Nat.mul_le_mul_right z hq'
        rw [Nat.add_mul, Nat.one_mul] at hmul
        have hmod : (q * z + r) % z = r := by rw [Nat.mul_comm, Nat.mul_add_mod, Nat.mod_eq_of_lt hr']
        simp only [madeCells, Array.getElem?_toList]
        rw [Array.getElem?_map, Array.getElem?_range, if_pos (by omega)]
        simp only [Option.map_some, hzs, hmod]
        rw [getElem!_pos z2.cells r (by omega), Array.getElem?_eq_getElem (by omega)]
      · rw [List.getElem?_eq_none (by omega), List.getElem?_eq_none (by simp; omega)]
    rw [hxs]
    exact hz2.2
  · rw [hss] at hq
    dsimp only at hq
    cases j with
    | negSucc _ => exact hq.elim
    | ofNat k =>
      dsimp only at hq
      cases hd : (decide (Int.ofNat k = j') && fitsB k by_)
      · rw [hd] at hq; exact hq.elim
      rw [hd] at hq
      simp only [Bool.and_eq_true, decide_eq_true_eq] at hd
      have hf : fits k by_ := by
        have := hd.2
        unfold fitsB at this
        simp only [Bool.and_eq_true, Nat.ble_eq] at this
        exact this
      refine main k rfl hd.1.symm hf _ _ (fun w' m' he hcell => ?_) (by rw [hss]; exact newRows_or n z k) hq
      exact ⟨_, _, e, (madeCells zv.cells (k * z)).toList, [], rfl, hcell, by simp, he.row (Rows.cat k _ (rows k))⟩
end
end Go.Fw
