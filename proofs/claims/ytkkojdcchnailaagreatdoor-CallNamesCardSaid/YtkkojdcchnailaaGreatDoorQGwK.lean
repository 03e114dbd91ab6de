/- Stores; one operation; a region's operations in their order. -/
import Derived.Test.YtkkojdcchnailaaGreatDoorQGwRo
import Derived.RangeFuncRecord
namespace Go.Fw

section
variable {P : Program} {base : Nat} {m : Nat → Option Nat} {F : Nat → Prop} {h : Nat → Blk} {n : Nat} {w : World} {a : Act}

/-- A store through a pointer into a block that is ours. -/
theorem evStoreB_run (hr : HR base m F h n w) {st : Bool} {b es i o z B : Nat} {v : V} {y : Value} (hb : b < n) (hB : m b = some B) (hv : R F w v n m y)
    (hs : v.solid = true) (hz : y.cells.size = z) (hc : v.cells.allCell = true) {Q : Blk → Prop} (hq : (evStoreB (h b) st es i o z v).holds P Q) :
    ∃ blk w', Q blk ∧ (storeCells ⟨B, i * es + o, none⟩ y.cells.toList).run P w = .ok () w' ∧ (∀ h' : Nat → Blk, (∀ c, h' c = if c = b then blk else h c) → HR base m F h' n w') ∧ Ext base m F n w m F n w' := by
  have hcells := RL_cells v y hv hs
  have hone := oneCell_of (RL_allCell _ _ hcells hc)
  have hblk := hr.blk b hb
  cases hh : h b with
  | none => rw [hh] at hq; exact hq.elim
  | any => rw [hh] at hq; exact hq.elim
  | rng => rw [hh] at hq; exact hq.elim
  | mapV => rw [hh] at hq; exact hq.elim
  | iter => rw [hh] at hq; exact hq.elim
  | var cs =>
    rw [hh] at hq hblk
    obtain ⟨B', xs, el, ys, zs, hm, hcell, hsp, hrow⟩ := hblk
    obtain rfl : B = B' := by rw [hB] at hm; injection hm
    unfold evStoreB at hq
    dsimp only at hq
    rw [RL_len _ _ hrow] at hq
    cases st with
    | false => exact hq.elim
    | true =>
      cases hle : Nat.ble (i * es + o + z) ys.length
      · rw [hle] at hq; exact hq.elim
      · rw [hle] at hq
        have hley : i * es + o + z ≤ ys.length := Nat.le_of_ble_eq_true hle
        have hle' : i * es + o + z ≤ xs.size := Nat.le_trans hley (prefix_len hsp)
        have hrun := run_storeCells_at P B (i * es + o) el y.cells.toList 0 xs w hcell (by simp [hz]; omega) hone
        simp only [Nat.add_zero] at hrun
        rw [splice_eq _ _ _ (by simp [hz]; omega)] at hrun
        have ht := fun h' hh' => hr.turn (h' := h') hm hcell (new := (spliceL xs.toList (i * es + o) y.cells.toList).toArray) (by simp [spliceL_length]) (by rw [hh]; simp) (blk := .var (cs.splice (i * es + o) v.cells)) hh' (fun hrl =>
          ⟨B, _, el, spliceL ys (i * es + o) y.cells.toList, zs, rfl, setRow_heap w B _ _ el _ hcell, by rw [List.toList_toArray, hsp, spliceL_app _ _ _ _ (by simp [hz]; omega)], RL_splice cs _ (hrl _ _ _ _ hrow) (i * es + o) v.cells _ (hrl _ _ _ _ hcells)⟩)
        exact ⟨_, _, hq, by simpa using hrun, fun h' hh' => (ht h' hh').1, (ht (fun c => if c = b then _ else h c) (fun _ => rfl)).2⟩
  | arr es' k get =>
    rw [hh] at hq hblk
    unfold evStoreB at hq
    dsimp only at hq
    cases he : Nat.beq es es'
    · rw [he] at hq; exact hq.elim
    · cases hle : Nat.ble (o + z) es
      · rw [he, hle] at hq; exact hq.elim
      cases hcl : v.clean
      · rw [he, hle, hcl] at hq; exact hq.elim
      · rw [he, hle, hcl] at hq
        obtain rfl := Nat.eq_of_beq_eq_true he
        have hle' := Nat.le_of_ble_eq_true hle
        have hik : i < k ∧ Q (.arr es k fun j => bif Nat.beq j i then (get i).splice o v.cells else get j) := by
          simp only [Bool.and_self, cond_true, atIdx] at hq
          cases st with
          | false => exact hq
          | true =>
            dsimp only at hq
            cases hlt : Nat.blt i k
            · rw [hlt] at hq; exact hq.elim
            · rw [hlt] at hq; exact ⟨by simpa [Nat.blt_eq] using hlt, hq⟩
        obtain ⟨hik, hq⟩ := hik
        obtain ⟨B', c, el, hm, hcell, hsz, hrow⟩ := hblk.resolve_left (fun h0 => by have := h0.1; omega)
        obtain rfl : B = B' := by rw [hB] at hm; injection hm
        have hcells0 := RL_cells v y ((R_clean v hcl n 0 m (fun _ => none)).1 _ hv) hs
        have hmul : i * es + es ≤ k * es := by
          have : (i + 1) * es ≤ k * es := Nat.mul_le_mul_right es hik
          rwa [Nat.add_mul, Nat.one_mul] at this
        have hrun := run_storeCells_at P B (i * es + o) el y.cells.toList 0 c w hcell (by simp [hz]; omega) hone
        simp only [Nat.add_zero] at hrun
        rw [splice_eq _ _ _ (by simp [hz]; omega)] at hrun
        have ht := fun h' hh' => hr.turn (h' := h') hm hcell (new := (spliceL c.toList (i * es + o) y.cells.toList).toArray) (by simp [spliceL_length]) (by rw [hh]; simp) (blk := .arr es k fun j => bif Nat.beq j i then (get i).splice o v.cells else get j) hh' (fun hrl => by
          refine .inr ⟨B, _, el, rfl, setRow_heap w B _ _ el _ hcell, by simp [spliceL_length, hsz], fun j hj => ?_⟩
          have hmulj : j * es + es ≤ k * es := by
            have : (j + 1) * es ≤ k * es := Nat.mul_le_mul_right es hj
            rwa [Nat.add_mul, Nat.one_mul] at this
          obtain ⟨xs, h1, h2, h3⟩ := hrow j hj
          cases hji : Nat.beq j i
          · have hne : j ≠ i := fun e => by subst e; simp at hji
            refine ⟨xs, by dsimp only; rw [hji]; exact hrl _ _ _ _ h1, h2, fun q hq' => ?_⟩
            simp only [List.getElem?_toArray]
            rw [spliceL_get _ _ _ _ (by simp; omega), if_neg, ← h3 q hq']
            · simp
            · simp only [Array.length_toList, hz]
              rcases Nat.lt_or_gt_of_ne hne with hlt | hlt
              · have : (j + 1) * es ≤ i * es := Nat.mul_le_mul_right es hlt
                rw [Nat.add_mul, Nat.one_mul] at this
                omega
              · have : (i + 1) * es ≤ j * es := Nat.mul_le_mul_right es hlt
                rw [Nat.add_mul, Nat.one_mul] at this
                omega
          · obtain rfl := Nat.eq_of_beq_eq_true hji
            refine ⟨spliceL xs o y.cells.toList, by dsimp only; rw [hji]; exact RL_splice _ _ (hrl _ _ _ _ h1) o _ _ (hrl _ _ _ _ hcells0), by rw [spliceL_length]; exact h2, fun q hq' => ?_⟩
            simp only [List.getElem?_toArray]
            rw [spliceL_get _ _ _ _ (by simp; omega), spliceL_get _ _ _ _ (by omega)]
            simp only [Array.length_toList, hz]
            by_cases hin2 : o ≤ q ∧ q < o + z
            · rw [if_pos (by omega), if_pos hin2]
              congr 1
              omega
            · rw [if_neg (by omega), if_neg hin2, ← h3 q hq']
              simp)
        exact ⟨_, _, hq, by simpa using hrun, fun h' hh' => (ht h' hh').1, (ht (fun c => if c = b then _ else h c) (fun _ => rfl)).2⟩

theorem evStore_run {g : Nat → Blk} {h : PT Blk} (hr : HR base m F (look g h) n w) {t : TypeId} {va vv : V} {x y : Value} (ha : R F w va n m x) (hv : R F w vv n m y) {Q : PT Blk → Prop} (hq : (evStore P g h t va vv).holds P Q) :
    ∃ h' w', Q h' ∧ (Instr.storeAt t x y).run P w = .ok () w' ∧ HR base m F (look g h') n w' ∧ Ext base m F n w m F n w' := by
  unfold evStore at hq
  cases hz : tySize P t with
  | none => rw [hz] at hq; exact hq.elim
  | some z =>
    rw [hz] at hq
    dsimp only at hq
    cases h1 : Nat.beq vv.cells.len z
    · rw [h1] at hq; exact hq.elim
    · cases h2 : vv.cells.allCell
      · rw [h1, h2] at hq; exact hq.elim
      · cases h3 : vv.solid
        · rw [h1, h2, h3] at hq; exact hq.elim
        · rw [h1, h2, h3] at hq
          simp only [Bool.and_self, cond_true] at hq
          cases va <;> try exact hq.elim
          rename_i st b es i o
          have hlen : y.cells.size = z := by
            have := RL_len _ _ (RL_cells vv y hv h3)
            rw [Nat.eq_of_beq_eq_true h1] at this
            simpa using this.symm
          rw [R_ptr] at ha
          obtain ⟨hb, B, rfl, hB⟩ := ha
          dsimp only at hq
          rw [Tree.holds_bind] at hq
          obtain ⟨blk, w', k1, k2, k3, k4⟩ := evStoreB_run hr hb hB hv h3 hlen h2 hq
          refine ⟨_, w', k1, ?_, k3 _ (fun c => look_set _ _ _ _ _), k4⟩
          simp only [Instr.storeAt, Instr.sureAddr, pure_bind, storeVar, Sem.run_bind, tySize_run hz, Result.andThen_ok]
          rw [if_neg (by simp [hlen])]
          exact k2
end

/-! ### One operation, and a region in its order -/
/-- What is asked of the calls that are walked in place. -/
def CallOk (E : Env) (call : CallF) : Prop :=
  ∀ (hb : Nat → Blk) (c : FuncId ⊕ Nat) (args : V) (h : PT Blk) (n : Nat) (base : Nat) (m : Nat → Option Nat) (F : Nat → Prop) (w : World) (xs : Array Value) (Q : V × PT Blk × Nat → Prop) (K : Ending → World → Prop),
    HR base m F (look hb h) n w → RL F w args n m xs.toList → (call hb c args h n).holds E.P Q →
    (∀ v h' n', Q (v, h', n') → ∀ m' F' w' x, Ext base m F n w m' F' n' w' → HR base m' F' (look hb h') n' w' → R F' w' v n' m' x → K (.returned x) w') →
    match c with
    | .inl g => Has E.P g ∧ Calls E.P g xs w K
    | .inr b => ∀ l, m b = some l → ∃ r, w.heap[l]? = some (.loop r) ∧ xs.size = r.params.size ∧ ∀ ro, RoundIn (fen ro) 0 E.P l r.fn ((r.params.zip xs).foldl (fun tmps (t, a) => tmps.setIfInBounds t a) r.tmps) r.assign r.body w K

theorem Act.defers_put (a : Act) (dst : Option Tmp) (v : Value) : (a.put dst v).defers = a.defers := by cases dst <;> rfl
theorem Act.size_put (a : Act) (dst : Option Tmp) (v : Value) : (a.put dst v).tmps.size = a.tmps.size := by cases dst <;> simp [Act.put]
theorem Rel.put {lo base : Nat} {m : Nat → Option Nat} {F : Nat → Prop} {Bs : Base} {s : St Bs} {a : Act} {w : World} (hr : Rel lo base m F s a w) {dst : Option Tmp} {v : V} {x : Value}
    (hv : R F w v s.n m x) (hd : ∀ d, dst = some d → d < s.N) : Rel lo base m F (s.put dst v) (a.put dst x) w := by
  cases dst with
  | none => exact hr
  | some d =>
    refine ⟨hr.hr, hr.defers, by simp [Act.put, St.put, hr.size], fun i => ?_⟩
    have hlt : d < a.tmps.size := by rw [hr.size]; exact hd d rfl
    simp only [St.put, St.tmp, Act.put]
    by_cases e : i = d
    · subst e
      have hget : (a.tmps.setIfInBounds i x).getD i Go.undef = x := by simp [Array.getD_eq_getD_getElem?, hlt]
      rw [look_set_eq, hget]; exact hv
    · rw [look_set_ne _ _ _ e]
      have hget : (a.tmps.setIfInBounds d x).getD i Go.undef = a.tmps.getD i Go.undef := by
        simp only [Array.getD_eq_getD_getElem?, Array.getElem?_setIfInBounds_ne (Ne.symm e)]
      rw [hget]
      exact hr.tmp i
theorem Rel.opnd {lo base : Nat} {m : Nat → Option Nat} {F : Nat → Prop} {Bs : Base} {s : St Bs} {a : Act} {w : World} (hr : Rel lo base m F s a w) : ∀ x, R F w (opnd s x) s.n m (a.eval x)
  | .tmp t => hr.tmp t
  | .const v => R_const v
  | .global g => by
    simp only [Fw.opnd]
    split
    · rename_i v hg
      obtain ⟨h1, h2, _⟩ := hr.hr.gl g v hg
      exact (R_clean v h1 0 s.n _ m).1 _ h2
    · simp only [R]
  | .func f => by simp only [Fw.opnd, R, Act.eval]; exact ⟨_, _, rfl, by simp only [RL], by simp only [RL]⟩
theorem Rel.move {lo base : Nat} {m m' : Nat → Option Nat} {F F' : Nat → Prop} {Bs : Base} {s : St Bs} {a : Act} {w w' : World} {h' : PT Blk} {n' : Nat} (hr : Rel lo base m F s a w)
    (he : Ext base m F s.n w m' F' n' w') (hh : HR base m' F' (look Bs.h h') n' w') : Rel lo base m' F' ({ s with h := h', n := n' } : St Bs) a w' :=
  ⟨hh, Marks.ext hr.defers he, hr.size, fun i => he.val (hr.tmp i)⟩

theorem evOp_nodefer {E : Env} {call : CallF} {Bs : Base} {s : St Bs} {o : Op} {Q : V × PT Blk × Nat → Prop} (hq : (evOp E call s o).holds E.P Q) : ∀ c, o ≠ .defer c := by
  intro c e
  subst e
  exact hq
theorem evOp_wp {E : Env} (hE : E.Ok) {ro : Option Nat} {call : CallF} (hcall : CallOk E call) {lo base : Nat} {m : Nat → Option Nat} {F : Nat → Prop} {Bs : Base} {s : St Bs} {a : Act} {w : World}
    (hr : Rel lo base m F s a w) {o : Oper} {Q : V × PT Blk × Nat → Prop} {K : Act → World → Prop} {Qx : Exit → Act → World → Prop} (hq : (evOp E call s o.op).holds E.P Q)
    (hK : ∀ v h' n', Q (v, h', n') → ∀ m' F' w' x, Ext base m F s.n w m' F' n' w' → HR base m' F' (look Bs.h h') n' w' → R F' w' v n' m' x → K (a.put o.dst x) w') : o.wpIn (fen ro) 0 E.P a w K Qx := by
  have hnd := evOp_nodefer hq
  unfold evOp at hq
  cases hT : evQ E (opnd s) s.blk o.op with
  | some T =>
    rw [hT] at hq
    dsimp only at hq
    rw [Tree.holds_bind] at hq
    refine wpIn_of_wp ?_ hnd
    exact evQ_wp hE hr.hr hr.opnd hT hq fun v x w' F' h1 h2 h3 => hK v s.h s.n h1 m F' w' x (hr.hr.ext h2) (hr.hr.later h2) h3
  | none =>
    rw [hT] at hq
    dsimp only at hq
    cases ho : o.op <;> rw [ho] at hq <;> dsimp only at hq <;> try (exact hq.elim)
    case alloc t =>
      cases hz : tyZero E.P t with
      | none => rw [hz] at hq; exact hq.elim
      | some cs =>
        rw [hz] at hq
        obtain ⟨z, hz1, hz2⟩ := tyZero_run (F := F) (w := w) (n := s.n) (m := m) hz
        obtain ⟨h1, h2⟩ := hr.hr.push (h' := look Bs.h (s.h.set s.n (.var cs))) t hz2 (fun b => look_set _ _ _ _ _)
        have hrun : (execOp a.eval o).run E.P w = .ok (.value (.pointer (some ⟨w.heap.size, 0, none⟩))) (w.alloc (.cells z.cells t)) := by
          simp only [execOp, ho, Instr.alloc, Sem.run_bind, hz1, Result.andThen_ok]
          rfl
        refine wpIn_of_wp ?_ hnd
        unfold Oper.wp
        rw [hrun]
        simp only [Oper.upon]
        exact hK _ _ _ hq _ F _ _ h2 h1 (by rw [R_ptr]; exact ⟨by omega, w.heap.size, by simp, by simp⟩)
    case box t x =>
      cases hs : (opnd s x).solid
      · rw [hs] at hq; exact hq.elim
      · rw [hs] at hq
        have hcells := RL_cells _ _ (hr.opnd x) hs
        obtain ⟨h1, h2⟩ := hr.hr.push (h' := look Bs.h (s.h.set s.n (.var (opnd s x).cells))) t hcells (fun b => look_set _ _ _ _ _)
        have hrun : (execOp a.eval o).run E.P w = .ok (.value (.pointer (some ⟨w.heap.size, 0, none⟩))) (w.alloc (.cells (a.eval x).cells t)) := by
          simp only [execOp, ho]; rfl
        refine wpIn_of_wp ?_ hnd
        unfold Oper.wp
        rw [hrun]
        simp only [Oper.upon]
        exact hK _ _ _ hq _ F _ _ h2 h1 (by rw [R_ptr]; exact ⟨by omega, w.heap.size, by simp, by simp⟩)
    case buildSlice t len parts =>
      cases hz : evBuildRow E.P t len (parts.toList.map fun p => (p.1, opnd s p.2)) with
      | none => rw [hz] at hq; exact hq.elim
      | some zc =>
        obtain ⟨z, cs⟩ := zc
        rw [hz] at hq
        obtain ⟨outc, e, hrun, hrow, hsz⟩ := run_buildSlice (E := E) ho hr.opnd hz
        obtain ⟨h1, h2⟩ := hr.hr.push (h' := look Bs.h (s.h.set s.n (.var cs))) e hrow (fun b => look_set _ _ _ _ _)
        refine wpIn_of_wp ?_ hnd
        unfold Oper.wp
        rw [hrun]
        simp only [Oper.upon]
        exact hK _ _ _ hq _ F _ _ h2 h1 (by rw [R_osl]; exact ⟨by omega, _, len, rfl, Nat.le_refl _, .inr ⟨w.heap.size, outc, e, (0, 0), by rw [Nat.zero_mul], by simp, heap_alloc_new w _, by rw [Nat.zero_add, hsz]; exact Nat.le_refl _⟩⟩)
    case makeMap t r =>
      cases hz : evMakeMap E.P t (r.map (opnd s)) with
      | none => rw [hz] at hq; exact hq.elim
      | some blk =>
        rw [hz] at hq
        obtain ⟨hrun0, kd, rfl⟩ := makeMap_run (F := F) (w := w) (n := s.n) (m := m) (X := r.map a.eval) hz (fun v hv => by
          cases r with
          | none => cases hv
          | some y => injection hv with hv; subst hv; exact ⟨_, rfl, hr.opnd y⟩) (fun hv => by cases r with | none => rfl | some y => cases hv)
        obtain ⟨h1, h2⟩ := hr.hr.layO (h' := look Bs.h (s.h.set s.n (.mapV kd true (fun _ => (false, .junk)) (some (0, []))))) (nm := s.n) (n' := s.n + 1) (o := .map #[] 0) (hr.hr.new s.n (Nat.le_refl _)) (by omega) (by omega) (fun b h1 h2 => by omega) (fun b => look_set _ _ _ _ _) (fun _ => RB_newMap (heap_alloc_new w _))
        have hrun : (execOp a.eval o).run E.P w = .ok (.value (.map (some w.heap.size))) (w.alloc (.map #[] 0)) := by
          simp only [execOp, ho, Sem.run_bind, hrun0, Result.andThen_ok]
          rfl
        refine wpIn_of_wp ?_ hnd
        unfold Oper.wp
        rw [hrun]
        simp only [Oper.upon]
        exact hK _ _ _ hq _ F _ _ h2 h1 (by simp only [R]; exact ⟨by omega, w.heap.size, rfl, by simp⟩)
    case makeSlice t len cap =>
      obtain ⟨v, h', n', m', w', X, q1, q2, q3, q4, q5⟩ := evMakeSlice_run (P := E.P) hr.hr (hr.opnd len) (hr.opnd cap) hq
      have hrun : (execOp a.eval o).run E.P w = .ok (.value X) w' := by
        simp only [execOp, ho, Sem.run_bind, q2, Result.andThen_ok]; rfl
      refine wpIn_of_wp ?_ hnd
      unfold Oper.wp
      rw [hrun]
      simp only [Oper.upon]
      exact hK v h' n' q1 m' F w' X q3 q4 q5
    case range t x =>
      cases hz : evRange E.P s.blk t (opnd s x) with
      | none => rw [hz] at hq; exact hq.elim
      | some blk =>
        rw [hz] at hq
        obtain ⟨ob, hrun0, hrb⟩ := evRange_run hr.hr (hr.opnd x) hz
        obtain ⟨h1, h2⟩ := hr.hr.layO (h' := look Bs.h (s.h.set s.n blk)) (nm := s.n) (n' := s.n + 1) (o := ob) (hr.hr.new s.n (Nat.le_refl _)) (by omega) (by omega) (fun b h1 h2 => by omega) (fun b => look_set _ _ _ _ _) (fun he => hrb _ _ _ (by omega) (fun b hb B hB => he.map b hb B hB) (heap_alloc_new w _))
        have hrun : (execOp a.eval o).run E.P w = .ok (.value (.pointer (some ⟨w.heap.size, 0, none⟩))) (w.alloc ob) := by
          simp only [execOp, ho, Sem.run_bind, hrun0, Result.andThen_ok]
          rfl
        refine wpIn_of_wp ?_ hnd
        unfold Oper.wp
        rw [hrun]
        simp only [Oper.upon]
        exact hK _ _ _ hq _ F _ _ h2 h1 (by rw [R_ptr]; exact ⟨by omega, w.heap.size, by simp, by simp⟩)
    case entry it =>
      rw [Tree.holds_bind] at hq
      refine wpIn_of_wp ?_ hnd
      refine wp_of_val (by simp only [execOp, ho]) (evEntry_val hr.hr (hr.opnd it)) hq fun v x w' F' h1 h2 h3 => hK v s.h s.n h1 m F' w' x (hr.hr.ext h2) (hr.hr.later h2) h3
    case next it str =>
      rw [Tree.holds_bind] at hq
      obtain ⟨v, wr, w', X, q1, q2, q3, q4, q5⟩ := evNext_run (P := E.P) hr.hr (hr.opnd it) o.type hq
      have hrun : (execOp a.eval o).run E.P w = .ok (.value X) w' := by
        simp only [execOp, ho, Sem.run_bind, q2, Result.andThen_ok]; rfl
      refine wpIn_of_wp ?_ hnd
      unfold Oper.wp
      rw [hrun]
      simp only [Oper.upon]
      cases wr with
      | none => exact hK v s.h s.n q1 m F w' X q3 (q4 _ fun c => rfl) q5
      | some bb => exact hK v _ s.n q1 m F w' X q3 (q4 _ fun c => look_set _ _ _ _ _) q5
    case mapUpdate t mx k x =>
      cases hz : evMapPut E.P s.blk t (opnd s mx) (opnd s k) (true, opnd s x) with
      | none => rw [hz] at hq; exact hq.elim
      | some bb =>
        obtain ⟨b, blk⟩ := bb
        rw [hz] at hq
        obtain ⟨w', hrun0, k1, k2⟩ := (mapPut_run hr.hr (hr.opnd mx) (hr.opnd k) hz).1 _ rfl (hr.opnd x)
        have hrun : (execOp a.eval o).run E.P w = .ok .skip w' := by
          simp only [execOp, ho, Sem.run_bind, hrun0, Result.andThen_ok, Sem.run_pure]
        refine wpIn_of_wp ?_ hnd
        unfold Oper.wp
        rw [hrun]
        simp only [Oper.upon]
        exact hK _ _ _ hq m F w' _ k2 (k1 _ fun c => look_set _ _ _ _ _) (by simp only [R])
    case insert t mx k x =>
      cases hz : evMapPut E.P s.blk t (opnd s mx) (opnd s k) (true, opnd s x) with
      | none => rw [hz] at hq; exact hq.elim
      | some bb =>
        obtain ⟨b, blk⟩ := bb
        rw [hz] at hq
        obtain ⟨w', hrun0, k1, k2⟩ := (mapPut_run hr.hr (hr.opnd mx) (hr.opnd k) hz).1 _ rfl (hr.opnd x)
        have hrun : (execOp a.eval o).run E.P w = .ok .skip w' := by
          simp only [execOp, ho, Sem.run_bind, hrun0, Result.andThen_ok, Sem.run_pure]
        refine wpIn_of_wp ?_ hnd
        unfold Oper.wp
        rw [hrun]
        simp only [Oper.upon]
        exact hK _ _ _ hq m F w' _ k2 (k1 _ fun c => look_set _ _ _ _ _) (by simp only [R])
    case store t x y =>
      rw [Tree.holds_bind] at hq
      obtain ⟨h', w', h1, h2, h3, h4⟩ := evStore_run hr.hr (hr.opnd x) (hr.opnd y) hq
      have hrun : (execOp a.eval o).run E.P w = .ok .skip w' := by
        simp only [execOp, ho, Sem.run_bind, h2, Result.andThen_ok, Sem.run_pure]
      refine wpIn_of_wp ?_ hnd
      unfold Oper.wp
      rw [hrun]
      simp only [Oper.upon]
      exact hK _ _ _ h1 m F w' _ h4 h3 (by simp only [R])
    case call c =>
      cases hcal : c.callee <;> rw [hcal] at hq <;> dsimp only at hq <;> try (exact hq.elim)
      case builtin bi =>
        cases bi <;> try (exact hq.elim)
        case delete =>
          dsimp only at hq
          cases hts : c.argTypes.toList with
          | nil => rw [hts] at hq; exact hq.elim
          | cons t ts =>
            rw [hts] at hq
            dsimp only at hq
            match hca : c.args.toList, hq with
            | [mx, k], hq =>
              dsimp only at hq
              cases hz : evMapPut E.P s.blk t (opnd s mx) (opnd s k) (false, .junk) with
              | none => rw [hz] at hq; exact hq.elim
              | some bb =>
                obtain ⟨b, blk⟩ := bb
                rw [hz] at hq
                have hts0 : c.argTypes[0]? = some t := by rw [← Array.getElem?_toList, hts]; rfl
                obtain ⟨w', hrun0, k1, k2⟩ := (mapPut_run hr.hr (hr.opnd mx) (hr.opnd k) hz).2 rfl 0 c.argTypes hts0
                have hargs : c.args.map a.eval = #[a.eval mx, a.eval k] := by
                  apply Array.ext'
                  rw [Array.toList_map, hca]; rfl
                have hrun := exec_builtin (P := E.P) (sem := Builtin.delete_ c.argTypes 0 (c.args.map a.eval)) ho hcal (fun consts ty => rfl) w
                rw [hargs, hrun0] at hrun
                refine wpIn_of_wp ?_ hnd
                unfold Oper.wp
                rw [hrun]
                simp only [Result.andThen_ok, Oper.upon]
                exact hK _ _ _ hq m F w' _ k2 (k1 _ fun c => look_set _ _ _ _ _) (by simp only [R, RL]; exact ⟨_, rfl, rfl⟩)
        all_goals have hargs : RL F w (.ofList (c.args.toList.map (opnd s))) s.n m (c.args.map a.eval).toList := (by simpa using RL_operands (a := a) hr.opnd c.args.toList)
        case append =>
          obtain ⟨v, h', n', m', w', X, q1, q2, q3, q4, q5⟩ := evAppendX_run (P := E.P) (ty := 0) hr.hr hargs hq
          have hrun := exec_builtin (P := E.P) (sem := Builtin.append_ c.argTypes 0 (c.args.map a.eval)) ho hcal (fun consts ty => rfl) w
          rw [q2] at hrun
          refine wpIn_of_wp ?_ hnd
          unfold Oper.wp
          rw [hrun]
          simp only [Result.andThen_ok, Oper.upon]
          exact hK v h' n' q1 m' F w' X q3 q4 q5
        case clear =>
          obtain ⟨v, h', n', m', w', X, q1, q2, q3, q4, q5⟩ := evClear_run (P := E.P) (ty := 0) hr.hr hargs hq
          have hrun := exec_builtin (P := E.P) (sem := Builtin.clear_ c.argTypes 0 (c.args.map a.eval)) ho hcal (fun consts ty => rfl) w
          rw [q2] at hrun
          refine wpIn_of_wp ?_ hnd
          unfold Oper.wp
          rw [hrun]
          simp only [Result.andThen_ok, Oper.upon]
          exact hK v h' n' q1 m' F w' X q3 q4 q5
        case copy =>
          obtain ⟨v, h', n', m', w', X, q1, q2, q3, q4, q5⟩ := evCopy_run (P := E.P) (ty := 0) hr.hr hargs hq
          have hrun := exec_builtin (P := E.P) (sem := Builtin.copy_ c.argTypes 0 (c.args.map a.eval)) ho hcal (fun consts ty => rfl) w
          rw [q2] at hrun
          refine wpIn_of_wp ?_ hnd
          unfold Oper.wp
          rw [hrun]
          simp only [Result.andThen_ok, Oper.upon]
          exact hK v h' n' q1 m' F w' X q3 q4 q5
      rename_i f
      cases hz : evFrozen E (opnd s) s.blk f c with
      | some T =>
        rw [hz] at hq
        dsimp only at hq
        rw [Tree.holds_bind] at hq
        refine wpIn_of_wp ?_ hnd
        exact evFrozen_wp hE ho hcal hr.hr hr.opnd hz hq fun v x w' F' h1 h2 h3 => hK v s.h s.n h1 m F' w' x (hr.hr.ext h2) (hr.hr.later h2) h3
      | none =>
      rw [hz] at hq
      dsimp only at hq
      have hargs : RL F w (.ofList (c.args.toList.map (opnd s))) s.n m (c.args.map a.eval).toList := by
        simpa using RL_operands (a := a) hr.opnd c.args.toList
      have fn_ : ∀ {g : FuncId} {args : V}, callee (opnd s f) (.ofList (c.args.toList.map (opnd s))) = some (g, args) → (call Bs.h (.inl g) args s.h s.n).holds E.P Q → o.wpIn (fen ro) 0 E.P a w K Qx := by
        intro g args hc hq
        obtain ⟨ys, hy, hy2⟩ := callee_run (P := E.P) hc (hr.opnd f) hargs
        obtain ⟨hhas, hcalls⟩ := hcall Bs.h (.inl g) args s.h s.n base m F w ys Q
          (fun e w'' => match e with | .returned v => K (a.put o.dst v) w'' | _ => False) hr.hr hy hq
          (fun v h' n' hQ m' F' w' x h1 h2 h3 => hK v h' n' hQ m' F' w' x h1 h2 h3)
        obtain ⟨hrun, hys⟩ := hy2 w
        have hexec : (execOp a.eval o).run E.P w = .ok (.enter g ys) w := by
          simp only [execOp, ho, resolve, hcal, Sem.run_bind, hrun, Result.andThen_ok, invoke, run_callFunc hhas, hys]
        refine wpIn_of_wp ?_ hnd
        unfold Oper.wp
        rw [hexec]
        simp only [Oper.upon]
        refine hcalls.mono fun e w' he => ?_
        cases e with
        | returned v => exact he
        | panicked c => exact he.elim
        | outgrown => exact he.elim
      have hf := hr.opnd f
      cases hv : opnd s f with
      | yld b =>
        rw [hv] at hq hf
        simp only [R] at hf
        obtain ⟨hbn, l, hfe, hml⟩ := hf
        obtain ⟨r, hl, hsz, hround⟩ := hcall Bs.h (.inr b) (.ofList (c.args.toList.map (opnd s))) s.h s.n base m F w (c.args.map a.eval) Q
          (fun e w'' => match e with | .returned v => K (a.put o.dst v) w'' | _ => False) hr.hr hargs hq
          (fun v h' n' hQ m' F' w' x h1 h2 h3 => hK v h' n' hQ m' F' w' x h1 h2 h3) l hml
        refine ⟨fun _ _ => trivial, ?_⟩
        rw [Oper.semAt_eq _ _ _ hnd]
        have hexec : (execOp a.eval o).run E.P w = .ok (.round l r.fn ((r.params.zip (c.args.map a.eval)).foldl (fun tmps (t, a) => tmps.setIfInBounds t a) r.tmps) r.assign r.body) w := by
          simp only [execOp, ho, resolve, hcal, hfe, Deferred.ofValue, Sem.run_bind, Sem.run_pure, Result.andThen_ok, invoke, Array.empty_append]
          exact run_yield hl hsz
        rw [hexec]
        refine ⟨fen_depth ro, (hround ro).mono fun e w' he => ?_⟩
        cases e with
        | returned v => exact he
        | panicked c => exact he.elim
        | outgrown => exact he.elim
      | _ =>
        rw [hv] at hq fn_
        simp only [calleeY] at hq
        split at hq
        · rename_i heq
          split at heq
          · rename_i g out hc
            injection heq with heq
            injection heq with e1 e2
            subst e1; subst e2
            exact fn_ hc hq
          · cases heq
        · exact hq.elim

theorem dst_lt {N : Nat} {o : Oper} (h : dstOk N o = true) : ∀ d, o.dst = some d → d < N := by
  intro d hd
  unfold dstOk at h
  rw [hd] at h
  simpa [Nat.blt_eq] using h
/-- Whether an operation is wanted, where that is to be seen off the values. -/
def truth (ops : Array Oper) (val : Nat → V) (o : Oper) : Option Bool :=
  match o.guard with
  | none => some true
  | some (j, want) => match ops[j]? with
    | some p => match p.dst with
      | some d => match val d with
        | .bool _ b => some (b == want)
        | .undef => some false
        | _ => none
      | none => some false
    | none => some false
theorem truth_of {ops : Array Oper} {val : Nat → V} {o : Oper} : match guardOf ops val o with
    | .yes => truth ops val o = some true
    | .no => truth ops val o = some false
    | .bad => True
    | .dyn d b want => truth ops val o = some (b == want) ∧ val d = .bool false b := by
  unfold guardOf truth
  cases o.guard with
  | none => rfl
  | some gw =>
    obtain ⟨j, want⟩ := gw
    dsimp only
    cases ops[j]? with
    | none => rfl
    | some p =>
      dsimp only
      cases p.dst with
      | none => rfl
      | some d =>
        dsimp only
        cases hv : val d <;> try trivial
        rename_i st b
        cases st
        · exact ⟨rfl, hv⟩
        · cases b <;> cases want <;> rfl
theorem yielded_of {ops : Array Oper} {lo base : Nat} {m : Nat → Option Nat} {F : Nat → Prop} {Bs : Base} {s : St Bs} {a : Act} {w : World} (hr : Rel lo base m F s a w) {o : Oper} {r : Bool}
    (h : truth ops s.tmp o = some r) : Region.wanted o (yielded ops a.tmps) = r := by
  unfold truth at h
  unfold Region.wanted
  cases hg : o.guard with
  | none => rw [hg] at h; injection h
  | some gw =>
    obtain ⟨j, want⟩ := gw
    rw [hg] at h
    dsimp only at h ⊢
    cases hj : ops[j]? with
    | none => rw [hj] at h; injection h with h; subst h; simp [yielded, hj]
    | some p =>
      rw [hj] at h
      dsimp only at h
      cases hd : p.dst with
      | none => rw [hd] at h; injection h with h; subst h; simp [yielded, hj, hd]
      | some d =>
        rw [hd] at h
        dsimp only at h
        have ht := hr.tmp d
        have hy : ∀ b, a.tmps.getD d Go.undef = .bool b → yielded ops a.tmps j = some b := by
          intro b hb
          simp only [yielded, hj, Option.bind_some, hd]
          cases hx : a.tmps[d]? with
          | none => simp [Array.getD_eq_getD_getElem?, hx, Go.undef] at hb
          | some x => simp [Array.getD_eq_getD_getElem?, hx] at hb; subst hb; rfl
        have hy0 : a.tmps.getD d Go.undef = Go.undef → yielded ops a.tmps j = none := by
          intro hb
          simp only [yielded, hj, Option.bind_some, hd]
          cases hx : a.tmps[d]? with
          | none => rfl
          | some x => simp [Array.getD_eq_getD_getElem?, hx] at hb; subst hb; rfl
        cases hs : s.tmp d <;> rw [hs] at h ht <;> try (cases h; done)
        · simp only [R] at ht
          injection h with h
          subst h
          simp [hy0 ht]
        · rename_i st b
          simp only [R] at ht
          injection h with h
          subst h
          rw [hy _ ht]
          cases b <;> cases want <;> rfl

/-- What is known of a temporary is so. -/
theorem Rel.know {lo base : Nat} {m : Nat → Option Nat} {F : Nat → Prop} {Bs : Base} {s : St Bs} {a : Act} {w : World} (hr : Rel lo base m F s a w) {d : Nat} {st b : Bool} (h : s.tmp d = .bool st b) : Rel lo base m F (s.know d b) a w := by
  refine ⟨hr.hr, hr.defers, hr.size, fun i => ?_⟩
  by_cases e : i = d
  · subst e
    have ht := hr.tmp i
    rw [h] at ht
    simp only [St.know, St.tmp, look_set_eq]
    simp only [R] at ht ⊢
    exact ht
  · simp only [St.know, St.tmp]
    rw [look_set_ne _ _ _ e]
    exact hr.tmp i

theorem evOps_wp {E : Env} (hE : E.Ok) {ro : Option Nat} {call : CallF} (hcall : CallOk E call) {lo base : Nat} {ops : Array Oper} {Qx : Exit → Act → World → Prop} {Bs : Base} :
    ∀ (l : List Oper) (s : St Bs) (a : Act) (w : World) (m : Nat → Option Nat) (F : Nat → Prop) (Q : St Bs → Prop), (∀ o ∈ l, dstOk s.N o = true) → Rel lo base m F s a w →
    (evOps E call ops l s).holds E.P Q → (∀ s', Q s' → ∀ m' F' a' w', Ext base m F s.n w m' F' s'.n w' → Rel lo base m' F' s' a' w' → Qx .normal a' w') →
    wpListIn (fen ro) 0 E.P ops Qx l a w := by
  intro l
  induction l with
  | nil => intro s a w m F Q _ hr hq hK; exact hK s hq m F a w (Ext.refl _ _ _ _ _) hr
  | cons o rest ih =>
    intro s a w m F Q hd hr hq hK
    have hdst : ∀ d, o.dst = some d → d < s.N := dst_lt (hd o (by simp))
    have run : ∀ (s' : St Bs), s'.n = s.n → s'.N = s.N → Rel lo base m F s' a w →
        (evOp E call s' o.op).holds E.P (fun r => (evOps E call ops rest (({ s' with h := r.2.1, n := r.2.2 } : St Bs).put o.dst r.1)).holds E.P Q) → o.wpIn (fen ro) 0 E.P a w (wpListIn (fen ro) 0 E.P ops Qx rest) Qx := by
      intro s' hn hN hr hq'
      refine evOp_wp hE hcall hr hq' fun v h' n' hQ m' F' w' x h1 h2 h3 => ?_
      have hr' : Rel lo base m' F' ({ s' with h := h', n := n' } : St Bs) a w' := hr.move h1 h2
      have hr'' := hr'.put (dst := o.dst) (v := v) (x := x) h3 (by rw [hN]; exact hdst)
      refine ih (({ s' with h := h', n := n' } : St Bs).put o.dst v) (a.put o.dst x) w' m' F' Q (fun p hp => ?_) hr'' hQ fun s'' hs' m'' F'' a' w'' h4 h5 => ?_
      · have := hd p (List.mem_cons_of_mem _ hp)
        rw [← hN] at this
        cases hdo : o.dst <;> exact this
      · rw [hn] at h1
        refine hK s'' hs' m'' F'' a' w'' (h1.trans ?_) h5
        cases hdo : o.dst <;> simpa only [St.put, hdo] using h4
    have skip : ∀ (s' : St Bs), s'.n = s.n → s'.N = s.N → Rel lo base m F s' a w → (evOps E call ops rest (s'.put o.dst .undef)).holds E.P Q → wpListIn (fen ro) 0 E.P ops Qx rest (a.put o.dst undef) w := by
      intro s' hn hN hr hq'
      have hr'' := hr.put (dst := o.dst) (v := .undef) (x := Go.undef) (by simp only [R]) (by rw [hN]; exact hdst)
      refine ih (s'.put o.dst .undef) _ w m F Q (fun p hp => ?_) hr'' hq' fun s'' hs' m'' F'' a' w'' h4 h5 => ?_
      · have := hd p (List.mem_cons_of_mem _ hp)
        rw [← hN] at this
        cases hdo : o.dst <;> exact this
      · refine hK s'' hs' m'' F'' a' w'' ?_ h5
        rw [← hn]
        cases hdo : o.dst <;> simpa only [St.put, hdo] using h4
    unfold wpListIn
    unfold evOps at hq
    have ht := truth_of (ops := ops) (val := s.tmp) (o := o)
    dsimp only at hq
    cases hg : guardOf ops s.tmp o with
    | bad => rw [hg] at hq; exact hq.elim
    | yes =>
      rw [hg] at hq ht
      dsimp only at hq ht
      rw [if_pos (yielded_of hr ht)]
      rw [Tree.holds_bind] at hq
      exact (run s rfl rfl hr hq)
    | no =>
      rw [hg] at hq ht
      dsimp only at hq ht
      rw [if_neg (by rw [yielded_of hr ht]; simp)]
      exact ⟨fun _ _ => trivial, skip s rfl rfl hr hq⟩
    | dyn d b want =>
      rw [hg] at hq ht
      dsimp only at hq ht
      obtain ⟨ht, hval⟩ := ht
      have hy := yielded_of hr ht
      cases want with
      | true =>
        dsimp only at hq
        cases b with
        | true =>
          rw [if_pos (by rw [hy]; rfl)]
          have hq' := hq.1 rfl
          rw [Tree.holds_bind] at hq'
          exact (run (s.know d true) rfl rfl (hr.know hval) hq')
        | false =>
          rw [if_neg (by rw [hy]; simp)]
          exact ⟨fun _ _ => trivial, skip (s.know d false) rfl rfl (hr.know hval) (hq.2 rfl)⟩
      | false =>
        dsimp only at hq
        cases b with
        | true =>
          rw [if_neg (by rw [hy]; simp)]
          exact ⟨fun _ _ => trivial, skip (s.know d true) rfl rfl (hr.know hval) (hq.1 rfl)⟩
        | false =>
          rw [if_pos (by rw [hy]; rfl)]
          have hq' := hq.2 rfl
          rw [Tree.holds_bind] at hq'
          exact (run (s.know d false) rfl rfl (hr.know hval) hq')
end Go.Fw
