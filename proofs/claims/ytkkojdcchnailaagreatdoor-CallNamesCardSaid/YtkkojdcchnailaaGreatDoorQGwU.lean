/- Blocks that are turned, forgotten, or told anew; and append. -/
import Derived.Test.YtkkojdcchnailaaGreatDoorQGwJ
import Derived.Laws.Append
namespace Go.Fw

theorem splice_eq {α : Type} (xs : List α) (o : Nat) (vs : List α) (h : o + vs.length ≤ xs.length) : xs.take o ++ vs ++ xs.drop (o + vs.length) = spliceL xs o vs := by
  apply List.ext_getElem?
  intro j
  by_cases hj : j < xs.length
  · rw [spliceL_get _ _ _ _ hj]
    by_cases h1 : j < o
    · rw [if_neg (by omega), List.append_assoc, List.getElem?_append_left (by simp; omega), List.getElem?_take_of_lt h1]
    · by_cases h2 : j < o + vs.length
      · rw [if_pos ⟨by omega, h2⟩, List.append_assoc, List.getElem?_append_right (by simp; omega), List.getElem?_append_left (by simp; omega)]
        congr 1
        simp
        omega
      · rw [if_neg (by omega), List.getElem?_append_right (by simp; omega), List.getElem?_drop]
        congr 1
        simp
        omega
  · rw [List.getElem?_eq_none (by simp; omega), List.getElem?_eq_none (by rw [spliceL_length]; omega)]

theorem spliceL_app {α : Type} (ys zs : List α) (o : Nat) (vs : List α) (h : o + vs.length ≤ ys.length) : spliceL (ys ++ zs) o vs = spliceL ys o vs ++ zs := by
  apply List.ext_getElem?
  intro j
  by_cases hj : j < (ys ++ zs).length
  · rw [spliceL_get _ _ _ _ hj]
    by_cases h1 : j < ys.length
    · rw [List.getElem?_append_left h1, List.getElem?_append_left (show j < (spliceL ys o vs).length by rw [spliceL_length]; exact h1), spliceL_get _ _ _ _ h1]
    · rw [if_neg (by omega), List.getElem?_append_right (by omega), List.getElem?_append_right (show (spliceL ys o vs).length ≤ j by rw [spliceL_length]; omega), spliceL_length]
  · rw [List.getElem?_eq_none (by rw [spliceL_length]; omega), List.getElem?_eq_none (by simp [spliceL_length] at hj ⊢; omega)]
section
variable {P : Program} {base : Nat} {m : Nat → Option Nat} {F : Nat → Prop} {h : Nat → Blk} {n : Nat} {w : World} {a : Act} {g : Nat → Blk} {h0 : PT Blk}

/-- A block that is ours is turned. -/
theorem HR.turn (hr : HR base m F h n w) {h' : Nat → Blk} {b B : Nat} (hb : m b = some B) {old new : Array Value} {el : TypeId} (hold : w.heap[B]? = some (.cells old el (0, 0))) (hns : new.size = old.size) (hna : h b ≠ .any) {blk : Blk}
    (hh : ∀ c, h' c = if c = b then blk else h c) (hblk : (∀ v n' m' xs, RL F w v n' m' xs → RL F (w.setRow B new) v n' m' xs) → RB F (w.setRow B new) n m blk (some B)) :
    HR base m F h' n (w.setRow B new) ∧ Ext base m F n w m F n (w.setRow B new) := by
  have hown := hr.own b B hb
  have keep : ∀ k, k ≠ B → (w.setRow B new).heap[k]? = w.heap[k]? := fun k hk => setRow_other w B k new hk
  have hsz : Sizes w (w.setRow B new) := fun k c el' fr hk => by
    by_cases e : k = B
    · subst e
      rw [hold] at hk
      injection hk with hk
      injection hk with h1 h2 h3
      subst h1; subst h2; subst h3
      exact ⟨new, _, setRow_heap w k _ new _ _ hold, hns⟩
    · exact ⟨c, fr, by rw [keep k e]; exact hk, rfl⟩
  have hkF : ∀ k, F k → (w.setRow B new).heap[k]? = w.heap[k]? := fun k hk => keep k fun e => by subst e; exact hown.2 hk
  have hext : Ext base m F n w m F n (w.setRow B new) :=
    ⟨fun _ h => h, fun _ h => .inl h, fun k hk => keep k (fun e => by subst e; rcases hk with h | h; exact absurd hown.1 (Nat.not_le.2 h); exact hown.2 h), by simp, hsz, ⟨fun k _ hk => keep k fun e => hk b (by rw [e]; exact hb), fun c _ hc _ => ⟨c, hc⟩⟩, Nat.le_refl _, fun _ _ _ h => h, ⟨rfl, rfl, rfl⟩⟩
  refine ⟨⟨by simpa using hr.low, fun k hk => by simpa using hr.fdom k hk, fun c hc => ?_, fun c C hC => by simpa using hr.dom c C hC, hr.new, hr.gl.mono hsz (fun _ h => h) hkF, hr.own, fun c c' C h1 h2 hne => ?_⟩, hext⟩
  · rw [hh c]
    by_cases e : c = b
    · subst e
      rw [if_pos rfl, hb]
      exact hblk fun v n' m' xs hv => (R_mono hsz (fun _ h => h) hkF v n' n' m' m' (Nat.le_refl _) (fun _ _ _ h => h)).2 xs hv
    · rw [if_neg e]
      by_cases e2 : m c = some B
      · rcases hr.inj c b B e2 hb e with h1 | h1
        · rw [h1]; exact trivial
        · exact absurd h1 hna
      · exact RB_ext hext (fun k hk => keep k fun e' => by subst e'; exact e2 hk) (hr.blk c hc)
  · rw [hh c, hh c']
    rcases hr.inj c c' C h1 h2 hne with h3 | h3
    · left
      rw [if_neg (fun e => hna (by rw [← e]; exact h3))]
      exact h3
    · right
      rw [if_neg (fun e => hna (by rw [← e]; exact h3))]
      exact h3

/-- A block that is no row of cells is another one. -/
theorem HR.putO {h' : Nat → Blk} (hr : HR base m F h n w) {b l : Nat} (hb : m b = some l) {o o' : Obj} (hl : w.heap[l]? = some o) (hnc : ∀ c el fr, o ≠ .cells c el fr) (hna : h b ≠ .any) {blk : Blk}
    (hh : ∀ c, h' c = if c = b then blk else h c) (hblk : (∀ v x, R F w v n m x → R F (w.putObj l o') v n m x) → RB F (w.putObj l o') n m blk (some l)) :
    HR base m F h' n (w.putObj l o') ∧ Ext base m F n w m F n (w.putObj l o') := by
  have hown := hr.own b l hb
  have keep : ∀ k, k ≠ l → (w.putObj l o').heap[k]? = w.heap[k]? := fun k hk => World.putObj_heap_other hk
  have hsz : Sizes w (w.putObj l o') := fun B c el fr hB => by
    have hne : B ≠ l := fun e => by subst e; rw [hl] at hB; injection hB with hB; exact hnc _ _ _ hB
    exact ⟨c, fr, by rw [keep B hne]; exact hB, rfl⟩
  have hkF : ∀ k, F k → (w.putObj l o').heap[k]? = w.heap[k]? := fun k hk => keep k fun e => by subst e; exact hown.2 hk
  have hext : Ext base m F n w m F n (w.putObj l o') :=
    ⟨fun _ h => h, fun _ h => .inl h, fun k hk => keep k (fun e => by subst e; rcases hk with h | h; exact absurd hown.1 (Nat.not_le.2 h); exact hown.2 h), by simp, hsz,
      ⟨fun k _ hk => keep k fun e => hk b (by rw [e]; exact hb), fun c _ hc _ => ⟨c, hc⟩⟩, Nat.le_refl _, fun _ _ _ h => h, ⟨rfl, rfl, rfl⟩⟩
  refine ⟨⟨by simpa using hr.low, fun k hk => by simpa using hr.fdom k hk, fun c hc => ?_, fun c C hC => by simpa using hr.dom c C hC, hr.new, hr.gl.mono hsz (fun _ h => h) hkF, hr.own, fun c c' C h1 h2 hne => ?_⟩, hext⟩
  · rw [hh c]
    by_cases e : c = b
    · subst e
      rw [if_pos rfl, hb]
      exact hblk fun v xs hv => hext.val hv
    · rw [if_neg e]
      by_cases e2 : m c = some l
      · rcases hr.inj c b l e2 hb e with h1 | h1
        · rw [h1]; exact trivial
        · exact absurd h1 hna
      · exact RB_ext hext (fun k hk => keep k fun e' => by subst e'; exact e2 hk) (hr.blk c hc)
  · rw [hh c, hh c']
    rcases hr.inj c c' C h1 h2 hne with h3 | h3
    · left
      rw [if_neg (fun e => hna (by rw [← e]; exact h3))]
      exact h3
    · right
      rw [if_neg (fun e => hna (by rw [← e]; exact h3))]
      exact h3
/-- What is put into a map of ours, or taken away. -/
theorem mapPut_run {P : Program} (hr : HR base m F h n w) {t : TypeId} {x k : V} {X K : Value} {y : Bool × V} {b : Nat} {blk : Blk} (hx : R F w x n m X) (hk : R F w k n m K) (hp : evMapPut P h t x k y = some (b, blk)) :
    (∀ v, y.1 = true → R F w y.2 n m v → ∃ w', (Instr.mapUpdate t X K v).run P w = .ok () w' ∧ (∀ h' : Nat → Blk, (∀ c, h' c = if c = b then blk else h c) → HR base m F h' n w') ∧ Ext base m F n w m F n w') ∧
    (y.1 = false → ∀ (ty : TypeId) (ts : Array TypeId), ts[0]? = some t → ∃ w', (Builtin.delete_ ts ty #[X, K]).run P w = .ok (.tuple #[]) w' ∧ (∀ h' : Nat → Blk, (∀ c, h' c = if c = b then blk else h c) → HR base m F h' n w') ∧ Ext base m F n w m F n w') := by
  unfold evMapPut at hp
  split at hp
  case h_2 => cases hp
  rename_i kt et hu
  split at hp
  case h_2 => cases hp
  rename_i kd hkd
  split at hp
  case h_2 => cases hp
  rename_i sk key hko
  obtain ⟨d, hd, hof⟩ := mkOf_run hkd
  obtain ⟨rfl, his⟩ := keyOf_run hko hk
  split at hp
  case h_2 => cases hp
  rename_i b0
  split at hp
  case h_2 => cases hp
  rename_i blk0 hpm
  injection hp with hp; injection hp with e1 e2; subst e1; subst e2
  simp only [R] at hx
  obtain ⟨hbn, B, rfl, hB⟩ := hx
  have hblk := hr.blk b0 hbn
  unfold putMap at hpm
  split at hpm
  case h_2 => cases hpm
  rename_i kd' st f ks hb
  cases hs : mkSame kd kd'
  · rw [hs] at hpm; cases hpm
  rw [hs] at hpm
  injection hpm with hpm
  subst hpm
  obtain rfl := mkSame_eq hs
  rw [hb] at hblk
  obtain ⟨B', es, clock, e, hcell, hE, hf⟩ := hblk
  obtain rfl : B = B' := by rw [hB] at e; injection e
  have hne : h b0 ≠ .any := by rw [hb]; simp
  have hlt : B < w.heap.size := hr.dom b0 B hB
  refine ⟨fun v hy hv => ?_, fun hy ty ts hts => ?_⟩
  · obtain ⟨es', clock', hrun, hE', hg, ht⟩ := run_update (P := P) hu hd hof hcell hE.ent his v
    refine ⟨_, hrun, fun h' hh => ?_, ?_⟩
    · exact (hr.putO (h' := h') hB hcell (fun c el fr => by simp) hne hh fun up => ⟨B, es', clock', rfl, World.putObj_heap_same hlt, (by rw [hy]; exact ht sk ks hE), fun k hk' => by
        rw [hg k hk']
        cases hkk : keyEq k K
        · simp only [hkk, cond_false]; exact ⟨(hf k hk').1, fun v hv => up _ _ ((hf k hk').2 v hv)⟩
        · simp only [hkk, cond_true]; exact ⟨by rw [hy]; rfl, fun v' hv' => by injection hv' with hv'; subst hv'; exact up _ _ hv⟩⟩).1
    · exact (hr.putO (h' := fun c => if c = b0 then .any else h c) (blk := .any) hB hcell (fun c el fr => by simp) hne (fun _ => rfl) fun _ => trivial).2
  · obtain ⟨es', clock', hrun, hE', hg⟩ := run_erase (P := P) hu hd hof hcell hE.ent his ty ts hts
    refine ⟨_, hrun, fun h' hh => ?_, ?_⟩
    · exact (hr.putO (h' := h') hB hcell (fun c el fr => by simp) hne hh fun up => ⟨B, es', clock', rfl, World.putObj_heap_same hlt, (by rw [hy]; exact MapOk.unk hE'), fun k hk' => by
        rw [hg k hk']
        cases hkk : keyEq k K
        · simp only [hkk, cond_false]; exact ⟨(hf k hk').1, fun v hv => up _ _ ((hf k hk').2 v hv)⟩
        · simp only [hkk, cond_true]; exact ⟨by rw [hy]; rfl, fun v' hv' => by cases hv'⟩⟩).1
    · exact (hr.putO (h' := fun c => if c = b0 then .any else h c) (blk := .any) hB hcell (fun c el fr => by simp) hne (fun _ => rfl) fun _ => trivial).2
/-- A new map. -/
theorem makeMap_run {P : Program} {t : TypeId} {r : Option V} {X : Option Value} {blk : Blk} (hp : evMakeMap P t r = some blk) (hX : ∀ v, r = some v → ∃ x, X = some x ∧ R F w v n m x) (hX0 : r = none → X = none) :
    (Instr.makeMap t X).run P w = .ok (.map (some w.heap.size)) (w.alloc (.map #[] 0)) ∧ ∃ kd, blk = .mapV kd true (fun _ => (false, .junk)) (some (0, [])) := by
  unfold evMakeMap at hp
  split at hp
  case h_2 => cases hp
  rename_i kt et hu
  split at hp
  case h_2 => cases hp
  rename_i kd hkd
  split at hp
  · injection hp with hp
    rw [hX0 rfl]
    exact ⟨by simp [Instr.makeMap, Result.andThen], kd, hp.symm⟩
  · rename_i st k q
    injection hp with hp
    obtain ⟨x, rfl, hx⟩ := hX _ rfl
    simp only [R] at hx
    subst hx
    exact ⟨by simp [Instr.makeMap, run_underlying hu, asInt, asIntOf, Result.andThen], kd, hp.symm⟩
  · cases hp
theorem RB_newMap {n' : Nat} {m' : Nat → Option Nat} {kd : MK} {B : Nat} (h : w.heap[B]? = some (.map #[] 0)) : RB F w n' m' (.mapV kd true (fun _ => (false, .junk)) (some (0, []))) (some B) :=
  ⟨B, #[], 0, rfl, h, ⟨Entries.nil, fun c l e => by injection e with e; injection e with e1 e2; subst e1; subst e2; exact ⟨rfl, rfl⟩⟩, fun k _ => ⟨rfl, fun v hv => by cases hv⟩⟩
/-! ### Ranges over maps -/
theorem evRange_run {P : Program} (hr : HR base m F h n w) {t : TypeId} {x : V} {X : Value} {blk : Blk} (hx : R F w x n m X) (hz : evRange P h t x = some blk) :
    ∃ ob, (Instr.range t X).run P w = .ok (.pointer (some ⟨w.heap.size, 0, none⟩)) (w.alloc ob) ∧
      ∀ (n' : Nat) (m' : Nat → Option Nat) (w' : World), n ≤ n' → (∀ b, b < n → ∀ B, m b = some B → m' b = some B) → w'.heap[w.heap.size]? = some ob → RB F w' n' m' blk (some w.heap.size) := by
  unfold evRange at hz
  split at hz
  case h_2 => cases hz
  rename_i kt et hu
  split at hz
  · injection hz with hz; subst hz
    simp only [R] at hx; subst hx
    exact ⟨_, run_range_nilMap w t kt et hu, fun n' m' w' _ _ hc => ⟨_, none, rfl, hc, rfl⟩⟩
  · rename_i b
    split at hz
    case h_2 => cases hz
    rename_i kd st f ks hb
    split at hz
    case h_2 => cases hz
    rename_i c l
    injection hz with hz; subst hz
    simp only [R] at hx
    obtain ⟨hbn, B, rfl, hB⟩ := hx
    have hblk := hr.blk b hbn
    rw [hb] at hblk
    obtain ⟨B', es, clock, e, hcell, hE, hf⟩ := hblk
    obtain rfl : B = B' := by rw [hB] at e; injection e
    obtain ⟨rfl, _⟩ := hE.told _ _ rfl
    exact ⟨_, run_range_map w t kt et B es clock hu hcell, fun n' m' w' hn hm hc => ⟨_, some B, rfl, hc, B, by omega, rfl, hm b hbn B hB⟩⟩
  · cases hz
theorem oneOf_holds {P : Program} {α β : Type} {f : α → Tree β} {Q : β → Prop} : ∀ {l : List α}, (oneOf f l).holds P Q → ∀ x ∈ l, (f x).holds P Q := by
  intro l
  induction l with
  | nil => intro h; exact h.elim
  | cons y l ih =>
    intro h x hx
    cases l with
    | nil =>
      rcases List.mem_cons.1 hx with rfl | hx
      · exact h
      · cases hx
    | cons z l =>
      rcases List.mem_cons.1 hx with rfl | hx
      · exact (h true).1 rfl
      · exact ih ((h false).2 rfl) x hx
theorem iter_at {X : Value} {b i o es : Nat} (hx : R F w (.ptr true b es i o) n m X) (hz : (Nat.beq es 0 && (Nat.beq i 0 && Nat.beq o 0)) = true) : b < n ∧ ∃ B, X = .pointer (some ⟨B, 0, none⟩) ∧ m b = some B := by
  simp only [Bool.and_eq_true] at hz
  obtain ⟨h1, h2, h3⟩ := hz
  obtain rfl := Nat.eq_of_beq_eq_true h1
  obtain rfl := Nat.eq_of_beq_eq_true h2
  obtain rfl := Nat.eq_of_beq_eq_true h3
  rw [R_ptr] at hx
  obtain ⟨hb, B, rfl, hB⟩ := hx
  exact ⟨hb, B, rfl, hB⟩
theorem evNext_run {P : Program} (hr : HR base m F h n w) {it : V} {X : Value} {str : Bool} (hx : R F w it n m X) (ty : TypeId) {Q : V × Option (Nat × Blk) → Prop} (hq : (evNext h it str).holds P Q) :
    ∃ v wr w' X', Q (v, wr) ∧ (Instr.next X str ty).run P w = .ok X' w' ∧ Ext base m F n w m F n w' ∧
      (∀ h' : Nat → Blk, (∀ c, h' c = match wr with | none => h c | some (b, blk) => if c = b then blk else h c) → HR base m F h' n w') ∧ R F w' v n m X' := by
  unfold evNext at hq
  split at hq
  · exact hq.elim
  split at hq
  case h_2 => exact hq.elim
  rename_i st b es0 i o
  cases st with
  | false => exact hq.elim
  | true =>
  cases hz : (Nat.beq es0 0 && (Nat.beq i 0 && Nat.beq o 0))
  · rw [hz] at hq; exact hq.elim
  rw [hz] at hq
  simp only [Bool.and_self, cond_true] at hq
  obtain ⟨hbn, r, rfl, hB⟩ := iter_at hx hz
  have hblk := hr.blk b hbn
  have stay : ∀ h' : Nat → Blk, (∀ c, h' c = h c) → HR base m F h' n w := fun h' hh => by
    have : h' = h := funext hh
    subst this; exact hr
  split at hq
  case h_2 => exact hq.elim
  rename_i mb since seen last hb
  rw [hb] at hblk
  obtain ⟨r', x, e, hc, h1⟩ := hblk
  obtain rfl : r = r' := by rw [hB] at e; injection e
  split at hq
  · dsimp only at h1
    subst h1
    refine ⟨_, none, w, .tuple #[.bool false], hq, ?_, Ext.refl base m F n w, stay, by simp [R, RL]⟩
    simp only [Instr.next, getObj, Sem.run_bind, Sem.run, hc, Result.andThen]
    rfl
  · rename_i mb
    obtain ⟨y, h2, rfl, h4⟩ := h1
    have hmblk := hr.blk mb h2
    split at hq
    case h_2 => exact hq.elim
    rename_i kd st f ks hmb
    split at hq
    case h_2 => exact hq.elim
    rename_i c l
    rw [hmb] at hmblk
    obtain ⟨B', es, clock, e2, hcell, hE, hf⟩ := hmblk
    obtain rfl : y = B' := by rw [h4] at e2; injection e2
    obtain ⟨rfl, rfl⟩ := hE.told _ _ rfl
    cases hol : (oldL since (es.toList.map bkOf) && Nat.ble since last)
    · rw [hol] at hq; exact hq.elim
    rw [hol] at hq
    simp only [cond_true] at hq
    simp only [Bool.and_eq_true] at hol
    obtain ⟨ho1, ho2⟩ := hol
    obtain ⟨hold, hnd⟩ := oldL_spec ho1
    have hold' : ∀ x ∈ es.toList, x.born < since := fun x hx => hold (bkOf x) (List.mem_map.2 ⟨x, hx, rfl⟩)
    rcases run_next_at (P := P) w ty r y since last seen.toArray es clock hc hcell hold' (Nat.le_of_ble_eq_true ho2) with ⟨hs, hrun⟩ | ⟨e, he, w1, hw1, hrun⟩
    · have hnil : leftL seen (es.toList.map bkOf) = [] := by
        rw [← leftOf_bk, List.map_eq_nil_iff]
        exact List.eq_nil_of_length_eq_zero (by simpa using hs)
      rw [hnil] at hq
      exact ⟨_, none, w, _, hq, hrun, Ext.refl base m F n w, stay, by simp [R, RL]⟩
    · have hmem : bkOf e ∈ leftL seen (es.toList.map bkOf) := by
        rw [← leftOf_bk]
        exact List.mem_map.2 ⟨e, he, rfl⟩
      have hees : e ∈ es.toList := by
        unfold leftOf at he
        simp at he
        simpa using he.1
      have hq' := hq
      split at hq'
      · rename_i hnil
        rw [hnil] at hmem; cases hmem
      · have hQ := oneOf_holds hq' _ hmem
        have hr1 : HR base m F h n w1 ∧ Ext base m F n w m F n w1 := by
          rcases hw1 with rfl | rfl
          · exact ⟨hr, Ext.refl base m F n _⟩
          · have hdrew : Later F w F w.drew := ⟨fun _ h => h, fun _ h => .inl h, fun _ _ => rfl, Nat.le_refl _, fun hd B hB => hd B hB, ⟨rfl, rfl, rfl⟩⟩
            exact ⟨hr.later hdrew, hr.ext hdrew⟩
        have hc1 : w1.heap[r]? = some (.mapIter (some y) since seen.toArray last) := by rcases hw1 with rfl | rfl <;> exact hc
        have hlt : r < w1.heap.size := hr1.1.dom b r hB
        have hput := fun (h' : Nat → Blk) (hh : ∀ c', h' c' = if c' = b then Blk.iter (some mb) since (seen ++ [e.born]) clock else h c') => hr1.1.putO (h' := h') hB hc1 (o' := .mapIter (some y) since (seen.toArray.push e.born) clock) (fun c el fr => by simp) (by rw [hb]; simp) hh fun up =>
          ⟨r, some y, rfl, by rw [World.putObj_heap_same hlt]; simp, y, h2, rfl, h4⟩
        have hext := (hput (fun c' => if c' = b then Blk.iter (some mb) since (seen ++ [e.born]) clock else h c') (fun _ => rfl)).2
        refine ⟨_, some (b, .iter (some mb) since (seen ++ [e.born]) clock), _, _, hQ, hrun, hr1.2.trans hext, fun h' hh => (hput h' hh).1, ?_⟩
        have hval := (hf e.key (hE.ent.is e hees)).2 e.val (mapGet_mem hE.ent e hees)
        have hval' := hext.val (hr1.2.val hval)
        simp only [R, RL]
        exact ⟨_, rfl, _, _, rfl, rfl, _, _, rfl, R_leaf _, _, _, rfl, hval', rfl⟩
theorem evEntry_val {P : Program} (hr : HR base m F h n w) {it : V} {X : Value} (hx : R F w it n m X) : Val P F w n m (evEntry h it) (Instr.entry X) := by
  unfold evEntry
  split
  case h_2 => exact Val.stuck
  rename_i st b es0 i o
  cases st with
  | false => exact Val.stuck
  | true =>
  cases hz : (Nat.beq es0 0 && (Nat.beq i 0 && Nat.beq o 0))
  · exact Val.stuck
  simp only [Bool.and_self, cond_true]
  obtain ⟨hbn, r, rfl, hB⟩ := iter_at hx hz
  have hblk := hr.blk b hbn
  split
  case h_2 => exact Val.stuck
  rename_i mb since seen last hb
  rw [hb] at hblk
  obtain ⟨r', x, e, hc, h1⟩ := hblk
  obtain rfl : r = r' := by rw [hB] at e; injection e
  split
  · exact Val.stuck
  rename_i mb
  obtain ⟨y, h2, rfl, h4⟩ := h1
  have hmblk := hr.blk mb h2
  split
  case h_2 => exact Val.stuck
  rename_i kd st f ks hmb
  split
  case h_2 => exact Val.stuck
  rename_i c l
  split
  · exact Val.stuck
  rename_i x rest hrev
  rw [hmb] at hmblk
  obtain ⟨B', es, clock, e2, hcell, hE, hf⟩ := hmblk
  obtain rfl : y = B' := by rw [h4] at e2; injection e2
  obtain ⟨rfl, rfl⟩ := hE.told _ _ rfl
  cases hol : (oldL since (es.toList.map bkOf) && Nat.beq clock last)
  · exact Val.stuck
  simp only [cond_true]
  simp only [Bool.and_eq_true] at hol
  obtain ⟨ho1, ho2⟩ := hol
  obtain ⟨hold, hnd⟩ := oldL_spec ho1
  obtain rfl := Nat.eq_of_beq_eq_true ho2
  split
  case h_2 => exact Val.stuck
  rename_i e' hfind
  have hmem := List.mem_of_find?_eq_some hfind
  have hx' := List.find?_some hfind
  obtain ⟨e, hees, rfl⟩ := List.mem_map.1 hmem
  have hbx : e.born = x := Nat.eq_of_beq_eq_true hx'
  have hseen : seen.toArray = (rest.reverse.toArray).push e.born := by
    have : seen = rest.reverse ++ [x] := by rw [← List.reverse_reverse seen, hrev, List.reverse_cons]
    rw [this, hbx]; simp
  rw [hseen] at hc
  have hn : (es.toList.map (·.born)).Nodup := by
    have := hnd
    rw [List.map_map] at this
    exact this
  have hrun := run_entry_at (P := P) w r y since rest.reverse.toArray es clock e hc hcell hees hn
  refine Val.leaf hrun ?_
  have hval := (hf e.key (hE.ent.is e hees)).2 e.val (mapGet_mem hE.ent e hees)
  simp only [R, RL]
  exact ⟨_, rfl, _, _, rfl, R_leaf _, _, _, rfl, hval, rfl⟩
theorem oneCell_of {xs : List Value} (h : ∀ x ∈ xs, (∀ c, x ≠ .agg c) ∧ ∀ c, x ≠ .tuple c) : ∀ v ∈ xs, v.oneCell' = true := by
  intro v hv
  obtain ⟨h1, h2⟩ := h v hv
  cases v <;> first | rfl | exact absurd rfl (h1 _) | exact absurd rfl (h2 _)


/-- A block is known no more. -/
theorem HR.forget (hr : HR base m F h n w) {h' : Nat → Blk} {b : Nat} (hh : ∀ c, h' c = if c = b then .any else h c) : HR base m F h' n w := by
  refine ⟨hr.low, hr.fdom, fun c hc => ?_, hr.dom, hr.new, hr.gl, hr.own, fun c c' C h1 h2 hne => ?_⟩
  · rw [hh c]
    by_cases e : c = b
    · rw [if_pos e]; exact trivial
    · rw [if_neg e]; exact hr.blk c hc
  · rw [hh c, hh c']
    rcases hr.inj c c' C h1 h2 hne with h3 | h3
    · left; by_cases e : c = b
      · rw [if_pos e]
      · rw [if_neg e]; exact h3
    · right; by_cases e : c' = b
      · rw [if_pos e]
      · rw [if_neg e]; exact h3
theorem HR.forget? (hr : HR base m F (look g h0) n w) (b : Option Nat) : HR base m F (look g (lostB h0 b)) n w := by
  cases b with
  | none => exact hr
  | some b => exact hr.forget (b := b) fun c => look_set _ _ _ _ _
theorem RB_more {n' : Nat} {m' : Nat → Option Nat} {blk : Blk} {B : Option Nat} (hn : n ≤ n') (hm : ∀ b, b < n → ∀ B, m b = some B → m' b = some B) (hb : RB F w n m blk B) : RB F w n' m' blk B := by
  have hm' := fun v => R_mono (F := F) (F' := F) (w := w) (w' := w) (Sizes.refl w) (fun _ h => h) (fun _ _ => rfl) v n n' m m' hn hm
  cases blk with
  | none => exact hb
  | any => exact hb
  | var cs =>
    obtain ⟨b, xs, el, ys, zs, e, hc, hsp, hr⟩ := hb
    exact ⟨b, xs, el, ys, zs, e, hc, hsp, (hm' cs).2 _ hr⟩
  | arr es k get => exact hb
  | iter mb since seen last =>
    obtain ⟨r, x, e, hc, h1⟩ := hb
    refine ⟨r, x, e, hc, ?_⟩
    cases mb with
    | none => exact h1
    | some b => obtain ⟨y, h2, h3, h4⟩ := h1; exact ⟨y, Nat.lt_of_lt_of_le h2 hn, h3, hm b h2 y h4⟩
  | mapV kd st f ks =>
    obtain ⟨b, es, clock, e, hc, hE, hf⟩ := hb
    exact ⟨b, es, clock, e, hc, hE, fun k hk' => ⟨(hf k hk').1, fun v hv => (hm' (f k).2).1 _ ((hf k hk').2 v hv)⟩⟩
  | rng f ps asg bd row N st pend =>
    obtain ⟨l, r, e, hc, h1, h2, h3, h4, h5, h6, h7⟩ := hb
    exact ⟨l, r, e, hc, h1, h2, h3, h4, h5, h6, fun i => (hm' (row i)).1 _ (h7 i)⟩
theorem Ext.name {w' : World} {B : Option Nat} (he : Ext base m F n w m F n w') (hB : ∀ k, B = some k → w.heap.size ≤ k ∨ ∃ c, m c = some k) : Ext base m F n w (fun c => if c = n then B else m c) F (n + 1) w' :=
  ⟨he.f, he.back, he.keep, he.size, he.sz, ⟨he.ow.un, fun b k hk hlt => by
    by_cases e : b = n
    · rw [if_pos e] at hk
      rcases hB k hk with h | h
      · omega
      · exact h
    · rw [if_neg e] at hk; exact ⟨b, hk⟩⟩, by omega, fun b hb k hk => by rw [if_neg (by omega)]; exact he.map b hb k hk, he.calm⟩
/-- A block of ours that is known under no name gets a new one; or no block does. -/
theorem HR.name (hr : HR base m F h n w) {h' : Nat → Blk} {B : Option Nat} {blk : Blk} (hB : ∀ k, B = some k → (base ≤ k ∧ ¬ F k) ∧ k < w.heap.size ∧ ∀ c, m c = some k → h c = .any)
    (hh : ∀ c, h' c = if c = n then blk else h c) (hblk : RB F w (n + 1) (fun c => if c = n then B else m c) blk B) :
    HR base (fun c => if c = n then B else m c) F h' (n + 1) w := by
  have hmap : ∀ b, b < n → ∀ k, m b = some k → (if b = n then B else m b) = some k := fun b hb k hk => by rw [if_neg (by omega)]; exact hk
  refine ⟨hr.low, hr.fdom, fun c hc => ?_, fun c k hk => ?_, fun c hc => ?_, hr.gl, fun c k hk => ?_, fun c c' C h1 h2 hne => ?_⟩
  · rw [hh c]
    by_cases e : c = n
    · rw [if_pos e, if_pos e]; exact hblk
    · rw [if_neg e, if_neg e]; exact RB_more (by omega) hmap (hr.blk c (by omega))
  · by_cases e : c = n
    · rw [if_pos e] at hk; exact (hB k hk).2.1
    · rw [if_neg e] at hk; exact hr.dom c k hk
  · rw [if_neg (by omega)]; exact hr.new c (by omega)
  · by_cases e : c = n
    · rw [if_pos e] at hk; exact (hB k hk).1
    · rw [if_neg e] at hk; exact hr.own c k hk
  · rw [hh c, hh c']
    by_cases e1 : c = n <;> by_cases e2 : c' = n
    · exact absurd (e1.trans e2.symm) hne
    · rw [if_pos e1] at h1; rw [if_neg e2] at h2
      right; rw [if_neg e2]; exact (hB C h1).2.2 c' h2
    · rw [if_neg e1] at h1; rw [if_pos e2] at h2
      left; rw [if_neg e1]; exact (hB C h2).2.2 c h1
    · rw [if_neg e1] at h1; rw [if_neg e2] at h2
      rw [if_neg e1, if_neg e2]; exact hr.inj c c' C h1 h2 hne
end
end Go.Fw
