/- Maps: what is found in a row of entries, behind what is put there and taken away. The evaluator's data: abstract values, trees of decisions, an abstract heap, and how they stand to the model's values and worlds. Definitions only, and small facts on them. What is known of the package-level variables of this seat: by number, the value that their address stands for: tables, as the given rows list them. How abstract states stand to the model's, and what a tree of decisions promises. The evaluator: what a function's code comes to, over abstract values. Definitions only. -/
import Derived.WalkKit
import Derived.MapKept
import Derived.RangeFuncRecord
import Derived.Maps.RangeRun
import GoSem.Instr.MapUpdate
import GoSem.Builtin.Delete
import Derived.Laws.Cells
import Derived.ChangeKeysEq
import Derived.CallsIn
import Derived.TacticsIn
import Derived.OrdersIn
namespace Go.Fw

/-- A map's keys: numbers of a kind, or texts. -/
inductive MK where
  | int (k : IntKind)
  | str
def MK.is : MK → Value → Bool
  | .int k, .int k' _ => decide (k = k')
  | .str, .string _ => true
  | _, _ => false
def MK.of : MK → TypeDesc → Bool
  | .int k, .int k' => decide (k = k')
  | .str, .string => true
  | _, _ => false
def keyEq : Value → Value → Bool
  | .int _ a, .int _ b => a == b
  | .string a, .string b => a == b
  | _, _ => false
theorem bytes_eq (a b : ByteArray) : (a == b) = true ↔ a = b := by
  cases a; cases b
  rename_i x y
  show (x == y) = true ↔ _
  rw [beq_iff_eq]; simp
theorem keyEq_iff {kd : MK} {x y : Value} (hx : kd.is x = true) (hy : kd.is y = true) : keyEq x y = true ↔ x = y := by
  cases kd with
  | int k =>
    cases x <;> try (cases hx; done)
    rename_i k1 a
    cases y <;> try (cases hy; done)
    rename_i k2 b
    simp only [MK.is, decide_eq_true_eq] at hx hy
    subst hx; subst hy
    simp [keyEq]
  | str =>
    cases x <;> try (cases hx; done)
    cases y <;> try (cases hy; done)
    simp only [keyEq, bytes_eq, Value.string.injEq]
theorem sameNow_key {kd : MK} {d : TypeDesc} {x y : Value} (hd : kd.of d = true) (hx : kd.is x = true) (hy : kd.is y = true) : Instr.sameNow d x y = some (keyEq x y) := by
  cases kd with
  | int k =>
    cases d <;> try (cases hd; done)
    cases x <;> try (cases hx; done)
    rename_i k1 a
    cases y <;> try (cases hy; done)
    rename_i k2 b
    simp only [MK.is, decide_eq_true_eq] at hx hy
    subst hx; subst hy
    simp [Instr.sameNow, keyEq]
  | str =>
    cases d <;> try (cases hd; done)
    cases x <;> try (cases hx; done)
    cases y <;> try (cases hy; done)
    simp [Instr.sameNow, keyEq]
/-- Where a key is, and what stands there. -/
def mapFind (key : Value) : List MapEntry → Option (Nat × Value)
  | [] => none
  | e :: es => match keyEq key e.key with
    | true => some (0, e.val)
    | false => (mapFind key es).map fun p => (p.1 + 1, p.2)
theorem findNow_eq {kd : MK} {d : TypeDesc} {key : Value} (hd : kd.of d = true) (hk : kd.is key = true) : ∀ (es : List MapEntry) (i : Nat), (∀ e ∈ es, kd.is e.key = true) →
    Instr.findNow d key es i = some ((mapFind key es).map fun p => (i + p.1, p.2)) := by
  intro es
  induction es with
  | nil => intro i _; rfl
  | cons e es ih =>
    intro i h
    simp only [Instr.findNow, sameNow_key hd hk (h e (by simp)), mapFind]
    cases keyEq key e.key
    · dsimp only
      rw [ih (i + 1) fun e he => h e (List.mem_cons_of_mem _ he)]
      cases mapFind key es with
      | none => rfl
      | some p => simp; omega
    · rfl
/-- What is known of a map's entries: its keys are of the kind, no two are the same. -/
structure Entries (kd : MK) (es : List MapEntry) : Prop where
  is : ∀ e ∈ es, kd.is e.key = true
  one : (es.map (·.key)).Nodup
theorem Entries.nil {kd : MK} : Entries kd [] := ⟨fun e h => (by cases h), List.nodup_nil⟩
def mapGet (key : Value) (es : List MapEntry) : Option Value := (mapFind key es).map (·.2)
/-- What is told of a map's clock, and of its entries' births and keys. -/
abbrev Ks := Option (Nat × List (Nat × Value))
def bkOf (e : MapEntry) : Nat × Value := (e.born, e.key)
structure MapOk (kd : MK) (ks : Ks) (es : Array MapEntry) (clock : Nat) : Prop where
  ent : Entries kd es.toList
  told : ∀ c l, ks = some (c, l) → clock = c ∧ es.toList.map bkOf = l
theorem MapOk.unk {kd : MK} {es : Array MapEntry} {clock : Nat} (h : Entries kd es.toList) : MapOk kd none es clock := ⟨h, fun _ _ e => by cases e⟩
/-- Behind what is put there. -/
def putKs (put lit : Bool) (ks : Ks) (key : Value) : Ks :=
  match put, lit with
  | true, true => match ks with
    | some (c, l) => bif l.any (fun e => keyEq key e.2) then some (c, l) else some (c + 1, l ++ [(c, key)])
    | none => none
  | _, _ => none
theorem mapFind_none {key : Value} : ∀ es : List MapEntry, mapFind key es = none ↔ ∀ e ∈ es, keyEq key e.key = false := by
  intro es
  induction es with
  | nil => simp [mapFind]
  | cons e es ih =>
    simp only [mapFind, List.mem_cons, forall_eq_or_imp]
    cases h : keyEq key e.key
    · simp [ih]
    · simp
theorem mapFind_at {key : Value} : ∀ (es : List MapEntry) {i : Nat} {v : Value}, mapFind key es = some (i, v) → ∃ e, es[i]? = some e ∧ keyEq key e.key = true ∧ e.val = v := by
  intro es
  induction es with
  | nil => intro i v h; cases h
  | cons e es ih =>
    intro i v h
    simp only [mapFind] at h
    cases hk : keyEq key e.key
    · rw [hk] at h
      dsimp only at h
      cases hm : mapFind key es with
      | none => rw [hm] at h; cases h
      | some p =>
        rw [hm] at h
        simp only [Option.map_some, Option.some.injEq, Prod.mk.injEq] at h
        obtain ⟨rfl, rfl⟩ := h
        obtain ⟨e', h1, h2⟩ := ih (i := p.1) (v := p.2) hm
        exact ⟨e', by simpa using h1, h2⟩
    · rw [hk] at h
      simp only [Option.some.injEq, Prod.mk.injEq] at h
      obtain ⟨rfl, rfl⟩ := h
      exact ⟨e, rfl, hk, rfl⟩
/-- Put behind all. -/
theorem mapGet_push {key k : Value} {v : Value} {c : Nat} : ∀ (es : List MapEntry), mapFind key es = none → mapGet k (es ++ [{ key, val := v, born := c }]) = (match keyEq k key with
    | true => (match mapGet k es with | some x => some x | none => some v)
    | false => mapGet k es) := by
  intro es
  induction es with
  | nil => intro _; simp only [List.nil_append, mapGet, mapFind]; cases keyEq k key <;> rfl
  | cons e es ih =>
    intro h
    have h' := mapFind_none (e :: es) |>.1 h
    have h2 : mapFind key es = none := (mapFind_none es).2 fun e he => h' e (List.mem_cons_of_mem _ he)
    have := ih h2
    simp only [mapGet, List.cons_append, mapFind] at this ⊢
    cases hk : keyEq k e.key
    · dsimp only
      rw [Option.map_map, Option.map_map]
      exact this
    · dsimp only
      cases keyEq k key <;> rfl
theorem mapGet_set {kd : MK} {key k v : Value} (hkey : kd.is key = true) (hk : kd.is k = true) : ∀ (es : List MapEntry) {i : Nat} {x : Value}, (∀ e ∈ es, kd.is e.key = true) → mapFind key es = some (i, x) →
    mapGet k (es.modify i fun e => { e with key, val := v }) = (match keyEq k key with | true => some v | false => mapGet k es) := by
  intro es
  induction es with
  | nil => intro i x _ h; cases h
  | cons e es ih =>
    intro i x his h
    have he := his e (by simp)
    simp only [mapFind] at h
    cases hke : keyEq key e.key
    · rw [hke] at h
      dsimp only at h
      cases hm : mapFind key es with
      | none => rw [hm] at h; cases h
      | some p =>
        rw [hm] at h
        simp only [Option.map_some, Option.some.injEq, Prod.mk.injEq] at h
        obtain ⟨rfl, rfl⟩ := h
        have := ih (i := p.1) (x := p.2) (fun e he => his e (List.mem_cons_of_mem _ he)) hm
        simp only [List.modify_succ_cons, mapGet, mapFind] at this ⊢
        cases hk2 : keyEq k e.key
        · dsimp only
          rw [Option.map_map, Option.map_map]
          exact this
        · dsimp only
          have e1 := (keyEq_iff hk he).1 hk2
          have : keyEq k key = false := by
            cases h3 : keyEq k key
            · rfl
            · have e2 := (keyEq_iff hk hkey).1 h3
              rw [e2] at e1; rw [← e1] at hke
              rw [(keyEq_iff hkey hkey).2 rfl] at hke; cases hke
          rw [this]
    · rw [hke] at h
      simp only [Option.some.injEq, Prod.mk.injEq] at h
      obtain ⟨rfl, rfl⟩ := h
      have e1 := (keyEq_iff hkey he).1 hke
      simp only [List.modify_zero_cons, mapGet, mapFind]
      rw [← e1]
      cases keyEq k key <;> rfl
theorem Entries.push {kd : MK} {key v : Value} {c : Nat} {es : List MapEntry} (h : Entries kd es) (hk : kd.is key = true) (hn : mapFind key es = none) : Entries kd (es ++ [{ key, val := v, born := c }]) := by
  refine ⟨fun e he => ?_, ?_⟩
  · rcases List.mem_append.1 he with h1 | h1
    · exact h.is e h1
    · simp only [List.mem_singleton] at h1; subst h1; exact hk
  · rw [List.map_append, List.nodup_append]
    refine ⟨h.one, by simp, fun a ha b hb => ?_⟩
    simp only [List.map_cons, List.map_nil, List.mem_singleton] at hb
    subst hb
    obtain ⟨e, he, rfl⟩ := List.mem_map.1 ha
    intro e1
    have := (mapFind_none es).1 hn e he
    rw [← e1] at this
    have h3 := (keyEq_iff (h.is e he) (h.is e he)).2 rfl
    rw [h3] at this; cases this
theorem modify_map_key {key v : Value} : ∀ (es : List MapEntry) (i : Nat), (∀ e, es[i]? = some e → e.key = key) → (es.modify i fun e => { e with key, val := v }).map (·.key) = es.map (·.key) := by
  intro es
  induction es with
  | nil => intro i _; simp
  | cons e es ih =>
    intro i h
    cases i with
    | zero => simp only [List.modify_zero_cons, List.map_cons]; rw [h e rfl]
    | succ i => simp only [List.modify_succ_cons, List.map_cons]; rw [ih i fun e' he' => h e' (by simpa using he')]
theorem Entries.set {kd : MK} {key v x : Value} {es : List MapEntry} {i : Nat} (h : Entries kd es) (hk : kd.is key = true) (hf : mapFind key es = some (i, x)) : Entries kd (es.modify i fun e => { e with key, val := v }) := by
  have hkeys : (es.modify i fun e => { e with key, val := v }).map (·.key) = es.map (·.key) := modify_map_key es i fun e he => by
    obtain ⟨e', h1, h2, _⟩ := mapFind_at es hf
    rw [he] at h1; injection h1 with h1; subst h1
    exact ((keyEq_iff hk (h.is e (List.mem_of_getElem? he))).1 h2).symm
  refine ⟨fun e he => ?_, by rw [hkeys]; exact h.one⟩
  have : e.key ∈ es.map (·.key) := by rw [← hkeys]; exact List.mem_map.2 ⟨e, he, rfl⟩
  obtain ⟨e', h1, h2⟩ := List.mem_map.1 this
  rw [← h2]; exact h.is e' h1
/-- Taken away. -/
theorem mapGet_erase {kd : MK} {key k : Value} (hkey : kd.is key = true) (hk : kd.is k = true) : ∀ (es : List MapEntry) {i : Nat} {x : Value}, Entries kd es → mapFind key es = some (i, x) →
    mapGet k (es.eraseIdx i) = (match keyEq k key with | true => none | false => mapGet k es) := by
  intro es
  induction es with
  | nil => intro i x _ h; cases h
  | cons e es ih =>
    intro i x hE h
    have he := hE.is e (by simp)
    have hE' : Entries kd es := ⟨fun e he => hE.is e (List.mem_cons_of_mem _ he), (List.nodup_cons.1 hE.one).2⟩
    simp only [mapFind] at h
    cases hke : keyEq key e.key
    · rw [hke] at h
      dsimp only at h
      cases hm : mapFind key es with
      | none => rw [hm] at h; cases h
      | some p =>
        rw [hm] at h
        simp only [Option.map_some, Option.some.injEq, Prod.mk.injEq] at h
        obtain ⟨rfl, rfl⟩ := h
        have := ih (i := p.1) (x := p.2) hE' hm
        simp only [List.eraseIdx_cons_succ, mapGet, mapFind] at this ⊢
        cases hk2 : keyEq k e.key
        · dsimp only
          rw [Option.map_map, Option.map_map]
          exact this
        · dsimp only
          have e1 := (keyEq_iff hk he).1 hk2
          have : keyEq k key = false := by
            cases h3 : keyEq k key
            · rfl
            · have e2 := (keyEq_iff hk hkey).1 h3
              rw [e2] at e1; rw [e1] at hke
              rw [(keyEq_iff he he).2 rfl] at hke; cases hke
          rw [this]
    · rw [hke] at h
      simp only [Option.some.injEq, Prod.mk.injEq] at h
      obtain ⟨rfl, rfl⟩ := h
      have e1 := (keyEq_iff hkey he).1 hke
      have hnot : ∀ e' ∈ es, e'.key ≠ key := fun e' he' h3 => (List.nodup_cons.1 hE.one).1 (List.mem_map.2 ⟨e', he', h3.trans e1⟩)
      simp only [List.eraseIdx_cons_zero, mapGet, mapFind]
      cases hk2 : keyEq k key
      · have : keyEq k e.key = false := by rw [← e1]; exact hk2
        rw [this, Option.map_map]; rfl
      · have e2 := (keyEq_iff hk hkey).1 hk2
        dsimp only
        have : mapFind k es = none := (mapFind_none es).2 fun e' he' => by
          cases h4 : keyEq k e'.key
          · rfl
          · exact absurd ((keyEq_iff hk (hE'.is e' he')).1 h4).symm (by rw [e2]; exact hnot e' he')
        rw [this]; rfl
theorem Entries.erase {kd : MK} {es : List MapEntry} {i : Nat} (h : Entries kd es) : Entries kd (es.eraseIdx i) :=
  ⟨fun e he => h.is e (List.mem_of_mem_eraseIdx he), by
    have : List.Sublist ((es.eraseIdx i).map (·.key)) (es.map (·.key)) := (List.eraseIdx_sublist es i).map _
    exact this.nodup h.one⟩
end Go.Fw
namespace Go.Fw
section
variable {P : Program} {w : World} {t kt et : TypeId} {d : TypeDesc} {kd : MK} {r : Nat} {es : Array MapEntry} {clock : Nat} {key : Value}
theorem isKey_of (hkd : kd.of d = true) (hk : kd.is key = true) : MapKept.IsKey d key := by
  cases kd <;> cases d <;> first | (cases hkd; done) | skip
  · cases key <;> first | (cases hk; done) | skip
    simp only [MK.of, MK.is, decide_eq_true_eq] at hkd hk
    subst hkd; subst hk; rfl
  · cases key <;> first | (cases hk; done) | trivial
theorem run_mapFind (hd : P.underlying kt = some d) (hkd : kd.of d = true) (hE : Entries kd es.toList) (hk : kd.is key = true) : (Instr.findKey kt key es.toList).run P w = .ok (mapFind key es.toList) w := by
  refine MapKept.run_findKey hd ?_
  rw [findNow_eq hkd hk es.toList 0 hE.is]
  cases mapFind key es.toList <;> simp
theorem putKs_some {lit : Bool} {ks : Ks} {key : Value} {c : Nat} {l : List (Nat × Value)} (h : putKs true lit ks key = some (c, l)) :
    ∃ c0 l0, ks = some (c0, l0) ∧ (bif l0.any (fun e => keyEq key e.2) then (c0, l0) else (c0 + 1, l0 ++ [(c0, key)])) = (c, l) ∧ lit = true := by
  cases lit with
  | false => cases h
  | true =>
    cases ks with
    | none => cases h
    | some p =>
      obtain ⟨c0, l0⟩ := p
      refine ⟨c0, l0, rfl, ?_, rfl⟩
      simp only [putKs] at h
      cases hb : l0.any (fun e => keyEq key e.2) <;> rw [hb] at h <;> simpa using h
theorem modify_map_bk {key v : Value} : ∀ (es : List MapEntry) (i : Nat), (∀ e, es[i]? = some e → e.key = key) → (es.modify i fun e => { e with key, val := v }).map bkOf = es.map bkOf := by
  intro es
  induction es with
  | nil => intro i _; simp
  | cons e es ih =>
    intro i h
    cases i with
    | zero => simp only [List.modify_zero_cons, List.map_cons, bkOf]; rw [h e rfl]
    | succ i => simp only [List.modify_succ_cons, List.map_cons]; rw [ih i fun e' he' => h e' (by simpa using he')]
theorem run_update (hm : P.underlying t = some (.map kt et)) (hd : P.underlying kt = some d) (hkd : kd.of d = true) (hb : w.heap[r]? = some (.map es clock)) (hE : Entries kd es.toList) (hk : kd.is key = true) (v : Value) :
    ∃ es' clock', (Instr.mapUpdate t (.map (some r)) key v).run P w = .ok () (w.putObj r (.map es' clock')) ∧ Entries kd es'.toList ∧ (∀ k, kd.is k = true → mapGet k es'.toList = (match keyEq k key with | true => some v | false => mapGet k es.toList)) ∧ ∀ (lit : Bool) (ks : Ks), MapOk kd ks es clock → MapOk kd (putKs true lit ks key) es' clock' := by
  have hK := isKey_of hkd hk
  cases hf : mapFind key es.toList with
  | none =>
    refine ⟨es.push { key, val := v, born := clock }, clock + 1, ?_, ?_, fun k hk' => ?_, fun lit ks ho => ⟨by rw [Array.toList_push]; exact hE.push hk hf, fun c l e => ?_⟩⟩
    · have h1 := run_mapFind (w := w) hd hkd hE hk
      rw [hf] at h1
      simp [Instr.mapUpdate, run_underlying hm, MapKept.run_getObj_map hb, MapKept.run_checkKey hd hK, h1, MapKept.run_setObj_map _ hb, Result.andThen, World.putObj]
    · rw [Array.toList_push]; exact hE.push hk hf
    · rw [Array.toList_push, mapGet_push es.toList hf]
      cases hkk : keyEq k key
      · rfl
      · have := (keyEq_iff hk' hk).1 hkk
        subst this
        simp only [mapGet, hf, Option.map_none]
    · obtain ⟨c0, l0, h1, h2, rfl⟩ := putKs_some e
      obtain ⟨rfl, rfl⟩ := ho.told _ _ h1
      have hany : (es.toList.map bkOf).any (fun e => keyEq key e.2) = false := by
        rw [List.any_eq_false]
        intro x hx
        obtain ⟨e', he', rfl⟩ := List.mem_map.1 hx
        have := (mapFind_none es.toList).1 hf e' he'
        simpa [bkOf] using this
      rw [hany] at h2
      simp only [cond_false, Prod.mk.injEq] at h2
      obtain ⟨rfl, rfl⟩ := h2
      exact ⟨rfl, by rw [Array.toList_push, List.map_append]; rfl⟩
  | some p =>
    obtain ⟨i, x⟩ := p
    refine ⟨es.modify i fun e => { e with key, val := v }, clock, ?_, ?_, fun k hk' => ?_, fun lit ks ho => ⟨by rw [Array.toList_modify]; exact hE.set hk hf, fun c l e => ?_⟩⟩
    · have h1 := run_mapFind (w := w) hd hkd hE hk
      rw [hf] at h1
      obtain ⟨e, he1, he2, he3⟩ := mapFind_at es.toList hf
      have he4 : e.key = key := ((keyEq_iff hk (hE.is e (List.mem_of_getElem? he1))).1 he2).symm
      have he5 : es[i]? = some e := by rw [← Array.getElem?_toList]; exact he1
      simp [Instr.mapUpdate, run_underlying hm, MapKept.run_getObj_map hb, MapKept.run_checkKey hd hK, h1, he5, he4, MapKept.run_keyThatStays hK, MapKept.run_setObj_map _ hb, Result.andThen, World.putObj]
    · rw [Array.toList_modify]; exact hE.set hk hf
    · rw [Array.toList_modify]; exact mapGet_set hk hk' es.toList hE.is hf
    · obtain ⟨c0, l0, h1, h2, rfl⟩ := putKs_some e
      obtain ⟨rfl, rfl⟩ := ho.told _ _ h1
      obtain ⟨e1, he1, he2, he3⟩ := mapFind_at es.toList hf
      have he4 : e1.key = key := ((keyEq_iff hk (hE.is e1 (List.mem_of_getElem? he1))).1 he2).symm
      have hany : (es.toList.map bkOf).any (fun e => keyEq key e.2) = true := by
        rw [List.any_eq_true]
        exact ⟨bkOf e1, List.mem_map.2 ⟨e1, List.mem_of_getElem? he1, rfl⟩, he2⟩
      rw [hany] at h2
      simp only [cond_true, Prod.mk.injEq] at h2
      obtain ⟨rfl, rfl⟩ := h2
      exact ⟨rfl, by rw [Array.toList_modify]; exact modify_map_bk es.toList i fun e' h' => by rw [he1] at h'; injection h' with h'; subst h'; exact he4⟩
theorem run_look (hm : P.underlying t = some (.map kt et)) (hd : P.underlying kt = some d) (hkd : kd.of d = true) (hb : w.heap[r]? = some (.map es clock)) (hE : Entries kd es.toList) (hk : kd.is key = true) {z : Value} (hz : (zeroValue et).run P w = .ok z w) (ok : Bool) :
    (Instr.lookup t (.map (some r)) key ok).run P w = .ok (if ok then .tuple #[((mapGet key es.toList).getD z), .bool (mapGet key es.toList).isSome] else (mapGet key es.toList).getD z) w := by
  have hK := isKey_of hkd hk
  have h1 := run_mapFind (w := w) hd hkd hE hk
  unfold mapGet
  cases hf : mapFind key es.toList with
  | none =>
    rw [hf] at h1
    cases ok <;> simp [Instr.lookup, run_underlying hm, MapKept.run_getObj_map hb, MapKept.run_checkKey hd hK, h1, hz, Result.andThen]
  | some p =>
    rw [hf] at h1
    cases ok <;> simp [Instr.lookup, run_underlying hm, MapKept.run_getObj_map hb, MapKept.run_checkKey hd hK, h1, Result.andThen]
theorem run_look_nil (hm : P.underlying t = some (.map kt et)) (hd : P.underlying kt = some d) (hkd : kd.of d = true) (hk : kd.is key = true) {z : Value} (hz : (zeroValue et).run P w = .ok z w) (ok : Bool) :
    (Instr.lookup t (.map none) key ok).run P w = .ok (if ok then .tuple #[z, .bool false] else z) w := by
  have hK := isKey_of hkd hk
  have h1 := run_mapFind (w := w) (es := #[]) hd hkd Entries.nil hk
  cases ok <;> simp [Instr.lookup, run_underlying hm, MapKept.run_checkKey hd hK, h1, hz, mapFind, Result.andThen]
theorem run_erase (hm : P.underlying t = some (.map kt et)) (hd : P.underlying kt = some d) (hkd : kd.of d = true) (hb : w.heap[r]? = some (.map es clock)) (hE : Entries kd es.toList) (hk : kd.is key = true) (ty : TypeId) (ts : Array TypeId) (hts : ts[0]? = some t) :
    ∃ es' clock', (Builtin.delete_ ts ty #[.map (some r), key]).run P w = .ok (.tuple #[]) (w.putObj r (.map es' clock')) ∧ Entries kd es'.toList ∧ ∀ k, kd.is k = true → mapGet k es'.toList = (match keyEq k key with | true => none | false => mapGet k es.toList) := by
  have hK := isKey_of hkd hk
  have h1 := run_mapFind (w := w) hd hkd hE hk
  cases hf : mapFind key es.toList with
  | none =>
    rw [hf] at h1
    refine ⟨es, clock, ?_, hE, fun k hk' => ?_⟩
    · simp [Builtin.delete_, hts, run_underlying hm, MapKept.run_getObj_map hb, MapKept.run_checkKey hd hK, h1, MapKept.run_setObj_map _ hb, Result.andThen, World.putObj]
    · cases hkk : keyEq k key
      · rfl
      · have := (keyEq_iff hk' hk).1 hkk
        subst this
        simp only [mapGet, hf, Option.map_none]
  | some p =>
    obtain ⟨i, x⟩ := p
    rw [hf] at h1
    obtain ⟨e, he1, _, _⟩ := mapFind_at es.toList hf
    have hi : i < es.size := by
      rcases Nat.lt_or_ge i es.size with h | h
      · exact h
      · rw [List.getElem?_eq_none (by simpa using h)] at he1; cases he1
    have hel : (es.eraseIdxIfInBounds i).toList = es.toList.eraseIdx i := by
      unfold Array.eraseIdxIfInBounds
      rw [dif_pos hi]
      simp
    refine ⟨es.eraseIdxIfInBounds i, clock, ?_, by rw [hel]; exact hE.erase, fun k hk' => ?_⟩
    · simp [Builtin.delete_, hts, run_underlying hm, MapKept.run_getObj_map hb, MapKept.run_checkKey hd hK, h1, MapKept.run_setObj_map _ hb, Result.andThen, World.putObj]
    · rw [hel]; exact mapGet_erase hk hk' es.toList hE hf
end

/-! ### A range over a map -/
/-- What is left of a map's entries. -/
def leftL (seen : List Nat) (l : List (Nat × Value)) : List (Nat × Value) := l.filter fun e => !seen.contains e.1
/-- Nothing was laid into the map since the range began; births tell the entries apart. -/
def oldL (since : Nat) : List (Nat × Value) → Bool
  | [] => true
  | e :: l => Nat.blt e.1 since && ((l.all fun x => !Nat.beq x.1 e.1) && oldL since l)
theorem oldL_spec {since : Nat} : ∀ {l : List (Nat × Value)}, oldL since l = true → (∀ x ∈ l, x.1 < since) ∧ (l.map (·.1)).Nodup := by
  intro l
  induction l with
  | nil => intro _; exact ⟨fun x h => (by cases h), List.nodup_nil⟩
  | cons e l ih =>
    intro h
    simp only [oldL, Bool.and_eq_true, List.all_eq_true] at h
    obtain ⟨h1, h2, h3⟩ := h
    obtain ⟨k1, k2⟩ := ih h3
    refine ⟨fun x hx => ?_, ?_⟩
    · rcases List.mem_cons.1 hx with hx | hx
      · rw [hx]; exact Nat.le_of_ble_eq_true h1
      · exact k1 x hx
    · rw [List.map_cons]
      refine List.nodup_cons.2 ⟨fun hm => ?_, k2⟩
      obtain ⟨x, hx, e1⟩ := List.mem_map.1 hm
      have := h2 x hx
      rw [e1] at this
      simp at this
theorem leftOf_bk (seen : List Nat) (es : Array MapEntry) : (leftOf es seen.toArray).toList.map bkOf = leftL seen (es.toList.map bkOf) := by
  unfold leftOf leftL
  rw [Array.toList_filter, List.filter_map]
  congr 1
  refine List.filter_congr fun e _ => ?_
  show _ = !seen.contains (bkOf e).1
  simp [bkOf]
theorem mapGet_mem {kd : MK} : ∀ {es : List MapEntry}, Entries kd es → ∀ e ∈ es, mapGet e.key es = some e.val := by
  intro es
  induction es with
  | nil => intro _ e h; cases h
  | cons x es ih =>
    intro hE e he
    have hE' : Entries kd es := ⟨fun e he => hE.is e (List.mem_cons_of_mem _ he), (List.nodup_cons.1 hE.one).2⟩
    simp only [mapGet, mapFind]
    rcases List.mem_cons.1 he with rfl | he'
    · rw [(keyEq_iff (hE.is _ he) (hE.is _ he)).2 rfl]; rfl
    · cases hk : keyEq e.key x.key
      · dsimp only
        rw [Option.map_map]
        have := ih hE' e he'
        unfold mapGet at this
        rw [← this]; rfl
      · exact absurd (List.mem_map.2 ⟨e, he', (keyEq_iff (hE.is _ he) (hE.is _ (by simp))).1 hk⟩) (List.nodup_cons.1 hE.one).1
end Go.Fw
namespace Go.Fw

/-- An abstract value. 'st': it is known as a literal. 'cons', 'nil': rows of values (cells, arguments). -/
inductive V where
  | junk
  | undef
  | nil
  | cons (h t : V)
  | int (st : Bool) (k : IntKind) (n : Int)
  | bool (st : Bool) (b : Bool)
  | str (st : Bool) (s : List UInt8)
  | agg (cs : V)
  | tup (vs : V)
  | ptr (st : Bool) (b es i o : Nat)
  | rptr (st : Bool) (es n : Nat) (get : Nat → V) (i o : Nat)
  | nilptr
  | rsl (st : Bool) (es n : Nat) (get : Nat → V)
  | osl (st : Bool) (b es i n : Nat)
  /-- So, with room for 'c' rows in all at least. -/
  | osp (st : Bool) (b es i n c : Nat)
  | nilsl
  | fn (f : Fn) (first cap : V)
  | nilfn
  | nilmap
  | nilif
  | yld (b : Nat)
  | mp (b : Nat)
  | ifc (st b : Bool)
  /-- No rows, and no room; whether it is known that it is not nil. -/
  | esl (nn : Bool) (es : Nat)
  | rmp (st : Bool) (kd : MK) (has : Value → Bool) (get : Value → V)

/-- Values at some places; a place's number is walked by its digits. -/
inductive PT (α : Type) where
  | nil
  | fill (v : α)
  | node (v : Option α) (l r : PT α)

section
variable {α β : Type}
def PT.get : PT α → Nat → Option α
  | .nil, _ => none
  | .fill v, _ => some v
  | .node v l r, i => bif Nat.beq i 0 then v else bif Nat.beq (i % 2) 1 then l.get (i / 2) else r.get (i / 2 - 1)
def PT.setF (k : Nat) : PT α → Nat → α → PT α := Nat.rec (fun t _ _ => t) (fun _ ih t i x =>
  match t with
  | .nil => bif Nat.beq i 0 then .node (some x) .nil .nil else bif Nat.beq (i % 2) 1 then .node none (ih .nil (i / 2) x) .nil else .node none .nil (ih .nil (i / 2 - 1) x)
  | .fill v => bif Nat.beq i 0 then .node (some x) (.fill v) (.fill v) else bif Nat.beq (i % 2) 1 then .node (some v) (ih (.fill v) (i / 2) x) (.fill v) else .node (some v) (.fill v) (ih (.fill v) (i / 2 - 1) x)
  | .node v l r => bif Nat.beq i 0 then .node (some x) l r else bif Nat.beq (i % 2) 1 then .node v (ih l (i / 2) x) r else .node v l (ih r (i / 2 - 1) x)) k
def PT.set (t : PT α) (i : Nat) (x : α) : PT α := PT.setF (i + 1) t i x
/-- The second's places over a value at each place. -/
def PT.overFill (v : α) : PT α → PT α
  | .nil => .fill v
  | .fill x => .fill x
  | .node v' l r => .node (match v' with | some x => some x | none => some v) (l.overFill v) (r.overFill v)
/-- The second's places over the first's. -/
def PT.over : PT α → PT α → PT α
  | .nil, u => u
  | .fill v, u => u.overFill v
  | .node v l r, u => match u with
    | .nil => .node v l r
    | .fill x => .fill x
    | .node v' l' r' => .node (match v' with | some x => some x | none => v) (l.over l') (r.over r')
/-- At each place what 'f' says of its number. -/
def PT.idx (f : Nat → β) : PT α → Nat → Nat → PT β
  | .nil, _, _ => .nil
  | .fill _, _, _ => .nil
  | .node v l r, a, b => .node (match v with | some _ => some (f b) | none => none) (l.idx f (2 * a) (a + b)) (r.idx f (2 * a) (2 * a + b))
/-- The places of both, each with what 'f' says of its number. -/
def PT.both (f : Nat → β) : PT α → PT α → Nat → Nat → PT β
  | .nil, u, a, b => u.idx f a b
  | .fill _, _, _, _ => .nil
  | .node v l r, u, a, b => match u with
    | .nil => (PT.node v l r).idx f a b
    | .fill _ => .nil
    | .node v' l' r' => .node (match v with | some _ => some (f b) | none => match v' with | some _ => some (f b) | none => none) (l.both f l' (2 * a) (a + b)) (r.both f r' (2 * a) (2 * a + b))
/-- All places' numbers are of a kind. -/
def PT.allK (p : Nat → Bool) : PT α → Nat → Nat → Bool
  | .nil, _, _ => true
  | .fill _, _, _ => false
  | .node v l r, a, b => (match v with | some _ => p b | none => true) && (l.allK p (2 * a) (a + b) && r.allK p (2 * a) (2 * a + b))
def PT.fin : PT α → Bool
  | .nil => true
  | .fill _ => false
  | .node _ l r => l.fin && r.fin
theorem PT.fin_allK (p : Nat → Bool) : ∀ (t : PT α) (a b : Nat), t.allK p a b = true → t.fin = true := by
  intro t
  induction t with
  | nil => intro a b _; rfl
  | fill v => intro a b h; cases h
  | node v l r ihl ihr =>
    intro a b h
    simp only [PT.allK, Bool.and_eq_true] at h
    simp only [PT.fin, Bool.and_eq_true]
    exact ⟨ihl _ _ h.2.1, ihr _ _ h.2.2⟩

theorem PT.get_setF (x : α) : ∀ (k : Nat) (t : PT α) (i j : Nat), i < k → (PT.setF k t i x).get j = if j = i then some x else t.get j := by
  intro k
  induction k with
  | zero => intro t i j h; omega
  | succ k ih =>
    intro t i j h
    have e : PT.setF (k + 1) t i x = (match t with
      | .nil => bif Nat.beq i 0 then .node (some x) .nil .nil else bif Nat.beq (i % 2) 1 then .node none (PT.setF k .nil (i / 2) x) .nil else .node none .nil (PT.setF k .nil (i / 2 - 1) x)
      | .fill v => bif Nat.beq i 0 then .node (some x) (.fill v) (.fill v) else bif Nat.beq (i % 2) 1 then .node (some v) (PT.setF k (.fill v) (i / 2) x) (.fill v) else .node (some v) (.fill v) (PT.setF k (.fill v) (i / 2 - 1) x)
      | .node v l r => bif Nat.beq i 0 then .node (some x) l r else bif Nat.beq (i % 2) 1 then .node v (PT.setF k l (i / 2) x) r else .node v l (PT.setF k r (i / 2 - 1) x)) := by cases t <;> rfl
    rw [e]
    have hb : ∀ a b : Nat, Nat.beq a b = decide (a = b) := fun a b => by
      cases h : Nat.beq a b
      · exact (decide_eq_false fun e => by subst e; simp at h).symm
      · exact (decide_eq_true (Nat.eq_of_beq_eq_true h)).symm
    cases t with
    | nil =>
      dsimp only
      rw [hb i 0, hb (i % 2) 1]
      by_cases h0 : i = 0
      · simp only [h0, decide_true, cond_true, PT.get, hb]
        by_cases hj : j = 0 <;> simp [hj]
      · by_cases h1 : i % 2 = 1
        · simp only [h0, h1, decide_false, decide_true, cond_true, cond_false, PT.get, hb]
          rw [ih _ _ _ (by omega)]
          by_cases hj : j = 0
          · simp [hj]; omega
          · by_cases hj1 : j % 2 = 1
            · have e : (j / 2 = i / 2) ↔ (j = i) := by omega
              simp [hj, hj1, e, PT.get]
            · have : j ≠ i := by omega
              simp [hj, hj1, this]
        · simp only [h0, h1, decide_false, cond_false, PT.get, hb]
          rw [ih _ _ _ (by omega)]
          by_cases hj : j = 0
          · simp [hj]; omega
          · by_cases hj1 : j % 2 = 1
            · have : j ≠ i := by omega
              simp [hj, hj1, this]
            · have e : (j / 2 - 1 = i / 2 - 1) ↔ (j = i) := by omega
              simp [hj, hj1, e, PT.get]
    | fill v =>
      dsimp only
      rw [hb i 0, hb (i % 2) 1]
      by_cases h0 : i = 0
      · simp only [h0, decide_true, cond_true, PT.get, hb]
        by_cases hj : j = 0 <;> simp [hj]
      · by_cases h1 : i % 2 = 1
        · simp only [h0, h1, decide_false, decide_true, cond_true, cond_false, PT.get, hb]
          rw [ih _ _ _ (by omega)]
          by_cases hj : j = 0
          · simp [hj]; omega
          · by_cases hj1 : j % 2 = 1
            · have e : (j / 2 = i / 2) ↔ (j = i) := by omega
              simp [hj, hj1, e, PT.get]
            · have : j ≠ i := by omega
              simp [hj, hj1, this]
        · simp only [h0, h1, decide_false, cond_false, PT.get, hb]
          rw [ih _ _ _ (by omega)]
          by_cases hj : j = 0
          · simp [hj]; omega
          · by_cases hj1 : j % 2 = 1
            · have : j ≠ i := by omega
              simp [hj, hj1, this]
            · have e : (j / 2 - 1 = i / 2 - 1) ↔ (j = i) := by omega
              simp [hj, hj1, e, PT.get]
    | node v l r =>
      dsimp only
      rw [hb i 0, hb (i % 2) 1]
      by_cases h0 : i = 0
      · simp only [h0, decide_true, cond_true, PT.get, hb]
        by_cases hj : j = 0 <;> simp [hj]
      · by_cases h1 : i % 2 = 1
        · simp only [h0, h1, decide_false, decide_true, cond_true, cond_false, PT.get, hb]
          rw [ih _ _ _ (by omega)]
          by_cases hj : j = 0
          · simp [hj]; omega
          · by_cases hj1 : j % 2 = 1
            · have e : (j / 2 = i / 2) ↔ (j = i) := by omega
              simp [hj, hj1, e]
            · have : j ≠ i := by omega
              simp [hj, hj1, this]
        · simp only [h0, h1, decide_false, cond_false, PT.get, hb]
          rw [ih _ _ _ (by omega)]
          by_cases hj : j = 0
          · simp [hj]; omega
          · by_cases hj1 : j % 2 = 1
            · have : j ≠ i := by omega
              simp [hj, hj1, this]
            · have e : (j / 2 - 1 = i / 2 - 1) ↔ (j = i) := by omega
              simp [hj, hj1, e]
theorem PT.get_set (t : PT α) (i : Nat) (x : α) (j : Nat) : (t.set i x).get j = if j = i then some x else t.get j := PT.get_setF x (i + 1) t i j (Nat.lt_succ_self i)
theorem PT.get_set_ne (t : PT α) {i j : Nat} (x : α) (h : j ≠ i) : (t.set i x).get j = t.get j := by rw [PT.get_set, if_neg h]
theorem PT.get_set_eq (t : PT α) (i : Nat) (x : α) : (t.set i x).get i = some x := by rw [PT.get_set, if_pos rfl]
theorem PT.get_over : ∀ (t u : PT α) (i : Nat), (t.over u).get i = match u.get i with | some x => some x | none => t.get i := by
  intro t
  induction t with
  | nil => intro u i; simp only [PT.over, PT.get]; cases u.get i <;> rfl
  | fill v =>
    intro u
    show ∀ i, (u.overFill v).get i = match u.get i with | some x => some x | none => some v
    induction u with
    | nil => intro i; rfl
    | fill x => intro i; rfl
    | node v' l r ihl ihr =>
      intro i
      simp only [PT.overFill, PT.get]
      cases Nat.beq i 0
      · cases Nat.beq (i % 2) 1
        · simp only [cond_false]; exact ihr _
        · simp only [cond_false, cond_true]; exact ihl _
      · simp only [cond_true]
  | node v l r ihl ihr =>
    intro u i
    cases u with
    | nil => simp only [PT.over, PT.get]
    | fill x => simp only [PT.over, PT.get]
    | node v' l' r' =>
      simp only [PT.over, PT.get]
      cases Nat.beq i 0
      · cases Nat.beq (i % 2) 1
        · simp only [cond_false]; exact ihr _ _
        · simp only [cond_false, cond_true]; exact ihl _ _
      · simp only [cond_true]
theorem place0 (a b i : Nat) (h : Nat.beq i 0 = true) : a * i + b = b := by rw [Nat.eq_of_beq_eq_true h]; simp
theorem place1 (a b i : Nat) (h : Nat.beq (i % 2) 1 = true) : a * i + b = 2 * a * (i / 2) + (a + b) := by
  have := Nat.eq_of_beq_eq_true h
  have e : i = 2 * (i / 2) + 1 := by omega
  generalize i / 2 = k at e
  subst e
  rw [Nat.mul_add, Nat.mul_one, ← Nat.mul_assoc, Nat.mul_comm a 2]
  omega
theorem place2 (a b i : Nat) (h0 : Nat.beq i 0 = false) (h : Nat.beq (i % 2) 1 = false) : a * i + b = 2 * a * (i / 2 - 1) + (2 * a + b) := by
  have h0' : i ≠ 0 := fun e => by subst e; cases h0
  have h1' : i % 2 ≠ 1 := fun e => by rw [e] at h; cases h
  have e : i = 2 * (i / 2 - 1) + 2 := by omega
  generalize i / 2 - 1 = k at e
  subst e
  rw [Nat.mul_add, ← Nat.mul_assoc, Nat.mul_comm a 2]
  omega
theorem PT.get_idx (f : Nat → β) : ∀ (t : PT α) (a b i : Nat), t.fin = true → (t.idx f a b).get i = match t.get i with | some _ => some (f (a * i + b)) | none => none := by
  intro t
  induction t with
  | nil => intro a b i _; rfl
  | fill v => intro a b i h; cases h
  | node v l r ihl ihr =>
    intro a b i hf
    simp only [PT.fin, Bool.and_eq_true] at hf
    simp only [PT.idx, PT.get]
    cases h0 : Nat.beq i 0
    · cases h1 : Nat.beq (i % 2) 1
      · simp only [cond_false]; rw [ihr _ _ _ hf.2, place2 a b i h0 h1]
      · simp only [cond_false, cond_true]; rw [ihl _ _ _ hf.1, place1 a b i h1]
    · simp only [cond_true]; rw [place0 a b i h0]
theorem PT.get_both (f : Nat → β) : ∀ (t u : PT α) (a b i : Nat), t.fin = true → u.fin = true → (t.both f u a b).get i = match t.get i, u.get i with | none, none => none | _, _ => some (f (a * i + b)) := by
  intro t
  induction t with
  | nil => intro u a b i _ hu; simp only [PT.both, PT.get]; rw [PT.get_idx _ _ _ _ _ hu]; cases u.get i <;> rfl
  | fill v => intro u a b i h; cases h
  | node v l r ihl ihr =>
    intro u a b i ht hu
    cases u with
    | nil => simp only [PT.both]; rw [PT.get_idx _ _ _ _ _ ht]; simp only [PT.get]; split <;> simp_all
    | fill v => cases hu
    | node v' l' r' =>
      simp only [PT.fin, Bool.and_eq_true] at ht hu
      simp only [PT.both, PT.get]
      cases h0 : Nat.beq i 0
      · cases h1 : Nat.beq (i % 2) 1
        · simp only [cond_false]; rw [ihr _ _ _ _ ht.2 hu.2, place2 a b i h0 h1]
        · simp only [cond_false, cond_true]; rw [ihl _ _ _ _ ht.1 hu.1, place1 a b i h1]
      · simp only [cond_true]; rw [place0 a b i h0]; cases v <;> cases v' <;> rfl
theorem PT.allK_get (p : Nat → Bool) : ∀ (t : PT α) (a b : Nat), t.allK p a b = true → ∀ i x, t.get i = some x → p (a * i + b) = true := by
  intro t
  induction t with
  | nil => intro a b _ i x h; cases h
  | fill v => intro a b h; cases h
  | node v l r ihl ihr =>
    intro a b h i x hx
    simp only [PT.allK, Bool.and_eq_true] at h
    simp only [PT.get] at hx
    cases h0 : Nat.beq i 0
    · rw [h0] at hx
      cases h1 : Nat.beq (i % 2) 1
      · rw [h1] at hx; rw [place2 a b i h0 h1]; exact ihr _ _ h.2.2 _ _ hx
      · rw [h1] at hx; rw [place1 a b i h1]; exact ihl _ _ h.2.1 _ _ hx
    · rw [h0] at hx
      simp only [cond_true] at hx
      subst hx
      rw [place0 a b i h0]
      exact h.1
end

/-! ### Rows of values -/
def V.nth : V → Nat → V
  | .cons h t, i => bif Nat.beq i 0 then h else t.nth (i - 1)
  | _, _ => .junk
def V.len : V → Nat
  | .cons _ t => t.len + 1
  | _ => 0
def V.drop : V → Nat → V
  | .cons h t, i => bif Nat.beq i 0 then .cons h t else t.drop (i - 1)
  | v, _ => v
def V.take : V → Nat → V
  | .cons h t, i => bif Nat.beq i 0 then .nil else .cons h (t.take (i - 1))
  | _, _ => .nil
def V.app : V → V → V
  | .cons h t, y => .cons h (t.app y)
  | _, y => y
/-- 'vs' laid over 'cs' from place 'o' on. -/
def V.splice : V → Nat → V → V
  | .cons h t, o, vs => bif Nat.beq o 0 then (match vs with | .cons x r => .cons x (t.splice 0 r) | _ => .cons h t) else .cons h (t.splice (o - 1) vs)
  | v, _, _ => v
def V.cells : V → V
  | .agg cs => cs
  | v => .cons v .nil
def V.ofList : List V → V
  | [] => .nil
  | v :: l => .cons v (V.ofList l)
/-- A row of values: it ends in 'nil'. -/
def V.isRow : V → Bool
  | .nil => true
  | .cons _ t => t.isRow
  | _ => false
/-- No part of it names a block of the abstract heap. -/
def V.clean : V → Bool
  | .cons h t => h.clean && t.clean
  | .agg cs => cs.clean
  | .tup vs => vs.clean
  | .ptr .. | .osl .. | .osp .. | .yld _ | .mp _ => false
  | .fn _ a b => a.clean && b.clean
  | _ => true

/-- It is one value of the model's, or a row of its cells. -/
def V.solid : V → Bool
  | .junk | .nil | .cons _ _ => false
  | _ => true
/-- It is what one cell of memory holds. -/
def V.cell : V → Bool
  | .junk | .nil | .cons _ _ | .undef | .agg _ | .tup _ => false
  | _ => true
def V.allCell : V → Bool
  | .nil => true
  | .cons h t => h.cell && t.allCell
  | _ => false

def V.ofLeaf : Value → V
  | .int k n => .int true k n
  | .bool b => .bool true b
  | .string s => .str true s.data.toList
  | .pointer none => .nilptr
  | .slice none 0 0 => .nilsl
  | .map none => .nilmap
  | .nilFunc => .nilfn
  | .nilIface => .nilif
  | .func f first cap => match first.toList, cap.toList with | [], [] => .fn f .nil .nil | _, _ => .junk
  | _ => .junk
def V.ofValue : Value → V
  | .agg cs => .agg (V.ofList (cs.toList.map V.ofLeaf))
  | v => V.ofLeaf v

/-! ### Literal numbers are brought to literals as they arise -/
universe u
def forceNat {β : Type u} (m : Nat) (f : Nat → β) : β := Nat.rec (f 0) (fun k _ => f (k + 1)) m
theorem forceNat_eq {β : Type u} (m : Nat) (f : Nat → β) : forceNat m f = f m := by cases m <;> rfl
def forceInt {β : Type u} (n : Int) (f : Int → β) : β :=
  match n with
  | .ofNat m => forceNat m fun m => f (.ofNat m)
  | .negSucc m => forceNat m fun m => f (.negSucc m)
theorem forceInt_eq {β : Type u} (n : Int) (f : Int → β) : forceInt n f = f n := by
  cases n <;> simp only [forceInt, forceNat_eq]
def mkInt (st : Bool) (k : IntKind) (n : Int) : V :=
  match st with
  | true => forceInt n fun n => .int true k n
  | false => .int false k n
theorem mkInt_eq (st : Bool) (k : IntKind) (n : Int) : mkInt st k n = .int st k n := by
  cases st <;> simp only [mkInt, forceInt_eq]
def mkBool (st : Bool) (b : Bool) : V :=
  match st with
  | true => match b with | true => .bool true true | false => .bool true false
  | false => .bool false b
theorem mkBool_eq (st : Bool) (b : Bool) : mkBool st b = .bool st b := by
  cases st <;> cases b <;> rfl

/-- How a piece of code is left. -/
inductive Ex where
  | normal
  | exit (id : Nat)
  | ret
def Ex.toExit : Ex → Exit
  | .normal => .normal
  | .exit id => .exit id
  | .ret => .ret

/-! ### The abstract heap -/
/-- 'none': not laid yet; 'any': nothing is known of it. -/
inductive Blk where
  | none
  | any
  | var (cs : V)
  | arr (es n : Nat) (get : Nat → V)
  /-- A map: its keys' kind; whether all that was put there is known by literal keys; whether a key is there, and what stands there. -/
  | mapV (kd : MK) (st : Bool) (f : Value → Bool × V) (ks : Ks)
  /-- A range over a map: which map's name ('none': the nil map), since when, which entries came, when the last one did. -/
  | iter (mb : Option Nat) (since : Nat) (seen : List Nat) (last : Nat)
  /-- A range over a function: of which function, its code, the temporaries it began with, how it stands (0: ready, 1: in a round, 2: done), how it was left. -/
  | rng (f : FuncId) (ps : List Nat) (asg bd : Code) (row : Nat → V) (N : Nat) (st : Nat) (pend : Option Ex)

/-- What a state is told against. -/
structure Base where
  t : Nat → V
  h : Nat → Blk
structure St (B : Base) where
  t : PT V
  h : PT Blk
  n : Nat
  N : Nat

def look {α : Type} (d : Nat → α) (t : PT α) (i : Nat) : α :=
  match t.get i with
  | some v => v
  | none => d i
theorem look_set {α : Type} (d : Nat → α) (t : PT α) (i : Nat) (x : α) (j : Nat) : look d (t.set i x) j = if j = i then x else look d t j := by
  unfold look
  rw [PT.get_set]
  by_cases h : j = i <;> simp [h]
theorem look_set_ne {α : Type} (d : Nat → α) (t : PT α) {i j : Nat} (x : α) (h : j ≠ i) : look d (t.set i x) j = look d t j := by rw [look_set, if_neg h]
theorem look_set_eq {α : Type} (d : Nat → α) (t : PT α) (i : Nat) (x : α) : look d (t.set i x) i = x := by rw [look_set, if_pos rfl]
section
variable {B : Base}
abbrev St.tmp (s : St B) (i : Nat) : V := look B.t s.t i
abbrev St.blk (s : St B) (b : Nat) : Blk := look B.h s.h b
def St.put (s : St B) (dst : Option Tmp) (v : V) : St B :=
  match dst with
  | some d => { s with t := s.t.set d v }
  | none => s
/-- The same state, told against itself. -/
def St.bs (s : St B) : Base := ⟨s.tmp, s.blk⟩
def St.sub (s : St B) : St s.bs := ⟨.nil, .nil, s.n, s.N⟩
end

/-- What comes, by the tests that are not known ahead. -/
inductive Tree (α : Type) : Type 1 where
  | leaf (a : α)
  | stuck
  | node (b : Bool) (t f : Tree α)
  | need (p : Prop) (t : Tree α)
  | all (σ : Type) (t : σ → Tree α)
  | given (p : Prop) (t : Tree α)
  | both (t f : Tree α)

def Tree.bind {α β : Type} : Tree α → (α → Tree β) → Tree β
  | .leaf a, k => k a
  | .stuck, _ => .stuck
  | .node b t f, k => .node b (t.bind k) (f.bind k)
  | .need p t, k => .need p (t.bind k)
  | .all σ t, k => .all σ fun x => (t x).bind k
  | .given p t, k => .given p (t.bind k)
  | .both t f, k => .both (t.bind k) (f.bind k)

/-- Nothing in it is left open. -/
def Tree.flat {α : Type} : Tree α → Bool
  | .leaf _ => true
  | .stuck => true
  | .node _ t f => t.flat && f.flat
  | .need _ t => t.flat
  | .all .. => false
  | .given .. => false
  | .both .. => false

/-! ### What abstract values stand for -/
section
variable (F : Nat → Prop) (w : World)
mutual
def R : V → Nat → (Nat → Option Nat) → Value → Prop
  | .junk, _, _, _ => True
  | .undef, _, _, x => x = Go.undef
  | .nil, _, _, _ => False
  | .cons _ _, _, _, _ => False
  | .int _ k n, _, _, x => x = .int k n
  | .bool _ b, _, _, x => x = .bool b
  | .str _ s, _, _, x => x = .string ⟨s.toArray⟩
  | .agg cs, n, m, x => ∃ xs, x = .agg xs ∧ RL cs n m xs.toList
  | .tup vs, n, m, x => ∃ xs, x = .tuple xs ∧ RL vs n m xs.toList
  | .ptr _ b es i o, n, m, x => b < n ∧ ∃ B, x = .pointer (some ⟨B, i * es + o, none⟩) ∧ m b = some B
  | .rptr _ es n' get i o, _, _, x => i < n' ∧ ∃ B off, x = .pointer (some ⟨B, off + i * es + o, none⟩) ∧ F B ∧ ∃ c el fr, w.heap[B]? = some (.cells c el fr) ∧
      ∀ j, j < n' → ∃ xs, RL (get j) 0 (fun _ => none) xs ∧ xs.length = es ∧ ∀ q, q < es → c[off + j * es + q]? = xs[q]?
  | .nilptr, _, _, x => x = .pointer none
  | .rsl _ es n' get, _, _, x => ∃ a cap, x = .slice a n' cap ∧ n' ≤ cap ∧ (n' = 0 ∨ ∃ B off, a = some ⟨B, off, none⟩ ∧ F B ∧ ∃ c el fr, w.heap[B]? = some (.cells c el fr) ∧
      ∀ j, j < n' → ∃ xs, RL (get j) 0 (fun _ => none) xs ∧ xs.length = es ∧ ∀ q, q < es → c[off + j * es + q]? = xs[q]?)
  | .osl _ b es i n', n, m, x => b < n ∧ ∃ a cap, x = .slice a n' cap ∧ n' ≤ cap ∧ (cap = 0 ∨ ∃ B c el fr, a = some ⟨B, i * es, none⟩ ∧ m b = some B ∧ w.heap[B]? = some (.cells c el fr) ∧ (i + cap) * es ≤ c.size)
  | .osp _ b es i n' c', n, m, x => b < n ∧ ∃ a cap, x = .slice a n' cap ∧ n' ≤ c' ∧ c' ≤ cap ∧ (cap = 0 ∨ ∃ B c el fr, a = some ⟨B, i * es, none⟩ ∧ m b = some B ∧ w.heap[B]? = some (.cells c el fr) ∧ (i + cap) * es ≤ c.size)
  | .nilsl, _, _, x => x = .slice none 0 0
  | .fn f first cap, n, m, x => ∃ xs ys, x = .func f xs ys ∧ RL first n m xs.toList ∧ RL cap n m ys.toList
  | .nilfn, _, _, x => x = .nilFunc
  | .nilmap, _, _, x => x = .map none
  | .nilif, _, _, x => x = .nilIface
  | .yld b, n, m, x => b < n ∧ ∃ l, x = .func (.yield l) #[] #[] ∧ m b = some l
  | .mp b, n, m, x => b < n ∧ ∃ B, x = .map (some B) ∧ m b = some B
  | .esl nn _, _, _, x => ∃ a, x = .slice a 0 0 ∧ (nn = true → a ≠ none)
  | .rmp _ kd has get, _, _, x => ∃ B, x = .map (some B) ∧ F B ∧ ∃ (es : Array MapEntry) (clock : Nat), w.heap[B]? = some (.map es clock) ∧ Entries kd es.toList ∧
      ∀ k, kd.is k = true → has k = (mapGet k es.toList).isSome ∧ ∀ v, mapGet k es.toList = some v → R (get k) 0 (fun _ => none) v
  | .ifc _ b, _, _, x => (b = true ∧ x = .nilIface) ∨ (b = false ∧ ∃ t v, x = .iface t v)
def RL : V → Nat → (Nat → Option Nat) → List Value → Prop
  | .nil, _, _, xs => xs = []
  | .cons h t, n, m, xs => ∃ x r, xs = x :: r ∧ R h n m x ∧ RL t n m r
  | _, _, _, _ => False
end
end

end Go.Fw
namespace Go.Fw
def tabRow (k : IntKind) : List Int → V
  | [] => .nil
  | n :: l => .cons (.int true k n) (tabRow k l)
def tab0 : List Int := [0, 1, 28, 2, 29, 14, 24, 3, 30, 22, 20, 15, 25, 17, 4, 8, 31, 27, 13, 23, 21, 19, 16, 7, 26, 12, 18, 6, 11, 5, 10, 9]
def glob : Nat → Option V
  | 0 => some (.rptr true 32 1 (fun _ => tabRow .u8 tab0) 0 0)
  | _ => none
end Go.Fw
namespace Go.Fw

section
variable {F F' : Nat → Prop} {w w' : World}

/-- Blocks of cells stay, and their sizes. -/
def Sizes (w w' : World) : Prop := ∀ (B : Nat) (c : Array Value) (el : TypeId) (fr : Nat × Nat), w.heap[B]? = some (Obj.cells c el fr) → ∃ (c' : Array Value) (fr' : Nat × Nat), w'.heap[B]? = some (Obj.cells c' el fr') ∧ c'.size = c.size
theorem Sizes.refl (w : World) : Sizes w w := fun _ c _ fr h => ⟨c, fr, h, rfl⟩
theorem Sizes.trans {w w1 w2 : World} (h : Sizes w w1) (h' : Sizes w1 w2) : Sizes w w2 := fun B c el fr hB => by
  obtain ⟨c1, fr1, h1, e1⟩ := h B c el fr hB
  obtain ⟨c2, fr2, h2, e2⟩ := h' B c1 el fr1 h1
  exact ⟨c2, fr2, h2, e2.trans e1⟩
theorem Sizes.of_keep {w w' : World} (h : ∀ B, B < w.heap.size → w'.heap[B]? = w.heap[B]?) : Sizes w w' := fun B c el fr hB => by
  rcases Nat.lt_or_ge B w.heap.size with h' | h'
  · exact ⟨c, fr, by rw [h B h']; exact hB, rfl⟩
  · rw [Array.getElem?_eq_none h'] at hB; cases hB
/-- A value stands for what it stood for, in a later world. -/
theorem R_mono (hs : Sizes w w') (hF : ∀ B, F B → F' B) (hw : ∀ B, F B → w'.heap[B]? = w.heap[B]?) : ∀ (v : V) (n n' : Nat) (m m' : Nat → Option Nat),
    n ≤ n' → (∀ b, b < n → ∀ B, m b = some B → m' b = some B) →
    (∀ x, R F w v n m x → R F' w' v n' m' x) ∧ (∀ xs, RL F w v n m xs → RL F' w' v n' m' xs) := by
  intro v
  induction v with
  | cons h t ih1 ih2 =>
    intro n n' m m' hn hm
    refine ⟨fun x h => by simp only [R] at h, fun xs h => ?_⟩
    simp only [RL] at h ⊢
    obtain ⟨x, r, rfl, h1, h2⟩ := h
    exact ⟨x, r, rfl, (ih1 n n' m m' hn hm).1 _ h1, (ih2 n n' m m' hn hm).2 _ h2⟩
  | agg cs ih =>
    intro n n' m m' hn hm
    refine ⟨fun x h => ?_, fun xs h => by simp only [RL] at h⟩
    simp only [R] at h ⊢
    obtain ⟨xs, rfl, h1⟩ := h
    exact ⟨xs, rfl, (ih n n' m m' hn hm).2 _ h1⟩
  | tup cs ih =>
    intro n n' m m' hn hm
    refine ⟨fun x h => ?_, fun xs h => by simp only [RL] at h⟩
    simp only [R] at h ⊢
    obtain ⟨xs, rfl, h1⟩ := h
    exact ⟨xs, rfl, (ih n n' m m' hn hm).2 _ h1⟩
  | fn f a b ih1 ih2 =>
    intro n n' m m' hn hm
    refine ⟨fun x h => ?_, fun xs h => by simp only [RL] at h⟩
    simp only [R] at h ⊢
    obtain ⟨xs, ys, rfl, h1, h2⟩ := h
    exact ⟨xs, ys, rfl, (ih1 n n' m m' hn hm).2 _ h1, (ih2 n n' m m' hn hm).2 _ h2⟩
  | ptr st b es i o =>
    intro n n' m m' hn hm
    refine ⟨fun x h => ?_, fun xs h => by simp only [RL] at h⟩
    simp only [R] at h ⊢
    obtain ⟨hb, B, hx, h⟩ := h
    exact ⟨Nat.lt_of_lt_of_le hb hn, B, hx, hm b hb B h⟩
  | osl st b es i k =>
    intro n n' m m' hn hm
    refine ⟨fun x h => ?_, fun xs h => by simp only [RL] at h⟩
    simp only [R] at h ⊢
    obtain ⟨hb, a, cap, hx, hk, h⟩ := h
    exact ⟨Nat.lt_of_lt_of_le hb hn, a, cap, hx, hk, h.imp id fun ⟨B, c, el, fr, ha, h, hc, hz⟩ => by
      obtain ⟨c', fr', hc', e⟩ := hs B c el fr hc
      exact ⟨B, c', el, fr', ha, hm b hb B h, hc', by rw [e]; exact hz⟩⟩
  | osp st b es i k c0 =>
    intro n n' m m' hn hm
    refine ⟨fun x h => ?_, fun xs h => by simp only [RL] at h⟩
    simp only [R] at h ⊢
    obtain ⟨hb, a, cap, hx, hk, hk2, h⟩ := h
    exact ⟨Nat.lt_of_lt_of_le hb hn, a, cap, hx, hk, hk2, h.imp id fun ⟨B, c, el, fr, ha, h, hc, hz⟩ => by
      obtain ⟨c', fr', hc', e⟩ := hs B c el fr hc
      exact ⟨B, c', el, fr', ha, hm b hb B h, hc', by rw [e]; exact hz⟩⟩
  | rptr st es k get i o ih =>
    intro n n' m m' hn hm
    refine ⟨fun x h => ?_, fun xs h => by simp only [RL] at h⟩
    simp only [R] at h ⊢
    obtain ⟨hi, B, off, rfl, hB, c, el, fr, hc, hr⟩ := h
    refine ⟨hi, B, off, rfl, hF B hB, c, el, fr, by rw [hw B hB]; exact hc, fun j hj => ?_⟩
    obtain ⟨xs, h1, h2, h3⟩ := hr j hj
    exact ⟨xs, (ih j 0 0 _ _ (Nat.le_refl _) (fun b hb => absurd hb (Nat.not_lt_zero _))).2 _ h1, h2, h3⟩
  | rsl st es k get ih =>
    intro n n' m m' hn hm
    refine ⟨fun x h => ?_, fun xs h => by simp only [RL] at h⟩
    simp only [R] at h ⊢
    obtain ⟨a, cap, rfl, hk, h⟩ := h
    refine ⟨a, cap, rfl, hk, ?_⟩
    rcases h with h | ⟨B, off, rfl, hB, c, el, fr, hc, hr⟩
    · exact .inl h
    · refine .inr ⟨B, off, rfl, hF B hB, c, el, fr, by rw [hw B hB]; exact hc, fun j hj => ?_⟩
      obtain ⟨xs, h1, h2, h3⟩ := hr j hj
      exact ⟨xs, (ih j 0 0 _ _ (Nat.le_refl _) (fun b hb => absurd hb (Nat.not_lt_zero _))).2 _ h1, h2, h3⟩
  | rmp st kd has get ih =>
    intro n n' m m' hn hm
    refine ⟨fun x h => ?_, fun xs h => by simp only [RL] at h⟩
    simp only [R] at h ⊢
    obtain ⟨B, rfl, hB, es, cl, hc, he, hr⟩ := h
    exact ⟨B, rfl, hF B hB, es, cl, by rw [hw B hB]; exact hc, he, fun k hk => ⟨(hr k hk).1, fun v hv => (ih k 0 0 _ _ (Nat.le_refl _) (fun b hb => absurd hb (Nat.not_lt_zero _))).1 _ ((hr k hk).2 v hv)⟩⟩
  | yld b =>
    intro n n' m m' hn hm
    refine ⟨fun x h => ?_, fun xs h => by simp only [RL] at h⟩
    simp only [R] at h ⊢
    obtain ⟨hb, l, hx, h⟩ := h
    exact ⟨Nat.lt_of_lt_of_le hb hn, l, hx, hm b hb l h⟩
  | mp b =>
    intro n n' m m' hn hm
    refine ⟨fun x h => ?_, fun xs h => by simp only [RL] at h⟩
    simp only [R] at h ⊢
    obtain ⟨hb, l, hx, h⟩ := h
    exact ⟨Nat.lt_of_lt_of_le hb hn, l, hx, hm b hb l h⟩
  | nil => intro n n' m m' _ _; exact ⟨fun x h => by simp only [R] at h, fun xs h => by simp only [RL] at h ⊢; exact h⟩
  | junk => intro n n' m m' _ _; exact ⟨fun x h => by simp only [R], fun xs h => by simp only [RL] at h⟩
  | _ => intro n n' m m' _ _; exact ⟨fun x h => by simp only [R] at h ⊢; exact h, fun xs h => by simp only [RL] at h⟩

/-- A value that names no block stands for itself under any naming. -/
theorem R_clean : ∀ (v : V), v.clean = true → ∀ (n n' : Nat) (m m' : Nat → Option Nat),
    (∀ x, R F w v n m x → R F w v n' m' x) ∧ (∀ xs, RL F w v n m xs → RL F w v n' m' xs) := by
  intro v
  induction v with
  | cons h t ih1 ih2 =>
    intro hc n n' m m'
    simp only [V.clean, Bool.and_eq_true] at hc
    refine ⟨fun x h => by simp only [R] at h, fun xs h => ?_⟩
    simp only [RL] at h ⊢
    obtain ⟨x, r, rfl, h1, h2⟩ := h
    exact ⟨x, r, rfl, (ih1 hc.1 n n' m m').1 _ h1, (ih2 hc.2 n n' m m').2 _ h2⟩
  | agg cs ih =>
    intro hc n n' m m'
    refine ⟨fun x h => ?_, fun xs h => by simp only [RL] at h⟩
    simp only [R] at h ⊢
    obtain ⟨xs, rfl, h1⟩ := h
    exact ⟨xs, rfl, (ih hc n n' m m').2 _ h1⟩
  | tup cs ih =>
    intro hc n n' m m'
    refine ⟨fun x h => ?_, fun xs h => by simp only [RL] at h⟩
    simp only [R] at h ⊢
    obtain ⟨xs, rfl, h1⟩ := h
    exact ⟨xs, rfl, (ih hc n n' m m').2 _ h1⟩
  | fn f a b ih1 ih2 =>
    intro hc n n' m m'
    simp only [V.clean, Bool.and_eq_true] at hc
    refine ⟨fun x h => ?_, fun xs h => by simp only [RL] at h⟩
    simp only [R] at h ⊢
    obtain ⟨xs, ys, rfl, h1, h2⟩ := h
    exact ⟨xs, ys, rfl, (ih1 hc.1 n n' m m').2 _ h1, (ih2 hc.2 n n' m m').2 _ h2⟩
  | ptr st b es i o => intro hc; cases hc
  | osl st b es i k => intro hc; cases hc
  | osp st b es i k c => intro hc; cases hc
  | yld b => intro hc; cases hc
  | mp b => intro hc; cases hc
  | nil => intro _ n n' m m'; exact ⟨fun x h => by simp only [R] at h, fun xs h => by simp only [RL] at h ⊢; exact h⟩
  | junk => intro _ n n' m m'; exact ⟨fun x h => by simp only [R], fun xs h => by simp only [RL] at h⟩
  | _ => intro _ n n' m m'; exact ⟨fun x h => by simp only [R] at h ⊢; exact h, fun xs h => by simp only [RL] at h⟩
end

theorem prefix_get {xs : Array Value} {ys zs : List Value} (h : xs.toList = ys ++ zs) {q : Nat} (hq : q < ys.length) : xs[q]? = ys[q]? := by
  rw [← Array.getElem?_toList, h, List.getElem?_append_left hq]
theorem prefix_len {xs : Array Value} {ys zs : List Value} (h : xs.toList = ys ++ zs) : ys.length ≤ xs.size := by
  have := congrArg List.length h
  simp at this
  omega
def stOf : Nat → LoopState
  | 0 => .ready
  | 1 => .busy
  | _ => .done
def codeOf : Option Ex → Option Code
  | some .ret => some .ret
  | some (.exit i) => some (.exit i)
  | _ => none
/-- How a block stands. 'B': the model's block, if it is there. -/
def RB (F : Nat → Prop) (w : World) (n : Nat) (m : Nat → Option Nat) : Blk → Option Nat → Prop
  | .none, B => B = none
  | .any, _ => True
  | .var cs, B => ∃ b xs el ys zs, B = some b ∧ w.heap[b]? = some (.cells xs el (0, 0)) ∧ xs.toList = ys ++ zs ∧ RL F w cs n m ys
  | .arr es k get, B => (k = 0 ∧ B = none) ∨ ∃ b c el, B = some b ∧ w.heap[b]? = some (.cells c el (0, 0)) ∧ k * es ≤ c.size ∧
      ∀ j, j < k → ∃ xs, RL F w (get j) 0 (fun _ => none) xs ∧ xs.length = es ∧ ∀ q, q < es → c[j * es + q]? = xs[q]?
  | .iter mb since seen last, B => ∃ (r : Nat) (x : Option Nat), B = some r ∧ w.heap[r]? = some (.mapIter x since seen.toArray last) ∧ match mb with
      | none => x = none
      | some b => ∃ y, b < n ∧ x = some y ∧ m b = some y
  | .mapV kd _ f ks, B => ∃ (b : Nat) (es : Array MapEntry) (clock : Nat), B = some b ∧ w.heap[b]? = some (.map es clock) ∧ MapOk kd ks es clock ∧
      ∀ k, kd.is k = true → (f k).1 = (mapGet k es.toList).isSome ∧ ∀ v, mapGet k es.toList = some v → R F w (f k).2 n m v
  | .rng _ ps asg bd row N st pend, B => ∃ l r, B = some l ∧ w.heap[l]? = some (.loop r) ∧ r.params.toList = ps ∧ r.assign = asg ∧ r.body = bd ∧ r.state = stOf st ∧ r.pending = codeOf pend ∧ N = r.tmps.size ∧ ∀ i, R F w (row i) n m (r.tmps.getD i Go.undef)

/-- A table is no longer than what is known of it. -/
def exactAt (F : Nat → Prop) (w : World) (g : Nat) : V → Prop
  | .rptr _ es n _ _ _ => F g ∧ ∃ c el fr, w.heap[g]? = some (.cells c el fr) ∧ c.size = n * es
  | _ => True
/-- The package-level variables hold what is known of them. -/
def GOk (F : Nat → Prop) (w : World) : Prop := ∀ g v, glob g = some v → v.clean = true ∧ R F w v 0 (fun _ => none) (.pointer (some ⟨g, 0, none⟩)) ∧ exactAt F w g v
theorem GOk.mono {F F' : Nat → Prop} {w w' : World} (h : GOk F w) (hs : Sizes w w') (hF : ∀ B, F B → F' B) (hw : ∀ B, F B → w'.heap[B]? = w.heap[B]?) : GOk F' w' := fun g v hg =>
  ⟨(h g v hg).1, (R_mono hs hF hw v 0 0 _ _ (Nat.le_refl _) (fun _ _ _ h => h)).1 _ (h g v hg).2.1, by
    have h3 := (h g v hg).2.2
    cases v <;> try (exact trivial)
    obtain ⟨h1, c, el, fr, h2, h4⟩ := h3
    exact ⟨hF _ h1, c, el, fr, by rw [hw _ h1]; exact h2, h4⟩⟩
/-- The heaps stand to one another. -/
structure HR (base : Nat) (m : Nat → Option Nat) (F : Nat → Prop) (h : Nat → Blk) (n : Nat) (w : World) : Prop where
  low : base ≤ w.heap.size
  fdom : ∀ B, F B → B < w.heap.size
  blk : ∀ b, b < n → RB F w n m (h b) (m b)
  dom : ∀ b B, m b = some B → B < w.heap.size
  new : ∀ b, n ≤ b → m b = none
  gl : GOk F w
  own : ∀ b B, m b = some B → base ≤ B ∧ ¬ F B
  inj : ∀ b b' B, m b = some B → m b' = some B → b ≠ b' → h b = .any ∨ h b' = .any

/-- The marks that ranges over functions leave among a frame's deferred calls: blocks without calls, laid since 'lo', that have no name. -/
structure Marks (lo : Nat) (m : Nat → Option Nat) (F : Nat → Prop) (w : World) (ds : List Deferred) (rs : List Nat) : Prop where
  eq : ds = rs.map fun r => { target := .collected r, args := #[] }
  nodup : rs.Nodup
  le : lo ≤ w.heap.size
  lo : ∀ r ∈ rs, lo ≤ r
  obj : ∀ r ∈ rs, w.heap[r]? = some (.deferred (some []))
  un : ∀ r ∈ rs, ¬ F r ∧ ∀ b, m b ≠ some r
structure Rel {B : Base} (lo base : Nat) (m : Nat → Option Nat) (F : Nat → Prop) (s : St B) (a : Act) (w : World) : Prop where
  hr : HR base m F s.blk s.n w
  defers : ∃ rs, Marks lo m F w a.defers rs
  size : a.tmps.size = s.N
  tmp : ∀ i, R F w (s.tmp i) s.n m (a.tmps.getD i Go.undef)

/-- Nothing outside memory has turned. -/
structure Calm (w w' : World) : Prop where
  os : w'.os = w.os
  tape : w'.tape = w.tape
  output : w'.output = w.output
theorem Calm.refl (w : World) : Calm w w := ⟨rfl, rfl, rfl⟩
theorem Calm.trans {w w1 w2 : World} (h : Calm w w1) (h' : Calm w1 w2) : Calm w w2 := ⟨h'.os.trans h.os, h'.tape.trans h.tape, h'.output.trans h.output⟩

/-- What has no name is as it was; and names of what was there are names of what had one. -/
structure Own (m : Nat → Option Nat) (w : World) (m' : Nat → Option Nat) (w' : World) : Prop where
  un : ∀ B, B < w.heap.size → (∀ b, m b ≠ some B) → w'.heap[B]? = w.heap[B]?
  old : ∀ b B, m' b = some B → B < w.heap.size → ∃ c, m c = some B
theorem Own.of_keep {m : Nat → Option Nat} {w w' : World} (h : ∀ B, B < w.heap.size → w'.heap[B]? = w.heap[B]?) : Own m w m w' := ⟨fun B hB _ => h B hB, fun b _ hb _ => ⟨b, hb⟩⟩
theorem Own.refl (m : Nat → Option Nat) (w : World) : Own m w m w := Own.of_keep fun _ _ => rfl
theorem Own.trans {m m1 m2 : Nat → Option Nat} {w w1 w2 : World} (h : Own m w m1 w1) (h' : Own m1 w1 m2 w2) (hs : w.heap.size ≤ w1.heap.size) : Own m w m2 w2 where
  un B hB hn := by
    rw [h'.un B (Nat.lt_of_lt_of_le hB hs) fun b hb => ?_, h.un B hB hn]
    obtain ⟨c, hc⟩ := h.old b B hb hB
    exact hn c hc
  old b B hb hB := by
    obtain ⟨c, hc⟩ := h'.old b B hb (Nat.lt_of_lt_of_le hB hs)
    exact h.old c B hc hB
theorem Own.sub {m m1 m2 : Nat → Option Nat} {w w' : World} (h : Own m w m1 w') (hs : ∀ b B, m2 b = some B → ∃ c, m1 c = some B) : Own m w m2 w' :=
  ⟨h.un, fun b B hb hB => let ⟨c, hc⟩ := hs b B hb; h.old c B hc hB⟩
/-- A later world: what is not ours is as it was. -/
structure Ext (base : Nat) (m : Nat → Option Nat) (F : Nat → Prop) (n : Nat) (w : World) (m' : Nat → Option Nat) (F' : Nat → Prop) (n' : Nat) (w' : World) : Prop where
  f : ∀ B, F B → F' B
  back : ∀ B, F' B → F B ∨ w.heap.size ≤ B
  keep : ∀ B, B < base ∨ F B → w'.heap[B]? = w.heap[B]?
  size : w.heap.size ≤ w'.heap.size
  sz : Sizes w w'
  ow : Own m w m' w'
  le : n ≤ n'
  map : ∀ b, b < n → ∀ B, m b = some B → m' b = some B
  calm : Calm w w'

theorem Ext.refl (base : Nat) (m : Nat → Option Nat) (F : Nat → Prop) (n : Nat) (w : World) : Ext base m F n w m F n w :=
  ⟨fun _ h => h, fun _ h => .inl h, fun _ _ => rfl, Nat.le_refl _, Sizes.refl w, Own.refl m w, Nat.le_refl _, fun _ _ _ h => h, Calm.refl w⟩
theorem Ext.trans {base : Nat} {m m1 m2 : Nat → Option Nat} {F F1 F2 : Nat → Prop} {n n1 n2 : Nat} {w w1 w2 : World}
    (h : Ext base m F n w m1 F1 n1 w1) (h' : Ext base m1 F1 n1 w1 m2 F2 n2 w2) : Ext base m F n w m2 F2 n2 w2 where
  f B hB := h'.f B (h.f B hB)
  back B hB := (h'.back B hB).elim (fun hB => h.back B hB) (fun hB => .inr (Nat.le_trans h.size hB))
  keep B hB := by rw [h'.keep B (hB.imp id (h.f B)), h.keep B hB]
  size := Nat.le_trans h.size h'.size
  sz := h.sz.trans h'.sz
  ow := h.ow.trans h'.ow h.size
  le := Nat.le_trans h.le h'.le
  map b hb B hB := h'.map b (Nat.lt_of_lt_of_le hb h.le) B (h.map b hb B hB)
  calm := h.calm.trans h'.calm
theorem Marks.ext {lo base : Nat} {m m' : Nat → Option Nat} {F F' : Nat → Prop} {n n' : Nat} {w w' : World} {ds : List Deferred} (h : ∃ rs, Marks lo m F w ds rs) (he : Ext base m F n w m' F' n' w') : ∃ rs, Marks lo m' F' w' ds rs := by
  obtain ⟨rs, hm⟩ := h
  have hlt : ∀ r ∈ rs, r < w.heap.size := fun r hr => by
    have := hm.obj r hr
    rcases Nat.lt_or_ge r w.heap.size with h' | h'
    · exact h'
    · rw [Array.getElem?_eq_none h'] at this; cases this
  refine ⟨rs, hm.eq, hm.nodup, Nat.le_trans hm.le he.size, hm.lo, fun r hr => ?_, fun r hr => ⟨fun hF => ?_, fun b hb => ?_⟩⟩
  · rw [he.ow.un r (hlt r hr) (hm.un r hr).2]; exact hm.obj r hr
  · rcases he.back r hF with h1 | h1
    · exact (hm.un r hr).1 h1
    · exact absurd (hlt r hr) (Nat.not_lt.2 h1)
  · obtain ⟨c, hc⟩ := he.ow.old b r hb (hlt r hr)
    exact (hm.un r hr).2 c hc
theorem Marks.sub {lo : Nat} {m m' : Nat → Option Nat} {F : Nat → Prop} {w : World} {ds : List Deferred} (h : ∃ rs, Marks lo m F w ds rs) (hs : ∀ b B, m' b = some B → ∃ c, m c = some B) : ∃ rs, Marks lo m' F w ds rs := by
  obtain ⟨rs, hm⟩ := h
  exact ⟨rs, hm.eq, hm.nodup, hm.le, hm.lo, hm.obj, fun r hr => ⟨(hm.un r hr).1, fun b hb => let ⟨c, hc⟩ := hs b r hb; (hm.un r hr).2 c hc⟩⟩
theorem Ext.val {base : Nat} {m m' : Nat → Option Nat} {F F' : Nat → Prop} {n n' : Nat} {w w' : World} (h : Ext base m F n w m' F' n' w') {v : V} {x : Value}
    (hv : R F w v n m x) : R F' w' v n' m' x :=
  (R_mono h.sz h.f (fun B hB => h.keep B (.inr hB)) v n n' m m' h.le h.map).1 x hv
theorem Ext.row {base : Nat} {m m' : Nat → Option Nat} {F F' : Nat → Prop} {n n' : Nat} {w w' : World} (h : Ext base m F n w m' F' n' w') {v : V} {xs : List Value}
    (hv : RL F w v n m xs) : RL F' w' v n' m' xs :=
  (R_mono h.sz h.f (fun B hB => h.keep B (.inr hB)) v n n' m m' h.le h.map).2 xs hv

/-- A fence that holds nothing off: a frame of a function, or of a loop's round. -/
abbrev fen (ro : Option Nat) : Fence := { fn := fun _ => True, depth := none, alive := false, round := ro }
theorem fen_none : fen none = Fence.wide := rfl
theorem fen_room (ro : Option Nat) (n : Nat) : (fen ro).room n := fun d hd => by cases hd
theorem fen_depth (ro : Option Nat) : (fen ro).depth.isSome = true → 1 ≤ 0 := fun h => (by cases h)
theorem fen_fenced (P : Program) (ro : Option Nat) (m : Machine) : m.fenced P (fen ro) := fenced_wide P m
theorem fen_calls {P : Program} {ro : Option Nat} {n : Nat} {f : FuncId} {args : Array Value} {w : World} {K : Ending → World → Prop} (h : Calls P f args w K) : CallsIn (fen ro) n P f args w K := (callsIn_wide (n := n)).2 h
/-- An operation that is no defer statement goes in a round's frame as in a function's. -/
theorem wpIn_of_wp {P : Program} {ro : Option Nat} {o : Oper} {a : Act} {w : World} {K : Act → World → Prop} {Q : Exit → Act → World → Prop} (h : o.wp P a w K Q) (hd : ∀ c, o.op ≠ .defer c) : o.wpIn (fen ro) 0 P a w K Q := by
  refine ⟨fun _ _ => trivial, ?_⟩
  rw [Oper.semAt_eq _ _ _ hd]
  unfold Oper.wp at h
  generalize (execOp a.eval o).run P w = r at h ⊢
  cases r with
  | ok x w' =>
    cases x <;> first
      | exact h
      | exact h.elim
      | exact ⟨fen_depth ro, fen_calls h⟩
      | exact ⟨fen_depth ro, fun c cs _ => let ⟨v, w'', q, r⟩ := h c cs; ⟨v, w'', q, stepsIn_wide.2 r⟩⟩
  | halt x w' => cases x <;> first | exact h | exact h.elim
/-- What a loop comes to, from the head of a round on. -/
def LoopWp (P : Program) (ro : Option Nat) (b : Code) (Q : Exit → Act → World → Prop) (a : Act) (w : World) : Prop :=
  ∀ (fr : Frame) (k : List Item) (cs : List Frame), fr.roundOf = ro → ∃ e a' w', Q e a' w' ∧ ArrivesIn (Machine.fenced P (fen ro)) P (lone (fr.atR a (.code b :: .inLoop b :: k)) cs w) fr k cs e a' w'
theorem LoopWp.wp {P : Program} {ro : Option Nat} {b : Code} {Q : Exit → Act → World → Prop} {a : Act} {w : World} (h : LoopWp P ro b Q a w) : (Code.loop b).wpIn (fen ro) 0 P Q a w :=
  fun fr k cs hro _ _ => let ⟨e, a', w', q, r⟩ := h fr k cs hro; ⟨e, a', w', q, .of_steps (.one (fen_fenced P ro _) stepR_loop) r⟩
/-- One round, and what is left. -/
theorem LoopWp.round {P : Program} {ro : Option Nat} {b : Code} {Q : Exit → Act → World → Prop} {a : Act} {w : World} (h : b.wpIn (fen ro) 0 P (Exit.then (LoopWp P ro b Q) Q) a w) : LoopWp P ro b Q a w := by
  intro fr k cs hro
  obtain ⟨e, a1, w1, h1, h2⟩ := h fr (.inLoop b :: k) cs hro trivial (fen_room ro _)
  cases e with
  | normal =>
    obtain ⟨e2, a2, w2, h3, h4⟩ := h1 fr k cs hro
    exact ⟨e2, a2, w2, h3, .of_steps (StepsIn.trans h2 (.one (fen_fenced P ro _) stepR_inLoop)) h4⟩
  | exit id => exact ⟨_, a1, w1, h1, .pass (x := .inLoop b) rfl (fun _ _ => .inl (by simp)) h2⟩
  | goto l => exact ⟨_, a1, w1, h1, .pass (x := .inLoop b) rfl (fun _ _ => .inl (by simp)) h2⟩
  | ret => exact ⟨_, a1, w1, h1, .pass (x := .inLoop b) rfl (fun _ _ => .inl (by simp)) h2⟩
  | panic ch => exact ⟨_, a1, w1, h1, .pass (x := .inLoop b) rfl (fun _ _ => .inl (by simp)) h2⟩
  | outgrown => exact ⟨_, a1, w1, h1, .pass (x := .inLoop b) rfl (fun _ _ => .inl (by simp)) h2⟩

/-- No range over a function is in it. -/
def noRange : Code → Bool
  | .rangeFunc .. => false
  | .seq a b => noRange a && noRange b
  | .cond _ a b => noRange a && noRange b
  | .block _ b => noRange b
  | .loop b => noRange b
  | .scope b => noRange b
  | _ => true
/-- What a loop that is not walked here comes to. -/
def SemLoop (P : Program) (body : Code) {Bs : Base} (s : St Bs) (Φ : Ex × St Bs → Prop) : Prop :=
  ∀ (ro : Option Nat) (lo base : Nat) (m : Nat → Option Nat) (F : Nat → Prop) (a : Act) (w : World) (Q : Exit → Act → World → Prop), (ro = none ∨ noRange body = true) → Rel lo base m F s a w →
    (∀ e s', Φ (e, s') → ∀ m' F' a' w', Ext base m F s.n w m' F' s'.n w' → Rel lo base m' F' s' a' w' → Q e.toExit a' w') → LoopWp P ro body Q a w

def Tree.holds {α : Type} (P : Program) : Tree α → (α → Prop) → Prop
  | .leaf a, Q => Q a
  | .stuck, _ => False
  | .node b t f, Q => (b = true → t.holds P Q) ∧ (b = false → f.holds P Q)
  | .need p t, Q => p ∧ t.holds P Q
  | .all σ t, Q => ∀ x : σ, (t x).holds P Q
  | .given p t, Q => p → t.holds P Q
  | .both t f, Q => t.holds P Q ∧ f.holds P Q

theorem Tree.holds_bind {α β : Type} {P : Program} {k : α → Tree β} {Q : β → Prop} : ∀ (T : Tree α), (T.bind k).holds P Q ↔ T.holds P fun a => (k a).holds P Q := by
  intro T
  induction T with
  | leaf a => exact Iff.rfl
  | stuck => exact Iff.rfl
  | node b t f iht ihf => simp only [Tree.bind, Tree.holds, iht, ihf]
  | need p t ih => simp only [Tree.bind, Tree.holds, ih]
  | all σ t ih => simp only [Tree.bind, Tree.holds, ih]
  | given p t ih => simp only [Tree.bind, Tree.holds, ih]
  | both t f iht ihf => simp only [Tree.bind, Tree.holds, iht, ihf]
theorem Tree.holds_mono {α : Type} {P : Program} : ∀ (T : Tree α) {Q Q' : α → Prop}, (∀ a, Q a → Q' a) → T.holds P Q → T.holds P Q' := by
  intro T
  induction T with
  | leaf a => exact fun h hq => h _ hq
  | stuck => exact fun _ h => h
  | node b t f iht ihf => exact fun h hq => ⟨fun hb => iht h (hq.1 hb), fun hb => ihf h (hq.2 hb)⟩
  | need p t ih => exact fun h hq => ⟨hq.1, ih h hq.2⟩
  | all σ t ih => exact fun h hq x => ih x h (hq x)
  | given p t ih => exact fun h hq hp => ih h (hq hp)
  | both t f iht ihf => exact fun h hq => ⟨iht h hq.1, ihf h hq.2⟩

end Go.Fw
namespace Go.Fw

/-! ### Types -/
def tyAgg (P : Program) (t : TypeId) : Option Bool :=
  match P.underlying t with
  | some (.struct _) => some true
  | some (.array _ _) => some true
  | some _ => some false
  | none => none
def tySize (P : Program) (t : TypeId) : Option Nat :=
  match P.info? t with
  | some i => some i.size
  | none => none
/-- The cells of a type's zero value. -/
def tyZero (P : Program) (t : TypeId) : Option V :=
  match P.info? t with
  | some i => match i.zero with
    | some z => some (V.ofValue z).cells
    | none => none
  | none => none
/-- Where a field lies; of no field of no size. -/
def fieldOff (P : Program) (s : TypeId) (f : Nat) : Option (Nat × TypeId) :=
  match P.underlying s with
  | some (.struct fields) => match fields[f]? with
    | some fd => match tySize P fd.type with
      | some (_ + 1) => some (fd.offset, fd.type)
      | _ => none
    | none => none
  | _ => none
/-- A variable of type 't' at place 'o' of a row of cells. -/
def partOf (P : Program) (t : TypeId) (cs : V) (o : Nat) : Option V :=
  match tyAgg P t with
  | some true => match tySize P t with
    | some z => bif Nat.ble (o + z) cs.len then some (.agg ((cs.drop o).take z)) else none
    | none => none
  | some false => bif Nat.blt o cs.len then some (cs.nth o) else none
  | none => none

/-! ### Small trees -/
def Tree.ofOpt {α : Type} : Option α → Tree α
  | some a => .leaf a
  | none => .stuck
/-- Only where a place is one of so many. -/
def atIdx {α : Type} (st : Bool) (i n : Nat) (T : Tree α) : Tree α :=
  match st with
  | true => bif Nat.blt i n then T else .stuck
  | false => .need (i < n) T
/-- Only where a number is a place of so many. -/
def atInt {α : Type} (st : Bool) (j : Int) (n : Nat) (T : Nat → Tree α) : Tree α :=
  match st with
  | true => match j with
    | .ofNat q => bif Nat.blt q n then T q else .stuck
    | .negSucc _ => .stuck
  | false => .need (0 ≤ j ∧ j < n) (T j.toNat)
/-- Only where a number is at most another. -/
def uptoInt {α : Type} (st : Bool) (j : Int) (n : Nat) (T : Nat → Tree α) : Tree α :=
  match st with
  | true => match j with
    | .ofNat q => bif Nat.ble q n then T q else .stuck
    | .negSucc _ => .stuck
  | false => .need (0 ≤ j ∧ j ≤ n) (T j.toNat)

/-! ### Operations on values -/
def intCmp (op : BinOp) (a b : Int) : Option Bool :=
  match op with
  | .eql => some (a == b)
  | .neq => some (a != b)
  | .lss => some (decide (a < b))
  | .leq => some (decide (a ≤ b))
  | .gtr => some (decide (a > b))
  | .geq => some (decide (a ≥ b))
  | _ => none
def intBit (op : BinOp) (k : IntKind) (x y : Int) : Option Int :=
  match op with
  | .and => some (k.wrap (BitVec.ofInt k.bits x &&& BitVec.ofInt k.bits y).toNat)
  | .or => some (k.wrap (BitVec.ofInt k.bits x ||| BitVec.ofInt k.bits y).toNat)
  | .xor => some (k.wrap (BitVec.ofInt k.bits x ^^^ BitVec.ofInt k.bits y).toNat)
  | .andNot => some (k.wrap (BitVec.ofInt k.bits x &&& ~~~BitVec.ofInt k.bits y).toNat)
  | _ => none
/-- Only where a number is not 0. -/
def notZero {α : Type} (st : Bool) (y : Int) (T : Tree α) : Tree α :=
  match st with
  | true => match y with
    | .ofNat 0 => .stuck
    | _ => T
  | false => .need (y ≠ 0) T
def notNeg {α : Type} (st : Bool) (y : Int) (T : Nat → Tree α) : Tree α :=
  match st with
  | true => match y with
    | .ofNat q => T q
    | .negSucc _ => .stuck
  | false => .need (0 ≤ y) (T y.toNat)
def evInt (op : BinOp) (s s' : Bool) (k : IntKind) (a b : Int) : Tree V :=
  match op with
  | .add => .leaf (mkInt (s && s') k (k.wrap (a + b)))
  | .sub => .leaf (mkInt (s && s') k (k.wrap (a - b)))
  | .mul => .leaf (mkInt (s && s') k (k.wrap (a * b)))
  | .quo => notZero s' b (.leaf (mkInt (s && s') k (k.wrap (a.tdiv b))))
  | .rem => notZero s' b (.leaf (mkInt (s && s') k (a.tmod b)))
  | .shl => .stuck
  | .shr => .stuck
  | _ => match intBit op k a b with
    | some n => .leaf (mkInt (s && s') k n)
    | none => match intCmp op a b with
      | some r => .leaf (mkBool (s && s') r)
      | none => .stuck
def evShift (op : BinOp) (s s' : Bool) (k : IntKind) (a b : Int) : Tree V :=
  match op with
  | .shl => notNeg s' b fun q => .leaf (mkInt (s && s') k (k.wrap (a * 2 ^ (min q k.bits))))
  | .shr => notNeg s' b fun q => .leaf (mkInt (s && s') k (a.fdiv (2 ^ (min q k.bits))))
  | _ => .stuck
def isShift : BinOp → Bool
  | .shl | .shr => true
  | _ => false
/-- Whether a slice, a pointer, a function is nil, where that is known. -/
def nilS : V → Option Bool
  | .nilsl => some true
  | .osl true _ _ _ n => bif Nat.beq n 0 then none else some false
  | .rsl true _ n _ => bif Nat.beq n 0 then none else some false
  | .osp true _ _ _ _ c => bif Nat.beq c 0 then none else some false
  | .esl nn _ => match nn with
    | true => some false
    | false => none
  | _ => none
def nilP : V → Option Bool
  | .nilptr => some true
  | .ptr .. => some false
  | .rptr .. => some false
  | _ => none
def nilF : V → Option Bool
  | .nilfn => some true
  | .fn .. => some false
  | .yld _ => some false
  | _ => none
def nilTwo : Option Bool → Option Bool → Option (Bool × Bool)
  | some true, some b => some (true, b)
  | some false, some true => some (true, false)
  | _, _ => none
def samePtr : V → V → Bool
  | .ptr st b es i o, .ptr st' b' es' i' o' => (st && st') && (Nat.beq b b' && (Nat.beq es es' && (Nat.beq i i' && Nat.beq o o')))
  | _, _ => false
/-- Two pointers into one block, not to the same cell. -/
def apartPtr : V → V → Bool
  | .ptr st b es i o, .ptr st' b' es' i' o' => (st && st') && (Nat.beq b b' && !Nat.beq (i * es + o) (i' * es' + o'))
  | _, _ => false
def bulky (P : Program) (e : TypeId) : Bool :=
  match tySize P e with
  | some z => !Nat.beq z 0
  | none => false
mutual
/-- Whether two values of a type are alike. -/
def evEq (P : Program) : Nat → TypeId → V → V → Option (Bool × Bool)
  | 0, _, _, _ => none
  | d + 1, t, x, y =>
    match P.underlying t with
    | some .bool => match x, y with
      | .bool s a, .bool s' b => some (s && s', a == b)
      | _, _ => none
    | some (.int _) => match x, y with
      | .int s k a, .int s' k' b => if k = k' then some (s && s', a == b) else none
      | _, _ => none
    | some .string => match x, y with
      | .str s a, .str s' b => some (s && s', a == b)
      | _, _ => none
    | some (.struct fields) => match x, y with
      | .agg xs, .agg ys => if P.stoodInHeld t then none else evEqFields P d fields.toList xs ys
      | _, _ => none
    | some (.slice _) => nilTwo (nilS x) (nilS y)
    | some (.pointer e) => match samePtr x y && (tySize P e).isSome with
      | true => some (true, true)
      | false => match apartPtr x y && bulky P e with
        | true => some (true, false)
        | false => nilTwo (nilP x) (nilP y)
    | some (.func _ _ _) => nilTwo (nilF x) (nilF y)
    | _ => none
def evEqFields (P : Program) : Nat → List Field → V → V → Option (Bool × Bool)
  | 0, _, _, _ => none
  | _ + 1, [], _, _ => some (true, true)
  | d + 1, f :: fs, xs, ys =>
    if f.name = "_" then none else
    match partOf P f.type xs f.offset, partOf P f.type ys f.offset with
    | some x, some y => match evEq P d f.type x y, evEqFields P d fs xs ys with
      | some (s, a), some (s', b) => some (s && s', a && b)
      | _, _ => none
    | _, _ => none
end
def evEqOp (P : Program) (op : BinOp) (t : TypeId) (x y : V) : Tree V :=
  match evEq P 20 t x y with
  | some (s, r) => match op with
    | .eql => .leaf (mkBool s r)
    | .neq => .leaf (mkBool s (!r))
    | _ => .stuck
  | none => .stuck
/-- Whether a value is nil, where that is known. -/
def isNil : V → Option Bool
  | .nilptr | .nilsl | .nilfn | .nilmap | .nilif => some true
  | .rptr .. | .fn .. => some false
  | _ => none
def evStr (op : BinOp) (s s' : Bool) (a b : List UInt8) : Tree V :=
  match op with
  | .eql => .leaf (mkBool (s && s') (a == b))
  | .neq => .leaf (mkBool (s && s') (!(a == b)))
  | .lss => .leaf (mkBool (s && s') (Op.bytesLess a b))
  | .leq => .leaf (mkBool (s && s') (Op.bytesLess a b || a == b))
  | .gtr => .leaf (mkBool (s && s') (!(Op.bytesLess a b || a == b)))
  | .geq => .leaf (mkBool (s && s') (!Op.bytesLess a b))
  | .add => match s && s' with
    | true => bif Nat.ble (a.length + b.length) 9223372036854775807 then .leaf (.str true (a ++ b)) else .stuck
    | false => .need (a.length + b.length ≤ 9223372036854775807) (.leaf (.str false (a ++ b)))
  | _ => .stuck
def evBin (P : Program) (op : BinOp) (t : TypeId) (x y : V) : Tree V :=
  match x with
  | .int s k a => match y with
    | .int s' k' b => match isShift op with
      | true => evShift op s s' k a b
      | false => if k = k' then evInt op s s' k a b else .stuck
    | _ => .stuck
  | .bool _ _ => evEqOp P op t x y
  | .str s a => match y with
    | .str s' b => evStr op s s' a b
    | _ => .stuck
  | .agg _ => if P.eqGuardType P.depth t then .stuck else evEqOp P op t x y
  | .osl .. | .osp .. | .esl .. | .rsl .. | .nilsl | .ptr .. | .rptr .. | .nilptr | .fn .. | .nilfn | .yld _ => evEqOp P op t x y
  | _ => .stuck
def nilConst : Operand → Bool
  | .const .nilIface => true
  | _ => false
def nilI : V → Option (Bool × Bool)
  | .nilif => some (true, true)
  | .ifc st b => some (st, b)
  | _ => none
def eqOp : BinOp → Option Bool
  | .eql => some true
  | .neq => some false
  | _ => none
/-- Whether a value of an interface type is nil. -/
def evIfc (P : Program) (op : BinOp) (t : TypeId) (x y : Operand) (a b : V) : Option (Tree V) :=
  match P.underlying t with
  | some (.interface _) => match eqOp op with
    | some want => match nilConst y with
      | true => match nilI a with
        | some (st, r) => some (.leaf (mkBool st (bif want then r else !r)))
        | none => none
      | false => match nilConst x with
        | true => match nilI b with
          | some (st, r) => some (.leaf (mkBool st (bif want then r else !r)))
          | none => none
        | false => none
    | none => none
  | _ => none
def evUn (op : UnOp) (x : V) : Tree V :=
  match x with
  | .int s k n => match op with
    | .neg => .leaf (mkInt s k (k.wrap (0 - n)))
    | .xor => match intBit .xor k (if k.signed then -1 else k.max) n with
      | some r => .leaf (mkInt s k r)
      | none => .stuck
    | _ => .stuck
  | .bool s b => match op with
    | .not => .leaf (mkBool s (!b))
    | _ => .stuck
  | _ => .stuck
/-- Cells that are bytes. -/
def bytesOf : V → Option (Bool × List UInt8)
  | .nil => some (true, [])
  | .cons (.int s .u8 v) t => match bytesOf t with
    | some (s', l) => some (s && s', UInt8.ofNat v.toNat :: l)
    | none => none
  | _ => none
/-- The text of a row of bytes of ours. -/
def evText (P : Program) (h : Nat → Blk) (e : TypeId) (x : V) : Tree V :=
  match P.underlying e with
  | some (.int .u8) => match x with
    | .osl st b es i n => match h b with
      | .var cs => bif st && (Nat.beq es 1 && Nat.ble (i + n) cs.len) then match bytesOf ((cs.drop i).take n) with
          | some (s, l) => .leaf (.str s l)
          | none => .stuck
        else .stuck
      | _ => .stuck
    | _ => .stuck
  | _ => .stuck
def evConvP (P : Program) (dst : TypeId) (x : V) : Tree V :=
  match P.underlying dst with
  | some (.int k) => match x with
    | .int s _ n => .leaf (mkInt s k (k.wrap n))
    | _ => .stuck
  | some .string => match x with
    | .str s a => .leaf (.str s a)
    | .int s _ n => match s with
      | true => match n with
        | .ofNat c => bif Nat.blt c 128 then .leaf (.str true [UInt8.ofNat c]) else .stuck
        | _ => .stuck
      | false => .need (0 ≤ n ∧ n < 128) (.leaf (.str false [UInt8.ofNat n.toNat]))
    | _ => .stuck
  | _ => .stuck
def evConv (P : Program) (h : Nat → Blk) (src dst : TypeId) (x : V) : Tree V :=
  match P.underlying src with
  | none => .stuck
  | some (.slice e) => match P.underlying dst with
    | some .string => evText P h e x
    | _ => .stuck
  | some _ => evConvP P dst x
/-- A text's bytes, as a new row that is only read. -/
def evBytes (P : Program) (src dst : TypeId) (x : V) : Option (Tree V) :=
  match x with
  | .str st s => match P.underlying src with
    | some .string => match P.underlying dst with
      | some (.slice e) => match P.underlying e with
        | some (.int .u8) => some (.leaf (.rsl st 1 s.length fun j => .cons (.int st .u8 (Int.ofNat (s.getD j 0).toNat)) .nil))
        | _ => none
      | _ => none
    | _ => none
  | _ => none
def evPick (c x y : V) : Tree V :=
  match c with
  | .bool true b => match b with | true => .leaf x | false => .leaf y
  | .bool false b => .node b (.leaf x) (.leaf y)
  | _ => .stuck
def evFieldAddr (P : Program) (s : TypeId) (x : V) (f : Nat) : Tree V :=
  match fieldOff P s f with
  | some (off, _) => match x with
    | .ptr st b es i o => .leaf (.ptr st b es i (o + off))
    | .rptr st es n get i o => .leaf (.rptr st es n get i (o + off))
    | _ => .stuck
  | none => .stuck
def evField (P : Program) (t : TypeId) (x : V) (f : Nat) : Tree V :=
  match P.underlying t with
  | some (.struct fields) => match fields[f]? with
    | some fd => match x with
      | .agg cs => .ofOpt (partOf P fd.type cs fd.offset)
      | _ => .stuck
    | none => .stuck
  | _ => .stuck
/-- The cells of the k-th element of an array that lies in a row. -/
def elemAt (cs : V) (o z k : Nat) : V := (cs.drop (o + k * z)).take z
def allB (n : Nat) (f : Nat → Bool) : Bool := Nat.rec true (fun i r => r && f i) n
def evLoad (P : Program) (h : Nat → Blk) (t : TypeId) (x : V) : Tree V :=
  match x with
  | .ptr st b es i o => match h b with
    | .var cs => bif st then .ofOpt (partOf P t cs (i * es + o)) else .stuck
    | .arr es' n get => bif Nat.beq es es' then atIdx st i n (.ofOpt (partOf P t (get i) o)) else .stuck
    | _ => .stuck
  | .rptr _ _ _ get i o => .ofOpt (partOf P t (get i) o)
  | _ => .stuck
def evNilCheck (x : V) : Tree V :=
  match x with
  | .ptr .. | .rptr .. | .fn (.func _) _ _ => .leaf x
  | _ => .stuck
def evExtract (x : V) (i : Nat) : Tree V :=
  match x with
  | .tup vs => bif Nat.blt i vs.len then .leaf (vs.nth i) else .stuck
  | _ => .stuck
/-- Parts laid into a row of cells. -/
def fillRow (P : Program) (place : Nat → Option (Nat × Nat)) : V → List (Nat × V) → Option V
  | cs, [] => some cs
  | cs, (i, v) :: rest => match place i with
    | some (off, z) => bif v.solid && (Nat.beq v.cells.len z && Nat.ble (off + z) cs.len) then fillRow P place (cs.splice off v.cells) rest else none
    | none => none
def fieldSpot (P : Program) (fields : Array Field) (i : Nat) : Option (Nat × Nat) :=
  match fields[i]? with
  | some fd => some (fd.offset, (tySize P fd.type).getD 0)
  | none => none
def evBuild (P : Program) (t : TypeId) (parts : List (Nat × V)) : Tree V :=
  match tyZero P t with
  | some zero => match P.underlying t with
    | some (.struct fields) => bif fields.toList.all (fun f => (tySize P f.type).isSome) then
        match fillRow P (fieldSpot P fields) zero parts with
        | some cs => .leaf (.agg cs)
        | none => .stuck
      else .stuck
    | some (.array _ e) => match tySize P e with
      | some z => match fillRow P (fun i => some (i * z, z)) zero parts with
        | some cs => .leaf (.agg cs)
        | none => .stuck
      | none => .stuck
    | _ => .stuck
  | none => .stuck
def rep (n : Nat) (z : V) : V := Nat.rec .nil (fun _ r => z.app r) n
/-- A new slice's cells: how many to a row, and what they hold. -/
def evBuildRow (P : Program) (t : TypeId) (len : Nat) (parts : List (Nat × V)) : Option (Nat × V) :=
  match P.underlying t with
  | some (.slice e) => match tySize P e, tyZero P e with
    | some z, some zero => bif Nat.beq zero.len z && Nat.ble (len * z) 16777216 then
        match fillRow P (fun i => some (i * z, z)) (rep len zero) parts with
        | some cs => some (z, cs)
        | none => none
      else none
    | _, _ => none
  | _ => none
/-- A slice of ours, its room forgotten. -/
def V.plain1 : V → V
  | .osp st b es i n _ => .osl st b es i n
  | v => v
def V.plain : V → V
  | .cons h t => .cons h.plain t.plain
  | .agg cs => .agg cs.plain
  | .tup vs => .tup vs.plain
  | .osp st b es i n c => bif st && (Nat.beq n 0 && Nat.blt 0 c) then .osp st b es i n c else .osl st b es i n
  | v => v
/-- A slice's bounds. -/
def evBounds {α : Type} (st : Bool) (n : Nat) (lo hi : Option V) (T : Bool → Nat → Nat → Tree α) : Tree α :=
  let low (st : Bool) (h : Nat) : Tree α := match lo with
    | none => T st 0 h
    | some (.int s _ j) => uptoInt (st && s) j h fun q => T (st && s) q h
    | some _ => .stuck
  match hi with
  | none => low st n
  | some (.int s _ j) => uptoInt (st && s) j n fun q => low (st && s) q
  | some _ => .stuck
/-- Whether a block has so many cells at least. -/
def hasCells (b : Blk) (k : Nat) : Bool :=
  match b with
  | .var cs => Nat.ble k cs.len
  | _ => false
/-- Whether it is the literal 0. -/
def isZeroV : V → Bool
  | .int true _ (.ofNat n) => Nat.beq n 0
  | _ => false
/-- A slice's first rows, none of them, without room. -/
def evSlice0 (P : Program) (t : TypeId) (x : V) (lo hi : Option V) (mx : V) : Tree V :=
  match lo with
  | some _ => .stuck
  | none => match hi with
    | none => .stuck
    | some hi => bif isZeroV hi && isZeroV mx then match P.underlying t with
        | some (.slice e) => match tySize P e with
          | some _ => match x with
            | .nilsl => .leaf .nilsl
            | .rsl st es n _ => .leaf (.esl (st && Nat.blt 0 n) es)
            | .osl st _ es _ n => .leaf (.esl (st && Nat.blt 0 n) es)
            | .osp st _ es _ _ c => .leaf (.esl (st && Nat.blt 0 c) es)
            | .esl nn es => .leaf (.esl nn es)
            | _ => .stuck
          | none => .stuck
        | _ => .stuck
      else .stuck
/-- A slice of a slice of ours; 'n' rows, room for 'c' at least; a third bound that is no more than what there is. -/
def evSlice3 (P : Program) (t : TypeId) (x : V) (lo hi mx : V) : Tree V :=
  match P.underlying t with
  | some (.slice e) => match tySize P e with
    | some z => match x.plain1 with
      | .osl st b es i n => bif Nat.beq z es then match mx with
          | .int s _ j => uptoInt (st && s) j n fun q => evBounds (st && s) q (some lo) (some hi) fun st a c => .leaf (.osl st b es (i + a) (c - a))
          | _ => .stuck
        else .stuck
      | _ => .stuck
    | none => .stuck
  | _ => .stuck
/-- Of a slice of ours with room for 'c' rows, the first ones: 'n' is how many there were. -/
def ospOf (st : Bool) (b es i n k : Nat) : V := bif st && Nat.beq k n then .osl st b es i k else .osp st b es i k n
def ospB (lo : Option V) (st : Bool) (b es i n lw hg : Nat) : V :=
  match lo with
  | none => ospOf st b es i n hg
  | some _ => .osl st b es (i + lw) (hg - lw)
def evSlice (P : Program) (h : Nat → Blk) (t : TypeId) (x : V) (lo hi mx : Option V) : Tree V :=
  match mx with
  | some mx => match evSlice0 P t x lo hi mx with
    | .stuck => match lo, hi with
      | some lo, some hi => evSlice3 P t x lo hi mx
      | _, _ => .stuck
    | T => T
  | none => match P.underlying t with
    | some .string => match x with
      | .str st l => evBounds st l.length lo hi fun st a b => .leaf (.str st ((l.drop a).take (b - a)))
      | _ => .stuck
    | some (.slice e) => match x with
      | .rsl st es n get => match tySize P e with
        | some z => bif Nat.beq z es then evBounds st n lo hi fun st a b => .leaf (.rsl st es (b - a) fun j => get (a + j)) else .stuck
        | none => .stuck
      | .osl st bl es i n => match tySize P e with
        | some z => bif Nat.beq z es then evBounds st n lo hi fun st a b => .leaf (ospB lo st bl es i n a b) else .stuck
        | none => .stuck
      | .osp st bl es i n c => match tySize P e with
        | some z => bif Nat.beq z es then evBounds st (match hi with | none => n | some _ => c) lo hi fun st a b => .leaf (.osl st bl es (i + a) (b - a)) else .stuck
        | none => .stuck
      | .nilsl => match tySize P e with
        | some _ => evBounds true 0 lo hi fun _ _ _ => .leaf .nilsl
        | none => .stuck
      | .esl nn es => match tySize P e with
        | some _ => evBounds true 0 lo hi fun _ _ _ => .leaf (.esl nn es)
        | none => .stuck
      | _ => .stuck
    | some (.array len e) => match x with
      | .ptr st bl es i o => match tySize P e with
        | some z => bif Nat.beq (i * es + o) ((i * es + o) / z * z) && hasCells (h bl) (i * es + o + len * z) then evBounds st len lo hi fun st a b => .leaf (.osl st bl z ((i * es + o) / z + a) (b - a)) else .stuck
        | none => .stuck
      | .rptr st _ _ get i o => match tySize P e with
        | some z => bif Nat.ble (o + len * z) (get i).len then evBounds st len lo hi fun st a b => .leaf (.rsl st z (b - a) fun q => elemAt (get i) o z (a + q)) else .stuck
        | none => .stuck
      | _ => .stuck
    | some (.pointer arr) => match x with
      | .ptr st bl es i o => match P.underlying arr with
        | some (.array len e) => match tySize P e with
          | some z => bif Nat.beq (i * es + o) ((i * es + o) / z * z) && hasCells (h bl) (i * es + o + len * z) then evBounds st len lo hi fun st a b => .leaf (.osl st bl z ((i * es + o) / z + a) (b - a)) else .stuck
          | none => .stuck
        | _ => .stuck
      | _ => .stuck
    | _ => .stuck
def evLen (P : Program) (t : TypeId) (x : V) : Tree V :=
  match P.underlying t with
  | some .string => match x with
    | .str st l => .leaf (mkInt st .i64 l.length)
    | _ => .stuck
  | some (.slice _) => match x.plain1 with
    | .rsl st _ n _ => .leaf (mkInt st .i64 n)
    | .osl st _ _ _ n => .leaf (mkInt st .i64 n)
    | .nilsl => .leaf (.int true .i64 0)
    | .esl _ _ => .leaf (.int true .i64 0)
    | _ => .stuck
  | some (.array n _) => .leaf (mkInt true .i64 n)
  | _ => .stuck
def ev2 (less : Bool) (x y : V) : Tree V :=
  match x with
  | .int s k a => match y with
    | .int s' _ b => .leaf (mkInt (s && s') k (match less with | true => (if b < a then b else a) | false => (if b > a then b else a)))
    | _ => .stuck
  | _ => .stuck
def evMinMax (less : Bool) : V → V → Tree V
  | x, .nil => .leaf x
  | x, .cons y r => (ev2 less x y).bind fun z => evMinMax less z r
  | _, _ => .stuck
def evCap (P : Program) (t : TypeId) (x : V) : Tree V :=
  match P.underlying t with
  | some (.slice _) => match x.plain1 with
    | .nilsl => .leaf (.int true .i64 0)
    | .esl _ _ => .leaf (.int true .i64 0)
    | _ => .stuck
  | _ => .stuck
def evBuiltin (P : Program) (b : Builtin) (ts : List TypeId) (args : V) : Option (Tree V) :=
  match b with
  | .len => some (match ts with
    | t :: _ => match args with
      | .cons x _ => evLen P t x
      | _ => .stuck
    | [] => .stuck)
  | .cap => some (match ts with
    | t :: _ => match args with
      | .cons x _ => evCap P t x
      | _ => .stuck
    | [] => .stuck)
  | .min => some (match args with | .cons x r => evMinMax true x r | _ => .stuck)
  | .max => some (match args with | .cons x r => evMinMax false x r | _ => .stuck)
  | _ => none

/-! ### Values brought together -/
/-- It is no row. -/
def V.one : V → Bool
  | .nil | .cons _ _ => false
  | _ => true
def sameRow : V → V → Bool
  | .nil, y => match y with | .nil => true | _ => false
  | .cons h t, y => match y with | .cons _ t' => h.one && sameRow t t' | _ => false
  | _, _ => false
def sameFn : Fn → Fn → Bool
  | .func f, .func g => Nat.beq f g
  | _, _ => false
/-- The one value where 'b' is true, the other where it is false. -/
def mergeV (b : Bool) : V → V → V
  | .nil, _ => .nil
  | .cons h t, y => match y with
    | .cons h' t' => .cons (mergeV b h h') (mergeV b t t')
    | _ => .junk
  | .int s k n, y => match y with
    | .int s' k' n' => if k = k' then (bif (s && s') && decide (n = n') then .int true k n else .int false k (bif b then n else n')) else .junk
    | _ => .junk
  | .bool s c, y => match y with
    | .bool s' c' => match s && s' with
      | true => match c, c' with
        | true, true => .bool true true
        | true, false => .bool false b
        | false, true => .bool false (!b)
        | false, false => .bool true false
      | false => .bool false (bif b then c else c')
    | _ => .junk
  | .str _ s, y => match y with
    | .str _ s' => .str false (bif b then s else s')
    | _ => .junk
  | .agg cs, y => match y with
    | .agg cs' => bif sameRow cs cs' then .agg (mergeV b cs cs') else .junk
    | _ => .junk
  | .tup cs, y => match y with
    | .tup cs' => bif sameRow cs cs' then .tup (mergeV b cs cs') else .junk
    | _ => .junk
  | .ptr st bl es i o, y => match y with
    | .ptr st' bl' es' i' o' => bif (st && st') && (Nat.beq bl bl' && (Nat.beq es es' && (Nat.beq i i' && Nat.beq o o'))) then .ptr true bl es i o else .junk
    | _ => .junk
  | .osl st bl es i n, y => match y with
    | .osl st' bl' es' i' n' => bif (st && st') && (Nat.beq bl bl' && (Nat.beq es es' && (Nat.beq i i' && Nat.beq n n'))) then .osl true bl es i n else .junk
    | _ => .junk
  | .nilptr, y => match y with | .nilptr => .nilptr | _ => .junk
  | .nilfn, y => match y with | .nilfn => .nilfn | _ => .junk
  | .nilmap, y => match y with | .nilmap => .nilmap | _ => .junk
  | .nilif, y => match y with
    | .nilif => .nilif
    | .ifc _ c => .ifc false (bif b then true else c)
    | _ => .junk
  | .ifc _ c, y => match y with
    | .ifc _ c' => .ifc false (bif b then c else c')
    | .nilif => .ifc false (bif b then c else true)
    | _ => .junk
  | .undef, y => match y with | .undef => .undef | _ => .junk
  | .nilsl, y => match y with
    | .nilsl => .nilsl
    | .rsl _ es n get => .rsl false es (bif b then 0 else n) get
    | _ => .junk
  | .rsl _ es n get, y => match y with
    | .rsl _ es' n' get' => bif Nat.beq es es' then .rsl false es (bif b then n else n') (fun j => bif b then get j else get' j) else .junk
    | .nilsl => .rsl false es (bif b then n else 0) get
    | _ => .junk
  | _, _ => .junk
def mergeOne (b : Bool) (x y : V) : V := bif x.one then mergeV b x y else .junk
/-- One of so many values, or rows of values, by a number that is not known ahead. -/
def selV (row : Nat → V) (j : Nat) (n : Nat) : V := Nat.rec (row 0) (fun k r => mergeOne (Nat.beq j (k + 1)) (row (k + 1)) r) (n - 1)
def selR (row : Nat → V) (j : Nat) (n : Nat) : V := Nat.rec (row 0) (fun k r => mergeV (Nat.beq j (k + 1)) (row (k + 1)) r) (n - 1)
def selOk (row : Nat → V) (j : Nat) (n : Nat) : Bool := allB (n - 1) fun k => sameRow (row (k + 1)) (selR row j (k + 1))
def evIndexAddr (P : Program) (t : TypeId) (x ix : V) : Tree V :=
  match ix with
  | .int s _ j => match P.underlying t with
    | some (.slice e) => match tySize P e with
      | some z => match x with
        | .rsl st es n get => bif Nat.beq z es then atInt (st && s) j n fun q => .leaf (.rptr (st && s) es n get q 0) else .stuck
        | .osl st b es i n => bif Nat.beq z es then atInt (st && s) j n fun q => .leaf (.ptr (st && s) b es (i + q) 0) else .stuck
        | _ => .stuck
      | none => .stuck
    | some (.array len e) => match tySize P e with
      | some z => match s with
        | true => atInt true j len fun q => match x with
          | .ptr st b es i o => .leaf (.ptr st b es i (o + q * z))
          | .rptr st es n get i o => .leaf (.rptr st es n get i (o + q * z))
          | _ => .stuck
        | false => match x with
          | .rptr st _ _ get i o => bif (st && Nat.ble (o + len * z) (get i).len) && selOk (elemAt (get i) o z) j.toNat len then
              atInt false j len fun q => .leaf (.rptr false z 1 (fun _ => selR (elemAt (get i) o z) q len) 0 0) else .stuck
          | _ => .stuck
      | none => .stuck
    | _ => .stuck
  | _ => .stuck
def evIndex (P : Program) (t : TypeId) (x ix : V) : Tree V :=
  match ix with
  | .int s _ j => match P.underlying t with
    | some (.array len e) => match tySize P e with
      | some z => match s with
        | true => atInt true j len fun q => match x with
          | .agg cs => .ofOpt (partOf P e cs (q * z))
          | _ => .stuck
        | false => match x with
          | .agg cs => bif Nat.blt 0 len && allB len (fun k => (partOf P e cs (k * z)).isSome) then
              atInt false j len fun q => .leaf (selV (fun k => (partOf P e cs (k * z)).getD .junk) q len) else .stuck
          | _ => .stuck
      | none => .stuck
    | some .string => match x with
      | .str st l => atInt (st && s) j l.length fun q => .leaf (mkInt (st && s) .u8 (l.getD q 0).toNat)
      | _ => .stuck
    | _ => .stuck
  | _ => .stuck

/-! ### Maps -/
def mkOf (P : Program) (kt : TypeId) : Option MK :=
  match P.underlying kt with
  | some (.int k) => some (.int k)
  | some .string => some .str
  | _ => none
def mkSame : MK → MK → Bool
  | .int k, .int k' => decide (k = k')
  | .str, .str => true
  | _, _ => false
/-- A key, and whether it is a literal. -/
def keyOf (kd : MK) (x : V) : Option (Bool × Value) :=
  match x with
  | .int st k n => match kd with
    | .int k' => if k = k' then some (st, .int k n) else none
    | .str => none
  | .str st s => match kd with
    | .str => some (st, .string ⟨s.toArray⟩)
    | .int _ => none
  | _ => none
def zeroV (P : Program) (t : TypeId) : Option V :=
  match P.info? t with
  | some i => match i.zero with
    | some z => some (V.ofValue z)
    | none => none
  | none => none
def foundV (st has : Bool) (v z : V) : V :=
  match st with
  | true => match has with | true => v | false => z
  | false => mergeOne has v z
def withOk (ok st has : Bool) (v : V) : V :=
  match ok with
  | true => .tup (.cons v (.cons (mkBool st has) .nil))
  | false => v
def evLookup (P : Program) (h : Nat → Blk) (t : TypeId) (x ix : V) (ok : Bool) : Tree V :=
  match P.underlying t with
  | some (.map kt et) => match mkOf P kt, zeroV P et with
    | some kd, some z => match keyOf kd ix with
      | some (sk, key) => match x with
        | .nilmap => .leaf (withOk ok true false z)
        | .mp b => match h b with
          | .mapV kd' st f _ => bif mkSame kd kd' then .leaf (withOk ok (st && sk) (f key).1 (foundV (st && sk) (f key).1 (f key).2 z)) else .stuck
          | _ => .stuck
        | .rmp st kd' has get => bif mkSame kd kd' then .leaf (withOk ok (st && sk) (has key) (foundV (st && sk) (has key) (get key) z)) else .stuck
        | _ => .stuck
      | none => .stuck
    | _, _ => .stuck
  | _ => .stuck
/-- What a map's block is behind what is put there, or taken away. -/
def putMap (blk : Blk) (kd : MK) (sk : Bool) (key : Value) (y : Bool × V) : Option Blk :=
  match blk with
  | .mapV kd' st f ks => bif mkSame kd kd' then some (.mapV kd' (st && sk) (fun k => bif keyEq k key then y else f k) (putKs y.1 sk ks key)) else none
  | _ => none
def evMapPut (P : Program) (h : Nat → Blk) (t : TypeId) (x k : V) (y : Bool × V) : Option (Nat × Blk) :=
  match P.underlying t with
  | some (.map kt _) => match mkOf P kt with
    | some kd => match keyOf kd k with
      | some (sk, key) => match x with
        | .mp b => match putMap (h b) kd sk key y with
          | some blk => some (b, blk)
          | none => none
        | _ => none
      | none => none
    | none => none
  | _ => none
def evMakeMap (P : Program) (t : TypeId) (r : Option V) : Option Blk :=
  match P.underlying t with
  | some (.map kt _) => match mkOf P kt with
    | some kd => match r with
      | none => some (.mapV kd true (fun _ => (false, .junk)) (some (0, [])))
      | some (.int _ _ _) => some (.mapV kd true (fun _ => (false, .junk)) (some (0, [])))
      | some _ => none
    | none => none
  | _ => none

/-! Ranges over maps -/
def evRange (P : Program) (h : Nat → Blk) (t : TypeId) (x : V) : Option Blk :=
  match P.underlying t with
  | some (.map _ _) => match x with
    | .nilmap => some (.iter none 0 [] 0)
    | .mp b => match h b with
      | .mapV _ _ _ ks => match ks with
        | some (c, _) => some (.iter (some b) c [] c)
        | none => none
      | _ => none
    | _ => none
  | _ => none
/-- One of some, whichever. -/
def oneOf {α β : Type} (f : α → Tree β) : List α → Tree β
  | [] => .stuck
  | x :: l => match l with
    | [] => f x
    | _ :: _ => .both (f x) (oneOf f l)
def evNext (h : Nat → Blk) (it : V) (isString : Bool) : Tree (V × Option (Nat × Blk)) :=
  match isString with
  | true => .stuck
  | false => match it with
    | .ptr st b es i o => bif st && (Nat.beq es 0 && (Nat.beq i 0 && Nat.beq o 0)) then match h b with
      | .iter mb since seen last => match mb with
        | none => .leaf (.tup (.cons (.bool true false) .nil), none)
        | some mb => match h mb with
          | .mapV _ _ f ks => match ks with
            | some (c, l) => bif oldL since l && Nat.ble since last then
                match leftL seen l with
                | [] => .leaf (.tup (.cons (.bool true false) .nil), none)
                | left => oneOf (fun e => .leaf (.tup (.cons (.bool true true) (.cons (V.ofLeaf e.2) (.cons (f e.2).2 .nil))), some (b, .iter (some mb) since (seen ++ [e.1]) c))) left
              else .stuck
            | none => .stuck
          | _ => .stuck
      | _ => .stuck else .stuck
    | _ => .stuck
def evEntry (h : Nat → Blk) (it : V) : Tree V :=
  match it with
  | .ptr st b es i o => bif st && (Nat.beq es 0 && (Nat.beq i 0 && Nat.beq o 0)) then match h b with
    | .iter mb since seen last => match mb with
      | none => .stuck
      | some mb => match h mb with
        | .mapV _ _ f ks => match ks with
          | some (c, l) => match seen.reverse with
            | [] => .stuck
            | x :: _ => bif oldL since l && Nat.beq c last then match l.find? fun e => Nat.beq e.1 x with
                | some e => .leaf (.tup (.cons (V.ofLeaf e.2) (.cons (f e.2).2 .nil)))
                | none => .stuck
              else .stuck
          | none => .stuck
        | _ => .stuck
    | _ => .stuck else .stuck
  | _ => .stuck

/-- What a call is known to answer: under a premise, or under none. -/
inductive Ans where
  | sure (v : V)
  | where_ (p : Prop) (v : V)
  /-- The one where the test is true, the other where it is false. -/
  | fork (b : Bool) (v v' : V)

structure Env where
  P : Program
  Γ : FuncId → V → Option Ans
  /-- What is known of loops: of which function, by the number of the first region in them. -/
  lp : FuncId → Nat → Option ((B : Base) → St B → Tree (Ex × St B))
  /-- Whether the ways behind a test are brought together. -/
  mg : Bool
  /-- At which tests one way alone is looked at (that it is taken must be shown): by the function, and the temporary that is tested. -/
  way : FuncId → Nat → Option Bool := fun _ _ => none
def Env.wayOf (E : Env) (f : FuncId) (c : Operand) : Option Bool :=
  match c with
  | .tmp t => E.way f t
  | _ => none

def opnd {B : Base} (s : St B) : Operand → V
  | .tmp t => s.tmp t
  | .const v => V.ofValue v
  | .global g => match glob g with
    | some v => v
    | none => .junk
  | .func f => .fn (.func f) .nil .nil

/-- A call's callee and its arguments. -/
def callee (f : V) (args : V) : Option (FuncId × V) :=
  match f with
  | .fn (.func g) first cap => some (g, first.app (args.app cap))
  | _ => none

def allN (n : Nat) (f : Nat → Bool) : Bool := Nat.rec true (fun i r => r && f i) n
/-- All of it is known as literals. -/
def V.known : V → Bool
  | .cons h t => h.known && t.known
  | .int st _ _ => st
  | .bool st _ => st
  | .str st _ => st
  | .ifc st _ => st
  | .agg cs => cs.known
  | .tup vs => vs.known
  | .ptr .. | .osl .. | .osp .. | .rptr .. | .rmp .. | .junk => false
  | .rsl st _ n get => st && allN n fun i => (get i).known
  | .fn _ a b => a.known && b.known
  | _ => true

/-- No row of what was there is in it. -/
def V.rowless : V → Bool
  | .cons h t => h.rowless && t.rowless
  | .agg cs => cs.rowless
  | .tup vs => vs.rowless
  | .fn _ a b => a.rowless && b.rowless
  | .rptr .. | .rsl .. | .rmp .. => false
  | _ => true
/-- Slices of our own among arguments, as rows that stay as they are. -/
def freezeW (h : Nat → Blk) (x : V) : V :=
  match x with
  | .osl st b es i n => match h b with
    | .var cs => bif st && (cs.clean && Nat.ble ((i + n) * es) cs.len) then .rsl true es n fun j => (cs.drop ((i + j) * es)).take es else x
    | .arr es' _ get => bif Nat.beq es es' then .rsl st es n fun j => get (i + j) else x
    | _ => x
  | _ => x
def freezeV (h : Nat → Blk) (x : V) : V := freezeW h x.plain1
def freeze (h : Nat → Blk) : V → V
  | .cons a t => .cons (freeze h a) (freeze h t)
  | .agg cs => .agg (freeze h cs)
  | v => freezeV h v
/-- What must hold that they are such rows. -/
def frNeedW (h : Nat → Blk) (x : V) : Option Prop :=
  match x with
  | .osl st b es i n => match h b with
    | .arr es' k _ => bif Nat.beq es es' then (bif st && Nat.ble (i + n) k then none else some (i + n ≤ k)) else none
    | _ => none
  | _ => none
def frNeedV (h : Nat → Blk) (x : V) : Option Prop := frNeedW h x.plain1
def bothP : Option Prop → Option Prop → Option Prop
  | none, q => q
  | some p, none => some p
  | some p, some q => some (p ∧ q)
def frNeed (h : Nat → Blk) : V → Option Prop
  | .cons a t => bothP (frNeed h a) (frNeed h t)
  | .agg cs => frNeed h cs
  | v => frNeedV h v
/-- What names no block of ours. -/
def V.scrub : V → V
  | .cons a t => .cons a.scrub t.scrub
  | .agg cs => .agg cs.scrub
  | .tup cs => .tup cs.scrub
  | .fn f a b => .fn f a.scrub b.scrub
  | .ptr .. | .osl .. | .osp .. | .yld _ | .mp _ => .junk
  | v => v
def V.leaves (g : V → V) : V → V
  | .cons a t => .cons (a.leaves g) (t.leaves g)
  | .agg cs => .agg (cs.leaves g)
  | .tup cs => .tup (cs.leaves g)
  | .fn f a b => .fn f (a.leaves g) (b.leaves g)
  | v => g v
/-- What is ours, as what stays as it is: pointers, slices and maps. -/
def fzLeafW (h : Nat → Blk) (g : V → V) (x : V) : V :=
  match x with
  | .ptr st b es i o => match h b with
    | .var cs => bif st then .rptr true cs.len 1 (fun _ => (g cs).scrub) 0 (i * es + o) else x
    | .arr es' k get => bif Nat.beq es es' && (st && Nat.blt i k) then .rptr true es k get i o else x
    | _ => x
  | .osl st b es i n => match h b with
    | .var cs => bif st && Nat.ble ((i + n) * es) cs.len then .rsl true es n fun j => ((g cs).scrub.drop ((i + j) * es)).take es else x
    | .arr es' k get => bif Nat.beq es es' && (st && Nat.ble (i + n) k) then .rsl st es n fun j => get (i + j) else x
    | _ => x
  | .mp b => match h b with
    | .mapV kd st f _ => .rmp st kd (fun k => (f k).1) fun k => (f k).2.scrub
    | _ => x
  | _ => x
def fzLeaf (h : Nat → Blk) (g : V → V) (x : V) : V := fzLeafW h g x.plain1
def fz (h : Nat → Blk) (k : Nat) : V → V := Nat.rec (fun v => v) (fun _ ih v => v.leaves (fzLeaf h ih)) k
def withNeed {α : Type} : Option Prop → Tree α → Tree α
  | none, T => T
  | some p, T => .need p T

/-- Operations that change nothing that is there. -/
def evQ (E : Env) (ρ : Operand → V) (h : Nat → Blk) (o : Op) : Option (Tree V) :=
  match o with
  | .move x => some (.leaf (ρ x))
  | .assign x => some (.leaf (ρ x))
  | .pick c x y => some (evPick (ρ c) (ρ x) (ρ y))
  | .build t parts => some (evBuild E.P t (parts.toList.map fun p => (p.1, ρ p.2)))
  | .load t a => some (evLoad E.P h t (ρ a))
  | .binOp op t x y _ => match evIfc E.P op t x y (ρ x) (ρ y) with
    | some T => some T
    | none => some (evBin E.P op t (ρ x) (ρ y))
  | .unOp op _ x => some (evUn op (ρ x))
  | .convert src dst x => match evBytes E.P src dst (ρ x) with
    | some T => some T
    | none => some (evConv E.P h src dst (ρ x))
  | .makeFunc f first cap => some (.leaf (.fn f (.ofList (first.toList.map ρ)) (.ofList (cap.toList.map ρ))))
  | .slice t x lo hi mx => some (evSlice E.P h t (ρ x) (lo.map ρ) (hi.map ρ) (mx.map ρ))
  | .fieldAddr s x f => some (evFieldAddr E.P s (ρ x) f)
  | .field t x f => some (evField E.P t (ρ x) f)
  | .indexAddr t x ix => some (evIndexAddr E.P t (ρ x).plain1 (ρ ix))
  | .index t x ix => some (evIndex E.P t (ρ x) (ρ ix))
  | .extract x i => some (evExtract (ρ x) i)
  | .lookup t x ix ok => some (evLookup E.P h t (ρ x) (ρ ix) ok)
  | .nilCheck x => some (evNilCheck (ρ x))
  | .call c => match c.callee with
    | .builtin b => evBuiltin E.P b c.argTypes.toList (.ofList (c.args.toList.map ρ))
    | .value f => match callee (ρ f) (.ofList (c.args.toList.map ρ)) with
      | some (g, args) => match E.Γ g args with
        | some (.sure v) => bif args.clean && v.clean then some (.leaf v) else none
        | some (.where_ p v) => bif args.clean && v.clean then some (.need p (.leaf v)) else none
        | some (.fork b v v') => bif args.clean && (v.clean && v'.clean) then some (.node b (.leaf v) (.leaf v')) else none
        | none => none
      | none => none
    | _ => none
  | _ => none

/-- A call that is handed slices of our own, and only reads them. -/
def evFrozen (E : Env) (ρ : Operand → V) (h : Nat → Blk) (f : Operand) (c : Call) : Option (Tree V) :=
  match callee (ρ f) (.ofList (c.args.toList.map ρ)) with
  | some (g, args) => bif args.clean then none else bif (freeze h args).clean then match E.Γ g (freeze h args) with
    | some (.sure v) => bif v.clean && v.rowless then some (withNeed (frNeed h args) (.leaf v)) else none
    | some (.where_ p v) => bif v.clean && v.rowless then some (withNeed (frNeed h args) (.need p (.leaf v))) else none
    | some (.fork _ _ _) => none
    | none => none
    else none
  | none => none

/-- A new variable. -/
def newVar (h : PT Blk) (n : Nat) (cs : V) : V × PT Blk × Nat := (.ptr true n 0 0 0, h.set n (.var cs), n + 1)
/-- A block behind a store. -/
def evStoreB (blk : Blk) (st : Bool) (es i o z : Nat) (v : V) : Tree Blk :=
  match blk with
  | .var cs => bif st && Nat.ble (i * es + o + z) cs.len then .leaf (.var (cs.splice (i * es + o) v.cells)) else .stuck
  | .arr es' n get => bif Nat.beq es es' && (Nat.ble (o + z) es && v.clean) then
      atIdx st i n (.leaf (.arr es n fun j => bif Nat.beq j i then (get i).splice o v.cells else get j))
    else .stuck
  | _ => .stuck
def evStore (P : Program) (g : Nat → Blk) (h : PT Blk) (t : TypeId) (x v : V) : Tree (PT Blk) :=
  match tySize P t with
  | some z => bif Nat.beq v.cells.len z && (v.cells.allCell && v.solid) then
      match x with
      | .ptr st b es i o => (evStoreB (look g h b) st es i o z v).bind fun blk => .leaf (h.set b blk)
      | _ => .stuck
    else .stuck
  | none => .stuck

/-- The rows that a slice or a text holds: whether all is known, how many, and each. -/
def rowsOfW (h : Nat → Blk) (z : Nat) (x : V) : Option (Bool × Nat × (Nat → V)) :=
  match x with
  | .nilsl => some (true, 0, fun _ => .nil)
  | .esl _ _ => some (true, 0, fun _ => .nil)
  | .rsl st es n get => bif Nat.beq z es then some (st, n, get) else none
  | .osl st b es i n => bif Nat.beq z es then match h b with
      | .var cs => bif st && Nat.ble ((i + n) * z) cs.len then some (true, n, fun j => (cs.drop ((i + j) * z)).take z) else none
      | .arr es' k get => bif Nat.beq z es' && (st && Nat.ble (i + n) k) then some (true, n, fun j => get (i + j)) else none
      | _ => none
    else none
  | _ => none
def rowsOf (h : Nat → Blk) (z : Nat) (x : V) : Option (Bool × Nat × (Nat → V)) := rowsOfW h z x.plain1
/-- The rows of the slice that is appended to: it begins where its block begins. -/
def baseOf (h : Nat → Blk) (z : Nat) (x : V) : Option (Bool × Nat × (Nat → V) × Prop × Option Nat) :=
  match x with
  | .nilsl => some (true, 0, (fun _ => .nil), True, none)
  | .esl _ _ => some (true, 0, (fun _ => .nil), True, none)
  | .osl st b es i n => bif Nat.beq z es && Nat.beq i 0 then match h b with
      | .var cs => bif st && Nat.ble (n * z) cs.len then some (true, n, (fun j => (cs.drop (j * z)).take z), True, some b) else none
      | .arr es' k get => bif Nat.beq z es' then match st with
          | true => bif Nat.ble n k then some (true, n, get, True, some b) else none
          | false => some (false, n, get, n ≤ k, some b)
        else none
      | _ => none
    else none
  | _ => none
/-- The first rows, one behind the other. -/
def catRows (get : Nat → V) (n : Nat) : V := Nat.rec .nil (fun j r => r.app (get j)) n
/-- The old rows, and so many new ones behind them. -/
def rowsFrom (old : Nat → V) (k : Nat) (new : Nat → V) (m : Nat) : Nat → V := Nat.rec old (fun q acc j => bif Nat.beq j (k + q) then new q else acc j) m
def tyBytes (P : Program) (t : TypeId) : Option Nat :=
  match P.info? t with
  | some i => some i.bytes
  | none => none
/-- The old rows, and the new ones behind them, whose number is not known ahead. -/
def rowsCat (old : Nat → V) (k : Nat) (new : Nat → V) : Nat → V := bif Nat.beq k 0 then new else fun j => bif Nat.blt j k then old j else new (j - k)
/-- Room for so many rows. -/
def fits (k by_ : Nat) : Prop := k * by_ ≤ 140737488355328 ∧ k ≤ 9223372036854775807
def fitsB (k by_ : Nat) : Bool := Nat.ble (k * by_) 140737488355328 && Nat.ble k 9223372036854775807
def lostB (h : PT Blk) (b : Option Nat) : PT Blk :=
  match b with
  | some b => h.set b .any
  | none => h
/-- Rows laid over a block's, from row 'i' on. -/
def layRows (blk : Blk) (z i : Nat) (st : Bool) (m : Nat) (new : Nat → V) : Tree Blk :=
  match blk with
  | .var cs => bif st && (Nat.ble ((i + m) * z) cs.len && allN m (fun j => (new j).allCell && Nat.beq (new j).len z)) then .leaf (.var (cs.splice (i * z) (catRows new m))) else .stuck
  | .arr es k get => bif Nat.beq z es then .need (i + m ≤ k ∧ ∀ j, j < m → (new j).allCell = true ∧ (new j).clean = true) (.leaf (.arr es k fun j => bif Nat.ble i j && Nat.blt j (i + m) then new (j - i) else get j)) else .stuck
  | _ => .stuck
/-- Only where a number is at most another. -/
def leNeed {α : Type} (st : Bool) (a b : Nat) (T : Tree α) : Tree α :=
  match st with
  | true => bif Nat.ble a b then T else .stuck
  | false => .need (a ≤ b) T
/-- Rows appended where there is room for them. -/
def evAppendP (P : Program) (g : Nat → Blk) (h : PT Blk) (n : Nat) (e : TypeId) (s x : V) : Tree (V × PT Blk × Nat) :=
  match tySize P e with
  | some z => bif Nat.blt 0 z then match s with
    | .osp st b es i k c => bif Nat.beq z es then match rowsOf (look g h) z x with
        | some (st', m, new) => leNeed (st && st') (k + m) c ((layRows (look g h b) z (i + k) (st && st') m new).bind fun blk => .leaf (.osp (st && st') b es i (k + m) c, h.set b blk, n))
        | none => .stuck
      else .stuck
    | _ => .stuck
    else .stuck
  | none => .stuck
/-- Rows are brought to naught. -/
def evClear (P : Program) (g : Nat → Blk) (h : PT Blk) (n : Nat) (ts : List TypeId) (args : V) : Tree (V × PT Blk × Nat) :=
  match ts with
  | t :: _ => match P.underlying t with
    | some (.slice e) => match tySize P e, tyZero P e with
      | some z, some zero => bif Nat.beq zero.len z && Nat.blt 0 z then match args with
        | .cons s _ => match s.plain1 with
          | .osl st b es i k => bif Nat.beq z es then (layRows (look g h b) z i st k fun _ => zero).bind fun blk => .leaf (.tup .nil, h.set b blk, n) else .stuck
          | .nilsl => .leaf (.tup .nil, h, n)
          | _ => .stuck
        | _ => .stuck
        else .stuck
      | _, _ => .stuck
    | _ => .stuck
  | _ => .stuck
/-- Rows are copied over others; no more than there are of the former are asked for. -/
def evCopy (P : Program) (g : Nat → Blk) (h : PT Blk) (n : Nat) (ts : List TypeId) (args : V) : Tree (V × PT Blk × Nat) :=
  match ts with
  | t :: _ => match P.underlying t with
    | some (.slice e) => match tySize P e with
      | some z => bif Nat.blt 0 z then match args with
        | .cons d (.cons x _) => match d.plain1 with
          | .osl st b es i k => bif Nat.beq z es then match rowsOf (look g h) z x with
              | some (st', m, new) => leNeed (st && st') m k ((layRows (look g h b) z i (st && st') m new).bind fun blk => .leaf (mkInt (st && st') .i64 m, h.set b blk, n))
              | none => .stuck
            else .stuck
          | .esl _ _ => match rowsOf (look g h) z x with
            | some _ => .leaf (.int true .i64 0, h, n)
            | none => .stuck
          | .nilsl => match rowsOf (look g h) z x with
            | some _ => .leaf (.int true .i64 0, h, n)
            | none => .stuck
          | _ => .stuck
        | _ => .stuck
        else .stuck
      | none => .stuck
    | _ => .stuck
  | _ => .stuck
/-- So many rows of a new block: none: a slice that is not nil. -/
def newRows (n z k : Nat) : V := bif Nat.beq k 0 then .esl true z else .osl true n z 0 k
/-- A new row of zeros. -/
def evMakeSlice (P : Program) (h : PT Blk) (n : Nat) (t : TypeId) (len cap : V) : Tree (V × PT Blk × Nat) :=
  match P.underlying t with
  | some (.slice e) => match tySize P e, tyZero P e, tyBytes P e with
    | some z, some zero, some by_ => bif Nat.beq zero.len z && Nat.blt 0 z then match len with
      | .int st _ j => match cap with
        | .int st' _ j' => match st && st' with
          | true => match j with
            | .ofNat k => bif decide (j = j') && fitsB k by_ then .leaf (newRows n z k, h.set n (.var (catRows (fun _ => zero) k)), n + 1) else
              match j' with
              | .ofNat c => bif Nat.blt k c && fitsB c by_ then .leaf (.osp true n z 0 k c, h.set n (.var (catRows (fun _ => zero) c)), n + 1) else .stuck
              | _ => .stuck
            | _ => .stuck
          | false => .need (0 ≤ j ∧ j = j' ∧ fits j.toNat by_) (.leaf (.osl false n z 0 j.toNat, h.set n (.arr z j.toNat fun _ => zero), n + 1))
        | _ => .stuck
      | _ => .stuck
      else .stuck
    | _, _, _ => .stuck
  | _ => .stuck
/-- A new slice of so many rows, a literal number. -/
def evMakeLit (P : Program) (t : TypeId) (len cap : V) : Option (Nat × Nat × V) :=
  match P.underlying t with
  | some (.slice e) => match tySize P e, tyZero P e, tyBytes P e with
    | some z, some zero, some by_ => bif Nat.beq zero.len z && Nat.blt 0 z then match len with
      | .int true _ (.ofNat k) => match cap with
        | .int true _ (.ofNat k') => bif Nat.beq k k' && fitsB k by_ then some (z, k, catRows (fun _ => zero) k) else none
        | _ => none
      | _ => none
      else none
    | _, _, _ => none
  | _ => none
/-- The rows that are there, as cells. -/
def oldCells (h : Nat → Blk) (z : Nat) (s : V) (old : Nat → V) (k : Nat) : V :=
  match s with
  | .osl _ b _ _ _ => match h b with
    | .var cs => bif Nat.ble (k * z) cs.len then cs.take (k * z) else catRows old k
    | _ => catRows old k
  | _ => catRows old k
def evAppend (P : Program) (g : Nat → Blk) (h : PT Blk) (n : Nat) (ts : List TypeId) (args : V) : Tree (V × PT Blk × Nat) :=
  match ts with
  | [t, t'] => bif Nat.beq t t' then match P.underlying t with
    | some (.slice e) => match tySize P e, tyZero P e, tyBytes P e with
      | some z, some zero, some by_ => bif Nat.beq zero.len z && Nat.blt 0 z then match args with
        | .cons s (.cons x .nil) => match baseOf (look g h) z s, rowsOf (look g h) z x with
          | some (st, k, old, pre, b), some (st', m, new) =>
            match st' with
            | true => bif Nat.beq m 0 then .leaf (s, h, n) else
              bif allN m (fun j => (new j).allCell && Nat.beq (new j).len z) then match st with
              | true => bif fitsB (k + m) by_ then .leaf (.osl true n z 0 (k + m), (lostB h b).set n (.var ((oldCells (look g h) z s old k).app (catRows new m))), n + 1) else .stuck
              | false => bif allN m (fun j => (new j).clean) then .need (pre ∧ fits (k + m) by_) (.leaf (.osl false n z 0 (k + m), (lostB h b).set n (.arr z (k + m) (rowsFrom old k new m)), n + 1)) else .stuck
              else .stuck
            | false => match b with
              | none => .need (pre ∧ fits m by_ ∧ ∀ j, j < m → (new j).allCell = true ∧ (new j).clean = true) (.leaf (.osl false n z 0 m, h.set n (.arr z m new), n + 1))
              | some b => bif !st || allN k (fun j => (old j).clean) then .need (pre ∧ fits (k + m) by_ ∧ ∀ j, j < m → (new j).allCell = true ∧ (new j).clean = true) (.leaf (.osl false n z 0 (k + m), (h.set b .any).set n (.arr z (k + m) (rowsCat old k new)), n + 1)) else .stuck
          | _, _ => .stuck
        | _ => .stuck
        else .stuck
      | _, _, _ => .stuck
    | _ => .stuck
    else .stuck
  | _ => .stuck

/-- So many zero rows appended to nil. -/
def evAppendZ (P : Program) (h : PT Blk) (n : Nat) (ts : List TypeId) (j : Nat) : Tree (V × PT Blk × Nat) :=
  match ts with
  | [t, t'] => match P.underlying t' with
    | some (.int _) => match P.underlying t with
      | some (.slice e) => match tySize P e, tyZero P e, tyBytes P e with
        | some z, some zero, some by_ => bif Nat.beq zero.len z && (Nat.blt 0 z && (Nat.blt 0 j && fitsB j by_)) then .leaf (.osl true n z 0 j, h.set n (.var (catRows (fun _ => zero) j)), n + 1) else .stuck
        | _, _, _ => .stuck
      | _ => .stuck
    | _ => .stuck
  | _ => .stuck
/-- Rows appended: where there is room for them, if that is known. -/
def evAppendX (P : Program) (g : Nat → Blk) (h : PT Blk) (n : Nat) (ts : List TypeId) (args : V) : Tree (V × PT Blk × Nat) :=
  match args with
  | .cons (.osp st b es i k c) (.cons x .nil) => match ts with
    | [t, t'] => bif Nat.beq t t' then match P.underlying t with
      | some (.slice e) => evAppendP P g h n e (.osp st b es i k c) x
      | _ => .stuck
      else .stuck
    | _ => .stuck
  | .cons .nilsl (.cons (.int true _ (.ofNat j)) .nil) => evAppendZ P h n ts j
  | _ => evAppend P g h n ts args
/-- What a call comes to: over what the heap is told against, the heap, and how many blocks are named. -/
abbrev CallF := (Nat → Blk) → FuncId ⊕ Nat → V → PT Blk → Nat → Tree (V × PT Blk × Nat)
/-- A call's callee, which may be the next round of a range over a function, and its arguments. -/
def calleeY (f : V) (args : V) : Option ((FuncId ⊕ Nat) × V) :=
  match f with
  | .yld b => some (.inr b, args)
  | f => match callee f args with
    | some (g, out) => some (.inl g, out)
    | none => none
/-- One operation. -/
def evOp (E : Env) (call : CallF) {B : Base} (s : St B) (o : Op) : Tree (V × PT Blk × Nat) :=
  match evQ E (opnd s) s.blk o with
  | some T => T.bind fun v => .leaf (v, s.h, s.n)
  | none => match o with
    | .alloc t => match tyZero E.P t with
      | some cs => .leaf (newVar s.h s.n cs)
      | none => .stuck
    | .box _ x => bif (opnd s x).solid then .leaf (newVar s.h s.n (opnd s x).cells) else .stuck
    | .buildSlice t len parts => match evBuildRow E.P t len (parts.toList.map fun p => (p.1, opnd s p.2)) with
      | some (z, cs) => .leaf (newRows s.n z len, s.h.set s.n (.var cs), s.n + 1)
      | none => .stuck
    | .store t a x => (evStore E.P B.h s.h t (opnd s a) (opnd s x)).bind fun h => .leaf (.undef, h, s.n)
    | .call c => match c.callee with
      | .value f => match evFrozen E (opnd s) s.blk f c with
        | some T => T.bind fun v => .leaf (v, s.h, s.n)
        | none => match calleeY (opnd s f) (.ofList (c.args.toList.map (opnd s))) with
          | some (g, args) => call B.h g args s.h s.n
          | none => .stuck
      | .builtin b => match b with
        | .append => evAppendX E.P B.h s.h s.n c.argTypes.toList (.ofList (c.args.toList.map (opnd s)))
        | .clear => evClear E.P B.h s.h s.n c.argTypes.toList (.ofList (c.args.toList.map (opnd s)))
        | .copy => evCopy E.P B.h s.h s.n c.argTypes.toList (.ofList (c.args.toList.map (opnd s)))
        | .delete => match c.argTypes.toList with
          | t :: _ => match c.args.toList with
            | [m, k] => match evMapPut E.P s.blk t (opnd s m) (opnd s k) (false, .junk) with
              | some (b, blk) => .leaf (.tup .nil, s.h.set b blk, s.n)
              | none => .stuck
            | _ => .stuck
          | [] => .stuck
        | _ => .stuck
      | _ => .stuck
    | .makeMap t r => match evMakeMap E.P t (r.map (opnd s)) with
      | some blk => .leaf (.mp s.n, s.h.set s.n blk, s.n + 1)
      | none => .stuck
    | .makeSlice t len cap => evMakeSlice E.P s.h s.n t (opnd s len) (opnd s cap)
    | .range t x => match evRange E.P s.blk t (opnd s x) with
      | some blk => .leaf (.ptr true s.n 0 0 0, s.h.set s.n blk, s.n + 1)
      | none => .stuck
    | .entry it => (evEntry s.blk (opnd s it)).bind fun v => .leaf (v, s.h, s.n)
    | .next it str => (evNext s.blk (opnd s it) str).bind fun r => match r.2 with
      | some (b, blk) => .leaf (r.1, s.h.set b blk, s.n)
      | none => .leaf (r.1, s.h, s.n)
    | .mapUpdate t m k x => match evMapPut E.P s.blk t (opnd s m) (opnd s k) (true, opnd s x) with
      | some (b, blk) => .leaf (.undef, s.h.set b blk, s.n)
      | none => .stuck
    | .insert t m k x => match evMapPut E.P s.blk t (opnd s m) (opnd s k) (true, opnd s x) with
      | some (b, blk) => .leaf (.undef, s.h.set b blk, s.n)
      | none => .stuck
    | _ => .stuck

inductive Guard where
  | yes | no | bad
  | dyn (d : Nat) (b : Bool) (want : Bool)
/-- Whether an operation is wanted; 'val': what the temporaries hold. -/
def guardOf (ops : Array Oper) (val : Nat → V) (o : Oper) : Guard :=
  match o.guard with
  | none => .yes
  | some (j, want) => match ops[j]? with
    | some p => match p.dst with
      | some d => match val d with
        | .bool true b => match b, want with
          | true, true => .yes
          | false, false => .yes
          | _, _ => .no
        | .bool false b => .dyn d b want
        | .undef => .no
        | _ => .bad
      | none => .no
    | none => .no

/-- On a way on which a temporary's truth is known. -/
def St.know {B : Base} (s : St B) (d : Nat) (b : Bool) : St B := { s with t := s.t.set d (.bool true b) }

def evOps (E : Env) (call : CallF) (ops : Array Oper) {B : Base} : List Oper → St B → Tree (St B)
  | [], s => .leaf s
  | o :: rest, s =>
    let go (s : St B) : Tree (St B) := (evOp E call s o.op).bind fun r => evOps E call ops rest ({ s with h := r.2.1, n := r.2.2 }.put o.dst r.1)
    match guardOf ops s.tmp o with
    | .bad => .stuck
    | .yes => go s
    | .no => evOps E call ops rest (s.put o.dst .undef)
    | .dyn d b want => match want with
      | true => .node b (go (s.know d true)) (evOps E call ops rest ((s.know d false).put o.dst .undef))
      | false => .node b (evOps E call ops rest ((s.know d true).put o.dst .undef)) (go (s.know d false))

/-! ### A region that draws its order -/
/-- Every operation writes into the frame. -/
def dstOk (N : Nat) (o : Oper) : Bool :=
  match o.dst with
  | some d => Nat.blt d N
  | none => true
universe u
def forceList {β : Type u} : List Nat → (List Nat → β) → β
  | [], f => f []
  | x :: l, f => forceNat x fun x => forceList l fun r => f (x :: r)
theorem forceList_eq {β : Type u} (l : List Nat) : ∀ f : List Nat → β, forceList l f = f l := by
  induction l with
  | nil => intro f; rfl
  | cons x l ih => intro f; simp only [forceList, forceNat_eq, ih]
def looks (ops : Array Oper) (o : Oper) : List Tmp :=
  (o.op.operands.toList.filterMap fun | .tmp t => some t | _ => none) ++
  (match o.guard with
   | some (g, _) => ((ops[g]?).bind (·.dst)).toList
   | none => [])
/-- Two operations that may not change places: by a temporary of theirs. -/
def tied (ops : Array Oper) (x y : Oper) : Bool :=
  (match x.dst with
   | some d => (looks ops y).contains d || y.dst == some d
   | none => false) ||
  (match y.dst with
   | some d => (looks ops x).contains d
   | none => false)
/-- Which operations must come ahead of each: as numbers whose digits tell. -/
def bfOf (after : Array Edge) (acc : List Nat) : Nat :=
  after.toList.foldl (fun s e => if Region.binds .any e then s ||| 2 ^ e.on ||| acc.getD e.on 0 else s) 0
def bfs : List Oper → List Nat → List Nat
  | [], acc => acc
  | o :: rest, acc => forceNat (bfOf o.after acc) fun x => bfs rest (acc ++ [x])
/-- Edges lead back. -/
def backOk : List Oper → Nat → Bool
  | [], _ => true
  | o :: rest, j => o.after.toList.all (fun e => !Region.binds .any e || Nat.blt e.on j) && backOk rest (j + 1)
def tiesOk (ops : Array Oper) (bf : List Nat) : Bool :=
  (List.range ops.size).all fun j => (List.range j).all fun i =>
    match ops[i]?, ops[j]? with
    | some x, some y => !(tied ops x y) || (bf.getD j 0).testBit i
    | _, _ => false
/-- Whatever may not change places stands in its order by the region's own edges. -/
def drawOk (ops : Array Oper) (bf : List Nat) : Bool := backOk ops.toList 0 && tiesOk ops bf
/-- What is known of some temporaries on a way. -/
def refine (kn : List (Nat × Bool)) (t : Nat) (v : V) : V :=
  match kn with
  | [] => v
  | (d, c) :: r => bif Nat.beq d t then .bool true c else refine r t v
section
variable {B : Base}
def opndK (s : St B) (kn : List (Nat × Bool)) : Operand → V
  | .tmp t => refine kn t (s.tmp t)
  | x => opnd s x
/-- What an operation touches of what is there: whether it writes, and which block ('none': all); and what it lays. -/
structure Ft where
  m : Option (Bool × Option Nat)
  l : Option Nat
  /-- It sees what the region lays, too. -/
  q : Bool := false
  /-- Which blocks it writes, if it is one that may write any. -/
  w : Nat → Bool := fun _ => true
abbrev noFt : Ft := { m := none, l := none }
/-- What is known of the blocks, where an operation looks at them. -/
def ftBlk (ft : Option (Bool × Option Nat)) (h : Nat → Blk) : Nat → Blk :=
  match ft with
  | some _ => h
  | none => fun _ => .any
/-- Whether a name is kept for what a region lays. -/
def inRes (nb sz b : Nat) : Bool := Nat.ble nb b && Nat.blt b (nb + sz)
/-- What a call sees that may read whatever is there: what the region itself lays is not among it. -/
def seen (nb sz : Nat) (h : Nat → Blk) : Nat → Blk := fun b => bif inRes nb sz b then .any else h b
/-- The block that an operation reads (false) or writes (true); 'nm': the name of what it lays. -/
def foot (s : St B) (nm : Nat) (o : Op) : Ft :=
  match o with
  | .load _ a => match opnd s a with
    | .ptr _ b _ _ _ => { m := some (false, some b), l := none }
    | _ => noFt
  | .store _ a _ => match opnd s a with
    | .ptr _ b _ _ _ => { m := some (true, some b), l := none }
    | _ => noFt
  | .alloc _ => { m := none, l := some nm }
  | .box _ _ => { m := none, l := some nm }
  | .buildSlice _ _ _ => { m := none, l := some nm }
  | .makeSlice _ _ _ => { m := none, l := some nm }
  | .makeMap _ _ => { m := none, l := some nm }
  | .lookup _ x _ _ => match opnd s x with
    | .mp b => { m := some (false, some b), l := none }
    | _ => noFt
  | .mapUpdate _ x _ _ => match opnd s x with
    | .mp b => { m := some (true, some b), l := none }
    | _ => noFt
  | .insert _ x _ _ => match opnd s x with
    | .mp b => { m := some (true, some b), l := none }
    | _ => noFt
  | .convert _ _ x => match opnd s x with
    | .osl _ b _ _ _ => { m := some (false, some b), l := none }
    | _ => noFt
  | .slice _ x _ _ _ => match opnd s x with
    | .ptr _ b _ _ _ => { m := some (false, some b), l := none }
    | _ => noFt
  | .call c => match c.callee with
    | .value f => { m := (match callee (opnd s f) (.ofList (c.args.toList.map (opnd s))) with
      | some (_, args) => bif args.clean then none else some (false, none)
      | none => none), l := some nm }
    | _ => noFt
  | _ => noFt
/-- That of a call that may do whatever it likes; 'o': what it wrote. -/
def bigFt (o : PT Blk) : Ft := { m := some (true, none), l := none, w := fun b => (o.get b).isSome }
/-- That of a call that only reads. -/
def quietFt : Ft := { m := some (false, none), l := none, q := true }
def clashM (nb sz : Nat) (f g : Ft) : Bool :=
  match f.m, g.m with
  | some (w, some b), some (w', some b') => Nat.beq b b' && (w || w')
  | some (w, none), some (w', some b) => bif w then w' || f.w b else w' && (f.q || !inRes nb sz b)
  | some (w, some b), some (w', none) => bif w' then w || g.w b else w && (g.q || !inRes nb sz b)
  | some (w, none), some (w', none) => w || w'
  | _, _ => false
def clashL (l : Option Nat) (g : Ft) : Bool :=
  match l, g.m with
  | some b, some (_, some b') => Nat.beq b b'
  | some _, some (w, none) => w || g.q
  | _, _ => false
def clashLL : Option Nat → Option Nat → Bool
  | some b, some b' => Nat.beq b b'
  | _, _ => false
def clash (nb sz : Nat) (f g : Ft) : Bool := clashM nb sz f g || (clashL f.l g || (clashL g.l f || clashLL f.l g.l))
def St.wr (s : St B) : Option (Nat × Blk) → St B
  | some (b, blk) => { s with h := s.h.set b blk }
  | none => s
def evStoreD (P : Program) (s : St B) (t : TypeId) (x v : V) : Tree (V × Option (Nat × Blk)) :=
  match tySize P t with
  | some z => bif Nat.beq v.cells.len z && (v.cells.allCell && v.solid) then
      match x with
      | .ptr st b es i o => (evStoreB (s.blk b) st es i o z v).bind fun blk => .leaf (.undef, some (b, blk))
      | _ => .stuck
    else .stuck
  | none => .stuck
/-- A new variable under a name that was kept for it. -/
def evNew (s : St B) (nm : Nat) (blk : Blk) (v : V) : Tree (V × Option (Nat × Blk)) :=
  match s.blk nm with
  | .none => .leaf (v, some (nm, blk))
  | _ => .stuck
/-- What a call answers that saw nothing of ours: no name of ours is in it, but that of a new row of cells. 'rl': nothing that was there may be in it. -/
def layR0 (s : St B) (nm : Nat) (rl : Bool) (r : V × PT Blk × Nat) : Tree (V × Option (Nat × Blk)) :=
  bif r.1.clean && (!rl || r.1.rowless) then .leaf (r.1, none) else match r.1 with
  | .osl st b es i n => match look (fun _ => .none) r.2.1 b with
    | .var cs => bif cs.clean && (!rl || cs.rowless) then evNew s nm (.var cs) (.osl st nm es i n) else .stuck
    | .arr es' k get => match rl with
      | false => evNew s nm (.arr es' k get) (.osl st nm es i n)
      | true => match st with
        | true => bif allN k (fun j => (get j).rowless) then evNew s nm (.arr es' k get) (.osl st nm es i n) else .stuck
        | false => .need (∀ j, j < k → (get j).rowless = true) (evNew s nm (.arr es' k get) (.osl st nm es i n))
    | _ => .stuck
  | _ => .stuck
/-- So, also where a struct of one field is answered. -/
def layR (s : St B) (nm : Nat) (rl : Bool) (r : V × PT Blk × Nat) : Tree (V × Option (Nat × Blk)) :=
  match r.1 with
  | .agg (.cons v .nil) => (layR0 s nm rl (v, r.2.1, r.2.2)).bind fun p => .leaf (.agg (.cons p.1 .nil), p.2)
  | _ => layR0 s nm rl r
/-- A call that sees nothing of ours, or what is ours as what stays as it is: 'fa'. -/
def evSeen (E : Env) (call : CallF) (s : St B) (nm : Nat) (g : FuncId) (fa : V) : Tree (V × Option (Nat × Blk)) :=
  match E.Γ g fa with
  | some (.sure v) => bif v.clean && v.rowless then .leaf (v, none) else .stuck
  | some (.where_ p v) => bif v.clean && v.rowless then .need p (.leaf (v, none)) else .stuck
  | some (.fork _ _ _) => .stuck
  | none => (call (fun _ => .none) (.inl g) fa .nil 0).bind (layR s nm true)
/-- A call: walked over a heap of its own. -/
def evVal (E : Env) (call : CallF) (s : St B) (nm : Nat) (h : Nat → Blk) (ρ : Operand → V) (o : Op) : Tree (V × Option (Nat × Blk)) :=
  match o with
  | .call c => match c.callee with
    | .value f => match callee (ρ f) (.ofList (c.args.toList.map ρ)) with
      | some (g, args) => bif args.clean then (call (fun _ => .none) (.inl g) args .nil 0).bind (layR s nm false)
        else bif (freeze h args).clean then withNeed (frNeed h args) (evSeen E call s nm g (freeze h args))
        else bif (fz h 6 args).clean then evSeen E call s nm g (fz h 6 args)
        else .stuck
      | none => .stuck
    | _ => .stuck
  | _ => .stuck
def evDQ (E : Env) (call : CallF) (s : St B) (nb sz nm : Nat) (kn : List (Nat × Bool)) (o : Op) : Tree (V × Option (Nat × Blk)) :=
  match evQ E (opndK s kn) s.blk o with
  | some T => T.bind fun v => .leaf (v, none)
  | none => evVal E call s nm (ftBlk (foot s nm o).m (seen nb sz s.blk)) (opndK s kn) o
def evD (E : Env) (call : CallF) (s : St B) (nb sz nm : Nat) (kn : List (Nat × Bool)) (o : Op) : Tree (V × Option (Nat × Blk)) :=
  match o with
  | .store t a x => evStoreD E.P s t (opnd s a) (opndK s kn x)
  | .load t a => (evLoad E.P s.blk t (opnd s a)).bind fun v => .leaf (v, none)
  | .alloc t => match tyZero E.P t with
    | some cs => evNew s nm (.var cs) (.ptr true nm 0 0 0)
    | none => .stuck
  | .box _ x => bif (opndK s kn x).solid then evNew s nm (.var (opndK s kn x).cells) (.ptr true nm 0 0 0) else .stuck
  | .buildSlice t len parts => match evBuildRow E.P t len (parts.toList.map fun p => (p.1, opndK s kn p.2)) with
    | some (z, cs) => evNew s nm (.var cs) (newRows nm z len)
    | none => .stuck
  | .makeSlice t len cap => match evMakeLit E.P t (opndK s kn len) (opndK s kn cap) with
    | some (z, k, cs) => evNew s nm (.var cs) (newRows nm z k)
    | none => .stuck
  | .makeMap t r => match evMakeMap E.P t (r.map (opndK s kn)) with
    | some blk => evNew s nm blk (.mp nm)
    | none => .stuck
  | .mapUpdate t m k x => match evMapPut E.P s.blk t (opnd s m) (opndK s kn k) (true, opndK s kn x) with
    | some (b, blk) => .leaf (.undef, some (b, blk))
    | none => .stuck
  | .insert t m k x => match evMapPut E.P s.blk t (opnd s m) (opndK s kn k) (true, opndK s kn x) with
    | some (b, blk) => .leaf (.undef, some (b, blk))
    | none => .stuck
  | o => evDQ E call s nb sz nm kn o
/-- What is known of what an operation looks at. -/
def knOf (ops : Array Oper) (o : Oper) (kn : List (Nat × Bool)) : List (Nat × Bool) := kn.filter fun p => (looks ops o).contains p.1
def knCut (o : Oper) (kn : List (Nat × Bool)) : List (Nat × Bool) :=
  match o.dst with
  | some d => kn.filter fun p => !Nat.beq p.1 d
  | none => kn
/-- Whether an operation may change what is there. -/
def memOp (o : Op) : Bool :=
  match o with
  | .store .. | .alloc _ | .box .. | .buildSlice .. | .makeSlice .. | .makeMap .. | .mapUpdate .. | .insert .. => true
  | .call c => match c.callee with
    | .builtin b => match b with
      | .append | .delete | .copy | .clear => true
      | _ => false
    | _ => true
  | _ => false
def isBig (o : Op) : Bool :=
  match o with
  | .call c => match c.callee with
    | .builtin b => match b with
      | .append | .delete | .copy | .clear => true
      | _ => false
    | .value _ => true
    | _ => false
  | _ => false
/-- A plain variable. -/
def isAlloc (o : Oper) : Bool :=
  match o.op with
  | .alloc _ => o.guard.isNone && o.dst.isSome
  | _ => false
/-- Whatever comes behind the second comes behind the first. -/
def behindAll (ops : Array Oper) (bf : List Nat) (i j : Nat) : Bool := (List.range ops.size).all fun e => !(bf.getD e 0).testBit j || (bf.getD e 0).testBit i
/-- A call beside which nothing that may touch what is there is left without an order, but new variables that are used behind it: it may do whatever it likes. -/
def bigAt (ops : Array Oper) (bf : List Nat) (j : Nat) (o : Oper) : Bool :=
  isBig o.op && (List.range ops.size).all fun i => Nat.beq i j || (match ops[i]? with
    | some x => !memOp x.op || ((bf.getD j 0).testBit i || ((bf.getD i 0).testBit j || (isAlloc x && (Nat.blt j i && behindAll ops bf j i))))
    | none => true)
def isBigF (f : Ft) : Bool :=
  match f.m with
  | some (w, none) => w || f.q
  | _ => false
/-- A new variable beside a call that may do whatever it likes: it is used behind the call. -/
def lateB (ops : Array Oper) (bf : List Nat) (i j : Nat) (f : Ft) : Bool :=
  Nat.blt i j && (isBigF f && (match ops[j]? with
    | some o => isAlloc o && behindAll ops bf i j
    | none => false))
def clashX (ops : Array Oper) (bf : List Nat) (nb i j : Nat) (f g : Ft) : Bool := clash nb ops.size f g && !lateB ops bf i j f
/-- No name above so many is in it. -/
def V.belowB (n : Nat) : V → Bool
  | .cons h t => h.belowB n && t.belowB n
  | .agg cs => cs.belowB n
  | .tup vs => vs.belowB n
  | .ptr _ b _ _ _ => Nat.blt b n
  | .osl _ b _ _ _ => Nat.blt b n
  | .osp _ b _ _ _ _ => Nat.blt b n
  | .fn _ a b => a.belowB n && b.belowB n
  | .yld b => Nat.blt b n
  | .mp b => Nat.blt b n
  | _ => true
/-- Nothing that was there was changed, and no new name is answered. -/
def quietR (n : Nat) (r : V × PT Blk × Nat) : Bool := r.2.1.allK (fun k => Nat.ble n k) 1 0 && r.1.belowB n
/-- Whether a call is handed nothing of ours. -/
def argsClean (s : St B) (o : Op) : Bool :=
  match o with
  | .call c => match c.callee with
    | .value f => match callee (opnd s f) (.ofList (c.args.toList.map (opnd s))) with
      | some (_, args) => args.clean
      | none => false
    | _ => false
  | _ => false
def Tree.isStuck {α : Type} : Tree α → Bool
  | .stuck => true
  | .need _ t => t.isStuck
  | .node _ t f => t.isStuck && f.isStuck
  | _ => false
def freeOf (ops : Array Oper) (bf : List Nat) (nb j : Nat) (fps : List (Nat × Ft)) (f : Ft) : Bool := fps.all fun p => !clashX ops bf nb p.1 j p.2 f || (bf.getD j 0).testBit p.1
def evOpsD (E : Env) (call : CallF) (ops : Array Oper) (bf : List Nat) (nb : Nat) :
    List Oper → Nat → List (Nat × Ft) → List (Nat × Bool) → St B → Tree (St B)
  | [], _, _, _, s => .leaf s
  | o :: rest, j, fps, kn, s =>
    let small (kn : List (Nat × Bool)) : Tree (St B) :=
      bif freeOf ops bf nb j fps (foot s (nb + j) o.op) && ((evD E call s nb ops.size (nb + j) (knOf ops o kn) o.op).flat && dstOk s.N o) then
        (evD E call s nb ops.size (nb + j) (knOf ops o kn) o.op).bind fun r => evOpsD E call ops bf nb rest (j + 1) ((j, foot s (nb + j) o.op) :: fps) (knCut o kn) ((s.wr r.2).put o.dst r.1)
      else .stuck
    let go (kn : List (Nat × Bool)) : Tree (St B) :=
      bif isBig o.op && ((!argsClean s o.op || (evD E call s nb ops.size (nb + j) (knOf ops o kn) o.op).isStuck) && (!(evOp E call s.sub o.op).isStuck && ((evOp E call s.sub o.op).flat && dstOk s.N o))) then
        (evOp E call s.sub o.op).bind fun r =>
          bif quietR s.n r && freeOf ops bf nb j fps quietFt then evOpsD E call ops bf nb rest (j + 1) ((j, quietFt) :: fps) (knCut o kn) (s.put o.dst r.1)
          else bif bigAt ops bf j o && freeOf ops bf nb j fps (bigFt r.2.1) then evOpsD E call ops bf nb rest (j + 1) ((j, bigFt r.2.1) :: fps) (knCut o kn) (({ s with h := s.h.over r.2.1, n := r.2.2 } : St B).put o.dst r.1)
          else small kn
      else small kn
    let no (kn : List (Nat × Bool)) : Tree (St B) := bif dstOk s.N o then evOpsD E call ops bf nb rest (j + 1) ((j, noFt) :: fps) (knCut o kn) (s.put o.dst .undef) else .stuck
    match guardOf ops (fun t => refine kn t (s.tmp t)) o with
    | .bad => .stuck
    | .yes => go kn
    | .no => no kn
    | .dyn d b want => match want with
      | true => .node b (go ((d, true) :: kn)) (no ((d, false) :: kn))
      | false => .node b (no ((d, true) :: kn)) (go ((d, false) :: kn))
/-- Whether an operation lays a variable. -/
def lays (o : Oper) : Bool :=
  match o.op with
  | .alloc _ | .box _ _ | .buildSlice _ _ _ | .makeSlice _ _ _ | .makeMap _ _ => true
  | .call c => match c.callee with
    | .builtin b => match b with
      | .append => true
      | _ => false
    | _ => true
  | _ => false
/-- Names are kept for what a region's operations lay. -/
def noneRange (h : PT Blk) (n k : Nat) : PT Blk := Nat.rec h (fun i r => r.set (n + i) .none) k
def St.keepNames (s : St B) (ops : Array Oper) : St B :=
  bif ops.toList.any lays then { s with h := noneRange s.h s.n ops.size, n := s.n + ops.size } else s
end

/-! ### Ways brought together -/
/-- Nothing is lost where two values are brought together: 'junk' and 'undef' have nothing to lose. -/
def mgV : V → V → Bool
  | .junk, _ => true
  | .undef, _ => true
  | x, .junk => x.one
  | x, .undef => x.one
  | .nil, .nil => true
  | .cons h t, .cons h' t' => (h.one && mgV h h') && mgV t t'
  | .int _ k _, .int _ k' _ => decide (k = k')
  | .bool _ _, .bool _ _ => true
  | .str _ _, .str _ _ => true
  | .agg cs, .agg cs' => mgV cs cs'
  | .tup cs, .tup cs' => mgV cs cs'
  | .ptr st bl es i o, .ptr st' bl' es' i' o' => (st && st') && (Nat.beq bl bl' && (Nat.beq es es' && (Nat.beq i i' && Nat.beq o o')))
  | .osl st bl es i n, .osl st' bl' es' i' n' => (st && st') && (Nat.beq bl bl' && (Nat.beq es es' && (Nat.beq i i' && Nat.beq n n')))
  | .nilptr, .nilptr => true
  | .nilfn, .nilfn => true
  | .nilmap, .nilmap => true
  | .nilif, .nilif => true
  | .nilif, .ifc _ _ => true
  | .ifc _ _, .nilif => true
  | .ifc _ _, .ifc _ _ => true
  | .nilsl, .nilsl => true
  | .nilsl, .rsl _ _ _ _ => true
  | .rsl _ _ _ _, .nilsl => true
  | .rsl _ es _ _, .rsl _ es' _ _ => Nat.beq es es'
  | _, _ => false
def mgB (x y : Blk) : Bool :=
  match x, y with
  | .var cs, .var cs' => sameRow cs cs' && mgV cs cs'
  | .none, _ => true
  | _, .none => true
  | .any, _ => true
  | _, .any => true
  | _, _ => false
def mergeB (b : Bool) (x y : Blk) : Blk :=
  match x, y with
  | .var cs, .var cs' => bif sameRow cs cs' then .var (mergeV b cs cs') else .any
  | .none, .none => .none
  | _, _ => .any
def anyRange (h : PT Blk) (n k : Nat) : PT Blk := Nat.rec h (fun i r => r.set (n + i) .any) k
section
variable {B : Base}
/-- Two states brought together. -/
def mergeSt (c : Bool) (s1 s2 : St B) : Option (St B) :=
  let lo := bif Nat.ble s1.n s2.n then s1.n else s2.n
  let hi := bif Nat.ble s1.n s2.n then s2.n else s1.n
  bif (s1.t.allK (fun k => mgV (s1.tmp k) (s2.tmp k)) 1 0 && s2.t.allK (fun k => mgV (s1.tmp k) (s2.tmp k)) 1 0) &&
      ((s1.h.allK (fun k => Nat.ble lo k || mgB (s1.blk k) (s2.blk k)) 1 0 && s2.h.allK (fun k => Nat.ble lo k || mgB (s1.blk k) (s2.blk k)) 1 0) && Nat.beq s1.N s2.N) then
    some { t := s1.t.both (fun k => mergeOne c (s1.tmp k) (s2.tmp k)) s2.t 1 0,
           h := anyRange (s1.h.both (fun k => mergeB c (s1.blk k) (s2.blk k)) s2.h 1 0) lo (hi - lo), n := hi, N := s1.N }
  else none
/-- The ways, each under its condition, by how they end. -/
abbrev Ways (B : Base) := List (Bool × Ex × St B)
def Ex.key : Ex → Nat
  | .ret => 0
  | .exit id => id + 1
  | .normal => 1000000000
def sameEx : Ex → Ex → Bool
  | .normal, .normal => true
  | .ret, .ret => true
  | .exit i, .exit j => Nat.beq i j
  | _, _ => false
def comb (k : Nat) : Bool → Ways B → Ways B → Option (Ways B) := Nat.rec (fun _ _ _ => none) (fun _ ih c l1 l2 =>
  match l1 with
  | [] => some (l2.map fun | (p, x) => (bif c then false else p, x))
  | (p1, e1, s1) :: r1 => match l2 with
    | [] => some (((p1, e1, s1) :: r1).map fun | (p, x) => (bif c then p else false, x))
    | (p2, e2, s2) :: r2 =>
      bif sameEx e1 e2 then match mergeSt c s1 s2 with
        | some s => match ih c r1 r2 with
          | some r => some ((bif c then p1 else p2, e1, s) :: r)
          | none => none
        | none => none
      else bif Nat.blt e1.key e2.key then match ih c r1 ((p2, e2, s2) :: r2) with
        | some r => some ((bif c then p1 else false, e1, s1) :: r)
        | none => none
      else match ih c ((p1, e1, s1) :: r1) r2 with
        | some r => some ((bif c then false else p2, e2, s2) :: r)
        | none => none) k
def ways : Tree (Ex × St B) → Option (Ways B)
  | .leaf x => some [(true, x)]
  | .node c t f => match ways t with
    | some l1 => match ways f with
      | some l2 => comb (l1.length + l2.length + 1) c l1 l2
      | none => none
    | none => none
  | .need _ t => ways t
  | _ => none
def ofWays : Ways B → Tree (Ex × St B)
  | [] => .stuck
  | (p, x) :: r => match r with
    | [] => .leaf x
    | _ :: _ => .node p (.leaf x) (ofWays r)
/-- What must hold on a tree's ways. -/
def needs {α : Type} : Tree α → Option Prop
  | .node b t f => match needs t, needs f with
    | none, none => none
    | some p, none => some (b = true → p)
    | none, some q => some (b = false → q)
    | some p, some q => some ((b = true → p) ∧ (b = false → q))
  | .need p t => match needs t with
    | none => some p
    | some q => some (p ∧ q)
  | .both t f => match needs t, needs f with
    | none, none => none
    | some p, none => some p
    | none, some q => some q
    | some p, some q => some (p ∧ q)
  | _ => none
def mergeT (T : Tree (Ex × St B)) : Tree (Ex × St B) :=
  match T with
  | .leaf x => .leaf x
  | T => match ways T with
    | some l => match needs T with
      | none => ofWays l
      | some p => .need p (ofWays l)
    | none => T
def St.rebase (s : St B) (s1 : St s.bs) : St B := { t := s.t.over s1.t, h := s.h.over s1.h, n := s1.n, N := s1.N }
/-- Values that are one, name by name and number by number. -/
def eqV : V → V → Bool
  | .cons h t, y => match y with | .cons h' t' => eqV h h' && eqV t t' | _ => false
  | .nil, y => match y with | .nil => true | _ => false
  | .int st k n, y => match y with | .int st' k' n' => bif st && st' then decide (k = k') && decide (n = n') else false | _ => false
  | .bool st b, y => match y with | .bool st' b' => bif st && st' then b == b' else false | _ => false
  | .agg cs, y => match y with | .agg cs' => eqV cs cs' | _ => false
  | .tup cs, y => match y with | .tup cs' => eqV cs cs' | _ => false
  | .ptr st b es i o, y => match y with | .ptr st' b' es' i' o' => (st && st') && ((Nat.beq b b' && Nat.beq es es') && (Nat.beq i i' && Nat.beq o o')) | _ => false
  | .osl st b es i n, y => match y with | .osl st' b' es' i' n' => (st && st') && ((Nat.beq b b' && Nat.beq es es') && (Nat.beq i i' && Nat.beq n n')) | _ => false
  | .osp st b es i n c, y => match y with | .osp st' b' es' i' n' c' => (st && st') && ((Nat.beq b b' && Nat.beq es es') && ((Nat.beq i i' && Nat.beq n n') && Nat.beq c c')) | _ => false
  | .mp b, y => match y with | .mp b' => Nat.beq b b' | _ => false
  | .esl nn es, y => match y with | .esl nn' es' => (nn == nn') && Nat.beq es es' | _ => false
  | .nilsl, y => match y with | .nilsl => true | _ => false
  | .nilptr, y => match y with | .nilptr => true | _ => false
  | .nilmap, y => match y with | .nilmap => true | _ => false
  | .nilfn, y => match y with | .nilfn => true | _ => false
  | .nilif, y => match y with | .nilif => true | _ => false
  | _, _ => false
def meetV (x y : V) : V := bif eqV x y then x else .junk
def meetB (x y : Blk) : Blk :=
  match x, y with
  | .var cs, .var cs' => bif eqV cs cs' then .var cs else .any
  | .none, .none => .none
  | _, _ => .any
/-- What two states have in common. -/
def meetSt (s1 s2 : St B) : Option (St B) :=
  let lo := bif Nat.ble s1.n s2.n then s1.n else s2.n
  let hi := bif Nat.ble s1.n s2.n then s2.n else s1.n
  bif (s1.t.allK (fun _ => true) 1 0 && s2.t.allK (fun _ => true) 1 0) && ((s1.h.allK (fun _ => true) 1 0 && s2.h.allK (fun _ => true) 1 0) && Nat.beq s1.N s2.N) then
    some { t := s1.t.both (fun k => meetV (s1.tmp k) (s2.tmp k)) s2.t 1 0,
           h := anyRange (s1.h.both (fun k => meetB (s1.blk k) (s2.blk k)) s2.h 1 0) lo (hi - lo), n := hi, N := s1.N }
  else none
def meetX (x y : Option (Ex × St B)) : Option (Ex × St B) :=
  match x with
  | some (e, s) => match y with
    | some (e', s') => bif sameEx e e' then match meetSt s s' with
        | some r => some (e, r)
        | none => none
      else none
    | none => none
  | none => none
/-- What all ways have in common. -/
def meetT : Tree (Ex × St B) → Option (Ex × St B)
  | .leaf x => some x
  | .node _ t f => meetX (meetT t) (meetT f)
  | .both t f => meetX (meetT t) (meetT f)
  | .need _ t => meetT t
  | _ => none
def Tree.hasBoth {α : Type} : Tree α → Bool
  | .node _ t f => t.hasBoth || f.hasBoth
  | .both _ _ => true
  | .need _ t => t.hasBoth
  | _ => false
/-- Where any of several ways may be gone: what they have in common. -/
def collapse (T : Tree (Ex × St B)) : Tree (Ex × St B) :=
  match T.hasBoth with
  | false => T
  | true => match meetT T with
    | some x => match needs T with
      | none => .leaf x
      | some p => .need p (.leaf x)
    | none => T
def mergedB (s : St B) (f : St s.bs → Tree (Ex × St s.bs)) : Tree (Ex × St B) := (collapse (mergeT (f s.sub))).bind fun | (e, x) => .leaf (e, s.rebase x)
/-- What is told against the state itself, brought together, and told as before. -/
def merged (s : St B) (f : St s.bs → Tree (Ex × St s.bs)) : Tree (Ex × St B) := (mergeT (f s.sub)).bind fun | (e, x) => .leaf (e, s.rebase x)
end

/-! ### Code -/
def setArgs : V → Nat → PT V → PT V
  | .cons h t, i, T => setArgs t (i + 1) (T.set i h)
  | _, _, T => T
/-- What a call's frame is told against. -/
def Base.fn (hb : Nat → Blk) : Base := ⟨fun _ => .junk, hb⟩
def enter (hb : Nat → Blk) (args : V) (ntmps : Nat) (h : PT Blk) (n : Nat) : St (Base.fn hb) :=
  { t := setArgs args 0 .nil, h, n, N := args.len + (ntmps - args.len) }
section
variable {B : Base}
def resultOf (P : Program) (s : St B) : ResultVar → Tree V
  | .tmp t => .leaf (s.tmp t)
  | .cell a t => evLoad P s.blk t (s.tmp a)
def resultsOf (P : Program) (s : St B) : List ResultVar → Tree V
  | [] => .leaf .nil
  | r :: rest => (resultOf P s r).bind fun v => (resultsOf P s rest).bind fun vs => .leaf (.cons v vs)
def single : V → V
  | .cons v .nil => v
  | vs => .tup vs
def firstRegion : Code → Option Nat
  | .region id _ _ => some id
  | .seq a b => match firstRegion a with
    | some i => some i
    | none => firstRegion b
  | .cond _ a b => match firstRegion a with
    | some i => some i
    | none => firstRegion b
  | .block _ b => firstRegion b
  | .loop b => firstRegion b
  | .scope b => firstRegion b
  | _ => none
/-- The bodies of the loops of a piece of code. -/
def loopsOf : Code → List Code
  | .seq a b => loopsOf a ++ loopsOf b
  | .cond _ a b => loopsOf a ++ loopsOf b
  | .block _ b => loopsOf b
  | .loop b => b :: loopsOf b
  | .scope b => loopsOf b
  | _ => []
/-- So, those in ranges over functions among them. -/
def loopsAll : Code → List Code
  | .seq a b => loopsAll a ++ loopsAll b
  | .cond _ a b => loopsAll a ++ loopsAll b
  | .block _ b => loopsAll b
  | .loop b => b :: loopsAll b
  | .scope b => loopsAll b
  | .rangeFunc _ _ a b => loopsAll a ++ loopsAll b
  | _ => []
/-- The body is that of a loop of the function. -/
def InFn (P : Program) (f : FuncId) (body : Code) : Prop := ∃ fn c, P.funcs[f]? = some fn ∧ fn.body = some c ∧ body ∈ loopsAll c
def loopOf (E : Env) (f : FuncId) (body : Code) : Option ((B : Base) → St B → Tree (Ex × St B)) :=
  match firstRegion body with
  | some i => E.lp f i
  | none => none

def St.knowAt (s : St B) (c : Operand) (b : Bool) : St B :=
  match c with
  | .tmp d => s.know d b
  | _ => s
end
abbrev RecF := FuncId → Code → (B : Base) → St B → Tree (Ex × St B)
def putArgs : List Nat → V → PT V → PT V
  | p :: ps, .cons v r, t => putArgs ps r (t.set p v)
  | _, _, t => t
def Ex.isNormal : Ex → Bool
  | .normal => true
  | _ => false
/-- A round of a range over a function. -/
def evYield (E : Env) (rec_ : RecF) (hb : Nat → Blk) (b : Nat) (args : V) (h : PT Blk) (n : Nat) : Tree (V × PT Blk × Nat) :=
  match look hb h b with
  | .rng f ps asg bd row N st _ =>
    withNeed (bif (loopsOf asg ++ loopsOf bd).all fun c => (loopOf E f c).isNone then none else some (∀ c ∈ loopsOf asg ++ loopsOf bd, ∀ g, loopOf E f c = some g → InFn E.P f c))
    (bif (Nat.beq st 0 && (Nat.beq args.len ps.length && ps.all fun p => Nat.blt p N)) && (noRange asg && noRange bd) then
      (rec_ f asg ⟨row, hb⟩ { t := putArgs ps args .nil, h, n, N }).bind fun x => match x.1 with
        | .normal => match look hb x.2.h b with
          | .rng f' ps' asg' bd' row' N' st' pd' => bif Nat.beq st' 0 then
              (rec_ f bd ⟨row, hb⟩ { x.2 with h := x.2.h.set b (.rng f' ps' asg' bd' row' N' 1 pd') }).bind fun y => match look hb y.2.h b with
                | .rng f2 ps2 asg2 bd2 row2 N2 st2 _ => bif Nat.beq st2 1 then
                    .leaf (.bool true y.1.isNormal, y.2.h.set b (.rng f2 ps2 asg2 bd2 row2 N2 (bif y.1.isNormal then 0 else 2) (some y.1)), y.2.n) else .stuck
                | _ => .stuck
            else .stuck
          | _ => .stuck
        | _ => .stuck
    else .stuck)
  | _ => .stuck
def evCall (E : Env) (rec_ : RecF) (hb : Nat → Blk) (g : FuncId ⊕ Nat) (args : V) (h : PT Blk) (n : Nat) : Tree (V × PT Blk × Nat) :=
  match g with
  | .inr b => evYield E rec_ hb b args h n
  | .inl g =>
    match E.P.funcs[g]? with
    | some fn => match fn.body with
      | some c => (rec_ g c (Base.fn hb) (enter hb args.plain fn.ntmps h n)).bind fun x =>
        match x.1 with
        | .exit _ => .stuck
        | _ => (resultsOf E.P x.2 fn.results.toList).bind fun vs => .leaf ((single vs).plain, x.2.h, x.2.n)
      | none => .stuck
    | none => .stuck
def evRegion (E : Env) (call : CallF) {B : Base} (ops : Array Oper) (draw : Bool) (s : St B) : Tree (Ex × St B) :=
  match draw with
  | false => bif ops.toList.all (dstOk s.N) then (evOps E call ops ops.toList s).bind fun s' => .leaf (.normal, s') else .stuck
  | true => forceList (bfs ops.toList []) fun bf => bif drawOk ops bf then (evOpsD E call ops bf s.n ops.toList 0 [] [] (s.keepNames ops)).bind fun s' => .leaf (.normal, s') else .stuck

/-- A block is left. -/
def leave {B : Base} (id : Nat) (x : Ex × St B) : Tree (Ex × St B) :=
  match x.1 with
  | .exit id' => bif Nat.beq id' id then .leaf (.normal, x.2) else .leaf (.exit id', x.2)
  | e => .leaf (e, x.2)
def evStep (E : Env) (rec_ : RecF) (f : FuncId) (c : Code) (B : Base) (s : St B) : Tree (Ex × St B) :=
  match c with
  | .skip => .leaf (.normal, s)
  | .label _ => .leaf (.normal, s)
  | .exit id => .leaf (.exit id, s)
  | .ret => .leaf (.ret, s)
  | .scope b => rec_ f b B s
  | .region _ ops draw => match E.mg && ops.toList.any (fun o => o.guard.isSome) with
    | true => merged s fun s => evRegion E (evCall E rec_) ops draw s
    | false => evRegion E (evCall E rec_) ops draw s
  | .seq a b => (rec_ f a B s).bind fun x => match x.1 with
    | .normal => rec_ f b B x.2
    | e => .leaf (e, x.2)
  | .cond c a b => match opnd s c with
    | .bool true t => match t with
      | true => rec_ f a B s
      | false => rec_ f b B s
    | .bool false t => match E.wayOf f c with
      | some true => .need (t = true) (rec_ f a B (s.knowAt c true))
      | some false => .need (t = false) (rec_ f b B (s.knowAt c false))
      | none => match E.mg with
        | true => merged s fun s => .node t (rec_ f a _ (s.knowAt c true)) (rec_ f b _ (s.knowAt c false))
        | false => .node t (rec_ f a B (s.knowAt c true)) (rec_ f b B (s.knowAt c false))
    | _ => .stuck
  | .block id b => match E.mg with
    | true => mergedB s fun s => (rec_ f b _ s).bind (leave id)
    | false => (rec_ f b B s).bind (leave id)
  | .loop b => match loopOf E f b with
    | some g => g B s
    | none => (rec_ f b B s).bind fun x => match x.1 with
      | .normal => rec_ f (.loop b) B x.2
      | e => .leaf (e, x.2)
  | .rangeFunc g ps asg bd => match calleeY (opnd s g) (.cons (.yld s.n) .nil) with
    | some (.inl g', args) => (evCall E rec_ B.h (.inl g') args (s.h.set s.n (.rng f ps.toList asg bd s.tmp s.N 0 none)) (s.n + 1)).bind fun r =>
        match look B.h r.2.1 s.n with
        | .rng _ _ _ _ _ _ st pend => bif Nat.beq st 1 then .stuck else .leaf (pend.getD .normal, { s with h := r.2.1.set s.n .any, n := r.2.2 })
        | _ => .stuck
    | _ => .stuck
  | _ => .stuck

/-- What a piece of a function's code comes to. -/
def ev (E : Env) (k : Nat) : RecF := Nat.rec (fun _ _ _ _ => .stuck) (fun _ ih => evStep E ih) k
theorem ev_succ (E : Env) (k : Nat) : ev E (k + 1) = evStep E (ev E k) := rfl
/-- Slices of our own within a value, each told otherwise. -/
def mapO (f : V → V) : V → V
  | .cons a t => .cons (mapO f a) (mapO f t)
  | .agg cs => .agg (mapO f cs)
  | .tup cs => .tup (mapO f cs)
  | .osl st b es i n => f (.osl st b es i n)
  | .osp st b es i n c => f (.osp st b es i n c)
  | v => v
def pubRow (v : V) (st : Bool) (es i n : Nat) (cs : V) : V := bif st && (cs.clean && Nat.ble ((i + n) * es) cs.len) then .rsl true es n fun j => (cs.drop ((i + j) * es)).take es else v
/-- A slice of our own as rows that are only read, with what these hold. -/
def pubO (h : Nat → Blk) : Nat → V → V
  | 0, v => v
  | k + 1, v => match v.plain1 with
    | .osl st b es i n => match h b with
      | .var cs => pubRow v st es i n (mapO (pubO h k) cs)
      | _ => v
    | _ => v
/-- Slices of our own in what is answered, as rows that are only read. -/
def pubT (h : Nat → Blk) : V → Tree V
  | .cons a t => (pubT h a).bind fun a => (pubT h t).bind fun t => .leaf (.cons a t)
  | .tup vs => (pubT h vs).bind fun vs => .leaf (.tup vs)
  | .agg cs => (pubT h cs).bind fun cs => .leaf (.agg cs)
  | .osl st b es i n => match h b with
    | .var cs => bif st && (cs.clean && Nat.ble ((i + n) * es) cs.len) then .leaf (.rsl true es n fun j => (cs.drop ((i + j) * es)).take es) else .leaf (pubO h 3 (.osl st b es i n))
    | .arr es' k get => bif Nat.beq es es' then (match st with
        | true => bif Nat.ble (i + n) k then .leaf (.rsl true es n fun j => get (i + j)) else .stuck
        | false => .need (i + n ≤ k) (.leaf (.rsl false es n fun j => get (i + j)))) else .stuck
    | _ => .leaf (.osl st b es i n)
  | .osp st b es i n c => bif Nat.beq n 0 then .leaf (.rsl true es 0 fun _ => .nil) else .leaf (pubO h 3 (.osp st b es i n c))
  | v => .leaf v
/-- What a call comes to, of arguments that name no block of ours. -/
def evFn (E : Env) (k : Nat) (g : FuncId) (args : V) : Tree V := (evCall E (ev E k) (fun _ => .none) (.inl g) args .nil 0).bind fun r => pubT (look (fun _ => .none) r.2.1) r.1

end Go.Fw
