/- Maps: what is found in a row of entries, behind what is put there and taken away. -/
import Derived.WalkKit
import Derived.MapKept
import Derived.RangeFuncRecord
import Derived.Maps.RangeRun
import GoSem.Instr.MapUpdate
import GoSem.Builtin.Delete
namespace Go.Fw

/-- A map's keys: numbers of a kind, or texts. -/
inductive MK where
  | int (k : IntKind)
  | str
def MK.is : MK → Value → Bool
  | .int k, .int k' _ => decide (k = k')
  | .str, .string _ => true
  | _, _ => false
def MK.of : MK → TypeDesc → Bool
  | .int k, .int k' => decide (k = k')
  | .str, .string => true
  | _, _ => false
def keyEq : Value → Value → Bool
  | .int _ a, .int _ b => a == b
  | .string a, .string b => a == b
  | _, _ => false
theorem bytes_eq (a b : ByteArray) : (a == b) = true ↔ a = b := by
  cases a; cases b
  rename_i x y
  show (x == y) = true ↔ _
  rw [beq_iff_eq]; simp
theorem keyEq_iff {kd : MK} {x y : Value} (hx : kd.is x = true) (hy : kd.is y = true) : keyEq x y = true ↔ x = y := by
  cases kd with
  | int k =>
    cases x <;> try (cases hx; done)
    rename_i k1 a
    cases y <;> try (cases hy; done)
    rename_i k2 b
    simp only [MK.is, decide_eq_true_eq] at hx hy
    subst hx; subst hy
    simp [keyEq]
  | str =>
    cases x <;> try (cases hx; done)
    cases y <;> try (cases hy; done)
    simp only [keyEq, bytes_eq, Value.string.injEq]
theorem sameNow_key {kd : MK} {d : TypeDesc} {x y : Value} (hd : kd.of d = true) (hx : kd.is x = true) (hy : kd.is y = true) : Instr.sameNow d x y = some (keyEq x y) := by
  cases kd with
  | int k =>
    cases d <;> try (cases hd; done)
    cases x <;> try (cases hx; done)
    rename_i k1 a
    cases y <;> try (cases hy; done)
    rename_i k2 b
    simp only [MK.is, decide_eq_true_eq] at hx hy
    subst hx; subst hy
    simp [Instr.sameNow, keyEq]
  | str =>
    cases d <;> try (cases hd; done)
    cases x <;> try (cases hx; done)
    cases y <;> try (cases hy; done)
    simp [Instr.sameNow, keyEq]
/-- Where a key is, and what stands there. -/
def mapFind (key : Value) : List MapEntry → Option (Nat × Value)
  | [] => none
  | e :: es => match keyEq key e.key with
    | true => some (0, e.val)
    | false => (mapFind key es).map fun p => (p.1 + 1, p.2)
theorem findNow_eq {kd : MK} {d : TypeDesc} {key : Value} (hd : kd.of d = true) (hk : kd.is key = true) : ∀ (es : List MapEntry) (i : Nat), (∀ e ∈ es, kd.is e.key = true) →
    Instr.findNow d key es i = some ((mapFind key es).map fun p => (i + p.1, p.2)) := by
  intro es
  induction es with
  | nil => intro i _; rfl
  | cons e es ih =>
    intro i h
    simp only [Instr.findNow, sameNow_key hd hk (h e (by simp)), mapFind]
    cases keyEq key e.key
    · dsimp only
      rw [ih (i + 1) fun e he => h e (List.mem_cons_of_mem _ he)]
      cases mapFind key es with
      | none => rfl
      | some p => simp; omega
    · rfl
/-- What is known of a map's entries: its keys are of the kind, no two are the same. -/
structure Entries (kd : MK) (es : List MapEntry) : Prop where
  is : ∀ e ∈ es, kd.is e.key = true
  one : (es.map (·.key)).Nodup
theorem Entries.nil {kd : MK} : Entries kd [] := ⟨fun e h => (by cases h), List.nodup_nil⟩
def mapGet (key : Value) (es : List MapEntry) : Option Value := (mapFind key es).map (·.2)
/-- What is told of a map's clock, and of its entries' births and keys. -/
abbrev Ks := Option (Nat × List (Nat × Value))
def bkOf (e : MapEntry) : Nat × Value := (e.born, e.key)
structure MapOk (kd : MK) (ks : Ks) (es : Array MapEntry) (clock : Nat) : Prop where
  ent : Entries kd es.toList
  told : ∀ c l, ks = some (c, l) → clock = c ∧ es.toList.map bkOf = l
theorem MapOk.unk {kd : MK} {es : Array MapEntry} {clock : Nat} (h : Entries kd es.toList) : MapOk kd none es clock := ⟨h, fun _ _ e => by cases e⟩
/-- Behind what is put there. -/
def putKs (put lit : Bool) (ks : Ks) (key : Value) : Ks :=
  match put, lit with
  | true, true => match ks with
    | some (c, l) => bif l.any (fun e => keyEq key e.2) then some (c, l) else some (c + 1, l ++ [(c, key)])
    | none => none
  | _, _ => none
theorem mapFind_none {key : Value} : ∀ es : List MapEntry, mapFind key es = none ↔ ∀ e ∈ es, keyEq key e.key = false := by
  intro es
  induction es with
  | nil => simp [mapFind]
  | cons e es ih =>
    simp only [mapFind, List.mem_cons, forall_eq_or_imp]
    cases h : keyEq key e.key
    · simp [ih]
    · simp
theorem mapFind_at {key : Value} : ∀ (es : List MapEntry) {i : Nat} {v : Value}, mapFind key es = some (i, v) → ∃ e, es[i]? = some e ∧ keyEq key e.key = true ∧ e.val = v := by
  intro es
  induction es with
  | nil => intro i v h; cases h
  | cons e es ih =>
    intro i v h
    simp only [mapFind] at h
    cases hk : keyEq key e.key
    · rw [hk] at h
      dsimp only at h
      cases hm : mapFind key es with
      | none => rw [hm] at h; cases h
      | some p =>
        rw [hm] at h
        simp only [Option.map_some, Option.some.injEq, Prod.mk.injEq] at h
        obtain ⟨rfl, rfl⟩ := h
        obtain ⟨e', h1, h2⟩ := ih (i := p.1) (v := p.2) hm
        exact ⟨e', by simpa using h1, h2⟩
    · rw [hk] at h
      simp only [Option.some.injEq, Prod.mk.injEq] at h
      obtain ⟨rfl, rfl⟩ := h
      exact ⟨e, rfl, hk, rfl⟩
/-- Put behind all. -/
theorem mapGet_push {key k : Value} {v : Value} {c : Nat} : ∀ (es : List MapEntry), mapFind key es = none → mapGet k (es ++ [{ key, val := v, born := c }]) = (match keyEq k key with
    | true => (match mapGet k es with | some x => some x | none => some v)
    | false => mapGet k es) := by
  intro es
  induction es with
  | nil => intro _; simp only [List.nil_append, mapGet, mapFind]; cases keyEq k key <;> rfl
  | cons e es ih =>
    intro h
    have h' := mapFind_none (e :: es) |>.1 h
    have h2 : mapFind key es = none := (mapFind_none es).2 fun e he => h' e (List.mem_cons_of_mem _ he)
    have := ih h2
    simp only [mapGet, List.cons_append, mapFind] at this ⊢
    cases hk : keyEq k e.key
    · dsimp only
      rw [Option.map_map, Option.map_map]
      exact this
    · dsimp only
      cases keyEq k key <;> rfl
theorem mapGet_set {kd : MK} {key k v : Value} (hkey : kd.is key = true) (hk : kd.is k = true) : ∀ (es : List MapEntry) {i : Nat} {x : Value}, (∀ e ∈ es, kd.is e.key = true) → mapFind key es = some (i, x) →
    mapGet k (es.modify i fun e => { e with key, val := v }) = (match keyEq k key with | true => some v | false => mapGet k es) := by
  intro es
  induction es with
  | nil => intro i x _ h; cases h
  | cons e es ih =>
    intro i x his h
    have he := his e (by simp)
    simp only [mapFind] at h
    cases hke : keyEq key e.key
    · rw [hke] at h
      dsimp only at h
      cases hm : mapFind key es with
      | none => rw [hm] at h; cases h
      | some p =>
        rw [hm] at h
        simp only [Option.map_some, Option.some.injEq, Prod.mk.injEq] at h
        obtain ⟨rfl, rfl⟩ := h
        have := ih (i := p.1) (x := p.2) (fun e he => his e (List.mem_cons_of_mem _ he)) hm
        simp only [List.modify_succ_cons, mapGet, mapFind] at this ⊢
        cases hk2 : keyEq k e.key
        · dsimp only
          rw [Option.map_map, Option.map_map]
          exact this
        · dsimp only
          have e1 := (keyEq_iff hk he).1 hk2
          have : keyEq k key = false := by
            cases h3 : keyEq k key
            · rfl
            · have e2 := (keyEq_iff hk hkey).1 h3
              rw [e2] at e1; rw [← e1] at hke
              rw [(keyEq_iff hkey hkey).2 rfl] at hke; cases hke
          rw [this]
    · rw [hke] at h
      simp only [Option.some.injEq, Prod.mk.injEq] at h
      obtain ⟨rfl, rfl⟩ := h
      have e1 := (keyEq_iff hkey he).1 hke
      simp only [List.modify_zero_cons, mapGet, mapFind]
      rw [← e1]
      cases keyEq k key <;> rfl
theorem Entries.push {kd : MK} {key v : Value} {c : Nat} {es : List MapEntry} (h : Entries kd es) (hk : kd.is key = true) (hn : mapFind key es = none) : Entries kd (es ++ [{ key, val := v, born := c }]) := by
  refine ⟨fun e he => ?_, ?_⟩
  · rcases List.mem_append.1 he with h1 | h1
    · exact h.is e h1
    · simp only [List.mem_singleton] at h1; subst h1; exact hk
  · rw [List.map_append, List.nodup_append]
    refine ⟨h.one, by simp, fun a ha b hb => ?_⟩
    simp only [List.map_cons, List.map_nil, List.mem_singleton] at hb
    subst hb
    obtain ⟨e, he, rfl⟩ := List.mem_map.1 ha
    intro e1
    have := (mapFind_none es).1 hn e he
    rw [← e1] at this
    have h3 := (keyEq_iff (h.is e he) (h.is e he)).2 rfl
    rw [h3] at this; cases this
theorem modify_map_key {key v : Value} : ∀ (es : List MapEntry) (i : Nat), (∀ e, es[i]? = some e → e.key = key) → (es.modify i fun e => { e with key, val := v }).map (·.key) = es.map (·.key) := by
  intro es
  induction es with
  | nil => intro i _; simp
  | cons e es ih =>
    intro i h
    cases i with
    | zero => simp only [List.modify_zero_cons, List.map_cons]; rw [h e rfl]
    | succ i => simp only [List.modify_succ_cons, List.map_cons]; rw [ih i fun e' he' => h e' (by simpa using he')]
theorem Entries.set {kd : MK} {key v x : Value} {es : List MapEntry} {i : Nat} (h : Entries kd es) (hk : kd.is key = true) (hf : mapFind key es = some (i, x)) : Entries kd (es.modify i fun e => { e with key, val := v }) := by
  have hkeys : (es.modify i fun e => { e with key, val := v }).map (·.key) = es.map (·.key) := modify_map_key es i fun e he => by
    obtain ⟨e', h1, h2, _⟩ := mapFind_at es hf
    rw [he] at h1; injection h1 with h1; subst h1
    exact ((keyEq_iff hk (h.is e (List.mem_of_getElem? he))).1 h2).symm
  refine ⟨fun e he => ?_, by rw [hkeys]; exact h.one⟩
  have : e.key ∈ es.map (·.key) := by rw [← hkeys]; exact List.mem_map.2 ⟨e, he, rfl⟩
  obtain ⟨e', h1, h2⟩ := List.mem_map.1 this
  rw [← h2]; exact h.is e' h1
/-- Taken away. -/
theorem mapGet_erase {kd : MK} {key k : Value} (hkey : kd.is key = true) (hk : kd.is k = true) : ∀ (es : List MapEntry) {i : Nat} {x : Value}, Entries kd es → mapFind key es = some (i, x) →
    mapGet k (es.eraseIdx i) = (match keyEq k key with | true => none | false => mapGet k es) := by
  intro es
  induction es with
  | nil => intro i x _ h; cases h
  | cons e es ih =>
    intro i x hE h
    have he := hE.is e (by simp)
    have hE' : Entries kd es := ⟨fun e he => hE.is e (List.mem_cons_of_mem _ he), (List.nodup_cons.1 hE.one).2⟩
    simp only [mapFind] at h
    cases hke : keyEq key e.key
    · rw [hke] at h
      dsimp only at h
      cases hm : mapFind key es with
      | none => rw [hm] at h; cases h
      | some p =>
        rw [hm] at h
        simp only [Option.map_some, Option.some.injEq, Prod.mk.injEq] at h
        obtain ⟨rfl, rfl⟩ := h
        have := ih (i := p.1) (x := p.2) hE' hm
        simp only [List.eraseIdx_cons_succ, mapGet, mapFind] at this ⊢
        cases hk2 : keyEq k e.key
        · dsimp only
          rw [Option.map_map, Option.map_map]
          exact this
        · dsimp only
          have e1 := (keyEq_iff hk he).1 hk2
          have : keyEq k key = false := by
            cases h3 : keyEq k key
            · rfl
            · have e2 := (keyEq_iff hk hkey).1 h3
              rw [e2] at e1; rw [e1] at hke
              rw [(keyEq_iff he he).2 rfl] at hke; cases hke
          rw [this]
    · rw [hke] at h
      simp only [Option.some.injEq, Prod.mk.injEq] at h
      obtain ⟨rfl, rfl⟩ := h
      have e1 := (keyEq_iff hkey he).1 hke
      have hnot : ∀ e' ∈ es, e'.key ≠ key := fun e' he' h3 => (List.nodup_cons.1 hE.one).1 (List.mem_map.2 ⟨e', he', h3.trans e1⟩)
      simp only [List.eraseIdx_cons_zero, mapGet, mapFind]
      cases hk2 : keyEq k key
      · have : keyEq k e.key = false := by rw [← e1]; exact hk2
        rw [this, Option.map_map]; rfl
      · have e2 := (keyEq_iff hk hkey).1 hk2
        dsimp only
        have : mapFind k es = none := (mapFind_none es).2 fun e' he' => by
          cases h4 : keyEq k e'.key
          · rfl
          · exact absurd ((keyEq_iff hk (hE'.is e' he')).1 h4).symm (by rw [e2]; exact hnot e' he')
        rw [this]; rfl
theorem Entries.erase {kd : MK} {es : List MapEntry} {i : Nat} (h : Entries kd es) : Entries kd (es.eraseIdx i) :=
  ⟨fun e he => h.is e (List.mem_of_mem_eraseIdx he), by
    have : List.Sublist ((es.eraseIdx i).map (·.key)) (es.map (·.key)) := (List.eraseIdx_sublist es i).map _
    exact this.nodup h.one⟩
end Go.Fw
namespace Go.Fw
section
variable {P : Program} {w : World} {t kt et : TypeId} {d : TypeDesc} {kd : MK} {r : Nat} {es : Array MapEntry} {clock : Nat} {key : Value}
theorem isKey_of (hkd : kd.of d = true) (hk : kd.is key = true) : MapKept.IsKey d key := by
  cases kd <;> cases d <;> first | (cases hkd; done) | skip
  · cases key <;> first | (cases hk; done) | skip
    simp only [MK.of, MK.is, decide_eq_true_eq] at hkd hk
    subst hkd; subst hk; rfl
  · cases key <;> first | (cases hk; done) | trivial
theorem run_mapFind (hd : P.underlying kt = some d) (hkd : kd.of d = true) (hE : Entries kd es.toList) (hk : kd.is key = true) : (Instr.findKey kt key es.toList).run P w = .ok (mapFind key es.toList) w := by
  refine MapKept.run_findKey hd ?_
  rw [findNow_eq hkd hk es.toList 0 hE.is]
  cases mapFind key es.toList <;> simp
theorem putKs_some {lit : Bool} {ks : Ks} {key : Value} {c : Nat} {l : List (Nat × Value)} (h : putKs true lit ks key = some (c, l)) :
    ∃ c0 l0, ks = some (c0, l0) ∧ (bif l0.any (fun e => keyEq key e.2) then (c0, l0) else (c0 + 1, l0 ++ [(c0, key)])) = (c, l) ∧ lit = true := by
  cases lit with
  | false => cases h
  | true =>
    cases ks with
    | none => cases h
    | some p =>
      obtain ⟨c0, l0⟩ := p
      refine ⟨c0, l0, rfl, ?_, rfl⟩
      simp only [putKs] at h
      cases hb : l0.any (fun e => keyEq key e.2) <;> rw [hb] at h <;> simpa using h
theorem modify_map_bk {key v : Value} : ∀ (es : List MapEntry) (i : Nat), (∀ e, es[i]? = some e → e.key = key) → (es.modify i fun e => { e with key, val := v }).map bkOf = es.map bkOf := by
  intro es
  induction es with
  | nil => intro i _; simp
  | cons e es ih =>
    intro i h
    cases i with
    | zero => simp only [List.modify_zero_cons, List.map_cons, bkOf]; rw [h e rfl]
    | succ i => simp only [List.modify_succ_cons, List.map_cons]; rw [ih i fun e' he' => h e' (by simpa using he')]
theorem run_update (hm : P.underlying t = some (.map kt et)) (hd : P.underlying kt = some d) (hkd : kd.of d = true) (hb : w.heap[r]? = some (.map es clock)) (hE : Entries kd es.toList) (hk : kd.is key = true) (v : Value) :
    ∃ es' clock', (Instr.mapUpdate t (.map (some r)) key v).run P w = .ok () (w.putObj r (.map es' clock')) ∧ Entries kd es'.toList ∧ (∀ k, kd.is k = true → mapGet k es'.toList = (match keyEq k key with | true => some v | false => mapGet k es.toList)) ∧ ∀ (lit : Bool) (ks : Ks), MapOk kd ks es clock → MapOk kd (putKs true lit ks key) es' clock' := by
  have hK := isKey_of hkd hk
  cases hf : mapFind key es.toList with
  | none =>
    refine ⟨es.push { key, val := v, born := clock }, clock + 1, ?_, ?_, fun k hk' => ?_, fun lit ks ho => ⟨by rw [Array.toList_push]; exact hE.push hk hf, fun c l e => ?_⟩⟩
    · have h1 := run_mapFind (w := w) hd hkd hE hk
      rw [hf] at h1
      simp [Instr.mapUpdate, run_underlying hm, MapKept.run_getObj_map hb, MapKept.run_checkKey hd hK, h1, MapKept.run_setObj_map _ hb, Result.andThen, World.putObj]
    · rw [Array.toList_push]; exact hE.push hk hf
    · rw [Array.toList_push, mapGet_push es.toList hf]
      cases hkk : keyEq k key
      · rfl
      · have := (keyEq_iff hk' hk).1 hkk
        subst this
        simp only [mapGet, hf, Option.map_none]
    · obtain ⟨c0, l0, h1, h2, rfl⟩ := putKs_some e
      obtain ⟨rfl, rfl⟩ := ho.told _ _ h1
      have hany : (es.toList.map bkOf).any (fun e => keyEq key e.2) = false := by
        rw [List.any_eq_false]
        intro x hx
        obtain ⟨e', he', rfl⟩ := List.mem_map.1 hx
        have := (mapFind_none es.toList).1 hf e' he'
        simpa [bkOf] using this
      rw [hany] at h2
      simp only [cond_false, Prod.mk.injEq] at h2
      obtain ⟨rfl, rfl⟩ := h2
      exact ⟨rfl, by rw [Array.toList_push, List.map_append]; rfl⟩
  | some p =>
    obtain ⟨i, x⟩ := p
    refine ⟨es.modify i fun e => { e with key, val := v }, clock, ?_, ?_, fun k hk' => ?_, fun lit ks ho => ⟨by rw [Array.toList_modify]; exact hE.set hk hf, fun c l e => ?_⟩⟩
    · have h1 := run_mapFind (w := w) hd hkd hE hk
      rw [hf] at h1
      obtain ⟨e, he1, he2, he3⟩ := mapFind_at es.toList hf
      have he4 : e.key = key := ((keyEq_iff hk (hE.is e (List.mem_of_getElem? he1))).1 he2).symm
      have he5 : es[i]? = some e := by rw [← Array.getElem?_toList]; exact he1
      simp [Instr.mapUpdate, run_underlying hm, MapKept.run_getObj_map hb, MapKept.run_checkKey hd hK, h1, he5, he4, MapKept.run_keyThatStays hK, MapKept.run_setObj_map _ hb, Result.andThen, World.putObj]
    · rw [Array.toList_modify]; exact hE.set hk hf
    · rw [Array.toList_modify]; exact mapGet_set hk hk' es.toList hE.is hf
    · obtain ⟨c0, l0, h1, h2, rfl⟩ := putKs_some e
      obtain ⟨rfl, rfl⟩ := ho.told _ _ h1
      obtain ⟨e1, he1, he2, he3⟩ := mapFind_at es.toList hf
      have he4 : e1.key = key := ((keyEq_iff hk (hE.is e1 (List.mem_of_getElem? he1))).1 he2).symm
      have hany : (es.toList.map bkOf).any (fun e => keyEq key e.2) = true := by
        rw [List.any_eq_true]
        exact ⟨bkOf e1, List.mem_map.2 ⟨e1, List.mem_of_getElem? he1, rfl⟩, he2⟩
      rw [hany] at h2
      simp only [cond_true, Prod.mk.injEq] at h2
      obtain ⟨rfl, rfl⟩ := h2
      exact ⟨rfl, by rw [Array.toList_modify]; exact modify_map_bk es.toList i fun e' h' => by rw [he1] at h'; injection h' with h'; subst h'; exact he4⟩
theorem run_look (hm : P.underlying t = some (.map kt et)) (hd : P.underlying kt = some d) (hkd : kd.of d = true) (hb : w.heap[r]? = some (.map es clock)) (hE : Entries kd es.toList) (hk : kd.is key = true) {z : Value} (hz : (zeroValue et).run P w = .ok z w) (ok : Bool) :
    (Instr.lookup t (.map (some r)) key ok).run P w = .ok (if ok then .tuple #[((mapGet key es.toList).getD z), .bool (mapGet key es.toList).isSome] else (mapGet key es.toList).getD z) w := by
  have hK := isKey_of hkd hk
  have h1 := run_mapFind (w := w) hd hkd hE hk
  unfold mapGet
  cases hf : mapFind key es.toList with
  | none =>
    rw [hf] at h1
    cases ok <;> simp [Instr.lookup, run_underlying hm, MapKept.run_getObj_map hb, MapKept.run_checkKey hd hK, h1, hz, Result.andThen]
  | some p =>
    rw [hf] at h1
    cases ok <;> simp [Instr.lookup, run_underlying hm, MapKept.run_getObj_map hb, MapKept.run_checkKey hd hK, h1, Result.andThen]
theorem run_look_nil (hm : P.underlying t = some (.map kt et)) (hd : P.underlying kt = some d) (hkd : kd.of d = true) (hk : kd.is key = true) {z : Value} (hz : (zeroValue et).run P w = .ok z w) (ok : Bool) :
    (Instr.lookup t (.map none) key ok).run P w = .ok (if ok then .tuple #[z, .bool false] else z) w := by
  have hK := isKey_of hkd hk
  have h1 := run_mapFind (w := w) (es := #[]) hd hkd Entries.nil hk
  cases ok <;> simp [Instr.lookup, run_underlying hm, MapKept.run_checkKey hd hK, h1, hz, mapFind, Result.andThen]
theorem run_erase (hm : P.underlying t = some (.map kt et)) (hd : P.underlying kt = some d) (hkd : kd.of d = true) (hb : w.heap[r]? = some (.map es clock)) (hE : Entries kd es.toList) (hk : kd.is key = true) (ty : TypeId) (ts : Array TypeId) (hts : ts[0]? = some t) :
    ∃ es' clock', (Builtin.delete_ ts ty #[.map (some r), key]).run P w = .ok (.tuple #[]) (w.putObj r (.map es' clock')) ∧ Entries kd es'.toList ∧ ∀ k, kd.is k = true → mapGet k es'.toList = (match keyEq k key with | true => none | false => mapGet k es.toList) := by
  have hK := isKey_of hkd hk
  have h1 := run_mapFind (w := w) hd hkd hE hk
  cases hf : mapFind key es.toList with
  | none =>
    rw [hf] at h1
    refine ⟨es, clock, ?_, hE, fun k hk' => ?_⟩
    · simp [Builtin.delete_, hts, run_underlying hm, MapKept.run_getObj_map hb, MapKept.run_checkKey hd hK, h1, MapKept.run_setObj_map _ hb, Result.andThen, World.putObj]
    · cases hkk : keyEq k key
      · rfl
      · have := (keyEq_iff hk' hk).1 hkk
        subst this
        simp only [mapGet, hf, Option.map_none]
  | some p =>
    obtain ⟨i, x⟩ := p
    rw [hf] at h1
    obtain ⟨e, he1, _, _⟩ := mapFind_at es.toList hf
    have hi : i < es.size := by
      rcases Nat.lt_or_ge i es.size with h | h
      · exact h
      · rw [List.getElem?_eq_none (by simpa using h)] at he1; cases he1
    have hel : (es.eraseIdxIfInBounds i).toList = es.toList.eraseIdx i := by
      unfold Array.eraseIdxIfInBounds
      rw [dif_pos hi]
      simp
    refine ⟨es.eraseIdxIfInBounds i, clock, ?_, by rw [hel]; exact hE.erase, fun k hk' => ?_⟩
    · simp [Builtin.delete_, hts, run_underlying hm, MapKept.run_getObj_map hb, MapKept.run_checkKey hd hK, h1, MapKept.run_setObj_map _ hb, Result.andThen, World.putObj]
    · rw [hel]; exact mapGet_erase hk hk' es.toList hE hf
end

/-! ### A range over a map -/
/-- What is left of a map's entries. -/
def leftL (seen : List Nat) (l : List (Nat × Value)) : List (Nat × Value) := l.filter fun e => !seen.contains e.1
/-- Nothing was laid into the map since the range began; births tell the entries apart. -/
def oldL (since : Nat) : List (Nat × Value) → Bool
  | [] => true
  | e :: l => Nat.blt e.1 since && ((l.all fun x => !Nat.beq x.1 e.1) && oldL since l)
theorem oldL_spec {since : Nat} : ∀ {l : List (Nat × Value)}, oldL since l = true → (∀ x ∈ l, x.1 < since) ∧ (l.map (·.1)).Nodup := by
  intro l
  induction l with
  | nil => intro _; exact ⟨fun x h => (by cases h), List.nodup_nil⟩
  | cons e l ih =>
    intro h
    simp only [oldL, Bool.and_eq_true, List.all_eq_true] at h
    obtain ⟨h1, h2, h3⟩ := h
    obtain ⟨k1, k2⟩ := ih h3
    refine ⟨fun x hx => ?_, ?_⟩
    · rcases List.mem_cons.1 hx with hx | hx
      · rw [hx]; exact Nat.le_of_ble_eq_true h1
      · exact k1 x hx
    · rw [List.map_cons]
      refine List.nodup_cons.2 ⟨fun hm => ?_, k2⟩
      obtain ⟨x, hx, e1⟩ := List.mem_map.1 hm
      have := h2 x hx
      rw [e1] at this
      simp at this
theorem leftOf_bk (seen : List Nat) (es : Array MapEntry) : (leftOf es seen.toArray).toList.map bkOf = leftL seen (es.toList.map bkOf) := by
  unfold leftOf leftL
  rw [Array.toList_filter, List.filter_map]
  congr 1
  refine List.filter_congr fun e _ => ?_
  show _ = !seen.contains (bkOf e).1
  simp [bkOf]
theorem mapGet_mem {kd : MK} : ∀ {es : List MapEntry}, Entries kd es → ∀ e ∈ es, mapGet e.key es = some e.val := by
  intro es
  induction es with
  | nil => intro _ e h; cases h
  | cons x es ih =>
    intro hE e he
    have hE' : Entries kd es := ⟨fun e he => hE.is e (List.mem_cons_of_mem _ he), (List.nodup_cons.1 hE.one).2⟩
    simp only [mapGet, mapFind]
    rcases List.mem_cons.1 he with rfl | he'
    · rw [(keyEq_iff (hE.is _ he) (hE.is _ he)).2 rfl]; rfl
    · cases hk : keyEq e.key x.key
      · dsimp only
        rw [Option.map_map]
        have := ih hE' e he'
        unfold mapGet at this
        rw [← this]; rfl
      · exact absurd (List.mem_map.2 ⟨e, he', (keyEq_iff (hE.is _ he) (hE.is _ (by simp))).1 hk⟩) (List.nodup_cons.1 hE.one).1
end Go.Fw
