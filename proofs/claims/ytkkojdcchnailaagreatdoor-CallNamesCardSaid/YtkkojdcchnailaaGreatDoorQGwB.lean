/- How abstract states stand to the model's, and what a tree of decisions promises. -/
import Derived.Test.YtkkojdcchnailaaGreatDoorQGwX
namespace Go.Fw

section
variable {F F' : Nat → Prop} {w w' : World}

/-- Blocks of cells stay, and their sizes. -/
def Sizes (w w' : World) : Prop := ∀ (B : Nat) (c : Array Value) (el : TypeId) (fr : Nat × Nat), w.heap[B]? = some (Obj.cells c el fr) → ∃ (c' : Array Value) (fr' : Nat × Nat), w'.heap[B]? = some (Obj.cells c' el fr') ∧ c'.size = c.size
theorem Sizes.refl (w : World) : Sizes w w := fun _ c _ fr h => ⟨c, fr, h, rfl⟩
theorem Sizes.trans {w w1 w2 : World} (h : Sizes w w1) (h' : Sizes w1 w2) : Sizes w w2 := fun B c el fr hB => by
  obtain ⟨c1, fr1, h1, e1⟩ := h B c el fr hB
  obtain ⟨c2, fr2, h2, e2⟩ := h' B c1 el fr1 h1
  exact ⟨c2, fr2, h2, e2.trans e1⟩
theorem Sizes.of_keep {w w' : World} (h : ∀ B, B < w.heap.size → w'.heap[B]? = w.heap[B]?) : Sizes w w' := fun B c el fr hB => by
  rcases Nat.lt_or_ge B w.heap.size with h' | h'
  · exact ⟨c, fr, by rw [h B h']; exact hB, rfl⟩
  · rw [Array.getElem?_eq_none h'] at hB; cases hB
/-- A value stands for what it stood for, in a later world. -/
theorem R_mono (hs : Sizes w w') (hF : ∀ B, F B → F' B) (hw : ∀ B, F B → w'.heap[B]? = w.heap[B]?) : ∀ (v : V) (n n' : Nat) (m m' : Nat → Option Nat),
    n ≤ n' → (∀ b, b < n → ∀ B, m b = some B → m' b = some B) →
    (∀ x, R F w v n m x → R F' w' v n' m' x) ∧ (∀ xs, RL F w v n m xs → RL F' w' v n' m' xs) := by
  intro v
  induction v with
  | cons h t ih1 ih2 =>
    intro n n' m m' hn hm
    refine ⟨fun x h => by simp only [R] at h, fun xs h => ?_⟩
    simp only [RL] at h ⊢
    obtain ⟨x, r, rfl, h1, h2⟩ := h
    exact ⟨x, r, rfl, (ih1 n n' m m' hn hm).1 _ h1, (ih2 n n' m m' hn hm).2 _ h2⟩
  | agg cs ih =>
    intro n n' m m' hn hm
    refine ⟨fun x h => ?_, fun xs h => by simp only [RL] at h⟩
    simp only [R] at h ⊢
    obtain ⟨xs, rfl, h1⟩ := h
    exact ⟨xs, rfl, (ih n n' m m' hn hm).2 _ h1⟩
  | tup cs ih =>
    intro n n' m m' hn hm
    refine ⟨fun x h => ?_, fun xs h => by simp only [RL] at h⟩
    simp only [R] at h ⊢
    obtain ⟨xs, rfl, h1⟩ := h
    exact ⟨xs, rfl, (ih n n' m m' hn hm).2 _ h1⟩
  | fn f a b ih1 ih2 =>
    intro n n' m m' hn hm
    refine ⟨fun x h => ?_, fun xs h => by simp only [RL] at h⟩
    simp only [R] at h ⊢
    obtain ⟨xs, ys, rfl, h1, h2⟩ := h
    exact ⟨xs, ys, rfl, (ih1 n n' m m' hn hm).2 _ h1, (ih2 n n' m m' hn hm).2 _ h2⟩
  | ptr st b es i o =>
    intro n n' m m' hn hm
    refine ⟨fun x h => ?_, fun xs h => by simp only [RL] at h⟩
    simp only [R] at h ⊢
    obtain ⟨hb, B, hx, h⟩ := h
    exact ⟨Nat.lt_of_lt_of_le hb hn, B, hx, hm b hb B h⟩
  | osl st b es i k =>
    intro n n' m m' hn hm
    refine ⟨fun x h => ?_, fun xs h => by simp only [RL] at h⟩
    simp only [R] at h ⊢
    obtain ⟨hb, a, cap, hx, hk, h⟩ := h
    exact ⟨Nat.lt_of_lt_of_le hb hn, a, cap, hx, hk, h.imp id fun ⟨B, c, el, fr, ha, h, hc, hz⟩ => by
      obtain ⟨c', fr', hc', e⟩ := hs B c el fr hc
      exact ⟨B, c', el, fr', ha, hm b hb B h, hc', by rw [e]; exact hz⟩⟩
  | osp st b es i k c0 =>
    intro n n' m m' hn hm
    refine ⟨fun x h => ?_, fun xs h => by simp only [RL] at h⟩
    simp only [R] at h ⊢
    obtain ⟨hb, a, cap, hx, hk, hk2, h⟩ := h
    exact ⟨Nat.lt_of_lt_of_le hb hn, a, cap, hx, hk, hk2, h.imp id fun ⟨B, c, el, fr, ha, h, hc, hz⟩ => by
      obtain ⟨c', fr', hc', e⟩ := hs B c el fr hc
      exact ⟨B, c', el, fr', ha, hm b hb B h, hc', by rw [e]; exact hz⟩⟩
  | rptr st es k get i o ih =>
    intro n n' m m' hn hm
    refine ⟨fun x h => ?_, fun xs h => by simp only [RL] at h⟩
    simp only [R] at h ⊢
    obtain ⟨hi, B, off, rfl, hB, c, el, fr, hc, hr⟩ := h
    refine ⟨hi, B, off, rfl, hF B hB, c, el, fr, by rw [hw B hB]; exact hc, fun j hj => ?_⟩
    obtain ⟨xs, h1, h2, h3⟩ := hr j hj
    exact ⟨xs, (ih j 0 0 _ _ (Nat.le_refl _) (fun b hb => absurd hb (Nat.not_lt_zero _))).2 _ h1, h2, h3⟩
  | rsl st es k get ih =>
    intro n n' m m' hn hm
    refine ⟨fun x h => ?_, fun xs h => by simp only [RL] at h⟩
    simp only [R] at h ⊢
    obtain ⟨a, cap, rfl, hk, h⟩ := h
    refine ⟨a, cap, rfl, hk, ?_⟩
    rcases h with h | ⟨B, off, rfl, hB, c, el, fr, hc, hr⟩
    · exact .inl h
    · refine .inr ⟨B, off, rfl, hF B hB, c, el, fr, by rw [hw B hB]; exact hc, fun j hj => ?_⟩
      obtain ⟨xs, h1, h2, h3⟩ := hr j hj
      exact ⟨xs, (ih j 0 0 _ _ (Nat.le_refl _) (fun b hb => absurd hb (Nat.not_lt_zero _))).2 _ h1, h2, h3⟩
  | rmp st kd has get ih =>
    intro n n' m m' hn hm
    refine ⟨fun x h => ?_, fun xs h => by simp only [RL] at h⟩
    simp only [R] at h ⊢
    obtain ⟨B, rfl, hB, es, cl, hc, he, hr⟩ := h
    exact ⟨B, rfl, hF B hB, es, cl, by rw [hw B hB]; exact hc, he, fun k hk => ⟨(hr k hk).1, fun v hv => (ih k 0 0 _ _ (Nat.le_refl _) (fun b hb => absurd hb (Nat.not_lt_zero _))).1 _ ((hr k hk).2 v hv)⟩⟩
  | yld b =>
    intro n n' m m' hn hm
    refine ⟨fun x h => ?_, fun xs h => by simp only [RL] at h⟩
    simp only [R] at h ⊢
    obtain ⟨hb, l, hx, h⟩ := h
    exact ⟨Nat.lt_of_lt_of_le hb hn, l, hx, hm b hb l h⟩
  | mp b =>
    intro n n' m m' hn hm
    refine ⟨fun x h => ?_, fun xs h => by simp only [RL] at h⟩
    simp only [R] at h ⊢
    obtain ⟨hb, l, hx, h⟩ := h
    exact ⟨Nat.lt_of_lt_of_le hb hn, l, hx, hm b hb l h⟩
  | nil => intro n n' m m' _ _; exact ⟨fun x h => by simp only [R] at h, fun xs h => by simp only [RL] at h ⊢; exact h⟩
  | junk => intro n n' m m' _ _; exact ⟨fun x h => by simp only [R], fun xs h => by simp only [RL] at h⟩
  | _ => intro n n' m m' _ _; exact ⟨fun x h => by simp only [R] at h ⊢; exact h, fun xs h => by simp only [RL] at h⟩

/-- A value that names no block stands for itself under any naming. -/
theorem R_clean : ∀ (v : V), v.clean = true → ∀ (n n' : Nat) (m m' : Nat → Option Nat),
    (∀ x, R F w v n m x → R F w v n' m' x) ∧ (∀ xs, RL F w v n m xs → RL F w v n' m' xs) := by
  intro v
  induction v with
  | cons h t ih1 ih2 =>
    intro hc n n' m m'
    simp only [V.clean, Bool.and_eq_true] at hc
    refine ⟨fun x h => by simp only [R] at h, fun xs h => ?_⟩
    simp only [RL] at h ⊢
    obtain ⟨x, r, rfl, h1, h2⟩ := h
    exact ⟨x, r, rfl, (ih1 hc.1 n n' m m').1 _ h1, (ih2 hc.2 n n' m m').2 _ h2⟩
  | agg cs ih =>
    intro hc n n' m m'
    refine ⟨fun x h => ?_, fun xs h => by simp only [RL] at h⟩
    simp only [R] at h ⊢
    obtain ⟨xs, rfl, h1⟩ := h
    exact ⟨xs, rfl, (ih hc n n' m m').2 _ h1⟩
  | tup cs ih =>
    intro hc n n' m m'
    refine ⟨fun x h => ?_, fun xs h => by simp only [RL] at h⟩
    simp only [R] at h ⊢
    obtain ⟨xs, rfl, h1⟩ := h
    exact ⟨xs, rfl, (ih hc n n' m m').2 _ h1⟩
  | fn f a b ih1 ih2 =>
    intro hc n n' m m'
    simp only [V.clean, Bool.and_eq_true] at hc
    refine ⟨fun x h => ?_, fun xs h => by simp only [RL] at h⟩
    simp only [R] at h ⊢
    obtain ⟨xs, ys, rfl, h1, h2⟩ := h
    exact ⟨xs, ys, rfl, (ih1 hc.1 n n' m m').2 _ h1, (ih2 hc.2 n n' m m').2 _ h2⟩
  | ptr st b es i o => intro hc; cases hc
  | osl st b es i k => intro hc; cases hc
  | osp st b es i k c => intro hc; cases hc
  | yld b => intro hc; cases hc
  | mp b => intro hc; cases hc
  | nil => intro _ n n' m m'; exact ⟨fun x h => by simp only [R] at h, fun xs h => by simp only [RL] at h ⊢; exact h⟩
  | junk => intro _ n n' m m'; exact ⟨fun x h => by simp only [R], fun xs h => by simp only [RL] at h⟩
  | _ => intro _ n n' m m'; exact ⟨fun x h => by simp only [R] at h ⊢; exact h, fun xs h => by simp only [RL] at h⟩
end

theorem prefix_get {xs : Array Value} {ys zs : List Value} (h : xs.toList = ys ++ zs) {q : Nat} (hq : q < ys.length) : xs[q]? = ys[q]? := by
  rw [← Array.getElem?_toList, h, List.getElem?_append_left hq]
theorem prefix_len {xs : Array Value} {ys zs : List Value} (h : xs.toList = ys ++ zs) : ys.length ≤ xs.size := by
  have := congrArg List.length h
  simp at this
  omega
def stOf : Nat → LoopState
  | 0 => .ready
  | 1 => .busy
  | _ => .done
def codeOf : Option Ex → Option Code
  | some .ret => some .ret
  | some (.exit i) => some (.exit i)
  | _ => none
/-- How a block stands. 'B': the model's block, if it is there. -/
def RB (F : Nat → Prop) (w : World) (n : Nat) (m : Nat → Option Nat) : Blk → Option Nat → Prop
  | .none, B => B = none
  | .any, _ => True
  | .var cs, B => ∃ b xs el ys zs, B = some b ∧ w.heap[b]? = some (.cells xs el (0, 0)) ∧ xs.toList = ys ++ zs ∧ RL F w cs n m ys
  | .arr es k get, B => (k = 0 ∧ B = none) ∨ ∃ b c el, B = some b ∧ w.heap[b]? = some (.cells c el (0, 0)) ∧ k * es ≤ c.size ∧
      ∀ j, j < k → ∃ xs, RL F w (get j) 0 (fun _ => none) xs ∧ xs.length = es ∧ ∀ q, q < es → c[j * es + q]? = xs[q]?
  | .iter mb since seen last, B => ∃ (r : Nat) (x : Option Nat), B = some r ∧ w.heap[r]? = some (.mapIter x since seen.toArray last) ∧ match mb with
      | none => x = none
      | some b => ∃ y, b < n ∧ x = some y ∧ m b = some y
  | .mapV kd _ f ks, B => ∃ (b : Nat) (es : Array MapEntry) (clock : Nat), B = some b ∧ w.heap[b]? = some (.map es clock) ∧ MapOk kd ks es clock ∧
      ∀ k, kd.is k = true → (f k).1 = (mapGet k es.toList).isSome ∧ ∀ v, mapGet k es.toList = some v → R F w (f k).2 n m v
  | .rng _ ps asg bd row N st pend, B => ∃ l r, B = some l ∧ w.heap[l]? = some (.loop r) ∧ r.params.toList = ps ∧ r.assign = asg ∧ r.body = bd ∧ r.state = stOf st ∧ r.pending = codeOf pend ∧ N = r.tmps.size ∧ ∀ i, R F w (row i) n m (r.tmps.getD i Go.undef)

/-- A table is no longer than what is known of it. -/
def exactAt (F : Nat → Prop) (w : World) (g : Nat) : V → Prop
  | .rptr _ es n _ _ _ => F g ∧ ∃ c el fr, w.heap[g]? = some (.cells c el fr) ∧ c.size = n * es
  | _ => True
/-- The package-level variables hold what is known of them. -/
def GOk (F : Nat → Prop) (w : World) : Prop := ∀ g v, glob g = some v → v.clean = true ∧ R F w v 0 (fun _ => none) (.pointer (some ⟨g, 0, none⟩)) ∧ exactAt F w g v
theorem GOk.mono {F F' : Nat → Prop} {w w' : World} (h : GOk F w) (hs : Sizes w w') (hF : ∀ B, F B → F' B) (hw : ∀ B, F B → w'.heap[B]? = w.heap[B]?) : GOk F' w' := fun g v hg =>
  ⟨(h g v hg).1, (R_mono hs hF hw v 0 0 _ _ (Nat.le_refl _) (fun _ _ _ h => h)).1 _ (h g v hg).2.1, by
    have h3 := (h g v hg).2.2
    cases v <;> try (exact trivial)
    obtain ⟨h1, c, el, fr, h2, h4⟩ := h3
    exact ⟨hF _ h1, c, el, fr, by rw [hw _ h1]; exact h2, h4⟩⟩
/-- The heaps stand to one another. -/
structure HR (base : Nat) (m : Nat → Option Nat) (F : Nat → Prop) (h : Nat → Blk) (n : Nat) (w : World) : Prop where
  low : base ≤ w.heap.size
  fdom : ∀ B, F B → B < w.heap.size
  blk : ∀ b, b < n → RB F w n m (h b) (m b)
  dom : ∀ b B, m b = some B → B < w.heap.size
  new : ∀ b, n ≤ b → m b = none
  gl : GOk F w
  own : ∀ b B, m b = some B → base ≤ B ∧ ¬ F B
  inj : ∀ b b' B, m b = some B → m b' = some B → b ≠ b' → h b = .any ∨ h b' = .any

/-- The marks that ranges over functions leave among a frame's deferred calls: blocks without calls, laid since 'lo', that have no name. -/
structure Marks (lo : Nat) (m : Nat → Option Nat) (F : Nat → Prop) (w : World) (ds : List Deferred) (rs : List Nat) : Prop where
  eq : ds = rs.map fun r => { target := .collected r, args := #[] }
  nodup : rs.Nodup
  le : lo ≤ w.heap.size
  lo : ∀ r ∈ rs, lo ≤ r
  obj : ∀ r ∈ rs, w.heap[r]? = some (.deferred (some []))
  un : ∀ r ∈ rs, ¬ F r ∧ ∀ b, m b ≠ some r
structure Rel {B : Base} (lo base : Nat) (m : Nat → Option Nat) (F : Nat → Prop) (s : St B) (a : Act) (w : World) : Prop where
  hr : HR base m F s.blk s.n w
  defers : ∃ rs, Marks lo m F w a.defers rs
  size : a.tmps.size = s.N
  tmp : ∀ i, R F w (s.tmp i) s.n m (a.tmps.getD i Go.undef)

/-- Nothing outside memory has turned. -/
structure Calm (w w' : World) : Prop where
  os : w'.os = w.os
  tape : w'.tape = w.tape
  output : w'.output = w.output
theorem Calm.refl (w : World) : Calm w w := ⟨rfl, rfl, rfl⟩
theorem Calm.trans {w w1 w2 : World} (h : Calm w w1) (h' : Calm w1 w2) : Calm w w2 := ⟨h'.os.trans h.os, h'.tape.trans h.tape, h'.output.trans h.output⟩

/-- What has no name is as it was; and names of what was there are names of what had one. -/
structure Own (m : Nat → Option Nat) (w : World) (m' : Nat → Option Nat) (w' : World) : Prop where
  un : ∀ B, B < w.heap.size → (∀ b, m b ≠ some B) → w'.heap[B]? = w.heap[B]?
  old : ∀ b B, m' b = some B → B < w.heap.size → ∃ c, m c = some B
theorem Own.of_keep {m : Nat → Option Nat} {w w' : World} (h : ∀ B, B < w.heap.size → w'.heap[B]? = w.heap[B]?) : Own m w m w' := ⟨fun B hB _ => h B hB, fun b _ hb _ => ⟨b, hb⟩⟩
theorem Own.refl (m : Nat → Option Nat) (w : World) : Own m w m w := Own.of_keep fun _ _ => rfl
theorem Own.trans {m m1 m2 : Nat → Option Nat} {w w1 w2 : World} (h : Own m w m1 w1) (h' : Own m1 w1 m2 w2) (hs : w.heap.size ≤ w1.heap.size) : Own m w m2 w2 where
  un B hB hn := by
    rw [h'.un B (Nat.lt_of_lt_of_le hB hs) fun b hb => ?_, h.un B hB hn]
    obtain ⟨c, hc⟩ := h.old b B hb hB
    exact hn c hc
  old b B hb hB := by
    obtain ⟨c, hc⟩ := h'.old b B hb (Nat.lt_of_lt_of_le hB hs)
    exact h.old c B hc hB
theorem Own.sub {m m1 m2 : Nat → Option Nat} {w w' : World} (h : Own m w m1 w') (hs : ∀ b B, m2 b = some B → ∃ c, m1 c = some B) : Own m w m2 w' :=
  ⟨h.un, fun b B hb hB => let ⟨c, hc⟩ := hs b B hb; h.old c B hc hB⟩
/-- A later world: what is not ours is as it was. -/
structure Ext (base : Nat) (m : Nat → Option Nat) (F : Nat → Prop) (n : Nat) (w : World) (m' : Nat → Option Nat) (F' : Nat → Prop) (n' : Nat) (w' : World) : Prop where
  f : ∀ B, F B → F' B
  back : ∀ B, F' B → F B ∨ w.heap.size ≤ B
  keep : ∀ B, B < base ∨ F B → w'.heap[B]? = w.heap[B]?
  size : w.heap.size ≤ w'.heap.size
  sz : Sizes w w'
  ow : Own m w m' w'
  le : n ≤ n'
  map : ∀ b, b < n → ∀ B, m b = some B → m' b = some B
  calm : Calm w w'

theorem Ext.refl (base : Nat) (m : Nat → Option Nat) (F : Nat → Prop) (n : Nat) (w : World) : Ext base m F n w m F n w :=
  ⟨fun _ h => h, fun _ h => .inl h, fun _ _ => rfl, Nat.le_refl _, Sizes.refl w, Own.refl m w, Nat.le_refl _, fun _ _ _ h => h, Calm.refl w⟩
theorem Ext.trans {base : Nat} {m m1 m2 : Nat → Option Nat} {F F1 F2 : Nat → Prop} {n n1 n2 : Nat} {w w1 w2 : World}
    (h : Ext base m F n w m1 F1 n1 w1) (h' : Ext base m1 F1 n1 w1 m2 F2 n2 w2) : Ext base m F n w m2 F2 n2 w2 where
  f B hB := h'.f B (h.f B hB)
  back B hB := (h'.back B hB).elim (fun hB => h.back B hB) (fun hB => .inr (Nat.le_trans h.size hB))
  keep B hB := by rw [h'.keep B (hB.imp id (h.f B)), h.keep B hB]
  size := Nat.le_trans h.size h'.size
  sz := h.sz.trans h'.sz
  ow := h.ow.trans h'.ow h.size
  le := Nat.le_trans h.le h'.le
  map b hb B hB := h'.map b (Nat.lt_of_lt_of_le hb h.le) B (h.map b hb B hB)
  calm := h.calm.trans h'.calm
theorem Marks.ext {lo base : Nat} {m m' : Nat → Option Nat} {F F' : Nat → Prop} {n n' : Nat} {w w' : World} {ds : List Deferred} (h : ∃ rs, Marks lo m F w ds rs) (he : Ext base m F n w m' F' n' w') : ∃ rs, Marks lo m' F' w' ds rs := by
  obtain ⟨rs, hm⟩ := h
  have hlt : ∀ r ∈ rs, r < w.heap.size := fun r hr => by
    have := hm.obj r hr
    rcases Nat.lt_or_ge r w.heap.size with h' | h'
    · exact h'
    · rw [Array.getElem?_eq_none h'] at this; cases this
  refine ⟨rs, hm.eq, hm.nodup, Nat.le_trans hm.le he.size, hm.lo, fun r hr => ?_, fun r hr => ⟨fun hF => ?_, fun b hb => ?_⟩⟩
  · rw [he.ow.un r (hlt r hr) (hm.un r hr).2]; exact hm.obj r hr
  · rcases he.back r hF with h1 | h1
    · exact (hm.un r hr).1 h1
    · exact absurd (hlt r hr) (Nat.not_lt.2 h1)
  · obtain ⟨c, hc⟩ := he.ow.old b r hb (hlt r hr)
    exact (hm.un r hr).2 c hc
theorem Marks.sub {lo : Nat} {m m' : Nat → Option Nat} {F : Nat → Prop} {w : World} {ds : List Deferred} (h : ∃ rs, Marks lo m F w ds rs) (hs : ∀ b B, m' b = some B → ∃ c, m c = some B) : ∃ rs, Marks lo m' F w ds rs := by
  obtain ⟨rs, hm⟩ := h
  exact ⟨rs, hm.eq, hm.nodup, hm.le, hm.lo, hm.obj, fun r hr => ⟨(hm.un r hr).1, fun b hb => let ⟨c, hc⟩ := hs b r hb; (hm.un r hr).2 c hc⟩⟩
theorem Ext.val {base : Nat} {m m' : Nat → Option Nat} {F F' : Nat → Prop} {n n' : Nat} {w w' : World} (h : Ext base m F n w m' F' n' w') {v : V} {x : Value}
    (hv : R F w v n m x) : R F' w' v n' m' x :=
  (R_mono h.sz h.f (fun B hB => h.keep B (.inr hB)) v n n' m m' h.le h.map).1 x hv
theorem Ext.row {base : Nat} {m m' : Nat → Option Nat} {F F' : Nat → Prop} {n n' : Nat} {w w' : World} (h : Ext base m F n w m' F' n' w') {v : V} {xs : List Value}
    (hv : RL F w v n m xs) : RL F' w' v n' m' xs :=
  (R_mono h.sz h.f (fun B hB => h.keep B (.inr hB)) v n n' m m' h.le h.map).2 xs hv

/-- A fence that holds nothing off: a frame of a function, or of a loop's round. -/
abbrev fen (ro : Option Nat) : Fence := { fn := fun _ => True, depth := none, alive := false, round := ro }
theorem fen_none : fen none = Fence.wide := rfl
theorem fen_room (ro : Option Nat) (n : Nat) : (fen ro).room n := fun d hd => by cases hd
theorem fen_depth (ro : Option Nat) : (fen ro).depth.isSome = true → 1 ≤ 0 := fun h => (by cases h)
theorem fen_fenced (P : Program) (ro : Option Nat) (m : Machine) : m.fenced P (fen ro) := fenced_wide P m
theorem fen_calls {P : Program} {ro : Option Nat} {n : Nat} {f : FuncId} {args : Array Value} {w : World} {K : Ending → World → Prop} (h : Calls P f args w K) : CallsIn (fen ro) n P f args w K := (callsIn_wide (n := n)).2 h
/-- An operation that is no defer statement goes in a round's frame as in a function's. -/
theorem wpIn_of_wp {P : Program} {ro : Option Nat} {o : Oper} {a : Act} {w : World} {K : Act → World → Prop} {Q : Exit → Act → World → Prop} (h : o.wp P a w K Q) (hd : ∀ c, o.op ≠ .defer c) : o.wpIn (fen ro) 0 P a w K Q := by
  refine ⟨fun _ _ => trivial, ?_⟩
  rw [Oper.semAt_eq _ _ _ hd]
  unfold Oper.wp at h
  generalize (execOp a.eval o).run P w = r at h ⊢
  cases r with
  | ok x w' =>
    cases x <;> first
      | exact h
      | exact h.elim
      | exact ⟨fen_depth ro, fen_calls h⟩
      | exact ⟨fen_depth ro, fun c cs _ => let ⟨v, w'', q, r⟩ := h c cs; ⟨v, w'', q, stepsIn_wide.2 r⟩⟩
  | halt x w' => cases x <;> first | exact h | exact h.elim
/-- What a loop comes to, from the head of a round on. -/
def LoopWp (P : Program) (ro : Option Nat) (b : Code) (Q : Exit → Act → World → Prop) (a : Act) (w : World) : Prop :=
  ∀ (fr : Frame) (k : List Item) (cs : List Frame), fr.roundOf = ro → ∃ e a' w', Q e a' w' ∧ ArrivesIn (Machine.fenced P (fen ro)) P (lone (fr.atR a (.code b :: .inLoop b :: k)) cs w) fr k cs e a' w'
theorem LoopWp.wp {P : Program} {ro : Option Nat} {b : Code} {Q : Exit → Act → World → Prop} {a : Act} {w : World} (h : LoopWp P ro b Q a w) : (Code.loop b).wpIn (fen ro) 0 P Q a w :=
  fun fr k cs hro _ _ => let ⟨e, a', w', q, r⟩ := h fr k cs hro; ⟨e, a', w', q, .of_steps (.one (fen_fenced P ro _) stepR_loop) r⟩
/-- One round, and what is left. -/
theorem LoopWp.round {P : Program} {ro : Option Nat} {b : Code} {Q : Exit → Act → World → Prop} {a : Act} {w : World} (h : b.wpIn (fen ro) 0 P (Exit.then (LoopWp P ro b Q) Q) a w) : LoopWp P ro b Q a w := by
  intro fr k cs hro
  obtain ⟨e, a1, w1, h1, h2⟩ := h fr (.inLoop b :: k) cs hro trivial (fen_room ro _)
  cases e with
  | normal =>
    obtain ⟨e2, a2, w2, h3, h4⟩ := h1 fr k cs hro
    exact ⟨e2, a2, w2, h3, .of_steps (StepsIn.trans h2 (.one (fen_fenced P ro _) stepR_inLoop)) h4⟩
  | exit id => exact ⟨_, a1, w1, h1, .pass (x := .inLoop b) rfl (fun _ _ => .inl (by simp)) h2⟩
  | goto l => exact ⟨_, a1, w1, h1, .pass (x := .inLoop b) rfl (fun _ _ => .inl (by simp)) h2⟩
  | ret => exact ⟨_, a1, w1, h1, .pass (x := .inLoop b) rfl (fun _ _ => .inl (by simp)) h2⟩
  | panic ch => exact ⟨_, a1, w1, h1, .pass (x := .inLoop b) rfl (fun _ _ => .inl (by simp)) h2⟩
  | outgrown => exact ⟨_, a1, w1, h1, .pass (x := .inLoop b) rfl (fun _ _ => .inl (by simp)) h2⟩

/-- No range over a function is in it. -/
def noRange : Code → Bool
  | .rangeFunc .. => false
  | .seq a b => noRange a && noRange b
  | .cond _ a b => noRange a && noRange b
  | .block _ b => noRange b
  | .loop b => noRange b
  | .scope b => noRange b
  | _ => true
/-- What a loop that is not walked here comes to. -/
def SemLoop (P : Program) (body : Code) {Bs : Base} (s : St Bs) (Φ : Ex × St Bs → Prop) : Prop :=
  ∀ (ro : Option Nat) (lo base : Nat) (m : Nat → Option Nat) (F : Nat → Prop) (a : Act) (w : World) (Q : Exit → Act → World → Prop), (ro = none ∨ noRange body = true) → Rel lo base m F s a w →
    (∀ e s', Φ (e, s') → ∀ m' F' a' w', Ext base m F s.n w m' F' s'.n w' → Rel lo base m' F' s' a' w' → Q e.toExit a' w') → LoopWp P ro body Q a w

def Tree.holds {α : Type} (P : Program) : Tree α → (α → Prop) → Prop
  | .leaf a, Q => Q a
  | .stuck, _ => False
  | .node b t f, Q => (b = true → t.holds P Q) ∧ (b = false → f.holds P Q)
  | .need p t, Q => p ∧ t.holds P Q
  | .all σ t, Q => ∀ x : σ, (t x).holds P Q
  | .given p t, Q => p → t.holds P Q

theorem Tree.holds_bind {α β : Type} {P : Program} {k : α → Tree β} {Q : β → Prop} : ∀ (T : Tree α), (T.bind k).holds P Q ↔ T.holds P fun a => (k a).holds P Q := by
  intro T
  induction T with
  | leaf a => exact Iff.rfl
  | stuck => exact Iff.rfl
  | node b t f iht ihf => simp only [Tree.bind, Tree.holds, iht, ihf]
  | need p t ih => simp only [Tree.bind, Tree.holds, ih]
  | all σ t ih => simp only [Tree.bind, Tree.holds, ih]
  | given p t ih => simp only [Tree.bind, Tree.holds, ih]
theorem Tree.holds_mono {α : Type} {P : Program} : ∀ (T : Tree α) {Q Q' : α → Prop}, (∀ a, Q a → Q' a) → T.holds P Q → T.holds P Q' := by
  intro T
  induction T with
  | leaf a => exact fun h hq => h _ hq
  | stuck => exact fun _ h => h
  | node b t f iht ihf => exact fun h hq => ⟨fun hb => iht h (hq.1 hb), fun hb => ihf h (hq.2 hb)⟩
  | need p t ih => exact fun h hq => ⟨hq.1, ih h hq.2⟩
  | all σ t ih => exact fun h hq x => ih x h (hq x)
  | given p t ih => exact fun h hq hp => ih h (hq hp)

end Go.Fw
