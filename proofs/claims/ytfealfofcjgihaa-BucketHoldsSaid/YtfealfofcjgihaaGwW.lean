/- Loops whose rounds give new names to blocks: a family of states under names of its own. -/
import Derived.Test.YtfealfofcjgihaaGwT
namespace Go.Fw

/-! ### Names told anew -/
def V.ren (f : Nat → Option Nat) : V → V
  | .cons h t => .cons (h.ren f) (t.ren f)
  | .agg cs => .agg (cs.ren f)
  | .tup cs => .tup (cs.ren f)
  | .ptr st b es i o => match f b with | some c => .ptr st c es i o | none => .junk
  | .osl st b es i n => match f b with | some c => .osl st c es i n | none => .junk
  | .fn g a b => .fn g (a.ren f) (b.ren f)
  | v => v
theorem R_ren {F : Nat → Prop} {w : World} {n n0 : Nat} {m m' : Nat → Option Nat} {f : Nat → Option Nat} (hf : ∀ b c, f b = some c → c < n0 ∧ m' c = m b) : ∀ (v : V),
    (∀ x, R F w v n m x → R F w (v.ren f) n0 m' x) ∧ (∀ xs, RL F w v n m xs → RL F w (v.ren f) n0 m' xs) := by
  intro v
  induction v with
  | cons h t ih1 ih2 =>
    refine ⟨fun x h => by simp only [R] at h, fun xs h => ?_⟩
    simp only [V.ren, RL] at h ⊢
    obtain ⟨x, r, rfl, h1, h2⟩ := h
    exact ⟨x, r, rfl, ih1.1 _ h1, ih2.2 _ h2⟩
  | agg cs ih =>
    refine ⟨fun x h => ?_, fun xs h => by simp only [RL] at h⟩
    simp only [V.ren, R] at h ⊢
    obtain ⟨xs, rfl, h1⟩ := h
    exact ⟨xs, rfl, ih.2 _ h1⟩
  | tup cs ih =>
    refine ⟨fun x h => ?_, fun xs h => by simp only [RL] at h⟩
    simp only [V.ren, R] at h ⊢
    obtain ⟨xs, rfl, h1⟩ := h
    exact ⟨xs, rfl, ih.2 _ h1⟩
  | fn g a b ih1 ih2 =>
    refine ⟨fun x h => ?_, fun xs h => by simp only [RL] at h⟩
    simp only [V.ren, R] at h ⊢
    obtain ⟨xs, ys, rfl, h1, h2⟩ := h
    exact ⟨xs, ys, rfl, ih1.2 _ h1, ih2.2 _ h2⟩
  | ptr st b es i o =>
    refine ⟨fun x h => ?_, fun xs h => by simp only [RL] at h⟩
    simp only [V.ren]
    cases hfb : f b with
    | none => simp only [R]
    | some c =>
      simp only [R] at h ⊢
      obtain ⟨_, B, hx, h⟩ := h
      exact ⟨(hf b c hfb).1, B, hx, by rw [(hf b c hfb).2]; exact h⟩
  | osl st b es i k =>
    refine ⟨fun x h => ?_, fun xs h => by simp only [RL] at h⟩
    simp only [V.ren]
    cases hfb : f b with
    | none => simp only [R]
    | some c =>
      simp only [R] at h ⊢
      obtain ⟨_, a, cap, hx, hk, h⟩ := h
      exact ⟨(hf b c hfb).1, a, cap, hx, hk, h.imp id fun ⟨B, c', el, fr, ha, h, hc⟩ => ⟨B, c', el, fr, ha, by rw [(hf b c hfb).2]; exact h, hc⟩⟩
  | rptr st es k get i o ih => exact ⟨fun x h => by simp only [V.ren, R] at h ⊢; exact h, fun xs h => by simp only [RL] at h⟩
  | rsl st es k get ih => exact ⟨fun x h => by simp only [V.ren, R] at h ⊢; exact h, fun xs h => by simp only [RL] at h⟩
  | nil => exact ⟨fun x h => by simp only [R] at h, fun xs h => by simp only [V.ren, RL] at h ⊢; exact h⟩
  | junk => exact ⟨fun x h => by simp only [V.ren, R], fun xs h => by simp only [RL] at h⟩
  | _ => exact ⟨fun x h => by simp only [V.ren, R] at h ⊢; exact h, fun xs h => by simp only [RL] at h⟩

/-- Pairs of a name and what it is called from here on. -/
def lookN : List (Nat × Nat) → Nat → Option Nat
  | [], _ => none
  | (s, c) :: r, b => bif Nat.beq s b then some c else lookN r b
def srcN : List (Nat × Nat) → Nat → Option Nat
  | [], _ => none
  | (s, c) :: r, b => bif Nat.beq c b then some s else srcN r b
def okN (n0 n1 : Nat) : List (Nat × Nat) → Bool
  | [] => true
  | (s, c) :: r => (Nat.blt c n0 && (Nat.ble n1 c || Nat.beq s c)) && (((lookN r s).isNone && (srcN r c).isNone) && okN n0 n1 r)
theorem okN_look {n0 n1 : Nat} : ∀ {σ : List (Nat × Nat)}, okN n0 n1 σ = true → ∀ b c, lookN σ b = some c → srcN σ c = some b ∧ c < n0 ∧ (n1 ≤ c ∨ b = c) := by
  intro σ
  induction σ with
  | nil => intro _ b c h; cases h
  | cons p r ih =>
    obtain ⟨s, d⟩ := p
    intro h b c hb
    simp only [okN, Bool.and_eq_true, Bool.or_eq_true] at h
    obtain ⟨⟨h1, h2⟩, ⟨h3, h4⟩, h5⟩ := h
    simp only [lookN] at hb
    simp only [srcN]
    cases hs : Nat.beq s b
    · rw [hs] at hb
      simp only [cond_false] at hb
      obtain ⟨k1, k2, k3⟩ := ih h5 b c hb
      cases hd : Nat.beq d c
      · exact ⟨k1, k2, k3⟩
      · obtain rfl := Nat.eq_of_beq_eq_true hd
        rw [k1] at h4; cases h4
    · rw [hs] at hb
      simp only [cond_true, Option.some.injEq] at hb
      obtain rfl := Nat.eq_of_beq_eq_true hs
      subst hb
      refine ⟨by simp, by simpa [Nat.blt_eq] using h1, h2.imp Nat.le_of_ble_eq_true Nat.eq_of_beq_eq_true⟩
theorem okN_src {n0 n1 : Nat} : ∀ {σ : List (Nat × Nat)}, okN n0 n1 σ = true → ∀ b c, srcN σ c = some b → lookN σ b = some c := by
  intro σ
  induction σ with
  | nil => intro _ b c h; cases h
  | cons p r ih =>
    obtain ⟨s, d⟩ := p
    intro h b c hb
    simp only [okN, Bool.and_eq_true, Bool.or_eq_true] at h
    obtain ⟨_, ⟨h3, h4⟩, h5⟩ := h
    simp only [srcN] at hb
    simp only [lookN]
    cases hd : Nat.beq d c
    · rw [hd] at hb
      simp only [cond_false] at hb
      have k1 := ih h5 b c hb
      cases hs : Nat.beq s b
      · exact k1
      · obtain rfl := Nat.eq_of_beq_eq_true hs
        rw [k1] at h3; cases h3
    · rw [hd] at hb
      simp only [cond_true, Option.some.injEq] at hb
      obtain rfl := Nat.eq_of_beq_eq_true hd
      subst hb
      simp
/-- What a name is called: names from of old keep theirs. -/
def renF (n1 : Nat) (σ : List (Nat × Nat)) (b : Nat) : Option Nat :=
  match lookN σ b with
  | some c => some c
  | none => bif Nat.blt b n1 then some b else none
def renM (n1 : Nat) (σ : List (Nat × Nat)) (m : Nat → Option Nat) (c : Nat) : Option Nat :=
  match srcN σ c with
  | some b => m b
  | none => if c < n1 then m c else none
theorem renF_ok {n0 n1 : Nat} {σ : List (Nat × Nat)} (h : okN n0 n1 σ = true) (h01 : n1 ≤ n0) (m : Nat → Option Nat) : ∀ b c, renF n1 σ b = some c → c < n0 ∧ renM n1 σ m c = m b := by
  intro b c hb
  unfold renF at hb
  cases hl : lookN σ b with
  | some c' =>
    rw [hl] at hb
    injection hb with hb
    subst hb
    obtain ⟨k1, k2, _⟩ := okN_look h b c' hl
    exact ⟨k2, by unfold renM; rw [k1]⟩
  | none =>
    rw [hl] at hb
    dsimp only at hb
    cases hlt : Nat.blt b n1
    · rw [hlt] at hb; cases hb
    · rw [hlt] at hb
      injection hb with hb
      subst hb
      have hlt' : b < n1 := by simpa [Nat.blt_eq] using hlt
      refine ⟨by omega, ?_⟩
      unfold renM
      cases hs : srcN σ b with
      | none => dsimp only; rw [if_pos hlt']
      | some b' =>
        have k := okN_src h b' b hs
        obtain ⟨_, _, k3⟩ := okN_look h b' b k
        rcases k3 with k3 | k3
        · omega
        · subst k3; exact absurd (k.symm.trans hl) (by simp)

/-! ### What is kept of a state -/
def blkW : Blk → V
  | .var cs => .agg cs
  | .arr es n get => .rsl false es n get
  | .none => .undef
  | .any => .junk
def wBlk : V → Blk
  | .agg cs => .var cs
  | .rsl _ es n get => .arr es n get
  | .undef => .none
  | _ => .any
section
variable {B : Base}
/-- The name that stands for a name of the family: it is the same, or that of what a temporary points to. -/
def srcOf (x : St B) (p : Nat × Option Nat) : Nat :=
  match p.2 with
  | none => p.1
  | some t => match x.tmp t with
    | .osl _ b _ _ _ => b
    | .ptr _ b _ _ _ => b
    | _ => p.1
def sigma (x : St B) (KH : List (Nat × Option Nat)) : List (Nat × Nat) := KH.map fun p => (srcOf x p, p.1)
def blkAt (x : St B) (b : Nat) : V := bif Nat.blt b x.n then blkW (x.blk b) else .undef
def vwR (n1 n0 N0 : Nat) (KT : List Nat) (KH : List (Nat × Option Nat)) (x : St B) : Bool × V × V :=
  let σ := sigma x KH
  (((Nat.beq x.N N0 && Nat.ble n1 x.n) && (okN n0 n1 σ && Nat.ble n1 n0)),
    rowOf (KT.map fun t => (x.tmp t).ren (renF n1 σ)), rowOf (KH.map fun p => (blkAt x (srcOf x p)).ren (renF n1 σ)))
def putW : List Nat → V → PT Blk → PT Blk
  | k :: ks, .cons v r, t => putW ks r (t.set k (wBlk v))
  | _, _, t => t
/-- The state of which just that is known. -/
def canonR (n0 N0 : Nat) (KT : List Nat) (KH : List (Nat × Option Nat)) (ts bs : V) : St B := { t := putT KT ts (.fill .junk), h := putW (KH.map (·.1)) bs (.fill .any), n := n0, N := N0 }
end
/-- Whatever stands for the one stands for the other, where there are so many names. -/
def Le (n : Nat) (v v' : V) : Prop := ∀ (F : Nat → Prop) (w : World) (m : Nat → Option Nat), (∀ x, R F w v n m x → R F w v' n m x) ∧ (∀ xs, RL F w v n m xs → RL F w v' n m xs)
theorem Le.soft {n : Nat} {v v' : V} (h : v.soft = v'.soft) : Le n v v' := fun F w m =>
  ⟨fun x hx => by rw [← (R_soft v n m).1, h, (R_soft v' n m).1] at hx; exact hx, fun x hx => by rw [← (R_soft v n m).2, h, (R_soft v' n m).2] at hx; exact hx⟩
theorem Le.cons {n : Nat} {a b c d : V} (h : Le n a c) (h' : Le n b d) : Le n (.cons a b) (.cons c d) := fun F w m =>
  ⟨fun x hx => by simp only [R] at hx, fun xs hx => by
    simp only [RL] at hx ⊢
    obtain ⟨x, r, e, h1, h2⟩ := hx
    exact ⟨x, r, e, (h F w m).1 _ h1, (h' F w m).2 _ h2⟩⟩
theorem Le.nilsl {n b es i : Nat} {st : Bool} (h : b < n) : Le n .nilsl (.osl st b es i 0) := fun F w m =>
  ⟨fun x hx => by simp only [R] at hx ⊢; exact ⟨h, none, 0, hx, Nat.le_refl _, .inl rfl⟩, fun xs hx => by simp only [RL] at hx⟩
inductive LeB (n : Nat) : V → V → Prop
  | any {v v' : V} (h : wBlk v' = .any) : LeB n v v'
  | var {c c' : V} (h : Le n c c') : LeB n (.agg c) (.agg c')
  | arr {st st' : Bool} {es k k' : Nat} {g g' : Nat → V} (hn : k = k') (h : ∀ j, j < k → g j = g' j) : LeB n (.rsl st es k g) (.rsl st' es k' g')
  | none {st : Bool} {es : Nat} {g : Nat → V} : LeB n .undef (.rsl st es 0 g)
theorem LeB.rb {n : Nat} {v v' : V} (h : LeB n v v') (F : Nat → Prop) (w : World) (m : Nat → Option Nat) (B : Option Nat) (hb : RB F w n m (wBlk v) B) : RB F w n m (wBlk v') B := by
  cases h with
  | any h => rw [h]; trivial
  | var h =>
    obtain ⟨b, xs, el, ys, zs, k1, k2, k3, k4⟩ := hb
    exact ⟨b, xs, el, ys, zs, k1, k2, k3, (h F w m).2 _ k4⟩
  | arr hn h =>
    subst hn
    rcases hb with h0 | ⟨b, c, el, k1, k2, k3, k4⟩
    · exact .inl h0
    · exact .inr ⟨b, c, el, k1, k2, k3, fun j hj => by rw [← h j hj]; exact k4 j hj⟩
  | none => exact .inl ⟨rfl, hb⟩
theorem LeB.of_junk {n : Nat} {v : V} (h : LeB n .junk v) : wBlk v = .any := by
  cases h with
  | any h => exact h
def LeBs (n : Nat) : V → V → Prop
  | .cons a r, .cons a' r' => LeB n a a' ∧ LeBs n r r'
  | .nil, .nil => True
  | _, _ => False
theorem LeBs.one {n : Nat} {a a' : V} (h : LeB n a a') : LeBs n (.cons a .nil) (.cons a' .nil) := ⟨h, trivial⟩
theorem LeBs.two {n : Nat} {a a' b b' : V} (h : LeB n a a') (h' : LeB n b b') : LeBs n (.cons a (.cons b .nil)) (.cons a' (.cons b' .nil)) := ⟨h, h', trivial⟩
def SameR {B : Base} (n1 n0 N0 : Nat) (KT : List Nat) (KH : List (Nat × Option Nat)) (x : St B) (ts bs : V) : Prop :=
  (vwR n1 n0 N0 KT KH x).1 = true ∧ Le n0 (vwR n1 n0 N0 KT KH x).2.1 ts ∧ LeBs n0 (vwR n1 n0 N0 KT KH x).2.2 bs

theorem rowOf_RL {F : Nat → Prop} {w : World} {n : Nat} {m : Nat → Option Nat} {vs : List V} {g : Nat → Value} : ∀ (KT : List Nat), vs.length = KT.length → (∀ (i k : Nat) (v : V), KT[i]? = some k → vs[i]? = some v → R F w v n m (g k)) → RL F w (rowOf vs) n m (KT.map g) := by
  induction vs with
  | nil => intro KT hl _; cases KT with
    | nil => simp only [rowOf, List.map_nil, RL]
    | cons k ks => cases hl
  | cons v vs ih =>
    intro KT hl h
    cases KT with
    | nil => cases hl
    | cons k ks =>
      simp only [rowOf, List.map_cons, RL]
      exact ⟨_, _, rfl, h 0 k v rfl rfl, ih ks (by simpa using hl) fun i k' v' h1 h2 => h (i + 1) k' v' (by simpa using h1) (by simpa using h2)⟩
theorem putT_rel2 {F : Nat → Prop} {w : World} {n : Nat} {m : Nat → Option Nat} {d : Nat → V} {g : Nat → Value} : ∀ (KT : List Nat) (ts : V) (t : PT V), (∀ j, R F w (look d t j) n m (g j)) → RL F w ts n m (KT.map g) → ∀ j, R F w (look d (putT KT ts t) j) n m (g j) := by
  intro KT
  induction KT with
  | nil => intro ts t ht _; exact ht
  | cons k ks ih =>
    intro ts t ht hs
    cases ts <;> simp only [List.map_cons, RL] at hs
    · exact absurd hs (by simp)
    · rename_i a r
      obtain ⟨x, q, e, h1, h2⟩ := hs
      injection e with e1 e2
      subst e1; subst e2
      refine ih r (t.set k a) (fun j => ?_) h2
      rw [look_set]
      by_cases e : j = k
      · rw [if_pos e, e]; exact h1
      · rw [if_neg e]; exact ht j
theorem putW_rel {F : Nat → Prop} {w : World} {n : Nat} {m : Nat → Option Nat} {d : Nat → Blk} {g : Nat → Option Nat} : ∀ (ks : List Nat) (bs vs : V) (t : PT Blk), (∀ j, j < n → RB F w n m (look d t j) (g j)) → LeBs n vs bs →
    (∀ (i k : Nat), ks[i]? = some k → RB F w n m (wBlk (vs.nth i)) (g k)) → ∀ j, j < n → RB F w n m (look d (putW ks bs t) j) (g j) := by
  intro ks
  induction ks with
  | nil => intro bs vs t ht _ _; exact ht
  | cons k ks ih =>
    intro bs vs t ht hle hv
    cases vs <;> cases bs <;> simp only [LeBs] at hle <;> try (exact ht)
    rename_i a r a' r'
    refine ih r' r (t.set k (wBlk a')) (fun j hj => ?_) hle.2 fun i k' hk => ?_
    · rw [look_set]
      by_cases e : j = k
      · rw [if_pos e, e]
        exact hle.1.rb F w m _ (hv 0 k rfl)
      · rw [if_neg e]; exact ht j hj
    · have := hv (i + 1) k' (by simpa using hk)
      exact this
theorem putW_any {d : Nat → Blk} {j n : Nat} : ∀ (ks : List Nat) (bs vs : V) (t : PT Blk), look d t j = .any → LeBs n vs bs → (∀ i, ks[i]? = some j → vs.nth i = .junk) → look d (putW ks bs t) j = .any := by
  intro ks
  induction ks with
  | nil => intro bs vs t ht _ _; exact ht
  | cons k ks ih =>
    intro bs vs t ht hle hv
    cases vs <;> cases bs <;> simp only [LeBs] at hle <;> try (exact ht)
    rename_i a r a' r'
    refine ih r' r (t.set k (wBlk a')) ?_ hle.2 (fun i hk => hv (i + 1) (by simpa using hk))
    rw [look_set]
    by_cases e : j = k
    · rw [if_pos e]
      refine LeB.of_junk (n := n) ?_
      have h2 : a = .junk := hv 0 (by rw [e]; rfl)
      rw [← h2]; exact hle.1
    · rw [if_neg e]; exact ht

theorem okN_mem {n0 n1 : Nat} : ∀ {σ : List (Nat × Nat)}, okN n0 n1 σ = true → ∀ b c, (b, c) ∈ σ → srcN σ c = some b := by
  intro σ
  induction σ with
  | nil => intro _ b c h; cases h
  | cons p r ih =>
    obtain ⟨s, d⟩ := p
    intro h b c hb
    simp only [okN, Bool.and_eq_true, Bool.or_eq_true] at h
    obtain ⟨_, ⟨h3, h4⟩, h5⟩ := h
    simp only [srcN]
    cases hb with
    | head => simp
    | tail _ hb =>
      have k := ih h5 b c hb
      cases hd : Nat.beq d c
      · exact k
      · obtain rfl := Nat.eq_of_beq_eq_true hd
        rw [k] at h4; cases h4
theorem nth_rowOf : ∀ (l : List V) (i : Nat) (v : V), l[i]? = some v → (rowOf l).nth i = v := by
  intro l
  induction l with
  | nil => intro i v h; simp at h
  | cons a l ih =>
    intro i v h
    cases i with
    | zero => simp at h; exact h
    | succ i =>
      have := ih i v (by simpa using h)
      exact this
section
variable {B : Base}
/-- Behind a round the state is one of the family again. -/
theorem canonR_rel {B' : Base} {base : Nat} {m : Nat → Option Nat} {F : Nat → Prop} {x : St B} {a : Act} {w : World} {n1 n0 N0 : Nat} {KT : List Nat} {KH : List (Nat × Option Nat)} {ts bs : V} (hr : Rel base m F x a w) (h : SameR n1 n0 N0 KT KH x ts bs) :
    n1 ≤ n0 ∧ Rel base (renM n1 (sigma x KH) m) F (canonR n0 N0 KT KH ts bs : St B') a w ∧ ∀ b, b < n1 → ∀ B, m b = some B → renM n1 (sigma x KH) m b = some B := by
  obtain ⟨h1, h2, h3⟩ := h
  simp only [vwR] at h1 h2 h3
  simp only [Bool.and_eq_true] at h1
  obtain ⟨⟨hN, hn⟩, hok, h01⟩ := h1
  have hn := Nat.le_of_ble_eq_true hn
  have hN := Nat.eq_of_beq_eq_true hN
  have h01 := Nat.le_of_ble_eq_true h01
  generalize hσ : sigma x KH = σ at hok h2 h3
  have hf := renF_ok hok h01 m
  have hmem : ∀ i p, KH[i]? = some p → (srcOf x p, p.1) ∈ σ := fun i p hp => by
    rw [← hσ]; exact List.mem_map.2 ⟨p, List.mem_of_getElem? hp, rfl⟩
  have hinv : ∀ c k, renM n1 σ m c = some k → ∃ b, m b = some k ∧ (srcN σ c = some b ∨ (srcN σ c = none ∧ c < n1 ∧ b = c)) := by
    intro c k hc
    unfold renM at hc
    cases hs : srcN σ c with
    | some b => rw [hs] at hc; exact ⟨b, hc, .inl rfl⟩
    | none =>
      rw [hs] at hc
      dsimp only at hc
      by_cases e : c < n1
      · rw [if_pos e] at hc; exact ⟨c, hc, .inr ⟨rfl, e, rfl⟩⟩
      · rw [if_neg e] at hc; cases hc
  have hks : ∀ (i c : Nat), (KH.map (·.1))[i]? = some c → ∃ p : Nat × Option Nat, KH[i]? = some p ∧ p.1 = c := fun i c hc => by
    rw [List.getElem?_map] at hc
    cases hp : KH[i]? with
    | none => rw [hp] at hc; cases hc
    | some p => rw [hp] at hc; injection hc with hc; exact ⟨p, rfl, hc⟩
  have hvs : ∀ i p, KH[i]? = some p → (rowOf (KH.map fun p => (blkAt x (srcOf x p)).ren (renF n1 σ))).nth i = (blkAt x (srcOf x p)).ren (renF n1 σ) := fun i p hp => nth_rowOf _ _ _ (by rw [List.getElem?_map, hp]; rfl)
  -- where the source is not known the block is not known
  have hany : ∀ c, (srcN σ c = none ∨ ∃ b, srcN σ c = some b ∧ b < x.n ∧ x.blk b = .any) → (canonR n0 N0 KT KH ts bs : St B').blk c = .any := by
    intro c hc
    refine putW_any (KH.map (·.1)) bs _ (.fill .any) rfl h3 fun i hi => ?_
    obtain ⟨p, hp, e⟩ := hks i c hi
    have hs := okN_mem hok _ _ (hmem i p hp)
    rw [e] at hs
    rcases hc with hc | ⟨b, hb, hbn, hb2⟩
    · rw [hs] at hc; cases hc
    · rw [hs] at hb
      injection hb with hb
      rw [hvs i p hp, hb]
      unfold blkAt
      rw [hb2, show Nat.blt b x.n = true by rw [Nat.blt_eq]; exact hbn]
      rfl
  refine ⟨h01, ⟨⟨hr.hr.low, hr.hr.fdom, fun c hc => ?_, fun c k hk => ?_, fun c hc => ?_, hr.hr.gl, fun c k hk => ?_, fun c c' k hk hk' hne => ?_⟩, hr.defers, hr.size.trans hN, fun j => ?_⟩, fun b hb k hk => ?_⟩
  · refine putW_rel (g := renM n1 σ m) (KH.map (·.1)) bs _ (.fill .any) (fun _ _ => trivial) h3 (fun i c' hi => ?_) c hc
    obtain ⟨p, hp, e⟩ := hks i c' hi
    rw [hvs i p hp]
    have hs := okN_mem hok _ _ (hmem i p hp)
    rw [e] at hs
    have hm : renM n1 σ m c' = m (srcOf x p) := by unfold renM; rw [hs]
    rw [hm]
    unfold blkAt
    cases hlt : Nat.blt (srcOf x p) x.n
    · exact hr.hr.new _ (by rcases Nat.lt_or_ge (srcOf x p) x.n with h | h; · rw [← Nat.blt_eq] at h; rw [h] at hlt; cases hlt
                            · exact h)
    · have hrb := hr.hr.blk _ (show srcOf x p < x.n by simpa [Nat.blt_eq] using hlt)
      simp only [cond_true]
      cases hx : x.blk (srcOf x p) <;> rw [hx] at hrb
      · exact hrb
      · exact trivial
      · obtain ⟨b', xs, el, ys, zs, k1, k2, k3, k4⟩ := hrb
        exact ⟨b', xs, el, ys, zs, k1, k2, k3, (R_ren hf _).2 _ k4⟩
      · exact hrb
  · obtain ⟨b, hb, _⟩ := hinv c k hk; exact hr.hr.dom b k hb
  · cases hq : renM n1 σ m c with
    | none => rfl
    | some k =>
      exfalso
      have hc' : n0 ≤ c := hc
      obtain ⟨b, hb, hs | ⟨_, hs, _⟩⟩ := hinv c k hq
      · have := (okN_look hok b c (okN_src hok b c hs)).2.1; omega
      · omega
  · obtain ⟨b, hb, _⟩ := hinv c k hk; exact hr.hr.own b k hb
  · obtain ⟨b, hb, hs⟩ := hinv c k hk
    obtain ⟨b', hb', hs'⟩ := hinv c' k hk'
    by_cases e : b = b'
    · subst e
      rcases hs with hs | ⟨hs, _, e1⟩
      · rcases hs' with hs' | ⟨hs', _, e2⟩
        · have k1 := okN_src hok b c hs
          rw [okN_src hok b c' hs'] at k1
          injection k1 with k1
          exact absurd k1.symm hne
        · exact .inr (hany c' (.inl hs'))
      · exact .inl (hany c (.inl hs))
    · rcases hr.hr.inj b b' k hb hb' e with h | h
      · left
        rcases hs with hs | ⟨hs, _, _⟩
        · exact hany c (.inr ⟨b, hs, hr.hr.lt (by rw [hb]; simp), h⟩)
        · exact hany c (.inl hs)
      · right
        rcases hs' with hs' | ⟨hs', _, _⟩
        · exact hany c' (.inr ⟨b', hs', hr.hr.lt (by rw [hb']; simp), h⟩)
        · exact hany c' (.inl hs')
  · refine putT_rel2 (g := fun j => a.tmps.getD j Go.undef) KT ts (.fill .junk) (fun j => by show R F w .junk n0 _ _; simp only [R]) ((h2 F w _).2 _ (rowOf_RL KT (by rw [List.length_map]) fun i k v hk hv => ?_)) j
    rw [List.getElem?_map, hk] at hv
    injection hv with hv
    subst hv
    exact (R_ren hf _).1 _ (hr.tmp k)
  · unfold renM
    cases hs : srcN σ b with
    | none => dsimp only; rw [if_pos hb]; exact hk
    | some b' =>
      obtain ⟨_, _, k3⟩ := okN_look hok b' b (okN_src hok b' b hs)
      rcases k3 with k3 | k3
      · omega
      · subst k3; exact hk
theorem ren_ext {base : Nat} {m m2 m' : Nat → Option Nat} {F F' : Nat → Prop} {n n2 n0 : Nat} {w w' : World} (h : Ext base m F n w m2 F' n2 w') (h0 : n ≤ n0) (hm : ∀ b, b < n → ∀ B, m2 b = some B → m' b = some B) : Ext base m F n w m' F' n0 w' :=
  ⟨h.f, h.back, h.keep, h.size, h.sz, h0, fun b hb B hB => hm b hb B (h.map b hb B hB), h.calm⟩

/-- THE RULE FOR A LOOP whose rounds give new names: a family of states under names of its own. -/
theorem loop_ren {E : Env} (hE : E.Ok) {k : Nat} {f : FuncId} {b : Code} (hin : ∀ b' ∈ loopsOf b, InFn E.P f b') {n1 n0 N0 : Nat} {KT : List Nat} {KH : List (Nat × Option Nat)} {ι : Type} (ts bs : ι → V) (Inv : ι → Prop) (μ : ι → Nat) (Φ : Ex × St B → Prop)
    (step : ∀ i, Inv i → (ev E k f b B (canonR n0 N0 KT KH (ts i) (bs i))).holds E.P fun x => match x.1 with
      | .normal => ∃ i', Inv i' ∧ μ i' < μ i ∧ SameR n1 n0 N0 KT KH x.2 (ts i') (bs i')
      | e => ∃ ts' bs', SameR n1 n0 N0 KT KH x.2 ts' bs' ∧ Φ (e, canonR n0 N0 KT KH ts' bs'))
    {s : St B} (hn : s.n = n1) {i0 : ι} (h0 : Inv i0) (hs : SameR n1 n0 N0 KT KH s (ts i0) (bs i0)) : SemLoop E.P b s Φ := by
  intro base m F a w Q hr hQ
  have main : ∀ (q : Nat) (i : ι), μ i ≤ q → Inv i → ∀ m1 F1 a1 w1, Ext base m F s.n w m1 F1 n0 w1 → Rel base m1 F1 (canonR n0 N0 KT KH (ts i) (bs i) : St B) a1 w1 → LoopWp E.P b Q a1 w1 := by
    intro q
    induction q with
    | zero =>
      intro i hi hI m1 F1 a1 w1 hx hr1
      refine LoopWp.round (wpX.wp (ev_ok hE k f b B _ base m1 F1 a1 w1 _ _ hin hr1 (step i hI) fun e s' hP m2 F2 a2 w2 k1 k2 => ?_))
      have hx1 := hx.trans k1
      cases e with
      | normal => obtain ⟨i', _, h2, _⟩ := hP; omega
      | exit id => obtain ⟨ts', bs', h1, h2⟩ := hP; obtain ⟨c1, c2, c3⟩ := canonR_rel (B' := B) k2 h1; exact hQ (.exit id) _ h2 _ _ _ _ (ren_ext hx1 (show s.n ≤ n0 by omega) fun b hb => c3 b (by omega)) c2
      | ret => obtain ⟨ts', bs', h1, h2⟩ := hP; obtain ⟨c1, c2, c3⟩ := canonR_rel (B' := B) k2 h1; exact hQ .ret _ h2 _ _ _ _ (ren_ext hx1 (show s.n ≤ n0 by omega) fun b hb => c3 b (by omega)) c2
    | succ q ih =>
      intro i hi hI m1 F1 a1 w1 hx hr1
      refine LoopWp.round (wpX.wp (ev_ok hE k f b B _ base m1 F1 a1 w1 _ _ hin hr1 (step i hI) fun e s' hP m2 F2 a2 w2 k1 k2 => ?_))
      have hx1 := hx.trans k1
      cases e with
      | normal => obtain ⟨i', h1, h2, h3⟩ := hP; obtain ⟨c1, c2, c3⟩ := canonR_rel (B' := B) k2 h3; exact ih i' (by omega) h1 _ _ _ _ (ren_ext hx1 (by omega) fun b hb => c3 b (by omega)) c2
      | exit id => obtain ⟨ts', bs', h1, h2⟩ := hP; obtain ⟨c1, c2, c3⟩ := canonR_rel (B' := B) k2 h1; exact hQ (.exit id) _ h2 _ _ _ _ (ren_ext hx1 (show s.n ≤ n0 by omega) fun b hb => c3 b (by omega)) c2
      | ret => obtain ⟨ts', bs', h1, h2⟩ := hP; obtain ⟨c1, c2, c3⟩ := canonR_rel (B' := B) k2 h1; exact hQ .ret _ h2 _ _ _ _ (ren_ext hx1 (show s.n ≤ n0 by omega) fun b hb => c3 b (by omega)) c2
  obtain ⟨c1, c2, c3⟩ := canonR_rel (B' := B) hr hs
  exact main (μ i0) i0 (Nat.le_refl _) h0 _ F a w (ren_ext (Ext.refl base m F s.n w) (by omega) fun b hb => c3 b (by omega)) c2
/-- The same, by what is seen of the states behind a round. -/
theorem loop_viewR {E : Env} (hE : E.Ok) {k : Nat} {f : FuncId} {b : Code} (hin : ∀ b' ∈ loopsOf b, InFn E.P f b') {n1 n0 N0 : Nat} {KT : List Nat} {KH : List (Nat × Option Nat)} {ι : Type} (ts bs : ι → V) (Inv : ι → Prop) (μ : ι → Nat) (Φ : Ex × St B → Prop)
    {T : ι → Tree (Ex × Bool × V × V)} (hT : ∀ i, Inv i → ((ev E k f b B (canonR n0 N0 KT KH (ts i) (bs i))).bind fun x => Tree.leaf (x.1, vwR n1 n0 N0 KT KH x.2)) = T i)
    (step : ∀ i, Inv i → (T i).holds E.P fun y => match y.1 with
      | .normal => y.2.1 = true ∧ ∃ i', Inv i' ∧ μ i' < μ i ∧ Le n0 y.2.2.1 (ts i') ∧ LeBs n0 y.2.2.2 (bs i')
      | e => y.2.1 = true ∧ ∃ ts' bs', Le n0 y.2.2.1 ts' ∧ LeBs n0 y.2.2.2 bs' ∧ Φ (e, canonR n0 N0 KT KH ts' bs'))
    {s : St B} (hn : s.n = n1) {i0 : ι} (h0 : Inv i0) (hs : SameR n1 n0 N0 KT KH s (ts i0) (bs i0)) : SemLoop E.P b s Φ := by
  refine loop_ren hE (k := k) hin ts bs Inv μ Φ (fun i hi => ?_) hn h0 hs
  refine Tree.holds_mono _ (fun x hx => ?_) (Tree.holds_view (hT i hi) (step i hi))
  obtain ⟨e, s'⟩ := x
  cases e with
  | normal => obtain ⟨h1, i', h2, h3, h4, h5⟩ := hx; exact ⟨i', h2, h3, h1, h4, h5⟩
  | exit id => obtain ⟨h1, ts', bs', h2, h3, h4⟩ := hx; exact ⟨ts', bs', ⟨h1, h2, h3⟩, h4⟩
  | ret => obtain ⟨h1, ts', bs', h2, h3, h4⟩ := hx; exact ⟨ts', bs', ⟨h1, h2, h3⟩, h4⟩
end
end Go.Fw
