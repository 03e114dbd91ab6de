/- A tree of values brought together into one value. -/
import Derived.Test.YtfealfofcjgihaaFwO
namespace Go.Fw

/-- It is no row. -/
def V.one : V → Bool
  | .nil | .cons _ _ => false
  | _ => true
def sameRow : V → V → Bool
  | .nil, y => match y with | .nil => true | _ => false
  | .cons h t, y => match y with | .cons _ t' => h.one && sameRow t t' | _ => false
  | _, _ => false
/-- The one value where 'b' is true, the other where it is false. -/
def mergeV (b : Bool) : V → V → V
  | .nil, _ => .nil
  | .cons h t, y => match y with
    | .cons h' t' => .cons (mergeV b h h') (mergeV b t t')
    | _ => .junk
  | .int _ k n, y => match y with
    | .int _ k' n' => if k = k' then .int false k (bif b then n else n') else .junk
    | _ => .junk
  | .bool _ c, y => match y with
    | .bool _ c' => .bool false (bif b then c else c')
    | _ => .junk
  | .str _ s, y => match y with
    | .str _ s' => .str false (bif b then s else s')
    | _ => .junk
  | .agg cs, y => match y with
    | .agg cs' => bif sameRow cs cs' then .agg (mergeV b cs cs') else .junk
    | _ => .junk
  | .tup cs, y => match y with
    | .tup cs' => bif sameRow cs cs' then .tup (mergeV b cs cs') else .junk
    | _ => .junk
  | .nilptr, y => match y with | .nilptr => .nilptr | _ => .junk
  | .nilfn, y => match y with | .nilfn => .nilfn | _ => .junk
  | .nilmap, y => match y with | .nilmap => .nilmap | _ => .junk
  | .nilif, y => match y with | .nilif => .nilif | _ => .junk
  | .undef, y => match y with | .undef => .undef | _ => .junk
  | .nilsl, y => match y with
    | .nilsl => .nilsl
    | .rsl _ es n get => .rsl false es (bif b then 0 else n) get
    | _ => .junk
  | .rsl _ es n get, y => match y with
    | .rsl _ es' n' get' => bif Nat.beq es es' then .rsl false es (bif b then n else n') (fun j => bif b then get j else get' j) else .junk
    | .nilsl => .rsl false es (bif b then n else 0) get
    | _ => .junk
  | _, _ => .junk

section
variable {F : Nat → Prop} {w : World}
theorem R_rsl0 {st : Bool} {es : Nat} {get : Nat → V} {n : Nat} {m : Nat → Option Nat} {x : Value} (h : R F w .nilsl n m x) : R F w (.rsl st es 0 get) n m x := by
  simp only [R] at h
  subst h
  rw [R_rsl]
  exact ⟨none, 0, rfl, Nat.le_refl _, .inl rfl⟩
theorem mergeV_R (b : Bool) : ∀ (x y : V) (n : Nat) (m : Nat → Option Nat),
    (x.one = true → ∀ z, R F w (bif b then x else y) n m z → R F w (mergeV b x y) n m z) ∧ (sameRow x y = true → ∀ zs, RL F w (bif b then x else y) n m zs → RL F w (mergeV b x y) n m zs) := by
  have junk : ∀ {n : Nat} {m : Nat → Option Nat} {z : Value}, R F w .junk n m z := by intros; simp only [R]
  intro x
  induction x with
  | nil =>
    intro y n m
    refine ⟨(fun h => by cases h), fun hs zs h => ?_⟩
    cases y <;> try (cases hs; done)
    cases b <;> exact h
  | cons p q ih1 ih2 =>
    intro y n m
    refine ⟨(fun h => by cases h), fun hs zs h => ?_⟩
    cases y <;> try (cases hs; done)
    rename_i p' q'
    have e : (bif b then (V.cons p q) else .cons p' q') = .cons (bif b then p else p') (bif b then q else q') := by cases b <;> rfl
    rw [e] at h
    simp only [RL] at h
    obtain ⟨z, r, rfl, h1, h2⟩ := h
    simp only [mergeV, RL]
    simp only [sameRow, Bool.and_eq_true] at hs
    exact ⟨z, r, rfl, (ih1 p' n m).1 hs.1 z h1, (ih2 q' n m).2 hs.2 r h2⟩
  | agg cs ih =>
    intro y n m
    refine ⟨fun _ z h => ?_, fun hs => by cases hs⟩
    cases y <;> simp only [mergeV] <;> try exact junk
    rename_i cs'
    cases hs : sameRow cs cs'
    · exact junk
    · have e : (bif b then (V.agg cs) else .agg cs') = .agg (bif b then cs else cs') := by cases b <;> rfl
      rw [e, R_agg] at h
      obtain ⟨xs, rfl, h⟩ := h
      simp only [cond_true, R_agg]
      exact ⟨xs, rfl, (ih cs' n m).2 hs _ h⟩
  | tup cs ih =>
    intro y n m
    refine ⟨fun _ z h => ?_, fun hs => by cases hs⟩
    cases y <;> simp only [mergeV] <;> try exact junk
    rename_i cs'
    cases hs : sameRow cs cs'
    · exact junk
    · have e : (bif b then (V.tup cs) else .tup cs') = .tup (bif b then cs else cs') := by cases b <;> rfl
      rw [e] at h
      simp only [cond_true, R] at h ⊢
      obtain ⟨xs, rfl, h⟩ := h
      exact ⟨xs, rfl, (ih cs' n m).2 hs _ h⟩
  | int st k a =>
    intro y n m
    refine ⟨fun _ z h => ?_, fun hs => by cases hs⟩
    cases y <;> simp only [mergeV] <;> try exact junk
    split
    · rename_i hk; subst hk
      cases b <;> simp only [cond_true, cond_false, R_int] at h ⊢ <;> exact h
    · exact junk
  | bool st a =>
    intro y n m
    refine ⟨fun _ z h => ?_, fun hs => by cases hs⟩
    cases y <;> simp only [mergeV] <;> try exact junk
    cases b <;> simp only [cond_true, cond_false, R_bool] at h ⊢ <;> exact h
  | str st a =>
    intro y n m
    refine ⟨fun _ z h => ?_, fun hs => by cases hs⟩
    cases y <;> simp only [mergeV] <;> try exact junk
    cases b <;> simp only [cond_true, cond_false, R_str] at h ⊢ <;> exact h
  | nilsl =>
    intro y n m
    refine ⟨fun _ z h => ?_, fun hs => by cases hs⟩
    cases y <;> simp only [mergeV] <;> try exact junk
    · rename_i st es k get
      cases b
      · simp only [cond_false] at h ⊢; rw [R_rsl] at h ⊢; exact h
      · simp only [cond_true] at h ⊢; exact R_rsl0 h
    · cases b <;> exact h
  | rsl st es k get _ =>
    intro y n m
    refine ⟨fun _ z h => ?_, fun hs => by cases hs⟩
    cases y <;> simp only [mergeV] <;> try exact junk
    · rename_i st' es' k' get'
      cases he : Nat.beq es es'
      · exact junk
      · obtain rfl := Nat.eq_of_beq_eq_true he
        cases b <;> simp only [cond_true, cond_false] at h ⊢ <;> (rw [R_rsl] at h ⊢; exact h)
    · cases b
      · simp only [cond_false] at h ⊢; exact R_rsl0 h
      · simp only [cond_true] at h ⊢; rw [R_rsl] at h ⊢; exact h
  | _ =>
    intro y n m
    refine ⟨fun _ z h => ?_, fun hs => by cases hs⟩
    cases y <;> simp only [mergeV] <;> first
      | exact junk
      | (cases b <;> exact h)
end

def mergeOne (b : Bool) (x y : V) : V := bif x.one then mergeV b x y else .junk
def Tree.join : Tree V → V
  | .leaf v => v.soft
  | .node b t f => mergeOne b t.join f.join
  | .need _ t => t.join
  | _ => .junk
/-- No call panics, whatever the tests say; no premise. -/
def Tree.total {α : Type} : Tree α → Bool
  | .leaf _ => true
  | .node _ t f => t.total && f.total
  | _ => false
/-- What must hold for it not to be stuck. -/
def Tree.pre {α : Type} : Tree α → Prop
  | .leaf _ => True
  | .node b t f => (b = true → t.pre) ∧ (b = false → f.pre)
  | .need p t => p ∧ t.pre
  | _ => False
theorem Tree.pre_of_total {α : Type} : ∀ T : Tree α, T.total = true → T.pre := by
  intro T
  induction T with
  | leaf a => intro _; trivial
  | node b t f iht ihf => intro h; simp only [Tree.total, Bool.and_eq_true] at h; exact ⟨fun _ => iht h.1, fun _ => ihf h.2⟩
  | _ => intro h; cases h
def Tree.allClean : Tree V → Bool
  | .leaf v => v.clean
  | .node _ t f => t.allClean && f.allClean
  | .need _ t => t.allClean
  | _ => true
theorem Tree.join_holds {P : Program} : ∀ T : Tree V, T.pre → T.allClean = true →
    T.holds P fun r => ∀ (F : Nat → Prop) (w : World) (n : Nat) (m : Nat → Option Nat) (x : Value), R F w r n m x → R F w r 0 (fun _ => none) x ∧ R F w T.join 0 (fun _ => none) x := by
  intro T
  induction T with
  | leaf v =>
    intro _ hc F w n m x hx
    have h1 := (R_clean v hc n 0 m (fun _ => none)).1 x hx
    exact ⟨h1, ((R_soft v 0 _).1 x).2 h1⟩
  | node b t f iht ihf =>
    intro hp hc
    simp only [Tree.allClean, Bool.and_eq_true] at hc
    have one : ∀ {F : Nat → Prop} {w : World} {n : Nat} {m : Nat → Option Nat} {x : Value}, R F w (bif b then t.join else f.join) n m x → R F w (mergeOne b t.join f.join) n m x := by
      intro F w n m x h
      unfold mergeOne
      cases ho : t.join.one with
      | true => exact (mergeV_R b t.join f.join n m).1 ho x h
      | false => simp only [cond_false, R]
    refine ⟨fun hb => Tree.holds_mono t (fun r hr F w n m x hx => ?_) (iht (hp.1 hb) hc.1), fun hb => Tree.holds_mono f (fun r hr F w n m x hx => ?_) (ihf (hp.2 hb) hc.2)⟩
    · subst hb
      obtain ⟨h1, h2⟩ := hr F w n m x hx
      exact ⟨h1, one h2⟩
    · subst hb
      obtain ⟨h1, h2⟩ := hr F w n m x hx
      exact ⟨h1, one h2⟩
  | need p t ih => intro hp hc; exact ⟨hp.1, ih hp.2 hc⟩
  | _ => intro hp; exact hp.elim

/-- What a call answers, brought together. -/
theorem meets_join {E : Env} (hE : E.Ok) (k : Nat) {g : FuncId} {args v : V} (hhas : Has E.P g) (hp : (evFn E k g args).pre) (hc : (evFn E k g args).allClean = true) (hv : (evFn E k g args).join = v) : Meets E.P g args v := by
  refine meets_of hE (k := k) hhas (Tree.holds_mono _ (fun r hr F w n m x hx => ?_) (Tree.join_holds _ hp hc))
  rw [← hv]
  exact (hr F w n m x hx).2
theorem meets_total {E : Env} (hE : E.Ok) (k : Nat) {g : FuncId} {args v : V} (hhas : Has E.P g) (ht : ((evFn E k g args).total && (evFn E k g args).allClean) = true) (hv : (evFn E k g args).join = v) : Meets E.P g args v := by
  simp only [Bool.and_eq_true] at ht
  exact meets_join hE k hhas (Tree.pre_of_total _ ht.1) ht.2 hv
/-- 'pre', closed up: the elaborator does not look behind it. -/
structure Tree.Pre {α : Type} (T : Tree α) : Prop where
  h : T.pre
theorem meets_tree {E : Env} {T : Tree V} (hE : E.Ok) (k : Nat) {g : FuncId} {args v : V} (hhas : Has E.P g) (hT : evFn E k g args = T) (hp : T.Pre) (hc : T.allClean = true) (hv : T.join = v) : Meets E.P g args v := by
  subst hT
  exact meets_join hE k hhas hp.h hc hv

/-! ### Numbers out of values -/
def V.toInt : V → Int
  | .int _ _ n => n
  | _ => 0
def V.toBool : V → Bool
  | .bool _ b => b
  | _ => false
/-- The i-th part of a struct or of a row of results. -/
def V.at : V → Nat → V
  | .agg cs, i => cs.nth i
  | .tup cs, i => cs.nth i
  | _, _ => .junk
end Go.Fw
