/- A tree of values brought together into one value. -/
import Derived.Test.YtkkojdcchnailaaGreatDoorQGwO
namespace Go.Fw

def Tree.join : Tree V → V
  | .leaf v => v.soft
  | .node b t f => mergeOne b t.join f.join
  | .need _ t => t.join
  | _ => .junk
/-- No call panics, whatever the tests say; no premise. -/
def Tree.total {α : Type} : Tree α → Bool
  | .leaf _ => true
  | .node _ t f => t.total && f.total
  | _ => false
/-- What must hold for it not to be stuck. -/
def Tree.pre {α : Type} : Tree α → Prop
  | .leaf _ => True
  | .node b t f => (b = true → t.pre) ∧ (b = false → f.pre)
  | .need p t => p ∧ t.pre
  | _ => False
theorem Tree.pre_of_total {α : Type} : ∀ T : Tree α, T.total = true → T.pre := by
  intro T
  induction T with
  | leaf a => intro _; trivial
  | node b t f iht ihf => intro h; simp only [Tree.total, Bool.and_eq_true] at h; exact ⟨fun _ => iht h.1, fun _ => ihf h.2⟩
  | _ => intro h; cases h
def Tree.allClean : Tree V → Bool
  | .leaf v => v.clean
  | .node _ t f => t.allClean && f.allClean
  | .need _ t => t.allClean
  | _ => true
theorem Tree.join_holds {P : Program} : ∀ T : Tree V, T.pre → T.allClean = true →
    T.holds P fun r => ∀ (F : Nat → Prop) (w : World) (n : Nat) (m : Nat → Option Nat) (x : Value), R F w r n m x → R F w r 0 (fun _ => none) x ∧ R F w T.join 0 (fun _ => none) x := by
  intro T
  induction T with
  | leaf v =>
    intro _ hc F w n m x hx
    have h1 := (R_clean v hc n 0 m (fun _ => none)).1 x hx
    exact ⟨h1, ((R_soft v 0 _).1 x).2 h1⟩
  | node b t f iht ihf =>
    intro hp hc
    simp only [Tree.allClean, Bool.and_eq_true] at hc
    refine ⟨fun hb => Tree.holds_mono t (fun r hr F w n m x hx => ?_) (iht (hp.1 hb) hc.1), fun hb => Tree.holds_mono f (fun r hr F w n m x hx => ?_) (ihf (hp.2 hb) hc.2)⟩
    · subst hb
      obtain ⟨h1, h2⟩ := hr F w n m x hx
      exact ⟨h1, mergeOne_R h2⟩
    · subst hb
      obtain ⟨h1, h2⟩ := hr F w n m x hx
      exact ⟨h1, mergeOne_R h2⟩
  | need p t ih => intro hp hc; exact ⟨hp.1, ih hp.2 hc⟩
  | _ => intro hp; exact hp.elim

/-- What a call answers, brought together. -/
theorem meets_join {E : Env} (hE : E.Ok) (k : Nat) {g : FuncId} {args v : V} (hhas : Has E.P g) (hp : (evFn E k g args).pre) (hc : (evFn E k g args).allClean = true) (hv : (evFn E k g args).join = v) : Meets E.P g args v := by
  refine meets_of hE (k := k) hhas (Tree.holds_mono _ (fun r hr F w n m x hx => ?_) (Tree.join_holds _ hp hc))
  rw [← hv]
  exact (hr F w n m x hx).2
theorem meets_total {E : Env} (hE : E.Ok) (k : Nat) {g : FuncId} {args v : V} (hhas : Has E.P g) (ht : ((evFn E k g args).total && (evFn E k g args).allClean) = true) (hv : (evFn E k g args).join = v) : Meets E.P g args v := by
  simp only [Bool.and_eq_true] at ht
  exact meets_join hE k hhas (Tree.pre_of_total _ ht.1) ht.2 hv
/-- 'pre', closed up: the elaborator does not look behind it. -/
structure Tree.Pre {α : Type} (T : Tree α) : Prop where
  h : T.pre
theorem meets_tree {E : Env} {T : Tree V} (hE : E.Ok) (k : Nat) {g : FuncId} {args v : V} (hhas : Has E.P g) (hT : evFn E k g args = T) (hp : T.Pre) (hc : T.allClean = true) (hv : T.join = v) : Meets E.P g args v := by
  subst hT
  exact meets_join hE k hhas hp.h hc hv

/-! ### Numbers out of values -/
def V.toInt : V → Int
  | .int _ _ n => n
  | _ => 0
def V.toBool : V → Bool
  | .bool _ b => b
  | _ => false
/-- The i-th part of a struct or of a row of results. -/
def V.at : V → Nat → V
  | .agg cs, i => cs.nth i
  | .tup cs, i => cs.nth i
  | _, _ => .junk
end Go.Fw
