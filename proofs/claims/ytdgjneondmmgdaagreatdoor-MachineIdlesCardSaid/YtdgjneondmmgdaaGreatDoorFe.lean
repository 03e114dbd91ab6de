/- Ways brought together: nothing false is said. The evaluator is sound: what it says of a piece of code, and of a call, the model does. Lists of what functions answer; how a tree is read; a statement's step. A tree of values brought together into one value. From a row's reading of its arguments to the evaluator's values; and from the evaluator's word back to the row's end. Loops that are not walked: the rule with an invariant. -/
import Derived.Test.YtdgjneondmmgdaaGreatDoorFd
import Derived.RangeFuncRecord
import Derived.Carry
import Derived.OpenShut
import Derived.ProofKit
set_option linter.unusedSimpArgs false
set_option linter.unusedVariables false
namespace Go.Fw

theorem mergeB_R {F : Nat → Prop} {w : World} {b : Bool} {x y : Blk} {n : Nat} {m : Nat → Option Nat} {z : Option Nat} (h : RB F w n m (bif b then x else y) z) : RB F w n m (mergeB b x y) z := by
  unfold mergeB
  split
  · rename_i cs cs'
    cases hs : sameRow cs cs'
    · trivial
    · have e : (bif b then (Blk.var cs) else .var cs') = .var (bif b then cs else cs') := by cases b <;> rfl
      rw [e] at h
      obtain ⟨B, xs, el, ys, zs, h1, h2, hsp, h3⟩ := h
      exact ⟨B, xs, el, ys, zs, h1, h2, hsp, (mergeV_R b cs cs' n m).2 hs _ h3⟩
  · cases b <;> exact h
  · trivial
theorem anyRange_look (g : Nat → Blk) (h : PT Blk) (n k j : Nat) : look g (anyRange h n k) j = if n ≤ j ∧ j < n + k then .any else look g h j := by
  induction k with
  | zero => rw [if_neg (by omega)]; rfl
  | succ k ih =>
    show look g ((anyRange h n k).set (n + k) .any) j = _
    rw [look_set, ih]
    by_cases e : j = n + k
    · rw [if_pos e, if_pos (by omega)]
    · rw [if_neg e]
      by_cases e2 : n ≤ j ∧ j < n + k
      · rw [if_pos e2, if_pos (by omega)]
      · rw [if_neg e2, if_neg (by omega)]

section
variable {B : Base}
/-- Where the one state stands, the other stands too. -/
def Weak (s s' : St B) : Prop := s.n ≤ s'.n ∧ ∀ (lo base : Nat) (m : Nat → Option Nat) (F : Nat → Prop) (a : Act) (w : World), Rel lo base m F s a w → Rel lo base m F s' a w
theorem Weak.refl (s : St B) : Weak s s := ⟨Nat.le_refl _, fun _ _ _ _ _ _ h => h⟩
theorem Weak.trans {s s1 s2 : St B} (h : Weak s s1) (h' : Weak s1 s2) : Weak s s2 := ⟨Nat.le_trans h.1 h'.1, fun _ _ _ _ _ _ hr => h'.2 _ _ _ _ _ _ (h.2 _ _ _ _ _ _ hr)⟩
def WX (x y : Ex × St B) : Prop := x.1 = y.1 ∧ Weak x.2 y.2

theorem both_look {β : Type} (d : Nat → β) (f : Nat → β) (t u : PT β) (ht : t.fin = true) (hu : u.fin = true) (k : Nat) : look d (t.both f u 1 0) k = match t.get k, u.get k with | none, none => d k | _, _ => f k := by
  unfold look
  rw [PT.get_both _ _ _ _ _ _ ht hu]
  simp only [Nat.one_mul, Nat.add_zero]
  cases t.get k <;> cases u.get k <;> rfl

theorem bif_some {α : Type} {p : Bool} {a b : α} (h : (bif p then some a else none) = some b) : p = true ∧ a = b := by
  cases p
  · cases h
  · injection h with h; exact ⟨rfl, h⟩
theorem mergeSt_weak {c : Bool} {s1 s2 s : St B} (h : mergeSt c s1 s2 = some s) : Weak (bif c then s1 else s2) s := by
  unfold mergeSt at h
  dsimp only at h
  generalize hlo : (bif Nat.ble s1.n s2.n then s1.n else s2.n) = lo at h
  generalize hhi : (bif Nat.ble s1.n s2.n then s2.n else s1.n) = hi at h
  have hle : lo ≤ hi ∧ lo ≤ s1.n ∧ lo ≤ s2.n ∧ s1.n ≤ hi ∧ s2.n ≤ hi := by
    subst hlo; subst hhi
    cases hb : Nat.ble s1.n s2.n
    · have : ¬ s1.n ≤ s2.n := fun h => by rw [Nat.ble_eq_true_of_le h] at hb; cases hb
      simp only [cond_false]; omega
    · have := Nat.le_of_ble_eq_true hb
      simp only [cond_true]; omega
  clear hlo hhi
  obtain ⟨hc, h⟩ := bif_some h
  simp only [Bool.and_eq_true] at hc
  have hN := Nat.eq_of_beq_eq_true hc.2.2
  subst h
  generalize hx : (bif c then s1 else s2) = x
  have hxN : x.N = s1.N := by subst hx; cases c <;> simp [hN]
  have hxn : lo ≤ x.n ∧ x.n ≤ hi := by subst hx; cases c <;> simp <;> omega
  have htmp : ∀ k, x.tmp k = bif c then s1.tmp k else s2.tmp k := by intro k; subst hx; cases c <;> rfl
  have hblk : ∀ k, x.blk k = bif c then s1.blk k else s2.blk k := by intro k; subst hx; cases c <;> rfl
  have hany : ∀ b, x.blk b = .any → look B.h (anyRange (s1.h.both (fun k => mergeB c (s1.blk k) (s2.blk k)) s2.h 1 0) lo (hi - lo)) b = .any := by
    intro b hb
    rw [anyRange_look]
    by_cases e : lo ≤ b ∧ b < lo + (hi - lo)
    · rw [if_pos e]
    · rw [if_neg e, both_look _ _ _ _ (PT.fin_allK _ _ _ _ hc.2.1.1) (PT.fin_allK _ _ _ _ hc.2.1.2)]
      rw [hblk] at hb
      have hm : mergeB c (s1.blk b) (s2.blk b) = .any := by
        cases c
        · rw [show s2.blk b = .any from hb]; unfold mergeB; cases s1.blk b <;> rfl
        · rw [show s1.blk b = .any from hb]; unfold mergeB; rfl
      cases e1 : s1.h.get b with
      | some _ => exact hm
      | none =>
        cases e2 : s2.h.get b with
        | some _ => exact hm
        | none =>
          have k1 : s1.blk b = B.h b := by simp only [St.blk, look, e1]
          have k2 : s2.blk b = B.h b := by simp only [St.blk, look, e2]
          rw [k1, k2] at hb
          cases c <;> exact hb
  refine ⟨hxn.2, fun lo' base m F a w hr => ?_⟩
  have hext : Ext base m F x.n w m F hi w := ⟨fun _ h => h, fun _ h => .inl h, fun _ _ => rfl, Nat.le_refl _, Sizes.refl w, Own.refl m w, hxn.2, fun _ _ _ h => h, Calm.refl w⟩
  refine ⟨⟨hr.hr.low, hr.hr.fdom, fun b hb => ?_, hr.hr.dom, fun b hb => hr.hr.new b (Nat.le_trans hxn.2 hb), hr.hr.gl, hr.hr.own, fun b b' C h1 h2 hne => (hr.hr.inj b b' C h1 h2 hne).imp (hany b) (hany b')⟩, hr.defers, hr.size.trans hxN, fun k => ?_⟩
  · have hb' : b < hi := hb
    show RB F w hi m (look B.h (anyRange _ _ _) b) (m b)
    rw [anyRange_look]
    by_cases e : lo ≤ b ∧ b < lo + (hi - lo)
    · rw [if_pos e]; trivial
    · rw [if_neg e, both_look _ _ _ _ (PT.fin_allK _ _ _ _ hc.2.1.1) (PT.fin_allK _ _ _ _ hc.2.1.2)]
      have h1 := RB_ext hext (fun _ _ => rfl) (hr.hr.blk b (by omega))
      rw [hblk] at h1
      cases e1 : s1.h.get b with
      | some _ => exact mergeB_R h1
      | none =>
        cases e2 : s2.h.get b with
        | some _ => exact mergeB_R h1
        | none =>
          have k1 : s1.blk b = B.h b := by simp only [St.blk, look, e1]
          have k2 : s2.blk b = B.h b := by simp only [St.blk, look, e2]
          rw [k1, k2] at h1
          cases c <;> exact h1
  · show R F w (look B.t (PT.both _ _ _ 1 0) k) hi m _
    rw [both_look _ _ _ _ (PT.fin_allK _ _ _ _ hc.1.1) (PT.fin_allK _ _ _ _ hc.1.2)]
    have h1 := hext.val (hr.tmp k)
    rw [htmp] at h1
    cases e1 : s1.t.get k with
    | some _ => exact mergeOne_R h1
    | none =>
      cases e2 : s2.t.get k with
      | some _ => exact mergeOne_R h1
      | none =>
        have k1 : s1.tmp k = B.t k := by simp only [St.tmp, look, e1]
        have k2 : s2.tmp k = B.t k := by simp only [St.tmp, look, e2]
        rw [k1, k2] at h1
        cases c <;> exact h1


theorem bif_tr {p a : Bool} (h : (bif p then a else false) = true) : p = true ∧ a = true := by
  cases p
  · cases h
  · exact ⟨rfl, h⟩
theorem eqV_R {F : Nat → Prop} {w : World} : ∀ (v v' : V), eqV v v' = true → ∀ (n : Nat) (m : Nat → Option Nat), (∀ x, R F w v' n m x → R F w v n m x) ∧ (∀ xs, RL F w v' n m xs → RL F w v n m xs) := by
  intro v
  induction v with
  | cons h t ih1 ih2 =>
    intro v' hs n m
    cases v' <;> simp only [eqV] at hs <;> try (cases hs; done)
    simp only [Bool.and_eq_true] at hs
    refine ⟨fun x h => by simp only [R] at h, fun xs h => ?_⟩
    simp only [RL] at h ⊢
    obtain ⟨x, r, rfl, h1, h2⟩ := h
    exact ⟨x, r, rfl, (ih1 _ hs.1 n m).1 _ h1, (ih2 _ hs.2 n m).2 _ h2⟩
  | int st k q =>
    intro v' hs n m
    cases v' <;> simp only [eqV] at hs <;> try (cases hs; done)
    have hs := (bif_tr hs).2
    simp only [Bool.and_eq_true, decide_eq_true_eq] at hs
    obtain ⟨rfl, rfl⟩ := hs
    exact ⟨fun x h => by simp only [R] at h ⊢; exact h, fun xs h => by simp only [RL] at h⟩
  | bool st b =>
    intro v' hs n m
    cases v' <;> simp only [eqV] at hs <;> try (cases hs; done)
    obtain rfl := eq_of_beq (bif_tr hs).2
    exact ⟨fun x h => by simp only [R] at h ⊢; exact h, fun xs h => by simp only [RL] at h⟩
  | agg cs ih =>
    intro v' hs n m
    cases v' <;> simp only [eqV] at hs <;> try (cases hs; done)
    refine ⟨fun x h => ?_, fun xs h => by simp only [RL] at h⟩
    simp only [R] at h ⊢
    obtain ⟨xs, rfl, h1⟩ := h
    exact ⟨xs, rfl, (ih _ hs n m).2 _ h1⟩
  | tup cs ih =>
    intro v' hs n m
    cases v' <;> simp only [eqV] at hs <;> try (cases hs; done)
    refine ⟨fun x h => ?_, fun xs h => by simp only [RL] at h⟩
    simp only [R] at h ⊢
    obtain ⟨xs, rfl, h1⟩ := h
    exact ⟨xs, rfl, (ih _ hs n m).2 _ h1⟩
  | ptr st b es i o =>
    intro v' hs n m
    cases v' <;> simp only [eqV] at hs <;> try (cases hs; done)
    simp only [Bool.and_eq_true, Nat.beq_eq] at hs
    obtain ⟨_, ⟨rfl, rfl⟩, rfl, rfl⟩ := hs
    exact ⟨fun x h => by simp only [R] at h ⊢; exact h, fun xs h => by simp only [RL] at h⟩
  | osl st b es i k =>
    intro v' hs n m
    cases v' <;> simp only [eqV] at hs <;> try (cases hs; done)
    simp only [Bool.and_eq_true, Nat.beq_eq] at hs
    obtain ⟨_, ⟨rfl, rfl⟩, rfl, rfl⟩ := hs
    exact ⟨fun x h => by simp only [R] at h ⊢; exact h, fun xs h => by simp only [RL] at h⟩
  | osp st b es i k c =>
    intro v' hs n m
    cases v' <;> simp only [eqV] at hs <;> try (cases hs; done)
    simp only [Bool.and_eq_true, Nat.beq_eq] at hs
    obtain ⟨_, ⟨rfl, rfl⟩, ⟨rfl, rfl⟩, rfl⟩ := hs
    exact ⟨fun x h => by simp only [R] at h ⊢; exact h, fun xs h => by simp only [RL] at h⟩
  | mp b =>
    intro v' hs n m
    cases v' <;> simp only [eqV] at hs <;> try (cases hs; done)
    simp only [Nat.beq_eq] at hs
    subst hs
    exact ⟨fun x h => h, fun xs h => h⟩
  | esl nn es =>
    intro v' hs n m
    cases v' <;> simp only [eqV] at hs <;> try (cases hs; done)
    simp only [Bool.and_eq_true, Nat.beq_eq] at hs
    obtain ⟨h1, rfl⟩ := hs
    obtain rfl := eq_of_beq h1
    exact ⟨fun x h => h, fun xs h => h⟩
  | nil => intro v' hs n m; cases v' <;> simp only [eqV] at hs <;> first | (cases hs; done) | exact ⟨fun _ h => h, fun _ h => h⟩
  | nilsl => intro v' hs n m; cases v' <;> simp only [eqV] at hs <;> first | (cases hs; done) | exact ⟨fun _ h => h, fun _ h => h⟩
  | nilptr => intro v' hs n m; cases v' <;> simp only [eqV] at hs <;> first | (cases hs; done) | exact ⟨fun _ h => h, fun _ h => h⟩
  | nilmap => intro v' hs n m; cases v' <;> simp only [eqV] at hs <;> first | (cases hs; done) | exact ⟨fun _ h => h, fun _ h => h⟩
  | nilfn => intro v' hs n m; cases v' <;> simp only [eqV] at hs <;> first | (cases hs; done) | exact ⟨fun _ h => h, fun _ h => h⟩
  | nilif => intro v' hs n m; cases v' <;> simp only [eqV] at hs <;> first | (cases hs; done) | exact ⟨fun _ h => h, fun _ h => h⟩
  | _ => intro v' hs; simp only [eqV] at hs; cases hs
theorem meetV_R {F : Nat → Prop} {w : World} {b : Bool} {x y : V} {n : Nat} {m : Nat → Option Nat} {z : Value} (h : R F w (bif b then x else y) n m z) : R F w (meetV x y) n m z := by
  unfold meetV
  cases hs : eqV x y
  · simp only [cond_false, R]
  · cases b
    · exact (eqV_R x y hs n m).1 z h
    · exact h
theorem meetB_R {F : Nat → Prop} {w : World} {b : Bool} {x y : Blk} {n : Nat} {m : Nat → Option Nat} {z : Option Nat} (h : RB F w n m (bif b then x else y) z) : RB F w n m (meetB x y) z := by
  unfold meetB
  split
  · rename_i cs cs'
    cases hs : eqV cs cs'
    · trivial
    · cases b
      · obtain ⟨B, xs, el, ys, zs, h1, h2, hsp, h3⟩ := h
        exact ⟨B, xs, el, ys, zs, h1, h2, hsp, (eqV_R cs cs' hs n m).2 _ h3⟩
      · exact h
  · cases b <;> exact h
  · trivial
theorem meetSt_weak {c : Bool} {s1 s2 s : St B} (h : meetSt s1 s2 = some s) : Weak (bif c then s1 else s2) s := by
  unfold meetSt at h
  dsimp only at h
  generalize hlo : (bif Nat.ble s1.n s2.n then s1.n else s2.n) = lo at h
  generalize hhi : (bif Nat.ble s1.n s2.n then s2.n else s1.n) = hi at h
  have hle : lo ≤ hi ∧ lo ≤ s1.n ∧ lo ≤ s2.n ∧ s1.n ≤ hi ∧ s2.n ≤ hi := by
    subst hlo; subst hhi
    cases hb : Nat.ble s1.n s2.n
    · have : ¬ s1.n ≤ s2.n := fun h => by rw [Nat.ble_eq_true_of_le h] at hb; cases hb
      simp only [cond_false]; omega
    · have := Nat.le_of_ble_eq_true hb
      simp only [cond_true]; omega
  clear hlo hhi
  obtain ⟨hc, h⟩ := bif_some h
  simp only [Bool.and_eq_true] at hc
  have hN := Nat.eq_of_beq_eq_true hc.2.2
  subst h
  generalize hx : (bif c then s1 else s2) = x
  have hxN : x.N = s1.N := by subst hx; cases c <;> simp [hN]
  have hxn : lo ≤ x.n ∧ x.n ≤ hi := by subst hx; cases c <;> simp <;> omega
  have htmp : ∀ k, x.tmp k = bif c then s1.tmp k else s2.tmp k := by intro k; subst hx; cases c <;> rfl
  have hblk : ∀ k, x.blk k = bif c then s1.blk k else s2.blk k := by intro k; subst hx; cases c <;> rfl
  have hany : ∀ b, x.blk b = .any → look B.h (anyRange (s1.h.both (fun k => meetB (s1.blk k) (s2.blk k)) s2.h 1 0) lo (hi - lo)) b = .any := by
    intro b hb
    rw [anyRange_look]
    by_cases e : lo ≤ b ∧ b < lo + (hi - lo)
    · rw [if_pos e]
    · rw [if_neg e, both_look _ _ _ _ (PT.fin_allK _ _ _ _ hc.2.1.1) (PT.fin_allK _ _ _ _ hc.2.1.2)]
      rw [hblk] at hb
      have hm : meetB (s1.blk b) (s2.blk b) = .any := by
        cases c
        · rw [show s2.blk b = .any from hb]; unfold meetB; cases s1.blk b <;> rfl
        · rw [show s1.blk b = .any from hb]; unfold meetB; rfl
      cases e1 : s1.h.get b with
      | some _ => exact hm
      | none =>
        cases e2 : s2.h.get b with
        | some _ => exact hm
        | none =>
          have k1 : s1.blk b = B.h b := by simp only [St.blk, look, e1]
          have k2 : s2.blk b = B.h b := by simp only [St.blk, look, e2]
          rw [k1, k2] at hb
          cases c <;> exact hb
  refine ⟨hxn.2, fun lo' base m F a w hr => ?_⟩
  have hext : Ext base m F x.n w m F hi w := ⟨fun _ h => h, fun _ h => .inl h, fun _ _ => rfl, Nat.le_refl _, Sizes.refl w, Own.refl m w, hxn.2, fun _ _ _ h => h, Calm.refl w⟩
  refine ⟨⟨hr.hr.low, hr.hr.fdom, fun b hb => ?_, hr.hr.dom, fun b hb => hr.hr.new b (Nat.le_trans hxn.2 hb), hr.hr.gl, hr.hr.own, fun b b' C h1 h2 hne => (hr.hr.inj b b' C h1 h2 hne).imp (hany b) (hany b')⟩, hr.defers, hr.size.trans hxN, fun k => ?_⟩
  · have hb' : b < hi := hb
    show RB F w hi m (look B.h (anyRange _ _ _) b) (m b)
    rw [anyRange_look]
    by_cases e : lo ≤ b ∧ b < lo + (hi - lo)
    · rw [if_pos e]; trivial
    · rw [if_neg e, both_look _ _ _ _ (PT.fin_allK _ _ _ _ hc.2.1.1) (PT.fin_allK _ _ _ _ hc.2.1.2)]
      have h1 := RB_ext hext (fun _ _ => rfl) (hr.hr.blk b (by omega))
      rw [hblk] at h1
      cases e1 : s1.h.get b with
      | some _ => exact meetB_R h1
      | none =>
        cases e2 : s2.h.get b with
        | some _ => exact meetB_R h1
        | none =>
          have k1 : s1.blk b = B.h b := by simp only [St.blk, look, e1]
          have k2 : s2.blk b = B.h b := by simp only [St.blk, look, e2]
          rw [k1, k2] at h1
          cases c <;> exact h1
  · show R F w (look B.t (PT.both _ _ _ 1 0) k) hi m _
    rw [both_look _ _ _ _ (PT.fin_allK _ _ _ _ hc.1.1) (PT.fin_allK _ _ _ _ hc.1.2)]
    have h1 := hext.val (hr.tmp k)
    rw [htmp] at h1
    cases e1 : s1.t.get k with
    | some _ => exact meetV_R h1
    | none =>
      cases e2 : s2.t.get k with
      | some _ => exact meetV_R h1
      | none =>
        have k1 : s1.tmp k = B.t k := by simp only [St.tmp, look, e1]
        have k2 : s2.tmp k = B.t k := by simp only [St.tmp, look, e2]
        rw [k1, k2] at h1
        cases c <;> exact h1

/-- The way that is taken. -/
def sel : Ways B → Option (Ex × St B)
  | [] => none
  | x :: r => bif x.1 then some x.2 else sel r
theorem sameEx_eq : ∀ (e e' : Ex), sameEx e e' = true → e = e'
  | .normal, .normal, _ => rfl
  | .ret, .ret, _ => rfl
  | .exit i, .exit j, h => by rw [Nat.eq_of_beq_eq_true h]
theorem sel_map (l : Ways B) (f : Bool → Bool) (hf : ∀ b, f b = b) : sel (l.map fun | (p, x) => (f p, x)) = sel l := by
  induction l with
  | nil => rfl
  | cons x r ih => simp only [List.map_cons, sel]; rw [ih, hf]
theorem comb_weak : ∀ (k : Nat) (c : Bool) (l1 l2 l : Ways B), comb k c l1 l2 = some l → ∀ x, sel (bif c then l1 else l2) = some x → ∃ y, sel l = some y ∧ WX x y := by
  intro k
  induction k with
  | zero => intro c l1 l2 l h; cases h
  | succ k ih =>
    intro c l1 l2 l h x hx
    cases l1 with
    | nil =>
      have h : some (l2.map fun | (p, x) => (bif c then false else p, x)) = some l := h
      injection h with h; subst h
      cases c with
      | true => cases hx
      | false => exact ⟨x, by rw [sel_map l2 (fun b => bif false then false else b) (fun b => rfl)]; exact hx, rfl, Weak.refl _⟩
    | cons x1 r1 =>
      obtain ⟨p1, e1, s1⟩ := x1
      cases l2 with
      | nil =>
        have h : some (((p1, e1, s1) :: r1).map fun | (p, x) => (bif c then p else false, x)) = some l := h
        injection h with h; subst h
        cases c with
        | false => cases hx
        | true => exact ⟨x, by rw [sel_map ((p1, e1, s1) :: r1) (fun b => bif true then b else false) (fun b => rfl)]; exact hx, rfl, Weak.refl _⟩
      | cons x2 r2 =>
        obtain ⟨p2, e2, s2⟩ := x2
        have h : (bif sameEx e1 e2 then match mergeSt c s1 s2 with
          | some s => match comb k c r1 r2 with
            | some r => some ((bif c then p1 else p2, e1, s) :: r)
            | none => none
          | none => none
        else bif Nat.blt e1.key e2.key then match comb k c r1 ((p2, e2, s2) :: r2) with
          | some r => some ((bif c then p1 else false, e1, s1) :: r)
          | none => none
        else match comb k c ((p1, e1, s1) :: r1) r2 with
          | some r => some ((bif c then false else p2, e2, s2) :: r)
          | none => none) = some l := h
        cases he : sameEx e1 e2
        · rw [he] at h
          simp only [cond_false] at h
          cases hk : Nat.blt e1.key e2.key
          · rw [hk] at h
            simp only [cond_false] at h
            split at h
            · rename_i r hr
              injection h with h; subst h
              have := ih c ((p1, e1, s1) :: r1) r2 r hr
              cases c with
              | true => simp only [cond_true, sel, cond_false] at hx this ⊢; exact this x hx
              | false =>
                simp only [cond_false, sel] at hx this ⊢
                cases p2
                · exact this x hx
                · exact ⟨x, hx, rfl, Weak.refl _⟩
            · cases h
          · rw [hk] at h
            simp only [cond_true] at h
            split at h
            · rename_i r hr
              injection h with h; subst h
              have := ih c r1 ((p2, e2, s2) :: r2) r hr
              cases c with
              | false => simp only [sel, cond_false] at hx this ⊢; exact this x hx
              | true =>
                simp only [cond_true, sel] at hx this ⊢
                cases p1
                · exact this x hx
                · exact ⟨x, hx, rfl, Weak.refl _⟩
            · cases h
        · rw [he] at h
          simp only [cond_true] at h
          split at h
          · rename_i s hs
            split at h
            · rename_i r hr
              injection h with h; subst h
              have := ih c r1 r2 r hr
              have hw := mergeSt_weak hs
              have hee := sameEx_eq _ _ he
              cases c with
              | true =>
                simp only [cond_true, sel] at hx this hw ⊢
                cases p1
                · exact this x hx
                · injection hx with hx
                  subst hx
                  exact ⟨_, rfl, rfl, hw⟩
              | false =>
                simp only [cond_false, sel] at hx this hw ⊢
                cases p2
                · exact this x hx
                · injection hx with hx
                  subst hx
                  exact ⟨_, rfl, hee.symm, hw⟩
            · cases h
          · cases h

def Needs {α : Type} (T : Tree α) : Prop := match needs T with | none => True | some p => p
theorem ways_holds {P : Program} : ∀ (T : Tree (Ex × St B)) (l : Ways B) (Q : Ex × St B → Prop), ways T = some l → Needs T → (∀ y, sel l = some y → Q y) → T.holds P fun x => ∃ y, Q y ∧ WX x y := by
  intro T
  induction T with
  | leaf x =>
    intro l Q h _ hq
    injection h with h; subst h
    exact ⟨x, hq x rfl, rfl, Weak.refl _⟩
  | stuck => intro l Q h; cases h
  | all σ t _ => intro l Q h; cases h
  | given p t _ => intro l Q h; cases h
  | both t f _ _ => intro l Q h; cases h
  | need p t ih =>
    intro l Q h hn hq
    have hn' : p ∧ Needs t := by
      unfold Needs at hn ⊢
      simp only [needs] at hn
      cases hm : needs t with
      | none => rw [hm] at hn; exact ⟨hn, trivial⟩
      | some q => rw [hm] at hn; exact hn
    exact ⟨hn'.1, ih l Q h hn'.2 hq⟩
  | node c t f iht ihf =>
    intro l Q h hn hq
    simp only [ways] at h
    split at h
    · rename_i l1 h1
      split at h
      · rename_i l2 h2
        have hw := comb_weak _ _ _ _ _ h
        have hn' : (c = true → Needs t) ∧ (c = false → Needs f) := by
          unfold Needs at hn ⊢
          simp only [needs] at hn
          cases hm : needs t <;> cases hm' : needs f <;> rw [hm, hm'] at hn <;> dsimp only at hn ⊢
          · exact ⟨fun _ => trivial, fun _ => trivial⟩
          · exact ⟨fun _ => trivial, hn⟩
          · exact ⟨hn, fun _ => trivial⟩
          · exact hn
        have step : ∀ (l' : Ways B) (T' : Tree (Ex × St B)), (bif c then l1 else l2) = l' → (∀ Q' : Ex × St B → Prop, (∀ y, sel l' = some y → Q' y) → T'.holds P fun x => ∃ y, Q' y ∧ WX x y) → T'.holds P fun x => ∃ y, Q y ∧ WX x y := by
          intro l' T' hl hT
          refine Tree.holds_mono T' (fun x ⟨y, ⟨z, hz1, hz2⟩, hy⟩ => ⟨z, hz1, hy.1.trans hz2.1, hy.2.trans hz2.2⟩) (hT (fun y => ∃ z, Q z ∧ WX y z) fun y hy => ?_)
          obtain ⟨z, hz1, hz2⟩ := hw y (by rw [hl]; exact hy)
          exact ⟨z, hq z hz1, hz2⟩
        exact ⟨fun hc => step l1 t (by rw [hc]; rfl) fun Q' hQ' => iht l1 Q' h1 (hn'.1 hc) hQ', fun hc => step l2 f (by rw [hc]; rfl) fun Q' hQ' => ihf l2 Q' h2 (hn'.2 hc) hQ'⟩
      · cases h
    · cases h
theorem ofWays_holds {P : Program} : ∀ (l : Ways B) (Q : Ex × St B → Prop), (ofWays l).holds P Q → ∀ y, sel l = some y → Q y
  | [], _, h, _, _ => h.elim
  | [x], Q, h, y, hy => by
    simp only [sel] at hy
    cases hb : x.1
    · rw [hb] at hy; cases hy
    · rw [hb] at hy; injection hy with hy; subst hy; exact h
  | x :: x' :: r, Q, h, y, hy => by
    have h' : (x.1 = true → Q x.2) ∧ (x.1 = false → (ofWays (x' :: r)).holds P Q) := h
    simp only [sel] at hy
    cases hb : x.1
    · rw [hb] at hy
      exact ofWays_holds (x' :: r) Q (h'.2 hb) y hy
    · rw [hb] at hy
      injection hy with hy; subst hy; exact h'.1 hb
theorem mergeT_holds {P : Program} {T : Tree (Ex × St B)} {Q : Ex × St B → Prop} (h : (mergeT T).holds P Q) : T.holds P fun x => ∃ y, Q y ∧ WX x y := by
  have refl : T.holds P Q → T.holds P fun x => ∃ y, Q y ∧ WX x y := Tree.holds_mono T fun x hx => ⟨x, hx, rfl, Weak.refl _⟩
  have main : (match ways T with
    | some l => match needs T with
      | none => ofWays l
      | some p => .need p (ofWays l)
    | none => T).holds P Q → T.holds P fun x => ∃ y, Q y ∧ WX x y := by
    intro h
    split at h
    · rename_i l hl
      split at h
      · rename_i hn
        exact ways_holds T l Q hl (by unfold Needs; rw [hn]; trivial) (ofWays_holds l Q h)
      · rename_i p hn
        exact ways_holds T l Q hl (by unfold Needs; rw [hn]; exact h.1) (ofWays_holds l Q h.2)
    · exact refl h
  unfold mergeT at h
  split at h
  · exact refl h
  · exact main h


theorem meetX_weak {x y : Option (Ex × St B)} {r : Ex × St B} (h : meetX x y = some r) : (∃ a, x = some a ∧ WX a r) ∧ ∃ a, y = some a ∧ WX a r := by
  unfold meetX at h
  split at h
  · rename_i e s
    split at h
    · rename_i e' s'
      cases he : sameEx e e'
      · rw [he] at h; cases h
      · rw [he] at h
        simp only [cond_true] at h
        split at h
        · rename_i q hq
          injection h with h
          subst h
          obtain rfl := sameEx_eq _ _ he
          exact ⟨⟨_, rfl, rfl, meetSt_weak (c := true) hq⟩, _, rfl, rfl, meetSt_weak (c := false) hq⟩
        · cases h
    · cases h
  · cases h
theorem WX.trans {x y z : Ex × St B} (h : WX x y) (h' : WX y z) : WX x z := ⟨h.1.trans h'.1, h.2.trans h'.2⟩
theorem meetT_holds {P : Program} : ∀ (T : Tree (Ex × St B)) (r : Ex × St B), meetT T = some r → Needs T → T.holds P fun x => WX x r := by
  intro T
  induction T with
  | leaf x =>
    intro r h _
    injection h with h; subst h
    exact ⟨rfl, Weak.refl _⟩
  | stuck => intro r h; cases h
  | all σ t _ => intro r h; cases h
  | given p t _ => intro r h; cases h
  | need p t ih =>
    intro r h hn
    have hn' : p ∧ Needs t := by
      unfold Needs at hn ⊢
      simp only [needs] at hn
      cases hm : needs t with
      | none => rw [hm] at hn; exact ⟨hn, trivial⟩
      | some q => rw [hm] at hn; exact hn
    exact ⟨hn'.1, ih r h hn'.2⟩
  | node c t f iht ihf =>
    intro r h hn
    obtain ⟨⟨x, hx, h1⟩, y, hy, h2⟩ := meetX_weak h
    have hn' : (c = true → Needs t) ∧ (c = false → Needs f) := by
      unfold Needs at hn ⊢
      simp only [needs] at hn
      cases hm : needs t <;> cases hm' : needs f <;> rw [hm, hm'] at hn <;> dsimp only at hn ⊢
      · exact ⟨fun _ => trivial, fun _ => trivial⟩
      · exact ⟨fun _ => trivial, hn⟩
      · exact ⟨hn, fun _ => trivial⟩
      · exact hn
    exact ⟨fun hc => Tree.holds_mono t (fun _ h => h.trans h1) (iht x hx (hn'.1 hc)), fun hc => Tree.holds_mono f (fun _ h => h.trans h2) (ihf y hy (hn'.2 hc))⟩
  | both t f iht ihf =>
    intro r h hn
    obtain ⟨⟨x, hx, h1⟩, y, hy, h2⟩ := meetX_weak h
    have hn' : Needs t ∧ Needs f := by
      unfold Needs at hn ⊢
      simp only [needs] at hn
      cases hm : needs t <;> cases hm' : needs f <;> rw [hm, hm'] at hn <;> dsimp only at hn ⊢
      · exact ⟨trivial, trivial⟩
      · exact ⟨trivial, hn⟩
      · exact ⟨hn, trivial⟩
      · exact hn
    exact ⟨Tree.holds_mono t (fun _ h => h.trans h1) (iht x hx hn'.1), Tree.holds_mono f (fun _ h => h.trans h2) (ihf y hy hn'.2)⟩
theorem collapse_holds {P : Program} {T : Tree (Ex × St B)} {Q : Ex × St B → Prop} (h : (collapse T).holds P Q) : T.holds P fun x => ∃ y, Q y ∧ WX x y := by
  have refl : T.holds P Q → T.holds P fun x => ∃ y, Q y ∧ WX x y := Tree.holds_mono T fun x hx => ⟨x, hx, rfl, Weak.refl _⟩
  unfold collapse at h
  split at h
  · exact refl h
  · split at h
    · rename_i r hr
      split at h
      · rename_i hn
        exact Tree.holds_mono T (fun x hx => ⟨r, h, hx⟩) (meetT_holds T r hr (by unfold Needs; rw [hn]; trivial))
      · rename_i p hn
        exact Tree.holds_mono T (fun x hx => ⟨r, h.2, hx⟩) (meetT_holds T r hr (by unfold Needs; rw [hn]; exact h.1))
    · exact refl h
theorem sub_rel {s : St B} {lo base : Nat} {m : Nat → Option Nat} {F : Nat → Prop} {a : Act} {w : World} (hr : Rel lo base m F s a w) : Rel lo base m F s.sub a w :=
  ⟨hr.hr, hr.defers, hr.size, hr.tmp⟩
theorem rebase_rel {s : St B} {s1 : St s.bs} {lo base : Nat} {m : Nat → Option Nat} {F : Nat → Prop} {a : Act} {w : World} (hr : Rel lo base m F s1 a w) : Rel lo base m F (s.rebase s1) a w := by
  have ht : ∀ i, (s.rebase s1).tmp i = s1.tmp i := fun i => over_look _ _ _ _
  have hb : (s.rebase s1).blk = s1.blk := funext fun i => over_look _ _ _ _
  exact ⟨by rw [hb]; exact hr.hr, hr.defers, hr.size, fun i => by rw [ht]; exact hr.tmp i⟩
theorem merged_holds {P : Program} {s : St B} {f : St s.bs → Tree (Ex × St s.bs)} {Q : Ex × St B → Prop} (h : (merged s f).holds P Q) :
    (f s.sub).holds P fun x => ∃ y, Q (y.1, s.rebase y.2) ∧ WX x y := by
  unfold merged at h
  rw [Tree.holds_bind] at h
  exact mergeT_holds h
theorem mergedB_holds {P : Program} {s : St B} {f : St s.bs → Tree (Ex × St s.bs)} {Q : Ex × St B → Prop} (h : (mergedB s f).holds P Q) :
    (f s.sub).holds P fun x => ∃ y, Q (y.1, s.rebase y.2) ∧ WX x y := by
  unfold mergedB at h
  rw [Tree.holds_bind] at h
  exact Tree.holds_mono _ (fun x ⟨y, ⟨z, hz, hyz⟩, hxy⟩ => ⟨z, hz, hxy.trans hyz⟩) (mergeT_holds (collapse_holds h))
end
end Go.Fw
namespace Go.Fw

/-- As the model's rule for code; of a loop, from the head of a round on. -/
def wpX (P : Program) (ro : Option Nat) (c : Code) (Q : Exit → Act → World → Prop) (a : Act) (w : World) : Prop :=
  match c with
  | .loop b => LoopWp P ro b Q a w
  | c => c.wpIn (fen ro) 0 P Q a w
theorem wpX.wp {P : Program} {ro : Option Nat} {c : Code} {Q : Exit → Act → World → Prop} {a : Act} {w : World} (h : wpX P ro c Q a w) : c.wpIn (fen ro) 0 P Q a w := by
  cases c <;> first | exact LoopWp.wp h | exact h
def CodeOk (E : Env) (rec_ : RecF) : Prop :=
  ∀ (ro : Option Nat) (f : FuncId) (c : Code) (B : Base) (s : St B) (lo base : Nat) (m : Nat → Option Nat) (F : Nat → Prop) (a : Act) (w : World) (Q : Ex × St B → Prop) (Qx : Exit → Act → World → Prop), (∀ b ∈ loopsOf c, ∀ g, loopOf E f b = some g → InFn E.P f b) → (ro = none ∨ noRange c = true) → Rel lo base m F s a w →
    (rec_ f c B s).holds E.P Q → (∀ e s', Q (e, s') → ∀ m' F' a' w', Ext base m F s.n w m' F' s'.n w' → Rel lo base m' F' s' a' w' → Qx e.toExit a' w') → wpX E.P ro c Qx a w
theorem stepR_scope {P : Program} {b : Frame} {a : Act} {k : List Item} {cs : List Frame} {w : World} {c : Code} : step P (lone (b.atR a (.code (.scope c) :: k)) cs w) = .next (lone (b.atR a (.code c :: .inScope c :: k)) cs w) :=
  step_lone_go (by simp [stepG, stepG.exec, Frame.atR])
theorem stepR_inScope {P : Program} {b : Frame} {a : Act} {k : List Item} {cs : List Frame} {w : World} {c : Code} : step P (lone (b.atR a (.inScope c :: k)) cs w) = .next (lone (b.atR a k) cs w) :=
  step_lone_go (by simp [stepG, stepG.exec, Frame.atR])
/-- No jumps to labels. -/
def noJump (Q : Exit → Act → World → Prop) : Exit → Act → World → Prop
  | .goto _, _, _ => False
  | e, a, w => Q e a w
theorem wpIn_scope {F : Fence} {n : Nat} {P : Program} {Q : Exit → Act → World → Prop} {a : Act} {w : World} {c : Code} (h : c.wpIn F n P (noJump Q) a w) : (Code.scope c).wpIn F n P Q a w := by
  intro b k cs hro hb hr
  have h0 : (lone (b.atR a (.code (.scope c) :: k)) cs w).fenced P F := fenced_calm hb hr rfl
  obtain ⟨e, a₁, w₁, hq, harr⟩ := h b (.inScope c :: k) cs hro hb hr
  cases e with
  | normal => exact ⟨.normal, a₁, w₁, hq, .head h0 stepR_scope (StepsIn.trans harr (.one (fenced_calm hb hr rfl) stepR_inScope))⟩
  | exit id =>
    have hx : exitTo id (.inScope c :: k) = exitTo id k := by simp [exitTo]
    exact ⟨.exit id, a₁, w₁, hq, fun k' hk => .head h0 stepR_scope (harr.1 k' (by rw [hx]; exact hk)),
      fun hr' hk => let ⟨k₁, h1, h2⟩ := harr.2 hr' (by rw [hx]; exact hk); ⟨k₁, h1, .head h0 stepR_scope h2⟩⟩
  | goto l => exact hq.elim
  | ret => exact ⟨_, a₁, w₁, hq, .of_steps (.one h0 stepR_scope) harr⟩
  | panic ch => exact ⟨_, a₁, w₁, hq, .of_steps (.one h0 stepR_scope) harr⟩
  | outgrown => exact ⟨_, a₁, w₁, hq, .of_steps (.one h0 stepR_scope) harr⟩
/-- As 'merged' asks it. -/
theorem merged_ok {P : Program} {ro : Option Nat} {B : Base} {s : St B} {f : St s.bs → Tree (Ex × St s.bs)} {c : Code} {lo base : Nat} {m : Nat → Option Nat} {F : Nat → Prop} {a : Act} {w : World} {Q : Ex × St B → Prop} {Qx : Exit → Act → World → Prop} (hr : Rel lo base m F s a w)
    (hq : (merged s f).holds P Q) (hK : ∀ e s', Q (e, s') → ∀ m' F' a' w', Ext base m F s.n w m' F' s'.n w' → Rel lo base m' F' s' a' w' → Qx e.toExit a' w')
    (run : ∀ (Q' : Ex × St s.bs → Prop), Rel lo base m F s.sub a w → (f s.sub).holds P Q' → (∀ e s', Q' (e, s') → ∀ m' F' a' w', Ext base m F s.sub.n w m' F' s'.n w' → Rel lo base m' F' s' a' w' → Qx e.toExit a' w') → wpX P ro c Qx a w) : wpX P ro c Qx a w := by
  refine run _ (sub_rel hr) (merged_holds hq) fun e s' ⟨y, hy, he, hw⟩ m' F' a' w' h1 h2 => ?_
  dsimp only at he
  subst he
  exact hK y.1 (s.rebase y.2) hy m' F' a' w' ⟨h1.f, h1.back, h1.keep, h1.size, h1.sz, h1.ow, Nat.le_trans h1.le hw.1, h1.map, h1.calm⟩ (rebase_rel (hw.2 _ _ _ _ _ _ h2))

/-- As 'mergedB' asks it. -/
theorem mergedB_ok {P : Program} {ro : Option Nat} {B : Base} {s : St B} {f : St s.bs → Tree (Ex × St s.bs)} {c : Code} {lo base : Nat} {m : Nat → Option Nat} {F : Nat → Prop} {a : Act} {w : World} {Q : Ex × St B → Prop} {Qx : Exit → Act → World → Prop} (hr : Rel lo base m F s a w)
    (hq : (mergedB s f).holds P Q) (hK : ∀ e s', Q (e, s') → ∀ m' F' a' w', Ext base m F s.n w m' F' s'.n w' → Rel lo base m' F' s' a' w' → Qx e.toExit a' w')
    (run : ∀ (Q' : Ex × St s.bs → Prop), Rel lo base m F s.sub a w → (f s.sub).holds P Q' → (∀ e s', Q' (e, s') → ∀ m' F' a' w', Ext base m F s.sub.n w m' F' s'.n w' → Rel lo base m' F' s' a' w' → Qx e.toExit a' w') → wpX P ro c Qx a w) : wpX P ro c Qx a w := by
  refine run _ (sub_rel hr) (mergedB_holds hq) fun e s' ⟨y, hy, he, hw⟩ m' F' a' w' h1 h2 => ?_
  dsimp only at he
  subst he
  exact hK y.1 (s.rebase y.2) hy m' F' a' w' ⟨h1.f, h1.back, h1.keep, h1.size, h1.sz, h1.ow, Nat.le_trans h1.le hw.1, h1.map, h1.calm⟩ (rebase_rel (hw.2 _ _ _ _ _ _ h2))

section
variable {E : Env} {rec_ : RecF} {B : Base}

theorem resultsOf_run {lo base : Nat} {m : Nat → Option Nat} {F : Nat → Prop} {s : St B} {a : Act} {w : World} (hr : Rel lo base m F s a w) : ∀ (l : List ResultVar) (Q : V → Prop), (resultsOf E.P s l).holds E.P Q →
    ∃ vs xs, Q vs ∧ (l.mapM (m := Sem) fun | .tmp t => pure (a.tmps.getD t undef) | .cell b t => do loadVar t (← asAddr (a.tmps.getD b undef))).run E.P w = .ok xs w ∧ RL F w vs s.n m xs := by
  intro l
  induction l with
  | nil => intro Q hq; exact ⟨.nil, [], hq, by simp, by simp only [RL]⟩
  | cons r l ih =>
    intro Q hq
    simp only [resultsOf] at hq
    rw [Tree.holds_bind] at hq
    have one : ∀ Q' : V → Prop, (resultOf E.P s r).holds E.P Q' → ∃ v x, Q' v ∧ (match r with | .tmp t => pure (a.tmps.getD t undef) | .cell b t => do loadVar t (← asAddr (a.tmps.getD b undef)) : Sem Value).run E.P w = .ok x w ∧ R F w v s.n m x := by
      intro Q' hq'
      cases r with
      | tmp t => exact ⟨_, _, hq', rfl, hr.tmp t⟩
      | cell b t =>
        have hx := hr.tmp b
        obtain ⟨v, x, h1, h2, h3⟩ := evLoad_val (P := E.P) hr.hr hx Q' hq'
        refine ⟨v, x, h1, ?_, h3⟩
        dsimp only
        rw [← h2]
        generalize a.tmps.getD b undef = y at hx hq' ⊢
        simp only [resultOf] at hq'
        cases hs : s.tmp b <;> rw [hs] at hq' hx <;> try exact hq'.elim
        · rw [R_ptr] at hx; obtain ⟨_, B, rfl, _⟩ := hx; rfl
        · rw [R_rptr] at hx; obtain ⟨_, B, off, rfl, _⟩ := hx; rfl
    obtain ⟨v, x, h1, h2, h3⟩ := one _ hq
    rw [Tree.holds_bind] at h1
    obtain ⟨vs, xs, h4, h5, h6⟩ := ih _ h1
    refine ⟨.cons v vs, x :: xs, h4, ?_, ?_⟩
    · rw [List.mapM_cons]
      cases r with
      | tmp t =>
        simp only [pure_bind] at h2 ⊢
        have h2 : a.tmps.getD t undef = x := by injection h2
        rw [h2]
        simp only [Sem.run_bind, h5, Result.andThen_ok, Sem.run_pure]
      | cell b t =>
        dsimp only at h2 ⊢
        simp only [Sem.run_bind] at h2 ⊢
        rw [h2]
        simp only [Result.andThen_ok, h5, Sem.run_pure]
    · simp only [RL]; exact ⟨x, xs, rfl, h3, h6⟩

theorem results_run {lo base : Nat} {m : Nat → Option Nat} {F : Nat → Prop} {s : St B} {a : Act} {w : World} (hr : Rel lo base m F s a w) (fn : Func) {Q : V → Prop} (hq : (resultsOf E.P s fn.results.toList).holds E.P Q) :
    ∃ vs x, Q vs ∧ (results fn a.tmps).run E.P w = .ok x w ∧ R F w (single vs) s.n m x := by
  obtain ⟨vs, xs, h1, h2, h3⟩ := resultsOf_run hr _ Q hq
  refine ⟨vs, if h : xs.toArray.size = 1 then xs.toArray[0] else .tuple xs.toArray, h1, ?_, ?_⟩
  · have hma : (fn.results.mapM (m := Sem) fun | .tmp t => pure (a.tmps.getD t undef) | .cell b t => do loadVar t (← asAddr (a.tmps.getD b undef))).run E.P w = .ok xs.toArray w := by
      have : (fn.results.mapM (m := Sem) fun | .tmp t => pure (a.tmps.getD t undef) | .cell b t => do loadVar t (← asAddr (a.tmps.getD b undef))) =
          List.toArray <$> (fn.results.toList.mapM fun | .tmp t => pure (a.tmps.getD t undef) | .cell b t => do loadVar t (← asAddr (a.tmps.getD b undef))) := by
        rw [Array.mapM_eq_mapM_toList]
      rw [this, Sem.run_map, h2]; rfl
    unfold results
    rw [Sem.run_bind]
    exact (congrArg (fun r => Result.andThen r _) hma).trans rfl
  · cases vs <;> try (simp only [RL] at h3; done)
    · simp only [RL] at h3; subst h3
      rw [dif_neg (by simp)]
      simp only [single, R]
      exact ⟨_, rfl, by simp only [RL]⟩
    · rename_i v t
      have h3' := h3
      simp only [RL] at h3
      obtain ⟨x, r, rfl, hv, ht⟩ := h3
      cases t <;> try (simp only [RL] at ht; done)
      · simp only [RL] at ht; subst ht
        rw [dif_pos (by simp)]
        exact hv
      · simp only [RL] at ht
        obtain ⟨y, r', rfl, _, _⟩ := ht
        rw [dif_neg (by simp)]
        simp only [single, R]
        exact ⟨_, rfl, h3'⟩

theorem setArgs_tmp {F : Nat → Prop} {w : World} {n : Nat} {m : Nat → Option Nat} : ∀ (args : V) (xs : List Value), RL F w args n m xs → ∀ (i : Nat) (d : Nat → V) (T : PT V) (g : Nat → Value),
    (∀ j, R F w (look d T j) n m (g j)) → ∀ j, R F w (look d (setArgs args i T) j) n m (if i ≤ j ∧ j < i + xs.length then xs.getD (j - i) Go.undef else g j) := by
  intro args
  induction args with
  | nil => intro xs h i d T g hT j; simp only [RL] at h; subst h; simp only [setArgs]; rw [if_neg (by simp)]; exact hT j
  | cons a t _ ih =>
    intro xs h i d T g hT j
    simp only [RL] at h
    obtain ⟨x, r, rfl, h1, h2⟩ := h
    have := ih r h2 (i + 1) d (T.set i a) (fun j => if j = i then x else g j) (fun j => by
      by_cases e : j = i
      · subst e
        rw [if_pos rfl]
        rw [look_set_eq]; exact h1
      · rw [if_neg e, look_set_ne _ _ _ e]; exact hT j) j
    simp only [setArgs]
    by_cases e : j = i
    · subst e
      rw [if_neg (by omega), if_pos rfl] at this
      rw [if_pos (by simp)]
      simpa using this
    · by_cases e2 : i + 1 ≤ j ∧ j < i + 1 + r.length
      · rw [if_pos e2] at this
        rw [if_pos (by simp; omega)]
        have : j - i = (j - (i + 1)) + 1 := by omega
        rw [this, List.getD_cons_succ]
        assumption
      · rw [if_neg e2, if_neg e] at this
        rw [if_neg (by simp; omega)]
        exact this
  | _ => intro xs h; simp only [RL] at h

theorem enter_rel {base : Nat} {m : Nat → Option Nat} {F : Nat → Prop} {hb : Nat → Blk} {h : PT Blk} {n : Nat} {w : World} (hr : HR base m F (look hb h) n w) {args : V} {xs : Array Value} (ha : RL F w args n m xs.toList) (k : Nat) :
    Rel w.heap.size base m F (enter hb args k h n) { tmps := xs ++ Array.replicate (k - xs.size) undef, defers := [] } w := by
  have hlen : args.len = xs.size := by simpa using RL_len _ _ ha
  refine ⟨hr, ⟨[], rfl, List.nodup_nil, Nat.le_refl _, fun r hr => (by cases hr), fun r hr => (by cases hr), fun r hr => (by cases hr)⟩, ?_, fun i => ?_⟩
  · simp [enter, hlen]
  · have := setArgs_tmp args _ ha 0 (fun _ => .junk) .nil (fun _ => Go.undef) (fun j => by show R F w .junk n m _; simp only [R]) i
    simp only [enter, St.tmp]
    have e : (if 0 ≤ i ∧ i < 0 + xs.toList.length then xs.toList.getD (i - 0) Go.undef else Go.undef) = (xs ++ Array.replicate (k - xs.size) undef).getD i Go.undef := by
      simp only [Nat.zero_le, true_and, Nat.zero_add, Array.length_toList, Nat.sub_zero]
      by_cases hi : i < xs.size
      · rw [if_pos hi, Array.getD_eq_getD_getElem?, Array.getElem?_append_left hi, List.getD_eq_getElem?_getD, Array.getElem?_toList]
      · rw [if_neg hi, Array.getD_eq_getD_getElem?, Array.getElem?_append_right (by omega), Array.getElem?_replicate]
        split <;> rfl
    rw [← e]
    exact this

/-- The marks' blocks are shut. -/
def closeAll (w : World) : List Nat → World
  | [] => w
  | r :: rs => closeAll (w.putObj r (.deferred none)) rs
theorem closeAll_size : ∀ (rs : List Nat) (w : World), (closeAll w rs).heap.size = w.heap.size := by
  intro rs
  induction rs with
  | nil => intro w; rfl
  | cons r rs ih => intro w; rw [closeAll, ih]; simp
theorem marks_leave {P : Program} {fn : Func} {tmps : Array Value} {K : Ending → World → Prop} : ∀ (rs : List Nat) (w : World), rs.Nodup → (∀ r ∈ rs, w.heap[r]? = some (.deferred (some []))) →
    (∃ v, (results fn tmps).run P (closeAll w rs) = .ok v (closeAll w rs) ∧ K (.returned v) (closeAll w rs)) → LeavesInM (fen none) 0 P fn tmps K (rs.map fun r => { target := .collected r, args := #[] }) .returning w := by
  intro rs
  induction rs with
  | nil => intro w _ _ h; exact h
  | cons r rs ih =>
    intro w hn ho h
    have hn' := List.nodup_cons.1 hn
    refine ⟨by simp, .inl ⟨r, _, rfl, run_takeDeferred (ho r (by simp)), ih _ hn'.2 (fun q hq => ?_) h⟩⟩
    rw [World.putObj_heap_other (fun e => hn'.1 (by rw [← e]; exact hq))]
    exact ho q (List.mem_cons_of_mem _ hq)
theorem putObj_sizes {w : World} {r : Nat} {o : Obj} (ho : w.heap[r]? = some (.deferred (some []))) : Sizes w (w.putObj r o) := fun B c el fr hB => by
  have hne : B ≠ r := fun e => by subst e; rw [ho] at hB; cases hB
  exact ⟨c, fr, by rw [World.putObj_heap_other hne]; exact hB, rfl⟩
theorem RB_world {F : Nat → Prop} {w w' : World} {n : Nat} {m : Nat → Option Nat} {blk : Blk} {B : Option Nat} (hs : Sizes w w') (hF : ∀ B, F B → w'.heap[B]? = w.heap[B]?) (hk : ∀ b, B = some b → w'.heap[b]? = w.heap[b]?) (hb : RB F w n m blk B) : RB F w' n m blk B := by
  have hm := fun v n m => R_mono (F := F) (F' := F) hs (fun _ h => h) hF v n n m m (Nat.le_refl _) (fun _ _ _ h => h)
  cases blk with
  | none => exact hb
  | any => exact hb
  | var cs =>
    obtain ⟨b, xs, el, ys, zs, e, hc, hsp, hr⟩ := hb
    exact ⟨b, xs, el, ys, zs, e, by rw [hk b e]; exact hc, hsp, (hm cs n m).2 _ hr⟩
  | arr es k get =>
    rcases hb with h0 | ⟨b, c, el, e, hc, hs, hr⟩
    · exact .inl h0
    refine .inr ⟨b, c, el, e, by rw [hk b e]; exact hc, hs, fun j hj => ?_⟩
    obtain ⟨xs, h1, h2, h3⟩ := hr j hj
    exact ⟨xs, (hm (get j) 0 _).2 _ h1, h2, h3⟩
  | iter mb since seen last =>
    obtain ⟨r, x, e, hc, h1⟩ := hb
    refine ⟨r, x, e, by rw [hk r e]; exact hc, ?_⟩
    cases mb with
    | none => exact h1
    | some b => obtain ⟨y, h2, h3, h4⟩ := h1; exact ⟨y, h2, h3, h4⟩
  | mapV kd st f ks =>
    obtain ⟨b, es, clock, e, hc, hE, hf⟩ := hb
    exact ⟨b, es, clock, e, by rw [hk b e]; exact hc, hE, fun k hk' => ⟨(hf k hk').1, fun v hv => (hm (f k).2 n m).1 _ ((hf k hk').2 v hv)⟩⟩
  | rng f ps asg bd row N st pend =>
    obtain ⟨l, r, e, hc, h1, h2, h3, h4, h5, h6, h7⟩ := hb
    exact ⟨l, r, e, by rw [hk l e]; exact hc, h1, h2, h3, h4, h5, h6, fun i => (hm (row i) n m).1 _ (h7 i)⟩
theorem HR.closeAll {base : Nat} {m : Nat → Option Nat} {F : Nat → Prop} {h : Nat → Blk} {n : Nat} : ∀ {w : World}, HR base m F h n w → ∀ (rs : List Nat), rs.Nodup → (∀ r ∈ rs, w.heap[r]? = some (.deferred (some []))) → (∀ r ∈ rs, ¬ F r ∧ ∀ b, m b ≠ some r) →
    HR base m F h n (closeAll w rs) ∧ ∀ v x, R F w v n m x → R F (closeAll w rs) v n m x := by
  intro w hr rs
  induction rs generalizing w with
  | nil => intro _ _ _; exact ⟨hr, fun _ _ h => h⟩
  | cons r rs ih =>
    intro hn ho hu
    have hn' := List.nodup_cons.1 hn
    have hs := putObj_sizes (o := .deferred none) (ho r (by simp))
    have hF : ∀ B, F B → (w.putObj r (.deferred none)).heap[B]? = w.heap[B]? := fun B hB => World.putObj_heap_other fun e => (hu r (by simp)).1 (by rw [← e]; exact hB)
    have hr' : HR base m F h n (w.putObj r (.deferred none)) :=
      ⟨by simpa using hr.low, fun B hB => by simpa using hr.fdom B hB, fun b hb => RB_world hs hF (fun k hk => World.putObj_heap_other fun e => (hu r (by simp)).2 b (by rw [hk, e])) (hr.blk b hb), fun b B hB => by simpa using hr.dom b B hB, hr.new, hr.gl.mono hs (fun _ h => h) hF, hr.own, hr.inj⟩
    obtain ⟨k1, k2⟩ := ih hr' hn'.2 (fun q hq => by
      rw [World.putObj_heap_other (fun e => hn'.1 (by rw [← e]; exact hq))]
      exact ho q (List.mem_cons_of_mem _ hq)) (fun q hq => hu q (List.mem_cons_of_mem _ hq))
    exact ⟨k1, fun v x h => k2 v x ((R_mono hs (fun _ h => h) hF v n n m m (Nat.le_refl _) (fun _ _ _ h => h)).1 x h)⟩
theorem Ext.closeAll {base : Nat} {m m' : Nat → Option Nat} {F F' : Nat → Prop} {n n' : Nat} {w : World} : ∀ {w' : World}, Ext base m F n w m' F' n' w' → ∀ (rs : List Nat), rs.Nodup → (∀ r ∈ rs, w.heap.size ≤ r) → (∀ r ∈ rs, w'.heap[r]? = some (.deferred (some []))) →
    base ≤ w.heap.size → (∀ B, F B → B < w.heap.size) → Ext base m F n w m' F' n' (Fw.closeAll w' rs) := by
  intro w' he rs
  induction rs generalizing w' with
  | nil => intro _ _ _ _ _; exact he
  | cons r rs ih =>
    intro hn hl ho hb hF
    have hn' := List.nodup_cons.1 hn
    have hr := hl r (by simp)
    refine ih ⟨he.f, he.back, fun B hB => ?_, by simpa using he.size, he.sz.trans (putObj_sizes (ho r (by simp))), ⟨fun B hB hu => ?_, he.ow.old⟩, he.le, he.map, ⟨he.calm.os, he.calm.tape, he.calm.output⟩⟩ hn'.2 (fun q hq => hl q (List.mem_cons_of_mem _ hq)) (fun q hq => ?_) hb hF
    · rw [World.putObj_heap_other (fun e => by subst e; rcases hB with h | h; omega; have := hF _ h; omega)]
      exact he.keep B hB
    · rw [World.putObj_heap_other (fun e => by subst e; omega)]
      exact he.ow.un B hB hu
    · rw [World.putObj_heap_other (fun e => hn'.1 (by rw [← e]; exact hq))]
      exact ho q (List.mem_cons_of_mem _ hq)
/-- A range over a function's record is turned. -/
theorem HR.putLoop {base : Nat} {m : Nat → Option Nat} {F : Nat → Prop} {h h' : Nat → Blk} {n : Nat} {w : World} (hr : HR base m F h n w) {b l : Nat} (hb : m b = some l) {r r' : Loop} (hl : w.heap[l]? = some (.loop r)) (hna : h b ≠ .any) {blk : Blk}
    (hh : ∀ c, h' c = if c = b then blk else h c) (hblk : (∀ v x, R F w v n m x → R F (w.putObj l (.loop r')) v n m x) → RB F (w.putObj l (.loop r')) n m blk (some l)) :
    HR base m F h' n (w.putObj l (.loop r')) ∧ Ext base m F n w m F n (w.putObj l (.loop r')) := by
  have hown := hr.own b l hb
  have keep : ∀ k, k ≠ l → (w.putObj l (.loop r')).heap[k]? = w.heap[k]? := fun k hk => World.putObj_heap_other hk
  have hsz : Sizes w (w.putObj l (.loop r')) := fun B c el fr hB => by
    have hne : B ≠ l := fun e => by subst e; rw [hl] at hB; cases hB
    exact ⟨c, fr, by rw [keep B hne]; exact hB, rfl⟩
  have hkF : ∀ k, F k → (w.putObj l (.loop r')).heap[k]? = w.heap[k]? := fun k hk => keep k fun e => by subst e; exact hown.2 hk
  have hext : Ext base m F n w m F n (w.putObj l (.loop r')) :=
    ⟨fun _ h => h, fun _ h => .inl h, fun k hk => keep k (fun e => by subst e; rcases hk with h | h; exact absurd hown.1 (Nat.not_le.2 h); exact hown.2 h), by simp, hsz,
      ⟨fun k _ hk => keep k fun e => hk b (by rw [e]; exact hb), fun c _ hc _ => ⟨c, hc⟩⟩, Nat.le_refl _, fun _ _ _ h => h, ⟨rfl, rfl, rfl⟩⟩
  refine ⟨⟨by simpa using hr.low, fun k hk => by simpa using hr.fdom k hk, fun c hc => ?_, fun c C hC => by simpa using hr.dom c C hC, hr.new, hr.gl.mono hsz (fun _ h => h) hkF, hr.own, fun c c' C h1 h2 hne => ?_⟩, hext⟩
  · rw [hh c]
    by_cases e : c = b
    · subst e
      rw [if_pos rfl, hb]
      exact hblk fun v xs hv => hext.val hv
    · rw [if_neg e]
      by_cases e2 : m c = some l
      · rcases hr.inj c b l e2 hb e with h1 | h1
        · rw [h1]; exact trivial
        · exact absurd h1 hna
      · exact RB_ext hext (fun k hk => keep k fun e' => by subst e'; exact e2 hk) (hr.blk c hc)
  · rw [hh c, hh c']
    rcases hr.inj c c' C h1 h2 hne with h3 | h3
    · left
      rw [if_neg (fun e => hna (by rw [← e]; exact h3))]
      exact h3
    · right
      rw [if_neg (fun e => hna (by rw [← e]; exact h3))]
      exact h3
theorem putArgs_tmp {F : Nat → Prop} {w : World} {n : Nat} {m : Nat → Option Nat} {d : Nat → V} : ∀ (ps : List Nat) (args : V) (xs : List Value) (T : PT V) (arr : Array Value), RL F w args n m xs → (∀ p ∈ ps, p < arr.size) → (∀ j, R F w (look d T j) n m (arr.getD j Go.undef)) →
    (∀ j, R F w (look d (putArgs ps args T) j) n m (((ps.zip xs).foldl (fun tmps (t, a) => tmps.setIfInBounds t a) arr).getD j Go.undef)) ∧ ((ps.zip xs).foldl (fun tmps (t, a) => tmps.setIfInBounds t a) arr).size = arr.size := by
  intro ps
  induction ps with
  | nil => intro args xs T arr _ _ hT; exact ⟨hT, rfl⟩
  | cons p ps ih =>
    intro args xs T arr ha hps hT
    cases args <;> simp only [RL] at ha
    · subst ha; exact ⟨hT, rfl⟩
    · rename_i v r
      obtain ⟨x, q, rfl, h1, h2⟩ := ha
      have hp := hps p (by simp)
      have := ih r q (T.set p v) (arr.setIfInBounds p x) h2 (fun p' hp' => by simpa using hps p' (List.mem_cons_of_mem _ hp')) (fun j => by
        rw [look_set]
        by_cases e : j = p
        · subst e
          rw [if_pos rfl]
          have hget : (arr.setIfInBounds j x).getD j Go.undef = x := by simp [Array.getD_eq_getD_getElem?, hp]
          rw [hget]; exact h1
        · rw [if_neg e]
          have hget : (arr.setIfInBounds p x).getD j Go.undef = arr.getD j Go.undef := by
            simp only [Array.getD_eq_getD_getElem?, Array.getElem?_setIfInBounds_ne (Ne.symm e)]
          rw [hget]; exact hT j)
      exact ⟨this.1, by rw [List.zip_cons_cons, List.foldl_cons]; rw [this.2]; simp⟩
theorem evYield_ok (hrec : CodeOk E rec_) {hb : Nat → Blk} {b : Nat} {args : V} {h : PT Blk} {n base : Nat} {m : Nat → Option Nat} {F : Nat → Prop} {w : World} {xs : Array Value} {Q : V × PT Blk × Nat → Prop} {K : Ending → World → Prop}
    (hr : HR base m F (look hb h) n w) (ha : RL F w args n m xs.toList) (hq : (evYield E rec_ hb b args h n).holds E.P Q)
    (hK : ∀ v h' n', Q (v, h', n') → ∀ m' F' w' x, Ext base m F n w m' F' n' w' → HR base m' F' (look hb h') n' w' → R F' w' v n' m' x → K (.returned x) w') (l : Nat) (hml : m b = some l) :
    ∃ r, w.heap[l]? = some (.loop r) ∧ xs.size = r.params.size ∧ ∀ ro, RoundIn (fen ro) 0 E.P l r.fn ((r.params.zip xs).foldl (fun tmps (t, a) => tmps.setIfInBounds t a) r.tmps) r.assign r.body w K := by
  have hbn : b < n := hr.lt (by rw [hml]; simp)
  have hblk := hr.blk b hbn
  unfold evYield at hq
  cases hh : look hb h b <;> rw [hh] at hq hblk <;> try (exact hq.elim)
  rename_i f ps asg bd row N st pend
  obtain ⟨l', r, e, hl, hps, hasg, hbd, hst, hpd, hrl, hrow⟩ := hblk
  obtain rfl : l = l' := by rw [hml] at e; injection e
  dsimp only at hq
  have hlp' : (∀ c ∈ loopsOf asg ++ loopsOf bd, ∀ g, loopOf E f c = some g → InFn E.P f c) := by
    cases hlp : ((loopsOf asg ++ loopsOf bd).all fun c => (loopOf E f c).isNone)
    · rw [hlp] at hq
      exact hq.1
    · intro c hmem g hg
      have := List.all_eq_true.1 hlp c hmem
      rw [hg] at this; cases this
  replace hq := (withNeed_holds hq).2
  cases hc : (Nat.beq st 0 && (Nat.beq args.len ps.length && ps.all fun p => Nat.blt p N)) && (noRange asg && noRange bd)
  · rw [hc] at hq; exact hq.elim
  rw [hc] at hq
  simp only [cond_true] at hq
  simp only [Bool.and_eq_true] at hc
  obtain ⟨⟨_, hlen, hall⟩, hna, hnb⟩ := hc
  have hlen := Nat.eq_of_beq_eq_true hlen
  have hal : args.len = xs.size := by simpa using RL_len _ _ ha
  have hpl : ps.length = r.params.size := by rw [← hps]; simp
  refine ⟨r, hl, by omega, fun ro => roundIn_of_wpIn (F := fen ro) trivial ?_⟩
  rw [Tree.holds_bind] at hq
  have htmps := putArgs_tmp (F := F) (w := w) (n := n) (m := m) (d := row) ps args xs.toList .nil r.tmps ha (fun p hp => by
    have := List.all_eq_true.1 hall p hp
    rw [Nat.blt_eq] at this; omega) (fun j => hrow j)
  have hfold : (r.params.zip xs).foldl (fun tmps (t, a) => tmps.setIfInBounds t a) r.tmps = (ps.zip xs.toList).foldl (fun tmps (t, a) => tmps.setIfInBounds t a) r.tmps := by
    rw [← hps, ← Array.foldl_toList, Array.toList_zip]
  have hrel0 : Rel w.heap.size base m F ({ t := putArgs ps args .nil, h, n, N } : St ⟨row, hb⟩) { tmps := (r.params.zip xs).foldl (fun tmps (t, a) => tmps.setIfInBounds t a) r.tmps, defers := [] } w :=
    ⟨hr, ⟨[], rfl, List.nodup_nil, Nat.le_refl _, fun r hr => (by cases hr), fun r hr => (by cases hr), fun r hr => (by cases hr)⟩, by rw [hfold]; dsimp only; rw [htmps.2, hrl], fun j => by
      rw [hfold]; exact htmps.1 j⟩
  have hasg0 := hasg
  subst hasg
  refine wpX.wp (ro := some l) (hrec (some l) f r.assign ⟨row, hb⟩ _ w.heap.size base m F _ w _ _ (fun c hc => hlp' c (List.mem_append_left _ hc)) (.inr hna) hrel0 hq fun e s' hQ m' F' a' w' h1 h2 => ?_)
  cases e with
  | exit id => exact hQ.elim
  | ret => exact hQ.elim
  | normal =>
    dsimp only at hQ
    have hml' := h1.map b hbn l hml
    have hbn' : b < s'.n := h2.hr.lt (by rw [hml']; simp)
    have hblk' := h2.hr.blk b hbn'
    cases hh' : look hb s'.h b <;> rw [show s'.blk b = look hb s'.h b from rfl] at hblk' <;> rw [hh'] at hQ hblk' <;> try (exact hQ.elim)
    rename_i f1 ps1 asg1 bd1 row1 N1 st1 pd1
    obtain ⟨l1, r1, e1, hl1, hps1, hasg1, hbd1, hst1, hpd1, hrl1, hrow1⟩ := hblk'
    obtain rfl : l = l1 := by rw [hml'] at e1; injection e1
    dsimp only at hQ
    cases hs0 : Nat.beq st1 0
    · rw [hs0] at hQ; exact hQ.elim
    rw [hs0] at hQ
    simp only [cond_true] at hQ
    rw [Tree.holds_bind] at hQ
    have hst1' : r1.state = .ready := by rw [hst1, Nat.eq_of_beq_eq_true hs0]; rfl
    obtain ⟨k1, k2⟩ := h2.hr.putLoop (h' := look hb (s'.h.set b (.rng f1 ps1 asg1 bd1 row1 N1 1 pd1))) (r' := { r1 with state := .busy }) hml' hl1 (by show look hb s'.h b ≠ _; rw [hh']; simp) (blk := .rng f1 ps1 asg1 bd1 row1 N1 1 pd1) (fun c => look_set _ _ _ _ _)
      (fun up => ⟨l, _, rfl, World.putObj_heap_same (heap_lt hl1), hps1, hasg1, hbd1, rfl, hpd1, hrl1, fun i => up _ _ (hrow1 i)⟩)
    refine ⟨_, run_beginRound hl1 hst1', ?_⟩
    have hrel1 : Rel w.heap.size base m' F' ({ s' with h := s'.h.set b (.rng f1 ps1 asg1 bd1 row1 N1 1 pd1) } : St ⟨row, hb⟩) a' (w'.putObj l (.loop { r1 with state := .busy })) :=
      ⟨k1, Marks.ext h2.defers k2, h2.size, fun i => k2.val (h2.tmp i)⟩
    subst hbd
    refine wpX.wp (ro := some l) (hrec (some l) f r.body ⟨row, hb⟩ _ w.heap.size base m' F' _ _ _ _ (fun c hc => hlp' c (List.mem_append_right _ hc)) (.inr hnb) hrel1 hQ fun e2 s2 hQ2 m2 F2 a2 w2 h3 h4 => ?_)
    have hml2 := h3.map b hbn' l hml'
    have hbn2 : b < s2.n := h4.hr.lt (by rw [hml2]; simp)
    have hblk2 := h4.hr.blk b hbn2
    dsimp only at hQ2
    cases hh2 : look hb s2.h b <;> rw [show s2.blk b = look hb s2.h b from rfl] at hblk2 <;> rw [hh2] at hQ2 hblk2 <;> try (exact hQ2.elim)
    rename_i f2 ps2 asg2 bd2 row2 N2 st2 pd2
    obtain ⟨l2, r2, e2', hl2, hps2, hasg2, hbd2, hst2, hpd2, hrl2, hrow2⟩ := hblk2
    obtain rfl : l = l2 := by rw [hml2] at e2'; injection e2'
    dsimp only at hQ2
    cases hs1 : Nat.beq st2 1
    · rw [hs1] at hQ2; exact hQ2.elim
    rw [hs1] at hQ2
    simp only [cond_true] at hQ2
    have fin : ∀ (jump : Option Code), codeOf (some e2) = jump → e2.isNormal = jump.isNone → ∃ v w3, (Instr.endRound l jump).run E.P w2 = .ok v w3 ∧ K (.returned v) w3 := by
      intro jump hj hn
      refine ⟨_, _, run_endRound jump hl2, ?_⟩
      obtain ⟨c1, c2⟩ := h4.hr.putLoop (h' := look hb (s2.h.set b (.rng f2 ps2 asg2 bd2 row2 N2 (bif e2.isNormal then 0 else 2) (some e2)))) (r' := { r2 with state := if jump.isNone then .ready else .done, pending := jump }) hml2 hl2 (by show look hb s2.h b ≠ _; rw [hh2]; simp)
        (blk := .rng f2 ps2 asg2 bd2 row2 N2 (bif e2.isNormal then 0 else 2) (some e2)) (fun c => look_set _ _ _ _ _)
        (fun up => ⟨l, _, rfl, World.putObj_heap_same (heap_lt hl2), hps2, hasg2, hbd2, by rw [hn]; cases jump.isNone <;> rfl, hj.symm, hrl2, fun i => up _ _ (hrow2 i)⟩)
      exact hK _ _ _ hQ2 m2 F2 _ _ (((h1.trans k2).trans h3).trans c2) c1 (by rw [R_bool, hn])
    cases e2 with
    | normal => exact fin none rfl rfl
    | ret => exact fin (some .ret) rfl rfl
    | exit id => exact fin (some (.exit id)) rfl rfl
theorem R_plain {F : Nat → Prop} {w : World} {n : Nat} {m : Nat → Option Nat} : ∀ (v : V), (∀ x, R F w v n m x → R F w v.plain n m x) ∧ (∀ xs, RL F w v n m xs → RL F w v.plain n m xs) := by
  intro v
  induction v with
  | cons h t ih1 ih2 =>
    refine ⟨fun x h => by simp only [R] at h, fun xs h => ?_⟩
    simp only [V.plain, RL] at h ⊢
    obtain ⟨x, r, rfl, h1, h2⟩ := h
    exact ⟨x, r, rfl, ih1.1 _ h1, ih2.2 _ h2⟩
  | agg cs ih =>
    refine ⟨fun x h => ?_, fun xs h => by simp only [RL] at h⟩
    simp only [V.plain, R] at h ⊢
    obtain ⟨xs, rfl, h1⟩ := h
    exact ⟨xs, rfl, ih.2 _ h1⟩
  | tup cs ih =>
    refine ⟨fun x h => ?_, fun xs h => by simp only [RL] at h⟩
    simp only [V.plain, R] at h ⊢
    obtain ⟨xs, rfl, h1⟩ := h
    exact ⟨xs, rfl, ih.2 _ h1⟩
  | osp st b es i k c =>
    refine ⟨fun x h => ?_, fun xs h => by simp only [RL] at h⟩
    simp only [V.plain]
    cases (st && (Nat.beq k 0 && Nat.blt 0 c))
    · exact R_plain1 h
    · exact h
  | _ => exact ⟨fun x h => h, fun xs h => h⟩
theorem evCall_ok (hE : E.Ok) (hrec : CodeOk E rec_) : CallOk E (evCall E rec_) := by
  intro hb c args h n base m F w xs Q K hr ha hq hK
  cases c with
  | inr b => exact fun l hml => evYield_ok hrec hr ha hq hK l hml
  | inl g =>
  simp only [evCall] at hq
  cases hf : E.P.funcs[g]? with
  | none => rw [hf] at hq; exact hq.elim
  | some fn =>
    rw [hf] at hq
    dsimp only at hq
    cases hbd : fn.body with
    | none => rw [hbd] at hq; exact hq.elim
    | some c =>
      rw [hbd] at hq
      dsimp only at hq
      rw [Tree.holds_bind] at hq
      refine ⟨⟨fn, c, hf, hbd, hE.named g fn hf⟩, CallsIn.calls (F := fen none) (n := 0) (callsIn_of_wp_marks hf hbd trivial ?_ rfl) (fen_room none)⟩
      refine wpX.wp (ro := none) (hrec none g c _ (enter hb args.plain fn.ntmps h n) w.heap.size base m F _ w _ _ (fun b hmem _ _ => ⟨fn, c, hf, hbd, loops_all c b hmem⟩) (.inl rfl) (enter_rel hr ((R_plain args).2 _ ha) fn.ntmps) hq fun e s' hQ m' F' a' w' h1 h2 => ?_)
      have fin : (resultsOf E.P s' fn.results.toList).holds E.P (fun vs => (Tree.leaf ((single vs).plain, s'.h, s'.n)).holds E.P Q) → LeavesInM (fen none) 0 E.P fn a'.tmps K a'.defers .returning w' := by
        intro hq'
        obtain ⟨rs, hm⟩ := h2.defers
        rw [hm.eq]
        refine marks_leave rs w' hm.nodup hm.obj ?_
        obtain ⟨c1, c2⟩ := HR.closeAll h2.hr rs hm.nodup hm.obj hm.un
        have h2' : Rel w.heap.size base m' F' s' { a' with defers := [] } (closeAll w' rs) :=
          ⟨c1, ⟨[], rfl, List.nodup_nil, (let ⟨_, hm⟩ := h2.defers; by rw [closeAll_size]; exact hm.le), fun r hr => (by cases hr), fun r hr => (by cases hr), fun r hr => (by cases hr)⟩, h2.size, fun i => c2 _ _ (h2.tmp i)⟩
        obtain ⟨vs, x, k1, k2, k3⟩ := results_run h2' fn hq'
        exact ⟨x, k2, hK _ _ _ k1 m' F' _ x (Ext.closeAll h1 rs hm.nodup hm.lo hm.obj hr.low hr.fdom) c1 ((R_plain _).1 _ k3)⟩
      cases e with
      | exit id => exact hQ.elim
      | normal => dsimp only at hQ; rw [Tree.holds_bind] at hQ; exact fin hQ
      | ret => dsimp only at hQ; rw [Tree.holds_bind] at hQ; exact fin hQ

theorem callee_fn {F : Nat → Prop} {w : World} {n : Nat} {m : Nat → Option Nat} {f args : V} {x : Value} {xs : Array Value} {g : FuncId} {out : V} (hc : callee f args = some (g, out)) (hf : R F w f n m x) (ha : RL F w args n m xs.toList) :
    ∃ fs cs : Array Value, x = .func (.func g) fs cs ∧ RL F w out n m (fs ++ xs ++ cs).toList := by
  unfold callee at hc
  cases f <;> try (cases hc; done)
  rename_i f first cap
  cases f <;> try (cases hc; done)
  simp only [Option.some.injEq, Prod.mk.injEq] at hc
  obtain ⟨rfl, rfl⟩ := hc
  simp only [R] at hf
  obtain ⟨fs, cs, rfl, h1, h2⟩ := hf
  refine ⟨fs, cs, rfl, ?_⟩
  simp only [Array.toList_append, List.append_assoc]
  exact RL_app _ _ h1 _ _ (RL_app _ _ ha _ _ h2)
theorem rangeFunc_ok (hE : E.Ok) (hrec : CodeOk E rec_) {ro : Option Nat} {f : FuncId} {g : Operand} {ps : Array Tmp} {asg bd : Code} (hro : ro = none ∨ noRange (.rangeFunc g ps asg bd) = true) {s : St B} {lo base : Nat} {m : Nat → Option Nat} {F : Nat → Prop} {a : Act} {w : World}
    {Q : Ex × St B → Prop} {Qx : Exit → Act → World → Prop} (hr : Rel lo base m F s a w) (hq : (evStep E rec_ f (.rangeFunc g ps asg bd) B s).holds E.P Q)
    (hK : ∀ e s', Q (e, s') → ∀ m' F' a' w', Ext base m F s.n w m' F' s'.n w' → Rel lo base m' F' s' a' w' → Qx e.toExit a' w') : (Code.rangeFunc g ps asg bd).wpIn (fen ro) 0 E.P Qx a w := by
  obtain rfl : ro = none := hro.resolve_right (by simp [noRange])
  simp only [evStep] at hq
  split at hq
  case h_2 => exact hq.elim
  rename_i g' args hcy
  have hc : callee (opnd s g) (.cons (.yld s.n) .nil) = some (g', args) := by
    revert hcy
    cases hv : opnd s g <;> simp only [calleeY] <;> intro h <;> first
      | (split at h <;> first | (rename_i hc; injection h with h; injection h with e1 e2; injection e1 with e1; rw [hc, e1, e2]) | cases h)
      | (injection h with h; injection h with e1 e2; cases e1)
  rw [Tree.holds_bind] at hq
  refine wpIn_rangeFunc (F := fen none) fun fn _ => ?_
  have henter := run_enterLoop_outer (P := E.P) (w := w) fn a.tmps ps asg bd
  generalize hw1 : ((w.alloc (.deferred (some []))).alloc (.loop { state := .ready, pending := none, fn, tmps := a.tmps, params := ps, assign := asg, body := bd, defers := w.heap.size })) = w1 at henter
  have hsz1 : w1.heap.size = w.heap.size + 2 := by rw [← hw1]; simp
  have hkeep : ∀ B, B < w.heap.size → w1.heap[B]? = w.heap[B]? := fun B hB => by
    rw [← hw1, heap_alloc_old _ _ _ (by simp; omega), heap_alloc_old _ _ _ hB]
  have hl1 : w1.heap[w.heap.size + 1]? = some (.loop { state := .ready, pending := none, fn, tmps := a.tmps, params := ps, assign := asg, body := bd, defers := w.heap.size }) := by
    rw [← hw1]
    have := heap_alloc_new (w.alloc (.deferred (some []))) (.loop { state := .ready, pending := none, fn, tmps := a.tmps, params := ps, assign := asg, body := bd, defers := w.heap.size })
    simpa using this
  have hd1 : w1.heap[w.heap.size]? = some (.deferred (some [])) := by
    rw [← hw1, heap_alloc_old _ _ _ (by simp)]
    exact heap_alloc_new w _
  have hlat : Later F w F w1 := ⟨fun _ h => h, fun _ h => .inl h, hkeep, by omega, fun hd B hB => by have := hd B hB; omega, by rw [← hw1]; exact ⟨rfl, rfl, rfl⟩⟩
  have hr1 := hr.hr.later hlat
  have he0 := hr.hr.ext hlat
  have hnone : ∀ c, m c ≠ some (w.heap.size + 1) := fun c hc => by have := hr.hr.dom c _ hc; omega
  generalize hm' : (fun c => if c = s.n then some (w.heap.size + 1) else m c) = m'
  have hex : Ext base m F s.n w m' F (s.n + 1) w1 := by
    rw [← hm']
    exact he0.name (B := some (w.heap.size + 1)) fun k hk => by injection hk with hk; left; omega
  have hmn : m' s.n = some (w.heap.size + 1) := by rw [← hm']; simp
  have hname : HR base m' F (look B.h (s.h.set s.n (.rng f ps.toList asg bd s.tmp s.N 0 none))) (s.n + 1) w1 := by
    rw [← hm']
    refine hr1.name (B := some (w.heap.size + 1)) (fun k hk => ?_) (fun c => look_set _ _ _ _ _) ⟨_, _, rfl, hl1, rfl, rfl, rfl, rfl, rfl, hr.size.symm, fun i => by rw [hm']; exact hex.val (hr.tmp i)⟩
    injection hk with hk
    subst hk
    exact ⟨⟨Nat.le_trans hr.hr.low (by omega), fun hF => by have := hr.hr.fdom _ hF; omega⟩, by omega, fun c hc => absurd hc (hnone c)⟩
  obtain ⟨fs, cs, hfn, hy⟩ := callee_fn (F := F) (w := w1) (n := s.n + 1) (m := m') (args := .cons (.yld s.n) .nil) (xs := #[.func (.yield (w.heap.size + 1)) #[] #[]]) hc (hex.val (hr.opnd g)) (by
    simp only [RL, R]
    exact ⟨_, _, rfl, ⟨by omega, _, rfl, hmn⟩, rfl⟩)
  generalize hys : fs ++ #[Value.func (Fn.yield (w.heap.size + 1)) #[] #[]] ++ cs = ys at hy
  have hcall := evCall_ok hE hrec B.h (.inl g') args _ (s.n + 1) base m' F w1 ys _ (rangePost (fen none) 0 E.P (w.heap.size + 1) Qx { a with defers := [{ target := .collected w.heap.size, args := #[] }] ++ a.defers }) hname hy hq (fun v h' n' hQ m2 F2 w3 x h1 h2 h3 => ?_)
  · obtain ⟨hhas, hcalls⟩ := hcall
    refine ⟨_, _, w1, { target := .fn (.func g') cs, args := fs ++ #[.func (.yield (w.heap.size + 1)) #[] #[]] }, w1, g', ys, w1, henter, ?_, fun _ _ => trivial, ?_, fen_depth none, fen_calls hcalls⟩
    · simp only [resolve]
      rw [hfn]
      have e : Array.map a.eval #[Operand.const (Value.func (Fn.yield (w.heap.size + 1)) #[] #[])] = #[Value.func (Fn.yield (w.heap.size + 1)) #[] #[]] := by simp [Act.eval]
      rw [e]
      rfl
    · simp only [invoke]
      rw [← hys] at *
      exact run_callFunc hhas _ _
  · -- behind the call
    dsimp only at hQ
    have hm2 := h1.map s.n (by omega) _ hmn
    have hn2 : s.n < n' := h2.lt (by rw [hm2]; simp)
    have hblk2 := h2.blk s.n hn2
    cases hh2 : look B.h h' s.n <;> rw [hh2] at hQ hblk2 <;> try (exact hQ.elim)
    rename_i f2 ps2 asg2 bd2 row2 N2 st2 pd2
    obtain ⟨l2, r2, e2', hl2, hps2, hasg2, hbd2, hst2, hpd2, hrl2, hrow2⟩ := hblk2
    obtain rfl : w.heap.size + 1 = l2 := by rw [hm2] at e2'; injection e2'
    dsimp only at hQ
    cases hs1 : Nat.beq st2 1
    case true => rw [hs1] at hQ; exact hQ.elim
    rw [hs1] at hQ
    simp only [cond_false] at hQ
    have hnb : r2.state ≠ .busy := by
      rw [hst2]
      match st2, hs1 with
      | 0, _ => simp [stOf]
      | 1, h => cases h
      | _ + 2, _ => simp [stOf]
    obtain ⟨c1, c2⟩ := h2.putLoop (h' := look B.h (h'.set s.n .any)) (r' := { r2 with state := .exhausted }) hm2 hl2 (by rw [hh2]; simp) (blk := .any) (fun c => look_set _ _ _ _ _) (fun _ => trivial)
    refine ⟨_, _, run_endLoop hl2 hnb, ?_⟩
    have hall := (hex.trans h1).trans c2
    have hmarks : ∃ rs, Marks lo m' F w1 ([{ target := .collected w.heap.size, args := #[] }] ++ a.defers) rs := by
      obtain ⟨rs, hm⟩ := hr.defers
      have hlt : ∀ r ∈ rs, r < w.heap.size := fun r hr' => heap_lt (hm.obj r hr')
      refine ⟨w.heap.size :: rs, by rw [hm.eq]; rfl, List.nodup_cons.2 ⟨fun h => absurd (hlt _ h) (Nat.lt_irrefl _), hm.nodup⟩, Nat.le_trans hm.le (by omega), fun r hr' => ?_, fun r hr' => ?_, fun r hr' => ?_⟩
      · rcases List.mem_cons.1 hr' with e | h
        · rw [e]; exact hm.le
        · exact hm.lo r h
      · rcases List.mem_cons.1 hr' with e | h
        · rw [e]; exact hd1
        · rw [hkeep r (hlt r h)]; exact hm.obj r h
      · rcases List.mem_cons.1 hr' with e | h
        · rw [e]
          refine ⟨fun hF => absurd (hr.hr.fdom _ hF) (Nat.lt_irrefl _), fun b hb => ?_⟩
          rw [← hm'] at hb
          dsimp only at hb
          by_cases e2 : b = s.n
          · rw [if_pos e2] at hb; injection hb with hb; omega
          · rw [if_neg e2] at hb; have := hr.hr.dom b _ hb; omega
        · refine ⟨(hm.un r h).1, fun b hb => ?_⟩
          rw [← hm'] at hb
          dsimp only at hb
          by_cases e2 : b = s.n
          · rw [if_pos e2] at hb; injection hb with hb; have := hlt r h; omega
          · rw [if_neg e2] at hb; exact (hm.un r h).2 b hb
    have hrel : Rel lo base m2 F2 ({ s with h := h'.set s.n .any, n := n' } : St B) { a with defers := [{ target := .collected w.heap.size, args := #[] }] ++ a.defers } (w3.putObj (w.heap.size + 1) (.loop { r2 with state := .exhausted })) :=
      ⟨c1, Marks.ext hmarks (h1.trans c2), hr.size, fun i => hall.val (hr.tmp i)⟩
    generalize w3.putObj (w.heap.size + 1) (.loop { r2 with state := .exhausted }) = w4 at hall hrel ⊢
    rw [hpd2]
    match pd2, hQ with
    | none, hQ => exact hK .normal _ hQ _ _ _ _ hall hrel
    | some .normal, hQ => exact hK .normal _ hQ _ _ _ _ hall hrel
    | some .ret, hQ => exact wpIn_ret (hK .ret _ hQ _ _ _ _ hall hrel)
    | some (.exit i), hQ => exact wpIn_exit (hK (.exit i) _ hQ _ _ _ _ hall hrel)
theorem evRegion_ok {ro : Option Nat} (hE : E.Ok) (hrec : CodeOk E rec_) {s : St B} {lo base : Nat} {m : Nat → Option Nat} {F : Nat → Prop} {a : Act} {w : World} {Q : Ex × St B → Prop} {Qx : Exit → Act → World → Prop} {id : Nat} {ops : Array Oper} {draw : Bool}
    (hr : Rel lo base m F s a w) (hq : (evRegion E (evCall E rec_) ops draw s).holds E.P Q) (hK : ∀ e s', Q (e, s') → ∀ m' F' a' w', Ext base m F s.n w m' F' s'.n w' → Rel lo base m' F' s' a' w' → Qx e.toExit a' w') :
    (Code.region id ops draw).wpIn (fen ro) 0 E.P Qx a w := by
  unfold evRegion at hq
  cases draw with
  | false =>
    dsimp only at hq
    cases hd : ops.toList.all (dstOk s.N)
    · rw [hd] at hq; exact hq.elim
    · rw [hd] at hq
      simp only [cond_true] at hq
      rw [Tree.holds_bind] at hq
      exact wpIn_region_list (evOps_wp hE (evCall_ok hE hrec) ops.toList s a w m F _ (fun o ho => List.all_eq_true.1 hd o ho) hr hq fun s' hs' m' F' a' w' h1 h2 => hK .normal s' hs' m' F' a' w' h1 h2)
  | true =>
    dsimp only at hq
    rw [forceList_eq] at hq
    cases hd : drawOk ops (bfs ops.toList [])
    · rw [hd] at hq; exact hq.elim
    · rw [hd] at hq
      simp only [cond_true] at hq
      rw [Tree.holds_bind] at hq
      exact evOpsD_wp hE (evCall_ok hE hrec) hr hd hq fun s' hs' m' F' a' w' h1 h2 => hK .normal s' hs' m' F' a' w' h1 h2

theorem evStep_ok (hE : E.Ok) (hrec : CodeOk E rec_) : CodeOk E (evStep E rec_) := by
  intro ro f c B s lo base m F a w Q Qx hin hro hr hq hK
  cases c <;> simp only [evStep] at hq <;> try (exact hq.elim)
  case skip => exact wpIn_skip (hK .normal s hq m F a w (Ext.refl _ _ _ _ _) hr)
  case label l => exact wpIn_label (hK .normal s hq m F a w (Ext.refl _ _ _ _ _) hr)
  case exit id => exact wpIn_exit (hK (.exit id) s hq m F a w (Ext.refl _ _ _ _ _) hr)
  case ret => exact wpIn_ret (hK .ret s hq m F a w (Ext.refl _ _ _ _ _) hr)
  case scope b =>
    refine wpIn_scope (wpX.wp (hrec ro f b B s lo base m F a w _ _ hin hro hr hq fun e s' hQ m' F' a' w' h1 h2 => ?_))
    have := hK e s' hQ m' F' a' w' h1 h2
    cases e <;> exact this
  case rangeFunc g ps asg bd => exact rangeFunc_ok hE hrec hro hr hq hK
  case region id ops draw =>
    split at hq
    · exact merged_ok hr hq hK fun Q' hr' hq' hK' => evRegion_ok hE hrec hr' hq' hK'
    · exact evRegion_ok hE hrec hr hq hK
  case seq x y =>
    rw [Tree.holds_bind] at hq
    have hx : ∀ b ∈ loopsOf x, ∀ g, loopOf E f b = some g → InFn E.P f b := fun b hb => hin b (List.mem_append_left _ hb)
    have hy : ∀ b ∈ loopsOf y, ∀ g, loopOf E f b = some g → InFn E.P f b := fun b hb => hin b (List.mem_append_right _ hb)
    have hrx : ro = none ∨ noRange x = true := hro.imp id fun h => by simp only [noRange, Bool.and_eq_true] at h; exact h.1
    have hry : ro = none ∨ noRange y = true := hro.imp id fun h => by simp only [noRange, Bool.and_eq_true] at h; exact h.2
    refine wpIn_seq (wpX.wp (hrec ro f x B s lo base m F a w _ _ hx hrx hr hq fun e s' hQ m' F' a' w' h1 h2 => ?_))
    cases e with
    | normal => exact wpX.wp (hrec ro f y B s' lo base m' F' a' w' Q Qx hy hry h2 hQ fun e s'' hQ' m'' F'' a'' w'' h3 h4 => hK e s'' hQ' m'' F'' a'' w'' (h1.trans h3) h4)
    | exit id => exact hK (.exit id) s' hQ m' F' a' w' h1 h2
    | ret => exact hK .ret s' hQ m' F' a' w' h1 h2
  case cond c x y =>
    have hx : ∀ b ∈ loopsOf x, ∀ g, loopOf E f b = some g → InFn E.P f b := fun b hb => hin b (List.mem_append_left _ hb)
    have hy : ∀ b ∈ loopsOf y, ∀ g, loopOf E f b = some g → InFn E.P f b := fun b hb => hin b (List.mem_append_right _ hb)
    have hrx : ro = none ∨ noRange x = true := hro.imp id fun h => by simp only [noRange, Bool.and_eq_true] at h; exact h.1
    have hry : ro = none ∨ noRange y = true := hro.imp id fun h => by simp only [noRange, Bool.and_eq_true] at h; exact h.2
    have hc := hr.opnd c
    have know : ∀ {B : Base} {s : St B} (_ : Rel lo base m F s a w) (c : Operand) {st t : Bool}, opnd s c = .bool st t → Rel lo base m F (s.knowAt c t) a w := by
      intro B s hr c st t h
      cases c with
      | tmp d => exact hr.know h
      | _ => exact hr
    have nAt : ∀ {B : Base} (s : St B) (c : Operand) (t : Bool), (s.knowAt c t).n = s.n := fun s c t => by cases c <;> rfl
    have two : ∀ {B : Base} {s : St B} {Q : Ex × St B → Prop} {t : Bool}, Rel lo base m F s a w → opnd s c = .bool false t → (Tree.node t (rec_ f x B (s.knowAt c true)) (rec_ f y B (s.knowAt c false))).holds E.P Q →
        (∀ e s', Q (e, s') → ∀ m' F' a' w', Ext base m F s.n w m' F' s'.n w' → Rel lo base m' F' s' a' w' → Qx e.toExit a' w') → (Code.cond c x y).wpIn (fen ro) 0 E.P Qx a w := by
      intro B s Q t hr hv hq hK
      have hc := hr.opnd c
      rw [hv, R_bool] at hc
      cases t with
      | true => exact wpIn_cond_true hc (wpX.wp (hrec ro f x B (s.knowAt c true) lo base m F a w Q Qx hx hrx (know hr c hv) (hq.1 rfl) fun e s' hQ m' F' a' w' h1 h2 => hK e s' hQ m' F' a' w' (by rw [nAt] at h1; exact h1) h2))
      | false => exact wpIn_cond_false hc (wpX.wp (hrec ro f y B (s.knowAt c false) lo base m F a w Q Qx hy hry (know hr c hv) (hq.2 rfl) fun e s' hQ m' F' a' w' h1 h2 => hK e s' hQ m' F' a' w' (by rw [nAt] at h1; exact h1) h2))
    cases hv : opnd s c <;> rw [hv] at hq hc <;> try exact hq.elim
    rename_i st t
    rw [R_bool] at hc
    cases st with
    | true =>
      cases t with
      | true => exact wpIn_cond_true hc (wpX.wp (hrec ro f x B s lo base m F a w Q Qx hx hrx hr hq hK))
      | false => exact wpIn_cond_false hc (wpX.wp (hrec ro f y B s lo base m F a w Q Qx hy hry hr hq hK))
    | false =>
      dsimp only at hq
      split at hq
      · exact two hr hv ⟨fun _ => hq.2, fun h => by rw [hq.1] at h; cases h⟩ hK
      · exact two hr hv ⟨fun h => (by rw [hq.1] at h; cases h), fun _ => hq.2⟩ hK
      split at hq
      · have hv' : opnd s.sub c = .bool false t := by
          rw [← hv]
          cases c <;> rfl
        exact merged_ok hr hq hK fun Q' hr' hq' hK' => two hr' hv' hq' hK'
      · exact two hr hv hq hK
  case block id b =>
    have go : ∀ {B : Base} {s : St B} {Q : Ex × St B → Prop}, Rel lo base m F s a w → ((rec_ f b B s).bind (leave id)).holds E.P Q →
        (∀ e s', Q (e, s') → ∀ m' F' a' w', Ext base m F s.n w m' F' s'.n w' → Rel lo base m' F' s' a' w' → Qx e.toExit a' w') → (Code.block id b).wpIn (fen ro) 0 E.P Qx a w := by
      intro B s Q hr hq hK
      rw [Tree.holds_bind] at hq
      refine wpIn_block (wpX.wp (hrec ro f b B s lo base m F a w _ _ hin hro hr hq fun e s' hQ m' F' a' w' h1 h2 => ?_))
      cases e with
      | normal => exact hK .normal s' hQ m' F' a' w' h1 h2
      | ret => exact hK .ret s' hQ m' F' a' w' h1 h2
      | exit id' =>
        simp only [leave] at hQ
        simp only [Ex.toExit, Exit.inBlock]
        cases he : Nat.beq id' id
        · rw [he] at hQ
          have hne : id' ≠ id := fun e => by subst e; simp at he
          rw [if_neg hne]
          exact hK (.exit id') s' hQ m' F' a' w' h1 h2
        · rw [he] at hQ
          obtain rfl := Nat.eq_of_beq_eq_true he
          rw [if_pos rfl]
          exact hK .normal s' hQ m' F' a' w' h1 h2
    split at hq
    · exact mergedB_ok hr hq hK fun Q' hr' hq' hK' => go hr' hq' hK'
    · exact go hr hq hK
  case loop b =>
    have hb : ∀ b' ∈ loopsOf b, ∀ g, loopOf E f b' = some g → InFn E.P f b' := fun b' h => hin b' (List.mem_cons_of_mem _ h)
    split at hq
    · rename_i g hg
      exact hE.lp f b g (hin b (List.mem_cons_self ..) g hg) hg B s Q hq ro lo base m F a w Qx hro hr hK
    · rw [Tree.holds_bind] at hq
      refine LoopWp.round (wpX.wp (hrec ro f b B s lo base m F a w _ _ hb hro hr hq fun e s' hQ m' F' a' w' h1 h2 => ?_))
      cases e with
      | normal => exact hrec ro f (.loop b) B s' lo base m' F' a' w' Q Qx hin hro h2 hQ fun e s'' hQ' m'' F'' a'' w'' h3 h4 => hK e s'' hQ' m'' F'' a'' w'' (h1.trans h3) h4
      | exit id => exact hK (.exit id) s' hQ m' F' a' w' h1 h2
      | ret => exact hK .ret s' hQ m' F' a' w' h1 h2
end

theorem ev_ok {E : Env} (hE : E.Ok) : ∀ k, CodeOk E (ev E k) := by
  intro k
  induction k with
  | zero => intro ro f c B s lo base m F a w Q Qx _ _ _ hq; exact hq.elim
  | succ k ih => rw [ev_succ]; exact evStep_ok hE ih

/-- What is published stands for what was answered. -/
theorem mapO_R {F F' : Nat → Prop} {w : World} {n : Nat} {m : Nat → Option Nat} {f : V → V} (hF : ∀ B, F B → F' B) (hf : ∀ v x, R F w v n m x → R F' w (f v) n m x) : ∀ (v : V),
    (∀ x, R F w v n m x → R F' w (mapO f v) n m x) ∧ (∀ xs, RL F w v n m xs → RL F' w (mapO f v) n m xs) := by
  have keep : ∀ v, (∀ x, R F w v n m x → R F' w v n m x) ∧ (∀ xs, RL F w v n m xs → RL F' w v n m xs) :=
    fun v => R_mono (Sizes.refl w) hF (fun _ _ => rfl) v n n m m (Nat.le_refl _) (fun _ _ _ h => h)
  intro v
  induction v with
  | cons a t ih1 ih2 =>
    refine ⟨fun x hx => by simp only [R] at hx, fun xs hx => ?_⟩
    simp only [RL] at hx
    obtain ⟨x, r, rfl, h1, h2⟩ := hx
    simp only [mapO, RL]
    exact ⟨x, r, rfl, ih1.1 _ h1, ih2.2 _ h2⟩
  | tup cs ih =>
    refine ⟨fun x hx => ?_, fun xs hx => by simp only [RL] at hx⟩
    simp only [R] at hx
    obtain ⟨xs, rfl, h1⟩ := hx
    simp only [mapO, R]
    exact ⟨xs, rfl, ih.2 _ h1⟩
  | agg cs ih =>
    refine ⟨fun x hx => ?_, fun xs hx => by simp only [RL] at hx⟩
    simp only [R] at hx
    obtain ⟨xs, rfl, h1⟩ := hx
    simp only [mapO, R]
    exact ⟨xs, rfl, ih.2 _ h1⟩
  | osl st b es i k => exact ⟨fun x hx => hf _ _ hx, fun xs hx => by simp only [RL] at hx⟩
  | osp st b es i k c => exact ⟨fun x hx => hf _ _ hx, fun xs hx => by simp only [RL] at hx⟩
  | _ => exact keep _
theorem pubO_R {base : Nat} {m : Nat → Option Nat} {F : Nat → Prop} {h : Nat → Blk} {n : Nat} {w : World} (hr : HR base m F h n w) : ∀ (k : Nat) (v : V) (x : Value), R F w v n m x → R (fun B => F B ∨ ∃ b, m b = some B) w (pubO h k v) n m x := by
  have keep : ∀ v, (∀ x, R F w v n m x → R (fun B => F B ∨ ∃ b, m b = some B) w v n m x) ∧ (∀ xs, RL F w v n m xs → RL (fun B => F B ∨ ∃ b, m b = some B) w v n m xs) :=
    fun v => R_mono (Sizes.refl w) (fun B h => .inl h) (fun _ _ => rfl) v n n m m (Nat.le_refl _) (fun _ _ _ h => h)
  intro k
  induction k with
  | zero => intro v x hx; exact (keep v).1 x hx
  | succ k ih =>
    intro v x hx
    have hx' := R_plain1 hx
    unfold pubO
    split
    · rename_i st b es i q hv
      rw [hv] at hx'
      split
      · rename_i cs hb
        unfold pubRow
        cases hc : (st && ((mapO (pubO h k) cs).clean && Nat.ble ((i + q) * es) (mapO (pubO h k) cs).len))
        · exact (keep v).1 x hx
        simp only [cond_true]
        simp only [Bool.and_eq_true] at hc
        obtain ⟨rfl, hcl, hle⟩ := hc
        have hle' := Nat.le_of_ble_eq_true hle
        rw [R_osl] at hx'
        obtain ⟨hbn, a, cap, rfl, hk, hrow⟩ := hx'
        have hblk := hr.blk b hbn
        rw [hb] at hblk
        obtain ⟨B', xs, el', ys, zs, hm, hcell, hsp, hrl⟩ := hblk
        rw [R_rsl]
        refine ⟨a, cap, rfl, hk, ?_⟩
        rcases hrow with h0 | ⟨B, c, el, fr, rfl, hB, hcc, hz⟩
        · exact .inl (by omega)
        right
        obtain rfl : B = B' := by rw [hB] at hm; injection hm
        refine ⟨B, i * es, rfl, .inr ⟨b, hB⟩, xs, el', (0, 0), hcell, fun j hj => ?_⟩
        have hrl1 := (mapO_R (F' := fun B => F B ∨ ∃ b, m b = some B) (fun B h => .inl h) ih cs).2 _ hrl
        have hrl0 := (R_clean _ hcl n 0 m (fun _ => none)).2 _ hrl1
        have hlen := RL_len _ _ hrl1
        rw [hlen] at hle'
        have hpl := prefix_len hsp
        have hjk : (i + j + 1) * es ≤ (i + q) * es := Nat.mul_le_mul_right es (by omega)
        rw [Nat.add_mul, Nat.one_mul] at hjk
        refine ⟨(ys.drop ((i + j) * es)).take es, RL_take _ _ (RL_drop _ _ hrl0 _) _, ?_, fun q hq => ?_⟩
        · simp; omega
        · rw [List.getElem?_take_of_lt hq, List.getElem?_drop, ← Nat.add_mul]
          exact prefix_get hsp (by omega)
      · exact (keep v).1 x hx
    · exact (keep v).1 x hx
theorem pubT_R {P : Program} {base : Nat} {m : Nat → Option Nat} {F : Nat → Prop} {h : Nat → Blk} {n : Nat} {w : World} (hr : HR base m F h n w) : ∀ (v : V),
    (∀ (x : Value) (Q : V → Prop), R F w v n m x → (pubT h v).holds P Q → ∃ v', Q v' ∧ R (fun B => F B ∨ ∃ b, m b = some B) w v' n m x) ∧
    (∀ (xs : List Value) (Q : V → Prop), RL F w v n m xs → (pubT h v).holds P Q → ∃ v', Q v' ∧ RL (fun B => F B ∨ ∃ b, m b = some B) w v' n m xs) := by
  have keep : ∀ v, (∀ x, R F w v n m x → R (fun B => F B ∨ ∃ b, m b = some B) w v n m x) ∧ (∀ xs, RL F w v n m xs → RL (fun B => F B ∨ ∃ b, m b = some B) w v n m xs) :=
    fun v => R_mono (Sizes.refl w) (fun B h => .inl h) (fun _ _ => rfl) v n n m m (Nat.le_refl _) (fun _ _ _ h => h)
  intro v
  induction v with
  | cons a t ih1 ih2 =>
    refine ⟨fun x Q hx => by simp only [R] at hx, fun xs Q hx hq => ?_⟩
    simp only [RL] at hx
    obtain ⟨x, r, rfl, h1, h2⟩ := hx
    simp only [pubT, Tree.holds_bind] at hq
    obtain ⟨a', hq, g1⟩ := ih1.1 _ _ h1 hq
    obtain ⟨t', hq, g2⟩ := ih2.2 _ _ h2 hq
    exact ⟨_, hq, by simp only [RL]; exact ⟨x, r, rfl, g1, g2⟩⟩
  | tup cs ih =>
    refine ⟨fun x Q hx hq => ?_, fun xs Q hx => by simp only [RL] at hx⟩
    simp only [R] at hx
    obtain ⟨xs, rfl, h1⟩ := hx
    simp only [pubT, Tree.holds_bind] at hq
    obtain ⟨t', hq, g⟩ := ih.2 _ _ h1 hq
    exact ⟨_, hq, by simp only [R]; exact ⟨xs, rfl, g⟩⟩
  | agg cs ih =>
    refine ⟨fun x Q hx hq => ?_, fun xs Q hx => by simp only [RL] at hx⟩
    simp only [R] at hx
    obtain ⟨xs, rfl, h1⟩ := hx
    simp only [pubT, Tree.holds_bind] at hq
    obtain ⟨t', hq, g⟩ := ih.2 _ _ h1 hq
    exact ⟨_, hq, by simp only [R]; exact ⟨xs, rfl, g⟩⟩
  | osp st b es i k c =>
    refine ⟨fun x Q hx hq => ?_, fun xs Q hx => by simp only [RL] at hx⟩
    simp only [pubT] at hq
    cases hk : Nat.beq k 0
    · rw [hk] at hq; exact ⟨_, hq, pubO_R hr _ _ _ hx⟩
    · rw [hk] at hq
      obtain rfl := Nat.eq_of_beq_eq_true hk
      rw [R_osp] at hx
      obtain ⟨_, a, cap, rfl, _, _, _⟩ := hx
      exact ⟨_, hq, by rw [R_rsl]; exact ⟨a, cap, rfl, Nat.zero_le _, .inl rfl⟩⟩
  | osl st b es i k =>
    refine ⟨fun x Q hx hq => ?_, fun xs Q hx => by simp only [RL] at hx⟩
    simp only [pubT] at hq
    cases hb : h b <;> rw [hb] at hq <;> try exact ⟨_, hq, (keep _).1 _ hx⟩
    · rename_i cs
      dsimp only at hq
      cases hc : (st && (cs.clean && Nat.ble ((i + k) * es) cs.len))
      · rw [hc] at hq; exact ⟨_, hq, pubO_R hr _ _ _ hx⟩
      rw [hc] at hq
      simp only [Bool.and_eq_true] at hc
      obtain ⟨rfl, h1, h2⟩ := hc
      have := freezeV_R hr hx
      simp only [freezeV, V.plain1, freezeW, hb, h1, h2, Bool.and_self, cond_true] at this
      exact ⟨_, hq, this fun p hp => by simp only [frNeedV, V.plain1, frNeedW, hb] at hp; cases hp⟩
    · rename_i es' K get
      dsimp only at hq
      cases he : Nat.beq es es'
      · rw [he] at hq; exact hq.elim
      rw [he] at hq
      obtain rfl := Nat.eq_of_beq_eq_true he
      have key : i + k ≤ K → ∀ st', R (fun B => F B ∨ ∃ b, m b = some B) w (.rsl st' es k fun j => get (i + j)) n m x := by
        intro hik st'
        rw [R_osl] at hx
        obtain ⟨hbn, a, cap, rfl, hk, hrow⟩ := hx
        rw [R_rsl]
        refine ⟨a, cap, rfl, hk, ?_⟩
        rcases hrow with h0 | ⟨B, c, el, fr, rfl, hB, hcc, hz⟩
        · exact .inl (by omega)
        have hblk := hr.blk b hbn
        rw [hb] at hblk
        rcases hblk with ⟨h0, _⟩ | ⟨B', c', el', hm, hcell, hz', hall⟩
        · exact .inl (by omega)
        right
        obtain rfl : B = B' := by rw [hB] at hm; injection hm
        refine ⟨B, i * es, rfl, .inr ⟨b, hB⟩, c', el', (0, 0), hcell, fun j hj => ?_⟩
        obtain ⟨xs, g1, g2, g3⟩ := hall (i + j) (by omega)
        refine ⟨xs, ?_, g2, fun q hq => ?_⟩
        · exact (R_mono (Sizes.refl w) (fun B h => .inl h) (fun _ _ => rfl) _ 0 0 _ _ (Nat.le_refl _) (fun _ _ _ h => h)).2 _ g1
        · rw [← Nat.add_mul]; exact g3 q hq
      cases st
      · exact ⟨_, hq.2, key hq.1 _⟩
      · dsimp only at hq
        cases hle : Nat.ble (i + k) K
        · rw [hle] at hq; exact hq.elim
        · rw [hle] at hq; exact ⟨_, hq, key (Nat.le_of_ble_eq_true hle) _⟩
  | _ => exact ⟨fun x Q hx hq => ⟨_, hq, (keep _).1 _ hx⟩, fun xs Q hx hq => ⟨_, hq, (keep _).2 _ hx⟩⟩

/-- ████ WHAT THE EVALUATOR SAYS OF A CALL, THE MODEL DOES ████ -/
theorem meets_of {E : Env} (hE : E.Ok) {k : Nat} {g : FuncId} {args v : V} (hhas : Has E.P g)
    (h : (evFn E k g args).holds E.P fun r => ∀ (F : Nat → Prop) (w : World) (n : Nat) (m : Nat → Option Nat) (x : Value), R F w r n m x → R F w v 0 (fun _ => none) x) : Meets E.P g args v := by
  refine ⟨hhas, fun F w xs hfd hgl ha => ?_⟩
  unfold evFn at h
  rw [Tree.holds_bind] at h
  have hr : HR w.heap.size (fun _ => none) F (look (fun _ => .none) .nil) 0 w :=
    ⟨Nat.le_refl _, hfd, fun b hb => absurd hb (Nat.not_lt_zero _), fun b B hB => (by cases hB), fun _ _ => rfl, hgl, fun b B hB => (by cases hB), fun b b' B hB => (by cases hB)⟩
  refine (evCall_ok hE (ev_ok hE k) (fun _ => .none) (.inl g) args .nil 0 w.heap.size (fun _ => none) F w xs _ (fun e w' => ∃ x F', e = .returned x ∧ Later F w F' w' ∧ R F' w' v 0 (fun _ => none) x) hr ha h
    fun r h' n' hQ m' F' w' x h1 h2 h3 => ?_).2
  obtain ⟨v', hv', hR⟩ := (pubT_R h2 r).1 x _ h3 hQ
  refine ⟨x, fun B => F' B ∨ ∃ b, m' b = some B, rfl, ⟨fun B hB => .inl (h1.f B hB), fun B hB => hB.elim (h1.back B) fun ⟨b, hb⟩ => .inr (h2.own b B hb).1, fun B hB => h1.keep B (.inl hB), h1.size, fun _ B hB => hB.elim (h2.fdom B) fun ⟨b, hb⟩ => h2.dom b B hb, h1.calm⟩, hv' _ w' n' m' x hR⟩
end Go.Fw
namespace Go.Fw

/-! ### Whether a value is known as a literal makes no difference to what it stands for -/
def V.soft : V → V
  | .cons h t => .cons h.soft t.soft
  | .int _ k n => .int false k n
  | .bool _ b => .bool false b
  | .str _ s => .str false s
  | .agg cs => .agg cs.soft
  | .tup vs => .tup vs.soft
  | .ptr _ b es i o => .ptr false b es i o
  | .rptr _ es n get i o => .rptr false es n (fun j => (get j).soft) i o
  | .rsl _ es n get => .rsl false es n fun j => (get j).soft
  | .osl _ b es i n => .osl false b es i n
  | .osp _ b es i n c => .osp false b es i n c
  | .fn f a b => .fn f a.soft b.soft
  | .ifc _ b => .ifc false b
  | v => v
theorem R_soft {F : Nat → Prop} {w : World} : ∀ (v : V) (n : Nat) (m : Nat → Option Nat), (∀ x, R F w v.soft n m x ↔ R F w v n m x) ∧ (∀ xs, RL F w v.soft n m xs ↔ RL F w v n m xs) := by
  intro v
  induction v with
  | cons h t ih1 ih2 =>
    intro n m
    refine ⟨fun x => by simp only [V.soft, R], fun xs => ?_⟩
    simp only [V.soft, RL, (ih1 n m).1, (ih2 n m).2]
  | agg cs ih => intro n m; exact ⟨fun x => by simp only [V.soft, R, (ih n m).2], fun xs => by simp only [V.soft, RL]⟩
  | tup cs ih => intro n m; exact ⟨fun x => by simp only [V.soft, R, (ih n m).2], fun xs => by simp only [V.soft, RL]⟩
  | fn f a b ih1 ih2 => intro n m; exact ⟨fun x => by simp only [V.soft, R, (ih1 n m).2, (ih2 n m).2], fun xs => by simp only [V.soft, RL]⟩
  | rptr st es k get i o ih => intro n m; exact ⟨fun x => by simp only [V.soft, R, fun j => (ih j 0 fun _ => none).2], fun xs => by simp only [V.soft, RL]⟩
  | rsl st es k get ih => intro n m; exact ⟨fun x => by simp only [V.soft, R, fun j => (ih j 0 fun _ => none).2], fun xs => by simp only [V.soft, RL]⟩
  | _ => intro n m; exact ⟨fun x => by simp only [V.soft, R], fun xs => by simp only [V.soft, RL]⟩
theorem Meets.of_soft {P : Program} {g : FuncId} {args v : V} (h : Meets P g args.soft v) : Meets P g args v :=
  ⟨h.1, fun F w xs hfd hgl ha => h.2 F w xs hfd hgl (((R_soft args 0 _).2 _).2 ha)⟩

/-! ### Lists of what functions answer -/
structure Con where
  g : FuncId
  ans : V → Option Ans
  /-- It stands for calls of known arguments too. -/
  al : Bool := false
def Con.Ok (P : Program) (c : Con) : Prop :=
  ∀ args, match c.ans args with
    | some (.sure v) => Meets P c.g args v
    | some (.where_ p v) => p → Meets P c.g args v
    | some (.fork b v v') => (b = true → Meets P c.g args v) ∧ (b = false → Meets P c.g args v')
    | none => True
def lookG : List Con → FuncId → V → Option Ans
  | [], _, _ => none
  | c :: l, g, args => bif Nat.beq g c.g then (match c.al with
      | true => c.ans args
      | false => bif args.known then none else c.ans args.soft) else lookG l g args
/-- All contracts of a list hold. -/
def AllOk (P : Program) : List Con → Prop
  | [] => True
  | c :: l => c.Ok P ∧ AllOk P l
/-- What is said of a loop. -/
structure Lp where
  f : FuncId
  id : Nat
  g : (B : Base) → St B → Tree (Ex × St B)
def Lp.Ok (P : Program) (l : Lp) : Prop := ∀ body, InFn P l.f body → firstRegion body = some l.id → LoopOk P body l.g
def lookL : List Lp → FuncId → Nat → Option ((B : Base) → St B → Tree (Ex × St B))
  | [], _, _ => none
  | c :: l, f, i => bif Nat.beq f c.f && Nat.beq i c.id then some c.g else lookL l f i
def AllLp (P : Program) : List Lp → Prop
  | [] => True
  | c :: l => c.Ok P ∧ AllLp P l
theorem lookL_ok {P : Program} : ∀ (l : List Lp), AllLp P l → ∀ f i g, lookL l f i = some g → ∀ body, InFn P f body → firstRegion body = some i → LoopOk P body g := by
  intro l
  induction l with
  | nil => intro _ f i g h; cases h
  | cons c l ih =>
    intro hl f i g h body hin hfr
    simp only [lookL] at h
    cases he : Nat.beq f c.f && Nat.beq i c.id
    · rw [he] at h; exact ih hl.2 f i g h body hin hfr
    · rw [he] at h
      simp only [Bool.and_eq_true] at he
      obtain rfl := Nat.eq_of_beq_eq_true he.1
      obtain rfl := Nat.eq_of_beq_eq_true he.2
      injection h with h
      subst h
      exact hl.1 body hin hfr
def namesOk (P : Program) : Bool := P.funcs.toList.all fun fn => !(fn.name == "runtime.NumGoroutine")
theorem env_ok {P : Program} (hm : P.follows .mixedOrders = true) (hn : namesOk P = true) {l : List Con} (h : AllOk P l) {ls : List Lp} (hls : AllLp P ls) (mg : Bool) : Env.Ok { P, Γ := lookG l, lp := lookL ls, mg } := by
  have key : ∀ (l : List Con), AllOk P l → ∀ g args, match lookG l g args with | some (.sure v) => Meets P g args v | some (.where_ p v) => p → Meets P g args v | some (.fork b v v') => (b = true → Meets P g args v) ∧ (b = false → Meets P g args v') | none => True := by
    intro l
    induction l with
    | nil => intro _ g args; trivial
    | cons c l ih =>
      intro hl g args
      simp only [lookG]
      cases he : Nat.beq g c.g
      · exact ih hl.2 g args
      · obtain rfl := Nat.eq_of_beq_eq_true he
        simp only [cond_true]
        cases hal : c.al with
        | true => exact hl.1 args
        | false =>
          dsimp only
          cases hkn : args.known
          · simp only [cond_false]
            have := hl.1 args.soft
            cases hc : c.ans args.soft with
            | none => trivial
            | some a =>
              rw [hc] at this
              cases a with
              | sure v => exact Meets.of_soft this
              | where_ p v => exact fun hp => Meets.of_soft (this hp)
              | fork b v v' => exact ⟨fun h => Meets.of_soft (this.1 h), fun h => Meets.of_soft (this.2 h)⟩
          · trivial
  refine ⟨hm, fun g fn hf => ?_, fun g args v h' => ?_, fun g args p v h' hp => ?_, fun g args b v v' h' => ?_, fun f body g hin h' => ?_⟩
  · have hmem : fn ∈ P.funcs.toList := Array.mem_toList_iff.2 (Array.mem_of_getElem? hf)
    have := List.all_eq_true.1 hn fn hmem
    simpa using this
  · have := key l h g args; rw [show lookG l g args = _ from h'] at this; exact this
  · have := key l h g args; rw [show lookG l g args = _ from h'] at this; exact this hp
  · have := key l h g args; rw [show lookG l g args = _ from h'] at this; exact this
  · unfold loopOf at h'
    split at h'
    · rename_i i hi; exact lookL_ok ls hls f i g h' body hin hi
    · cases h'

/-! ### Reading a tree -/
theorem holds_leaf {α : Type} {P : Program} {a : α} {Q : α → Prop} : (Tree.leaf a).holds P Q ↔ Q a := Iff.rfl
theorem holds_node {α : Type} {P : Program} {b : Bool} {t f : Tree α} {Q : α → Prop} : (Tree.node b t f).holds P Q ↔ (b = true → t.holds P Q) ∧ (b = false → f.holds P Q) := Iff.rfl
theorem holds_need {α : Type} {P : Program} {p : Prop} {t : Tree α} {Q : α → Prop} : (Tree.need p t).holds P Q ↔ p ∧ t.holds P Q := Iff.rfl
theorem holds_stuck {α : Type} {P : Program} {Q : α → Prop} : (Tree.stuck : Tree α).holds P Q ↔ False := Iff.rfl

/-- A call whose tree is known. -/
theorem meets {E : Env} (hE : E.Ok) (k : Nat) {g : FuncId} {args v : V} {T : Tree V} (hhas : Has E.P g) (hT : evFn E k g args = T)
    (h : T.holds E.P fun r => r.soft.clean = true ∧ r.soft = v.soft) : Meets E.P g args v := by
  refine meets_of hE (k := k) hhas ?_
  rw [hT]
  refine Tree.holds_mono T (fun r hr F w n m x hx => ?_) h
  have h1 := ((R_soft r n m).1 x).2 hx
  have h2 := (R_clean r.soft hr.1 n 0 m (fun _ => none)).1 x h1
  rw [hr.2] at h2
  exact ((R_soft v 0 _).1 x).1 h2
theorem Has.of {P : Program} {g : FuncId} {fn : Func} {c : Code} (hn : namesOk P = true) (hf : P.funcs[g]? = some fn) (hb : fn.body = some c) : Has P g := by
  refine ⟨fn, c, hf, hb, ?_⟩
  have hmem : fn ∈ P.funcs.toList := Array.mem_toList_iff.2 (Array.mem_of_getElem? hf)
  have := List.all_eq_true.1 hn fn hmem
  simpa using this
end Go.Fw
namespace Go.Fw

def Tree.join : Tree V → V
  | .leaf v => v.soft
  | .node b t f => mergeOne b t.join f.join
  | .need _ t => t.join
  | _ => .junk
/-- No call panics, whatever the tests say; no premise. -/
def Tree.total {α : Type} : Tree α → Bool
  | .leaf _ => true
  | .node _ t f => t.total && f.total
  | _ => false
/-- What must hold for it not to be stuck. -/
def Tree.pre {α : Type} : Tree α → Prop
  | .leaf _ => True
  | .node b t f => (b = true → t.pre) ∧ (b = false → f.pre)
  | .need p t => p ∧ t.pre
  | _ => False
theorem Tree.pre_of_total {α : Type} : ∀ T : Tree α, T.total = true → T.pre := by
  intro T
  induction T with
  | leaf a => intro _; trivial
  | node b t f iht ihf => intro h; simp only [Tree.total, Bool.and_eq_true] at h; exact ⟨fun _ => iht h.1, fun _ => ihf h.2⟩
  | _ => intro h; cases h
def Tree.allClean : Tree V → Bool
  | .leaf v => v.clean
  | .node _ t f => t.allClean && f.allClean
  | .need _ t => t.allClean
  | _ => true
theorem Tree.join_holds {P : Program} : ∀ T : Tree V, T.pre → T.allClean = true →
    T.holds P fun r => ∀ (F : Nat → Prop) (w : World) (n : Nat) (m : Nat → Option Nat) (x : Value), R F w r n m x → R F w r 0 (fun _ => none) x ∧ R F w T.join 0 (fun _ => none) x := by
  intro T
  induction T with
  | leaf v =>
    intro _ hc F w n m x hx
    have h1 := (R_clean v hc n 0 m (fun _ => none)).1 x hx
    exact ⟨h1, ((R_soft v 0 _).1 x).2 h1⟩
  | node b t f iht ihf =>
    intro hp hc
    simp only [Tree.allClean, Bool.and_eq_true] at hc
    refine ⟨fun hb => Tree.holds_mono t (fun r hr F w n m x hx => ?_) (iht (hp.1 hb) hc.1), fun hb => Tree.holds_mono f (fun r hr F w n m x hx => ?_) (ihf (hp.2 hb) hc.2)⟩
    · subst hb
      obtain ⟨h1, h2⟩ := hr F w n m x hx
      exact ⟨h1, mergeOne_R h2⟩
    · subst hb
      obtain ⟨h1, h2⟩ := hr F w n m x hx
      exact ⟨h1, mergeOne_R h2⟩
  | need p t ih => intro hp hc; exact ⟨hp.1, ih hp.2 hc⟩
  | _ => intro hp; exact hp.elim

/-- What a call answers, brought together. -/
theorem meets_join {E : Env} (hE : E.Ok) (k : Nat) {g : FuncId} {args v : V} (hhas : Has E.P g) (hp : (evFn E k g args).pre) (hc : (evFn E k g args).allClean = true) (hv : (evFn E k g args).join = v) : Meets E.P g args v := by
  refine meets_of hE (k := k) hhas (Tree.holds_mono _ (fun r hr F w n m x hx => ?_) (Tree.join_holds _ hp hc))
  rw [← hv]
  exact (hr F w n m x hx).2
theorem meets_total {E : Env} (hE : E.Ok) (k : Nat) {g : FuncId} {args v : V} (hhas : Has E.P g) (ht : ((evFn E k g args).total && (evFn E k g args).allClean) = true) (hv : (evFn E k g args).join = v) : Meets E.P g args v := by
  simp only [Bool.and_eq_true] at ht
  exact meets_join hE k hhas (Tree.pre_of_total _ ht.1) ht.2 hv
/-- 'pre', closed up: the elaborator does not look behind it. -/
structure Tree.Pre {α : Type} (T : Tree α) : Prop where
  h : T.pre
theorem meets_tree {E : Env} {T : Tree V} (hE : E.Ok) (k : Nat) {g : FuncId} {args v : V} (hhas : Has E.P g) (hT : evFn E k g args = T) (hp : T.Pre) (hc : T.allClean = true) (hv : T.join = v) : Meets E.P g args v := by
  subst hT
  exact meets_join hE k hhas hp.h hc hv

/-! ### Numbers out of values -/
def V.toInt : V → Int
  | .int _ _ n => n
  | _ => 0
def V.toBool : V → Bool
  | .bool _ b => b
  | _ => false
/-- The i-th part of a struct or of a row of results. -/
def V.at : V → Nat → V
  | .agg cs, i => cs.nth i
  | .tup cs, i => cs.nth i
  | _, _ => .junk
end Go.Fw
namespace Go.Fw
open Go.WideShapes Go.RowKit Go.ChangeShapes

/-- The shapes of data that the laws take. A struct is a chain of pairs. -/
inductive Sh where
  | int (k : IntKind)
  | bool
  | str
  | unit
  | pair (a b : Sh)
  | sl (es : Nat) (e : Sh)

@[reducible] def Sh.den : Sh → Type
  | .int _ => Int
  | .bool => Bool
  | .str => List UInt8
  | .unit => Unit
  | .pair a b => a.den × b.den
  | .sl _ e => Nat × (Nat → e.den)

def Sh.dflt : (s : Sh) → s.den
  | .int _ => (0 : Int)
  | .bool => false
  | .str => ([] : List UInt8)
  | .unit => ()
  | .pair a b => (a.dflt, b.dflt)
  | .sl _ e => ((0 : Nat), fun _ => e.dflt)

/-- The cells of a datum, ahead of 'tl'. -/
def Sh.push : (s : Sh) → s.den → V → V
  | .int k, x, tl => .cons (.int false k x) tl
  | .bool, x, tl => .cons (.bool false x) tl
  | .str, x, tl => .cons (.str false x) tl
  | .unit, _, tl => tl
  | .pair a b, x, tl => a.push x.1 (b.push x.2 tl)
  | .sl es e, x, tl => .cons (.rsl false es x.1 fun i => e.push (x.2 i) .nil) tl

def Sh.wf : (s : Sh) → s.den → Prop
  | .int k, x => (Lit.int k x).wf = true
  | .bool, _ => True
  | .str, x => x.length ≤ maxLen
  | .unit, _ => True
  | .pair a b, x => a.wf x.1 ∧ b.wf x.2
  | .sl _ e, x => x.1 ≤ maxLen ∧ ∀ i, i < x.1 → e.wf (x.2 i)

/-- So many times a shape. -/
def shRep (s : Sh) : Nat → Sh
  | 0 => .unit
  | n + 1 => .pair s (shRep s n)
section
variable (P : Program)
def shFs (rec_ : TypeId → Option Sh) : List Field → Nat → Option (Sh × Nat)
  | [], o => some (.unit, o)
  | f :: fs, o => if f.offset = o then match rec_ f.type, shFs rec_ fs (o + P.cellsOf f.type) with
      | some a, some (b, o') => some (.pair a b, o')
      | _, _ => none
    else none
def shOf : Nat → TypeId → Option Sh
  | 0, _ => none
  | k + 1, t => match P.underlying t with
    | some .bool => if P.cellsOf t = 1 then some .bool else none
    | some (.int k) => if P.cellsOf t = 1 then some (.int k) else none
    | some .string => if P.cellsOf t = 1 then some .str else none
    | some (.struct fs) => match shFs P (shOf k) fs.toList 0 with
      | some (s, o) => if o = P.cellsOf t then some s else none
      | none => none
    | some (.slice e) => if P.cellsOf e = 0 ∨ P.cellsOf t ≠ 1 then none else match shOf k e with
      | some s => some (.sl (P.cellsOf e) s)
      | none => none
    | some (.array n e) => if P.cellsOf t = n * P.cellsOf e ∧ n ≤ 8 then match shOf k e with
      | some s => some (shRep s n)
      | none => none
      else none
    | _ => none
end

theorem ite_some {α : Type} {p : Prop} [Decidable p] {a b : α} (h : (if p then some a else none) = some b) : p ∧ a = b := by
  split at h
  · exact ⟨‹_›, by simpa using h⟩
  · cases h

theorem RL_push_nil {F : Nat → Prop} {w : World} {n : Nat} {m : Nat → Option Nat} : ∀ (s : Sh) (x : s.den) (tl : V) (xs ys : List Value),
    RL F w (s.push x .nil) n m xs → RL F w tl n m ys → RL F w (s.push x tl) n m (xs ++ ys) := by
  suffices H : ∀ (s : Sh) (x : s.den) (t1 t2 : V) (xs ys : List Value), (∀ zs, RL F w t1 n m zs → RL F w t2 n m (zs ++ ys)) → RL F w (s.push x t1) n m xs → RL F w (s.push x t2) n m (xs ++ ys) from
    fun s x tl xs ys h1 h2 => H s x .nil tl xs ys (fun zs hz => by simp only [RL] at hz; subst hz; exact h2) h1
  intro s
  induction s with
  | int k => intro x t1 t2 xs ys ht h; obtain ⟨a, r, rfl, h1, h2⟩ := h; exact ⟨a, r ++ ys, rfl, h1, ht r h2⟩
  | bool => intro x t1 t2 xs ys ht h; obtain ⟨a, r, rfl, h1, h2⟩ := h; exact ⟨a, r ++ ys, rfl, h1, ht r h2⟩
  | str => intro x t1 t2 xs ys ht h; obtain ⟨a, r, rfl, h1, h2⟩ := h; exact ⟨a, r ++ ys, rfl, h1, ht r h2⟩
  | unit => intro x t1 t2 xs ys ht h; exact ht xs h
  | pair a b iha ihb => intro x t1 t2 xs ys ht h; exact iha x.1 _ _ xs ys (fun zs hz => ihb x.2 t1 t2 zs ys ht hz) h
  | sl es e ih => intro x t1 t2 xs ys ht h; obtain ⟨a, r, rfl, h1, h2⟩ := h; exact ⟨a, r ++ ys, rfl, h1, ht r h2⟩

theorem mapM_getElem {α β : Type} {f : α → Option β} : ∀ {l : List α} {r : List β}, l.mapM f = some r → r.length = l.length ∧ ∀ i (h : i < l.length), f l[i] = r[i]? := by
  intro l
  induction l with
  | nil => intro r h; simp at h; subst h; exact ⟨rfl, fun i h => absurd h (by simp)⟩
  | cons a l ih =>
    intro r h
    simp only [List.mapM_cons, Option.bind_eq_bind, Option.bind_eq_some_iff, Option.pure_def, Option.some.injEq] at h
    obtain ⟨b, hb, r', hr', rfl⟩ := h
    obtain ⟨h1, h2⟩ := ih hr'
    refine ⟨by simp [h1], fun i hi => ?_⟩
    cases i with
    | zero => simpa using hb
    | succ i => simpa using h2 i (by simpa using hi)

theorem cells_of {w : World} {base : Nat} {a : Addr} {n : Nat} {cs : List Value} (h : w.cells? base a n = some cs) : cs.length = n ∧ ∀ i, i < n → w.cell? (a.add i) = cs[i]? := by
  unfold World.cells? at h
  split at h
  · obtain ⟨h1, h2⟩ := mapM_getElem h
    exact ⟨by simpa using h1, fun i hi => by have := h2 i (by simpa using hi); rwa [List.getElem_range] at this⟩
  · cases h

theorem add_flat (a : Addr) (h : a.spot = none) (n : Nat) : a.add n = ⟨a.block, a.off + n, none⟩ := by
  cases a; simp only at h; subst h
  unfold Addr.add; split
  · rename_i h; subst h; rfl
  · rfl

section
variable {H : Type} {enc : TypeId × Value → H} {P : Program} {w : World} {spare : Nat → Bool} {held : Bool} {F : Nat → Prop}

theorem sh_fs {k fuel : Nat} {cs : List Value}
    (ih : ∀ t s, shOf P k t = some s → ∀ cs d ps, DataW.trod enc P w 0 spare held fuel t cs = some (d, ps) → (∀ p ∈ ps, F p.block) →
      cs.length = P.cellsOf t ∧ ∃ x, RL F w (s.push x .nil) 0 (fun _ => none) cs ∧ s.wf x) :
    ∀ (fs : List Field) (o : Nat) (s : Sh) (o' : Nat), shFs P (shOf P k) fs o = some (s, o') → 
      (∀ f ∈ fs, ∃ d ps, DataW.trod enc P w 0 spare held fuel f.type ((cs.drop f.offset).take (P.cellsOf f.type)) = some (d, ps) ∧ ∀ p ∈ ps, F p.block) →
      o' = cs.length → ∃ x, RL F w (s.push x .nil) 0 (fun _ => none) (cs.drop o) ∧ s.wf x := by
  intro fs
  induction fs with
  | nil =>
    intro o s o' h _ ho
    simp only [shFs, Option.some.injEq, Prod.mk.injEq] at h
    obtain ⟨rfl, rfl⟩ := h
    refine ⟨(), ?_, trivial⟩
    show RL F w .nil 0 _ _
    simp only [RL]
    rw [ho]; exact List.drop_length
  | cons f fs ihf =>
    intro o s o' h hall ho
    simp only [shFs] at h
    split at h
    · rename_i hoff
      split at h
      · rename_i a b o'' ha hb
        simp only [Option.some.injEq, Prod.mk.injEq] at h
        obtain ⟨rfl, rfl⟩ := h
        obtain ⟨d, ps, h1, h2⟩ := hall f (List.mem_cons_self ..)
        obtain ⟨hl, x, hx, hwx⟩ := ih f.type a ha _ d ps h1 h2
        obtain ⟨y, hy, hwy⟩ := ihf _ b o'' hb (fun g hg => hall g (List.mem_cons_of_mem _ hg)) ho
        refine ⟨(x, y), ?_, hwx, hwy⟩
        have e : cs.drop o = (cs.drop f.offset).take (P.cellsOf f.type) ++ cs.drop (o + P.cellsOf f.type) := by
          rw [hoff, ← List.drop_drop, List.take_append_drop]
        rw [e]
        exact RL_push_nil a x _ _ _ hx hy
      · cases h
    · cases h

theorem sh_rep {fuel : Nat} {cs : List Value} {e : TypeId} {s : Sh} {z : Nat}
    (ih : ∀ cs d ps, DataW.trod enc P w 0 spare held fuel e cs = some (d, ps) → (∀ p ∈ ps, F p.block) → ∃ x, RL F w (s.push x .nil) 0 (fun _ => none) cs ∧ s.wf x) :
    ∀ (n o : Nat), (∀ i, i < n → ∃ d ps, DataW.trod enc P w 0 spare held fuel e ((cs.drop ((o + i) * z)).take z) = some (d, ps) ∧ ∀ p ∈ ps, F p.block) → cs.length = (o + n) * z →
      ∃ x, RL F w ((shRep s n).push x .nil) 0 (fun _ => none) (cs.drop (o * z)) ∧ (shRep s n).wf x := by
  intro n
  induction n with
  | zero =>
    intro o _ hl
    refine ⟨(), ?_, trivial⟩
    show RL F w .nil 0 _ _
    simp only [RL]
    rw [Nat.add_zero] at hl
    rw [← hl]; exact List.drop_length
  | succ n ihn =>
    intro o hall hl
    obtain ⟨d, ps, h1, h2⟩ := hall 0 (by omega)
    obtain ⟨x, hx, hwx⟩ := ih _ d ps h1 h2
    obtain ⟨y, hy, hwy⟩ := ihn (o + 1) (fun i hi => by
      have := hall (i + 1) (by omega)
      rwa [show o + (i + 1) = o + 1 + i by omega] at this) (by rw [hl]; congr 1; omega)
    refine ⟨(x, y), ?_, hwx, hwy⟩
    have e1 : cs.drop (o * z) = (cs.drop ((o + 0) * z)).take z ++ cs.drop ((o + 1) * z) := by
      rw [Nat.add_zero, Nat.add_mul, Nat.one_mul, ← List.drop_drop, List.take_append_drop]
    rw [e1]
    exact RL_push_nil s x _ _ _ hx hy

theorem sh_ok : ∀ (k : Nat) (t : TypeId) (s : Sh), shOf P k t = some s → ∀ (fuel : Nat) (cs : List Value) (d : DataW H) (ps : List MemPlace), DataW.trod enc P w 0 spare held fuel t cs = some (d, ps) → (∀ p ∈ ps, F p.block) →
    cs.length = P.cellsOf t ∧ ∃ x, RL F w (s.push x .nil) 0 (fun _ => none) cs ∧ s.wf x := by
  intro k
  induction k with
  | zero => intro t s h; cases h
  | succ k ih =>
    intro t s h fuel cs d ps hd hps
    simp only [shOf] at h
    split at h
    · rename_i hu
      rcases ite_some h with ⟨h1, rfl⟩
      obtain ⟨b, rfl, _⟩ := DataW.trod_bool hu hd
      exact ⟨h1.symm, b, ⟨_, [], rfl, rfl, rfl⟩, trivial⟩
    · rename_i ik hu
      rcases ite_some h with ⟨h1, rfl⟩
      obtain ⟨n, rfl, _, hw⟩ := DataW.trod_int hu hd
      exact ⟨h1.symm, n, ⟨_, [], rfl, rfl, rfl⟩, hw⟩
    · rename_i hu
      rcases ite_some h with ⟨h1, rfl⟩
      obtain ⟨b, rfl, _, hl⟩ := DataW.trod_string hu hd
      exact ⟨h1.symm, b.data.toList, ⟨_, [], rfl, rfl, rfl⟩, by simpa [Sh.wf] using hl⟩
    · rename_i fs hu
      split at h
      · rename_i s' o hs
        split at h
        · rename_i ho
          cases h
          obtain ⟨xs, n, rfl, hx, hlen, hxl, hf⟩ := DataW.trod_struct hu hd
          simp only [Prod.mk.injEq] at hx
          refine ⟨hlen, ?_⟩
          have := sh_fs (enc := enc) (spare := spare) (held := held) (fuel := n) (cs := cs) (fun t s h cs d ps => ih t s h n cs d ps) fs.toList 0 s o hs (fun f hfm => ?_) (ho.trans hlen.symm)
          · simpa using this
          · obtain ⟨i, hi, rfl⟩ := List.getElem_of_mem hfm
            have hi' : i < fs.size := by simpa using hi
            have h1 := hf i fs[i] (by simp [hi'])
            have hxi : i < xs.length := by omega
            refine ⟨xs[i].1, xs[i].2, ?_, fun p hp => hps p ?_⟩
            · simp only [Array.getElem_toList]
              rw [h1, List.getElem?_eq_getElem hxi]
            · rw [hx.2]
              exact List.mem_flatMap.2 ⟨xs[i], List.getElem_mem _, hp⟩
        · cases h
      · cases h
    · rename_i e hu
      split at h
      · cases h
      · rename_i hes'
        have hes : P.cellsOf e ≠ 0 := fun e0 => hes' (.inl e0)
        have hlen1 : P.cellsOf t = 1 := Classical.byContradiction fun e0 => hes' (.inr e0)
        split at h
        · rename_i s' hs
          cases h
          rcases DataW.trod_slice hu hd with ⟨rfl, _⟩ | ⟨a, len, cap, elems, rest, n, rfl, rfl, hx, _, hlc, hcm, hlen, hel, _, _⟩
          · refine ⟨hlen1.symm, ((0 : Nat), fun _ => s'.dflt), ⟨_, [], rfl, ⟨none, 0, rfl, Nat.le_refl _, .inl rfl⟩, rfl⟩, Nat.zero_le _, fun i hi => absurd hi (Nat.not_lt_zero _)⟩
          · simp only [Prod.mk.injEq] at hx
            have hpl : ∀ p ∈ MemPlace.row a ((elems.length + rest.length) * P.cellsOf e) ++ (elems ++ rest).flatMap (·.2), F p.block := fun p hp => hps p (by rw [hx.2]; exact hp)
            have hi : ∀ i, i < len → ∃ cs', w.cells? 0 (a.add (i * P.cellsOf e)) (P.cellsOf e) = some cs' ∧ ∃ x, RL F w (s'.push x .nil) 0 (fun _ => none) cs' ∧ s'.wf x := by
              intro i hil
              have h1 := hel i hil
              have hil' : i < elems.length := by omega
              rw [List.getElem?_eq_getElem hil'] at h1
              obtain ⟨cs', h2, h3⟩ := Option.bind_eq_some_iff.1 h1
              exact ⟨cs', h2, (ih e s' hs n cs' elems[i].1 elems[i].2 h3 (fun p hp => hpl p (List.mem_append_right _ (List.mem_flatMap.2 ⟨elems[i], List.mem_append_left _ (List.getElem_mem _), hp⟩)))).2⟩
            refine ⟨hlen1.symm, (len, fun i => if h : i < len then (hi i h).choose_spec.2.choose else s'.dflt), ⟨_, [], rfl, ⟨some a, cap, rfl, hlc, ?_⟩, rfl⟩, Nat.le_trans hlc hcm, fun i hil => ?_⟩
            · rcases Nat.eq_zero_or_pos len with h0 | h0
              · exact .inl h0
              · refine .inr ?_
                have hpos : 0 < P.cellsOf e := Nat.pos_of_ne_zero hes
                obtain ⟨cs0, hc0, _⟩ := hi 0 h0
                obtain ⟨hl0, hg0⟩ := cells_of hc0
                have hz := hg0 0 hpos
                rw [List.getElem?_eq_getElem (by omega)] at hz
                have hz' : w.cell? a = some cs0[0] := by simpa [Addr.add] using hz
                unfold World.cell? at hz'
                split at hz'
                · rename_i c el fr hb
                  split at hz'
                  · cases hz'
                  · rename_i hsp
                    have hsp' : a.spot = none := by simpa using hsp
                    have ea : a = ⟨a.block, a.off, none⟩ := by cases a; simp_all
                    refine ⟨a.block, a.off, congrArg some ea, hpl (.cell a.block a.off) (List.mem_append_left _ ?_), c, el, fr, hb, fun j hj => ?_⟩
                    · exact List.mem_map.2 ⟨0, List.mem_range.2 (Nat.mul_pos (by omega) hpos), rfl⟩
                    · refine ⟨(hi j hj).choose, ?_, ?_, fun q hq => ?_⟩
                      · simp only [hj, dif_pos]
                        exact (hi j hj).choose_spec.2.choose_spec.1
                      · exact (cells_of (hi j hj).choose_spec.1).1
                      · have h4 := (cells_of (hi j hj).choose_spec.1).2 q hq
                        rw [← h4]
                        have eb : ((a.add (j * P.cellsOf e)).add q) = ⟨a.block, a.off + j * P.cellsOf e + q, none⟩ := by
                          rw [add_flat a hsp', add_flat _ rfl]
                        rw [eb]
                        simp [World.cell?, hb]
                · cases hz'
            · simp only [hil, dif_pos]
              exact (hi i hil).choose_spec.2.choose_spec.2
        · cases h
    · rename_i n e hu
      split at h
      · rename_i hc
        split at h
        · rename_i s' hs
          cases h
          obtain ⟨xs, q, rfl, hx, hlen, hxl, hf⟩ := DataW.trod_array hu hd
          simp only [Prod.mk.injEq] at hx
          refine ⟨hlen, ?_⟩
          have := sh_rep (enc := enc) (spare := spare) (held := held) (fuel := q) (cs := cs) (s := s') (z := P.cellsOf e) (fun cs d ps h1 h2 => (ih e s' hs q cs d ps h1 h2).2) n 0 (fun i hi => by
            have h1 := hf i hi
            have hxi : i < xs.length := by omega
            refine ⟨xs[i].1, xs[i].2, ?_, fun p hp => hps p ?_⟩
            · rw [Nat.zero_add, h1, List.getElem?_eq_getElem hxi]
            · rw [hx.2]
              exact List.mem_flatMap.2 ⟨xs[i], List.getElem_mem _, hp⟩) (by rw [hlen, hc.1, Nat.zero_add])
          simpa using this
        · cases h
      · cases h
    · cases h

/-- AN ARGUMENT, READ: its shape's datum, and the evaluator's value for it. -/
theorem sh_arg {k : Nat} {t : TypeId} {s : Sh} {v : Value} {d : DataW H} {ps : List MemPlace} (hs : shOf P k t = some s) (hd : DataW.Trod enc P w 0 spare held t v d ps) (hps : ∀ p ∈ ps, F p.block) :
    ∃ x, RL F w (s.push x .nil) 0 (fun _ => none) v.cells.toList ∧ s.wf x := by
  obtain ⟨fuel, hf⟩ := hd
  exact (sh_ok k t s hs fuel _ d ps hf hps).2
end

/-- A shape of one cell. -/
def Sh.scalar : Sh → Bool
  | .int _ | .bool | .str | .sl .. => true
  | _ => false
/-- The value of an argument. -/
def Sh.val (s : Sh) (x : s.den) : V := match s, x with
  | .int k, x => .int false k x
  | .bool, x => .bool false x
  | .str, x => .str false x
  | .unit, _ => .agg .nil
  | .pair a b, x => .agg (a.push x.1 (b.push x.2 .nil))
  | .sl es e, x => .rsl false es x.1 fun i => e.push (x.2 i) .nil

theorem sh_val {F : Nat → Prop} {P : Program} {w W : World} {b0 : Nat} {r : Reach} {k : Nat} {t : TypeId} {s : Sh} {v : Value} (hs : shOf P (k + 1) t = some s) (hv : Value.okWide P W r b0 t v) {x : s.den}
    (h : RL F w (s.push x .nil) 0 (fun _ => none) v.cells.toList) : R F w (s.val x) 0 (fun _ => none) v := by
  have scal : ∀ y : V, (∀ z, P.underlying t = some (.struct z) → False) → (∀ z z', P.underlying t = some (.array z z') → False) → RL F w (.cons y .nil) 0 (fun _ => none) v.cells.toList → R F w y 0 (fun _ => none) v := by
    intro y h1 h2 h3
    obtain ⟨a, r, e1, h4, h5⟩ := h3
    simp only [RL] at h5
    subst h5
    have : v.cells = #[v] := by
      cases v with
      | agg cs =>
        exfalso
        simp only [Value.okWide] at hv
        unfold Cell.okWide at hv
        split at hv <;> simp_all [Cell.ok]
      | _ => rfl
    rw [this] at e1
    simp at e1
    subst e1
    exact h4
  simp only [shOf] at hs
  split at hs
  · rename_i hu
    obtain ⟨_, rfl⟩ := ite_some hs
    exact scal _ (by simp [hu]) (by simp [hu]) h
  · rename_i ik hu
    obtain ⟨_, rfl⟩ := ite_some hs
    exact scal _ (by simp [hu]) (by simp [hu]) h
  · rename_i hu
    obtain ⟨_, rfl⟩ := ite_some hs
    exact scal _ (by simp [hu]) (by simp [hu]) h
  · rename_i fs hu
    obtain ⟨cs, rfl, _⟩ := okWide_struct hu hv
    split at hs
    · rename_i s' o hfs
      obtain ⟨_, rfl⟩ := ite_some hs
      cases hl : fs.toList with
      | nil =>
        rw [hl] at hfs
        simp only [shFs, Option.some.injEq, Prod.mk.injEq] at hfs
        obtain ⟨rfl, _⟩ := hfs
        exact ⟨cs, rfl, h⟩
      | cons f fs' =>
        rw [hl] at hfs
        simp only [shFs] at hfs
        split at hfs
        · split at hfs
          · simp only [Option.some.injEq, Prod.mk.injEq] at hfs
            obtain ⟨rfl, _⟩ := hfs
            exact ⟨cs, rfl, h⟩
          · cases hfs
        · cases hfs
    · cases hs
  · rename_i e hu
    split at hs
    · cases hs
    · split at hs
      · cases hs
        exact scal _ (by simp [hu]) (by simp [hu]) h
      · cases hs
  · rename_i n' e hu
    obtain ⟨cs, rfl⟩ : ∃ cs, v = .agg cs := by
      simp only [Value.okWide, hu] at hv
      obtain ⟨cs, h1, _⟩ := hv
      exact ⟨cs, h1⟩
    split at hs
    · split at hs
      · rename_i s' _
        cases hs
        cases n' with
        | zero => exact ⟨cs, rfl, h⟩
        | succ n' => exact ⟨cs, rfl, h⟩
      · cases hs
    · cases hs
  · cases hs

/-- ALL ARGUMENTS: the shapes of a function's parameters. -/
def shAll (P : Program) (k : Nat) : List TypeId → Option Sh
  | [] => some .unit
  | t :: ts => match shOf P k t, shAll P k ts with
    | some a, some b => some (.pair a b)
    | _, _ => none
def Sh.vals : (s : Sh) → s.den → V
  | .pair a b, x => .cons (a.val x.1) (b.vals x.2)
  | _, _ => .nil

theorem sh_all {H : Type} {enc : TypeId × Value → H} {P : Program} {w : World} {b0 : Nat} {r : Reach} {spare : Nat → Bool} {held : Bool} {F : Nat → Prop} {k : Nat} :
    ∀ (ts : List TypeId) (s : Sh) (vs : List Value) (ds : List (DataW H)) (ps : List MemPlace), shAll P (k + 1) ts = some s → DataW.TrodAll enc P w 0 spare held ts vs ds ps →
      (∀ (j : Nat) t v, ts[j]? = some t → vs[j]? = some v → Value.okWide P w r b0 t v) → (∀ p ∈ ps, F p.block) →
      ∃ x, RL F w (s.vals x) 0 (fun _ => none) vs ∧ s.wf x := by
  intro ts
  induction ts with
  | nil =>
    intro s vs ds ps hs h _ _
    simp only [shAll, Option.some.injEq] at hs
    subst hs
    obtain ⟨rfl, _, _⟩ := trodAll_nil h
    exact ⟨(), rfl, trivial⟩
  | cons t ts ih =>
    intro s vs ds ps hs h hok hps
    simp only [shAll] at hs
    split at hs
    · rename_i a b ha hb
      cases hs
      obtain ⟨v, vs1, d, ds1, p, q, rfl, rfl, rfl, h1, h2⟩ := trodAll_cons h
      obtain ⟨x, hx, hwx⟩ := sh_arg ha h1 (fun z hz => hps z (List.mem_append_left _ hz))
      obtain ⟨y, hy, hwy⟩ := ih b vs1 ds1 q hb h2 (fun j t v h3 h4 => hok (j + 1) t v (by simpa using h3) (by simpa using h4)) (fun z hz => hps z (List.mem_append_right _ hz))
      exact ⟨(x, y), ⟨v, vs1, rfl, sh_val ha (hok 0 t v rfl rfl) hx, hy⟩, hwx, hwy⟩
    · cases hs

theorem trodAll_stays {H : Type} {enc : TypeId × Value → H} {P : Program} {W W' : World} (hl : laidOutB P = true) (hs : ∀ p : MemPlace, p.block < W.heap.size → W.sameAt W' p) :
    ∀ (ts : List TypeId) (vs : List Value) (ds : List (DataW H)) (ps : List MemPlace), (ts.all fun t => P.readableRec t && decide (t < P.types.size)) = true → DataW.TrodAll enc P W 0 (fun _ => true) true ts vs ds ps →
      (∀ p ∈ ps, p.block < W.heap.size) → ∀ sp : Nat → Bool, (∀ p ∈ ps, sp p.block = true) → DataW.TrodAll enc P W' 0 sp true ts vs ds ps := by
  intro ts
  induction ts with
  | nil =>
    intro vs ds ps _ h _ sp _
    obtain ⟨rfl, rfl, rfl⟩ := trodAll_nil h
    exact trodAll_mk0
  | cons t ts ih =>
    intro vs ds ps ht h hps sp hsp
    obtain ⟨v, vs1, d, ds1, p, q, rfl, rfl, rfl, h1, h2⟩ := trodAll_cons h
    simp only [List.all_cons, Bool.and_eq_true, decide_eq_true_eq] at ht
    exact trodAll_cons_mk (WideElems.Trod_stays hl ht.1.1 ht.1.2 h1 (fun z hz => hs z (hps z (List.mem_append_left _ hz))) (fun z hz => hsp z (List.mem_append_left _ hz)))
      (ih vs1 ds1 q ht.2 h2 (fun z hz => hps z (List.mem_append_right _ hz)) sp (fun z hz => hsp z (List.mem_append_right _ hz)))

/-- A LAW's END: it answered true, and nothing that was there has turned. -/
theorem law_post {H : Type} {enc : TypeId × Value → H} {P : Program} {f : Func} {s : ChangeSpec} {apart fresh handsOn again : Bool} {W W' : World} {args : Array Value} {ds gs : List (DataW H)} {before : List MemPlace} {tb : TypeId}
    (hW : DataW.Whole enc P f.params.toList s.vars apart W args.toList ds gs before) (hvars : s.vars = []) (hb : Below W.heap.size W W') (hl : laidOutB P = true)
    (hr : (f.params.toList.all fun t => P.readableRec t && decide (t < P.types.size)) = true) (ht : f.resultTypes = #[tb]) (hu : P.underlying tb = some .bool)
    (hfn : s.fn H (ds ++ gs) = { results := [.lit (.bool true)], args := ds }) : s.post enc P f apart fresh handsOn again W args (.bool true) W' := by
  have hlt := hW.lt
  have hW0 := hW
  obtain ⟨p, q, hA, hV, rfl, hfz, hnd⟩ := hW
  have hA' : ∀ sp : Nat → Bool, (∀ z ∈ p ++ q, sp z.block = true) → DataW.TrodAll enc P W' 0 sp true f.params.toList args.toList ds p := fun sp hsp =>
    trodAll_stays hl (fun z hz => hb.same hz) _ _ _ _ hr hA (fun z hz => hlt z (List.mem_append_left _ hz)) sp (fun z hz => hsp z (List.mem_append_left _ hz))
  have hV' : q = [] ∧ ∀ sp : Nat → Bool, DataW.TrodVars enc P W' sp s.vars [] [] := by
    rw [hvars] at hV ⊢
    obtain ⟨_, h2⟩ := trodVars_none hV
    exact ⟨h2, fun sp => rfl⟩
  obtain ⟨rfl, hV'⟩ := hV'
  have hres : ∀ (b : Nat) (sp : Nat → Bool) (hd : Bool), DataW.TrodAll enc P W' b sp hd f.resultTypes.toList ((Value.bool true).resultList f.resultTypes.size) [.lit (.bool true)] [] := by
    intro b sp hd
    rw [ht]
    exact trodAll_cons_mk (shut_bool hu _) trodAll_mk0
  refine ⟨ds, gs, p ++ [], [], p, [], hW0, ?_, ?_, ?_, hb.frame _, fun _ => ⟨ok_one ht rfl (okWide_bool_mk hu _), _, _, ([] ++ p) ++ [], ⟨[] ++ p, [], trodAll_append (hA' _ (fun _ _ => rfl)) (hres _ _ _), hV' _, rfl, ?_, ?_⟩, ?_⟩⟩
  · rw [hfn]; exact hres _ _ _
  · rw [hfn]; exact hA' _ (fun z hz => by simpa using hlt z hz)
  · rw [hfn]; exact hV' _
  · intro b off hp
    have hp' : MemPlace.cell b off ∈ p ++ [] := by simpa using hp
    have := hlt _ hp'
    rw [hb.frozen (p := ⟨b, off, none⟩) this]
    exact hfz b off hp'
  · intro ha
    have := hnd ha
    simpa using this
  · intro z hz _
    simpa using hz

/-- THE ROW's CONTRACT, from the law's own word: 'Meets' at its shapes' values gives true. -/
theorem law_contract {H : Type} {enc : TypeId × Value → H} {P : Program} {n k : Nat} {f : Func} {s : ChangeSpec} {sh : Sh} {apart fresh handsOn again : Bool} {tb : TypeId} {W : World} {base : Nat} {args : Array Value} {ds gs : List (DataW H)} {before : List MemPlace}
    {st : Bool} (hmeets : ∀ x : sh.den, sh.wf x → Meets P n (sh.vals x) (.bool st true)) (hsh : shAll P (k + 1) f.params.toList = some sh)
    (hvars : s.vars = []) (hl : laidOutB P = true) (hr : (f.params.toList.all fun t => P.readableRec t && decide (t < P.types.size)) = true) (ht : f.resultTypes = #[tb]) (hu : P.underlying tb = some .bool)
    (hfn : ∀ ds : List (DataW H), ds.length = f.params.toList.length → s.fn H ds = { results := [.lit (.bool true)], args := ds })
    (hgl : GOk (fun B => B < W.heap.size) W)
    (hval : ∀ (j : Nat) t v, f.params[j]? = some t → args[j]? = some v → Value.okWide P W .any base t v)
    (hW : DataW.Whole enc P f.params.toList s.vars apart W args.toList ds gs before) :
    Calls P n args W fun e W' => ∃ v, e = .returned v ∧ s.post enc P f apart fresh handsOn again W args v W' := by
  have hlt := hW.lt
  have hW0 := hW
  obtain ⟨p, q, hA, hV, rfl, hfz, hnd⟩ := hW
  have hg : gs = [] := by rw [hvars] at hV; exact (trodVars_none hV).1
  obtain ⟨x, hx, hwf⟩ := sh_all (F := fun B => B < W.heap.size) (k := k) (b0 := base) (r := .any) f.params.toList sh args.toList ds p hsh hA
    (fun j t v h1 h2 => hval j t v (by simpa using h1) (by simpa using h2)) (fun z hz => hlt z (List.mem_append_left _ hz))
  refine ((hmeets x hwf).2 (fun B => B < W.heap.size) W args (fun _ h => h) hgl hx).mono fun e W' ⟨v, F', he, hlat, hR⟩ => ?_
  subst he
  simp only [R] at hR
  subst hR
  refine ⟨_, rfl, law_post hW0 hvars ⟨hlat.calm.os, hlat.calm.tape, hlat.calm.output, hlat.size, hlat.keep⟩ hl hr ht hu ?_⟩
  subst hg
  rw [List.append_nil]
  refine hfn ds ?_
  have : ∀ (ts : List TypeId) (vs : List Value) (ds : List (DataW H)) (p : List MemPlace), DataW.TrodAll enc P W 0 (fun _ => true) true ts vs ds p → ds.length = ts.length := by
    intro ts
    induction ts with
    | nil => intro vs ds p h; obtain ⟨_, rfl, _⟩ := trodAll_nil h; rfl
    | cons t ts ih =>
      intro vs ds p h
      obtain ⟨_, vs1, _, ds1, _, q, rfl, rfl, rfl, _, h2⟩ := trodAll_cons h
      simp [ih vs1 ds1 q h2]
  exact this _ _ _ _ hA
end Go.Fw
namespace Go.Fw

theorem Tree.holds_view {α β : Type} {P : Program} {T : Tree α} {g : α → β} {T' : Tree β} (h : (T.bind fun x => .leaf (g x)) = T') {Q : β → Prop} (hq : T'.holds P Q) : T.holds P fun x => Q (g x) := by
  subst h
  exact (Tree.holds_bind T).1 hq
def rowOf : List V → V
  | [] => .nil
  | v :: l => .cons v (rowOf l)
def blkV : Blk → V
  | .var cs => .agg cs
  | _ => .junk
def allLt (n : Nat) : List Nat → Bool
  | [] => true
  | k :: l => Nat.blt k n && allLt n l
section
variable {B : Base}
/-- What is kept of a state at a loop's head: some temporaries, and some variables. -/
def vw (n0 N0 : Nat) (KT KH : List Nat) (x : St B) : Bool × V × V :=
  ((Nat.beq x.N N0 && Nat.ble n0 x.n) && ((rowOf (KT.map x.tmp)).belowB n0 && ((rowOf (KH.map fun b => blkV (x.blk b))).belowB n0 && allLt n0 KH)),
    rowOf (KT.map x.tmp), rowOf (KH.map fun b => blkV (x.blk b)))
def putT : List Nat → V → PT V → PT V
  | k :: ks, .cons v r, t => putT ks r (t.set k v)
  | _, _, t => t
def vBlk : V → Blk
  | .agg cs => .var cs
  | _ => .any
def putB : List Nat → V → PT Blk → PT Blk
  | k :: ks, .cons v r, t => putB ks r (t.set k (vBlk v))
  | _, _, t => t
/-- The state of which just that is known. -/
def canon (n0 N0 : Nat) (KT KH : List Nat) (ts bs : V) : St B := { t := putT KT ts (.fill .junk), h := putB KH bs (.fill .any), n := n0, N := N0 }
def Same (n0 N0 : Nat) (KT KH : List Nat) (x : St B) (ts bs : V) : Prop := (vw n0 N0 KT KH x).1 = true ∧ (vw n0 N0 KT KH x).2.1.soft = ts.soft ∧ (vw n0 N0 KT KH x).2.2.soft = bs.soft

theorem putT_rel {F : Nat → Prop} {w : World} {n : Nat} {m : Nat → Option Nat} {d : Nat → V} {g : Nat → Value} : ∀ (KT : List Nat) (ts : V) (t : PT V), (∀ j, R F w (look d t j) n m (g j)) →
    (∀ vs : List V, vs.length = KT.length → ts.soft = (rowOf vs).soft → (∀ (i k : Nat) (v : V), KT[i]? = some k → vs[i]? = some v → R F w v n m (g k)) → ∀ j, R F w (look d (putT KT ts t) j) n m (g j)) := by
  intro KT
  induction KT with
  | nil => intro ts t ht vs _ _ _; exact ht
  | cons k ks ih =>
    intro ts t ht vs hl hs hv
    cases vs with
    | nil => cases hl
    | cons v vs =>
      cases ts <;> simp only [rowOf, V.soft] at hs <;> try (cases hs; done)
      rename_i a r
      injection hs with h1 h2
      refine ih r (t.set k a) (fun j => ?_) vs (by simpa using hl) h2 fun i k' v' h3 h4 => hv (i + 1) k' v' (by simpa using h3) (by simpa using h4)
      rw [look_set]
      by_cases e : j = k
      · rw [if_pos e, e]
        have := hv 0 k v rfl rfl
        rw [← (R_soft v n m).1, ← h1, (R_soft a n m).1] at this
        exact this
      · rw [if_neg e]; exact ht j
theorem putB_rel {F : Nat → Prop} {w : World} {n : Nat} {m : Nat → Option Nat} {d : Nat → Blk} {g : Nat → Option Nat} : ∀ (KH : List Nat) (bs : V) (t : PT Blk), (∀ j, j < n → RB F w n m (look d t j) (g j)) →
    (∀ vs : List V, vs.length = KH.length → bs.soft = (rowOf vs).soft → (∀ (i k : Nat) (v : V), KH[i]? = some k → vs[i]? = some v → RB F w n m (vBlk v) (g k)) → ∀ j, j < n → RB F w n m (look d (putB KH bs t) j) (g j)) := by
  intro KH
  induction KH with
  | nil => intro bs t ht vs _ _ _; exact ht
  | cons k ks ih =>
    intro bs t ht vs hl hs hv
    cases vs with
    | nil => cases hl
    | cons v vs =>
      cases bs <;> simp only [rowOf, V.soft] at hs <;> try (cases hs; done)
      rename_i a r
      injection hs with h1 h2
      refine ih r (t.set k (vBlk a)) (fun j hj => ?_) vs (by simpa using hl) h2 fun i k' v' h3 h4 => hv (i + 1) k' v' (by simpa using h3) (by simpa using h4)
      rw [look_set]
      by_cases e : j = k
      · rw [if_pos e, e]
        have := hv 0 k v rfl rfl
        cases a <;> try (exact trivial)
        rename_i cs
        cases v <;> simp only [V.soft] at h1 <;> try (cases h1; done)
        rename_i cs'
        injection h1 with h1
        obtain ⟨b, xs, el, ys, zs, k1, k2, ksp, k3⟩ := this
        refine ⟨b, xs, el, ys, zs, k1, k2, ksp, ?_⟩
        rw [← (R_soft cs' n m).2, ← h1, (R_soft cs n m).2] at k3
        exact k3
      · rw [if_neg e]; exact ht j hj

theorem putB_any {d : Nat → Blk} {j : Nat} : ∀ (KH : List Nat) (bs : V) (t : PT Blk), look d t j = .any →
    (∀ vs : List V, vs.length = KH.length → bs.soft = (rowOf vs).soft → (∀ (i : Nat) (v : V), KH[i]? = some j → vs[i]? = some v → v = .junk) → look d (putB KH bs t) j = .any) := by
  intro KH
  induction KH with
  | nil => intro bs t ht vs _ _ _; exact ht
  | cons k ks ih =>
    intro bs t ht vs hl hs hv
    cases vs with
    | nil => cases hl
    | cons v vs =>
      cases bs <;> simp only [rowOf, V.soft] at hs <;> try (cases hs; done)
      rename_i a r
      injection hs with h1 h2
      refine ih r (t.set k (vBlk a)) ?_ vs (by simpa using hl) h2 fun i v' h3 h4 => hv (i + 1) v' (by simpa using h3) (by simpa using h4)
      rw [look_set]
      by_cases e : j = k
      · rw [if_pos e]
        have := hv 0 v (by rw [e]; rfl) rfl
        subst this
        cases a <;> simp only [V.soft] at h1 <;> first | rfl | (cases h1; done)
      · rw [if_neg e]; exact ht
theorem belowB_row {n : Nat} : ∀ (l : List V), (rowOf l).belowB n = true → ∀ v ∈ l, v.belowB n = true := by
  intro l
  induction l with
  | nil => intro _ v h; cases h
  | cons a l ih =>
    intro h v hv
    simp only [rowOf, V.belowB, Bool.and_eq_true] at h
    cases hv with
    | head => exact h.1
    | tail _ hv => exact ih h.2 v hv
theorem allLt_mem {n : Nat} : ∀ l : List Nat, allLt n l = true → ∀ k ∈ l, k < n := by
  intro l
  induction l with
  | nil => intro _ k h; cases h
  | cons a l ih =>
    intro h k hk
    simp only [allLt, Bool.and_eq_true] at h
    cases hk with
    | head => simpa [Nat.blt_eq] using h.1
    | tail _ hk => exact ih h.2 k hk
/-- Behind a round the state is one of the family again. -/
theorem canon_rel {B' : Base} {lo base : Nat} {m : Nat → Option Nat} {F : Nat → Prop} {x : St B} {a : Act} {w : World} {n0 N0 : Nat} {KT KH : List Nat} {ts bs : V} (hr : Rel lo base m F x a w) (h : Same n0 N0 KT KH x ts bs) :
    n0 ≤ x.n ∧ Rel lo base (cutM m n0) F (canon n0 N0 KT KH ts bs : St B') a w := by
  obtain ⟨h1, h2, h3⟩ := h
  simp only [vw] at h1 h2 h3
  simp only [Bool.and_eq_true] at h1
  obtain ⟨⟨hN, hn⟩, ht, hb, hall⟩ := h1
  have hn := Nat.le_of_ble_eq_true hn
  have hN := Nat.eq_of_beq_eq_true hN
  have hle : ∀ b B, cutM m n0 b = some B → b < n0 ∧ m b = some B := by
    intro b B h
    unfold cutM at h
    by_cases e : b < n0
    · rw [if_pos e] at h; exact ⟨e, h⟩
    · rw [if_neg e] at h; cases h
  have hany : ∀ b, x.blk b = .any → (canon n0 N0 KT KH ts bs : St B').blk b = .any := by
    intro b hb'
    refine putB_any KH bs (.fill .any) rfl _ (by rw [List.length_map]) h3.symm fun i v hk hv => ?_
    rw [List.getElem?_map, hk] at hv
    injection hv with hv
    rw [← hv]
    show blkV (x.blk b) = .junk
    rw [hb']
    rfl
  refine ⟨hn, ⟨hr.hr.low, hr.hr.fdom, fun b hb' => ?_, fun b B h => hr.hr.dom b B (hle b B h).2, fun b hb' => ?_, hr.hr.gl, fun b B h => hr.hr.own b B (hle b B h).2, fun b b' B h h' hne => (hr.hr.inj b b' B (hle b B h).2 (hle b' B h').2 hne).imp (hany b) (hany b')⟩, Marks.sub hr.defers (fun b B h => ⟨b, (hle b B h).2⟩), hr.size.trans hN, fun j => ?_⟩
  · refine putB_rel (g := cutM m n0) KH bs (.fill .any) (fun _ _ => trivial) _ (by rw [List.length_map]) h3.symm (fun i k v hk hv => ?_) b hb'
    rw [List.getElem?_map, hk] at hv
    injection hv with hv
    have hmem : v ∈ KH.map fun b => blkV (x.blk b) := by rw [← hv]; exact List.mem_map.2 ⟨k, List.mem_of_getElem? hk, rfl⟩
    have hbv := belowB_row _ hb v hmem
    clear hmem
    subst hv
    dsimp only at hbv ⊢
    have hk1 := allLt_mem KH hall k (List.mem_of_getElem? hk)
    have hrb := hr.hr.blk k (Nat.lt_of_lt_of_le hk1 hn)
    cases hx : x.blk k <;> rw [hx] at hbv hrb <;> try (exact trivial)
    rename_i cs
    obtain ⟨b', xs, el, ys, zs, k1, k2, ksp, k3⟩ := hrb
    refine ⟨b', xs, el, ys, zs, ?_, k2, ksp, (R_cut cs x.n hbv).2 _ k3⟩
    unfold cutM
    rw [if_pos hk1]
    exact k1
  · unfold cutM
    have hb'' : n0 ≤ b := hb'
    rw [if_neg (by omega)]
  · refine putT_rel (g := fun j => a.tmps.getD j Go.undef) KT ts (.fill .junk) (fun j => by show R F w .junk n0 _ _; simp only [R]) _ (by rw [List.length_map]) h2.symm (fun i k v hk hv => ?_) j
    rw [List.getElem?_map, hk] at hv
    injection hv with hv
    have hmem : v ∈ KT.map x.tmp := by rw [← hv]; exact List.mem_map.2 ⟨k, List.mem_of_getElem? hk, rfl⟩
    have hbv := belowB_row _ ht v hmem
    subst hv
    exact (R_cut _ x.n hbv).1 _ (hr.tmp k)
theorem cutM_some {m : Nat → Option Nat} {n : Nat} (b B : Nat) (h : cutM m n b = some B) : ∃ c, m c = some B := by
  unfold cutM at h
  by_cases e : b < n
  · rw [if_pos e] at h; exact ⟨b, h⟩
  · rw [if_neg e] at h; cases h
theorem cut_ext {base : Nat} {m m' : Nat → Option Nat} {F F' : Nat → Prop} {n n' n0 : Nat} {w w' : World} (h : Ext base m F n w m' F' n' w') (hn : n = n0) : Ext base m F n w (cutM m' n0) F' n0 w' :=
  ⟨h.f, h.back, h.keep, h.size, h.sz, h.ow.sub cutM_some, Nat.le_of_eq hn, fun b hb B hB => by unfold cutM; rw [if_pos (by omega)]; exact h.map b hb B hB, h.calm⟩

/-- THE RULE FOR A LOOP: a family of states of which just some temporaries and variables are known. -/
theorem loop_canon {E : Env} (hE : E.Ok) {k : Nat} {f : FuncId} {b : Code} (hin : ∀ b' ∈ loopsOf b, InFn E.P f b') {n0 N0 : Nat} {KT KH : List Nat} {ι : Type} (ts bs : ι → V) (Inv : ι → Prop) (μ : ι → Nat) (Φ : Ex × St B → Prop)
    (step : ∀ i, Inv i → (ev E k f b B (canon n0 N0 KT KH (ts i) (bs i))).holds E.P fun x => match x.1 with
      | .normal => ∃ i', Inv i' ∧ μ i' < μ i ∧ Same n0 N0 KT KH x.2 (ts i') (bs i')
      | e => ∃ ts' bs', Same n0 N0 KT KH x.2 ts' bs' ∧ Φ (e, canon n0 N0 KT KH ts' bs'))
    {s : St B} (hn : s.n = n0) {i0 : ι} (h0 : Inv i0) (hs : Same n0 N0 KT KH s (ts i0) (bs i0)) : SemLoop E.P b s Φ := by
  intro ro lo base m F a w Q hro hr hQ
  have main : ∀ (q : Nat) (i : ι), μ i ≤ q → Inv i → ∀ m1 F1 a1 w1, Ext base m F s.n w m1 F1 n0 w1 → Rel lo base m1 F1 (canon n0 N0 KT KH (ts i) (bs i) : St B) a1 w1 → LoopWp E.P ro b Q a1 w1 := by
    intro q
    induction q with
    | zero =>
      intro i hi hI m1 F1 a1 w1 hx hr1
      refine LoopWp.round (wpX.wp (ev_ok hE k ro f b B _ lo base m1 F1 a1 w1 _ _ (fun b' hb' _ _ => hin b' hb') hro hr1 (step i hI) fun e s' hP m2 F2 a2 w2 k1 k2 => ?_))
      have hx2 := cut_ext (n0 := n0) (hx.trans k1) hn
      cases e with
      | normal => obtain ⟨i', _, h2, _⟩ := hP; omega
      | exit id => obtain ⟨ts', bs', h1, h2⟩ := hP; exact hQ (.exit id) _ h2 _ _ _ _ hx2 (canon_rel k2 h1).2
      | ret => obtain ⟨ts', bs', h1, h2⟩ := hP; exact hQ .ret _ h2 _ _ _ _ hx2 (canon_rel k2 h1).2
    | succ q ih =>
      intro i hi hI m1 F1 a1 w1 hx hr1
      refine LoopWp.round (wpX.wp (ev_ok hE k ro f b B _ lo base m1 F1 a1 w1 _ _ (fun b' hb' _ _ => hin b' hb') hro hr1 (step i hI) fun e s' hP m2 F2 a2 w2 k1 k2 => ?_))
      have hx2 := cut_ext (n0 := n0) (hx.trans k1) hn
      cases e with
      | normal => obtain ⟨i', h1, h2, h3⟩ := hP; exact ih i' (by omega) h1 _ _ _ _ hx2 (canon_rel k2 h3).2
      | exit id => obtain ⟨ts', bs', h1, h2⟩ := hP; exact hQ (.exit id) _ h2 _ _ _ _ hx2 (canon_rel k2 h1).2
      | ret => obtain ⟨ts', bs', h1, h2⟩ := hP; exact hQ .ret _ h2 _ _ _ _ hx2 (canon_rel k2 h1).2
  refine main (μ i0) i0 (Nat.le_refl _) h0 (cutM m n0) F a w ?_ (canon_rel hr hs).2
  exact cut_ext (Ext.refl base m F s.n w) hn
end

/-- The same, by what is seen of the states behind a round. -/
theorem loop_view {B : Base} {E : Env} (hE : E.Ok) {k : Nat} {f : FuncId} {b : Code} (hin : ∀ b' ∈ loopsOf b, InFn E.P f b') {n0 N0 : Nat} {KT KH : List Nat} {ι : Type} (ts bs : ι → V) (Inv : ι → Prop) (μ : ι → Nat) (Φ : Ex × St B → Prop)
    {T : ι → Tree (Ex × Bool × V × V)} (hT : ∀ i, ((ev E k f b B (canon n0 N0 KT KH (ts i) (bs i))).bind fun x => Tree.leaf (x.1, vw n0 N0 KT KH x.2)) = T i)
    (step : ∀ i, Inv i → (T i).holds E.P fun y => match y.1 with
      | .normal => y.2.1 = true ∧ ∃ i', Inv i' ∧ μ i' < μ i ∧ y.2.2.1.soft = (ts i').soft ∧ y.2.2.2.soft = (bs i').soft
      | e => y.2.1 = true ∧ ∃ ts' bs', y.2.2.1.soft = ts'.soft ∧ y.2.2.2.soft = bs'.soft ∧ Φ (e, canon n0 N0 KT KH ts' bs'))
    {s : St B} (hn : s.n = n0) {i0 : ι} (h0 : Inv i0) (hs : Same n0 N0 KT KH s (ts i0) (bs i0)) : SemLoop E.P b s Φ := by
  refine loop_canon hE (k := k) hin ts bs Inv μ Φ (fun i hi => ?_) hn h0 hs
  refine Tree.holds_mono _ (fun x hx => ?_) (Tree.holds_view (hT i) (step i hi))
  obtain ⟨e, s'⟩ := x
  cases e with
  | normal => obtain ⟨h1, i', h2, h3, h4, h5⟩ := hx; exact ⟨i', h2, h3, h1, h4, h5⟩
  | exit id => obtain ⟨h1, ts', bs', h2, h3, h4⟩ := hx; exact ⟨ts', bs', ⟨h1, h2, h3⟩, h4⟩
  | ret => obtain ⟨h1, ts', bs', h2, h3, h4⟩ := hx; exact ⟨ts', bs', ⟨h1, h2, h3⟩, h4⟩

/-! ### Which loop it is -/
def loopAt (P : Program) (f : FuncId) (id : Nat) : Code :=
  match P.funcs[f]? with
  | some fn => match fn.body with
    | some c => match (loopsAll c).filter (fun b => match firstRegion b with | some i => Nat.beq i id | none => false) with
      | [b] => b
      | _ => .skip
    | none => .skip
  | none => .skip
def oneLoop (P : Program) (f : FuncId) (id : Nat) : Bool :=
  match P.funcs[f]? with
  | some fn => match fn.body with
    | some c => match (loopsAll c).filter (fun b => match firstRegion b with | some i => Nat.beq i id | none => false) with
      | [_] => true
      | _ => false
    | none => false
  | none => false
theorem loops_in : ∀ (c b : Code), b ∈ loopsAll c → ∀ b' ∈ loopsOf b, b' ∈ loopsAll c := by
  intro c
  induction c with
  | seq x y ihx ihy =>
    intro b hb b' hb'
    simp only [loopsAll, List.mem_append] at hb ⊢
    exact hb.imp (fun h => ihx b h b' hb') (fun h => ihy b h b' hb')
  | cond c x y ihx ihy =>
    intro b hb b' hb'
    simp only [loopsAll, List.mem_append] at hb ⊢
    exact hb.imp (fun h => ihx b h b' hb') (fun h => ihy b h b' hb')
  | block id x ih => exact ih
  | scope x ih => exact ih
  | loop x ih =>
    intro b hb b' hb'
    simp only [loopsAll, List.mem_cons] at hb ⊢
    rcases hb with rfl | hb
    · exact .inr (loops_all _ _ hb')
    · exact .inr (ih b hb b' hb')
  | rangeFunc g ps x y ihx ihy =>
    intro b hb b' hb'
    simp only [loopsAll, List.mem_append] at hb ⊢
    exact hb.imp (fun h => ihx b h b' hb') (fun h => ihy b h b' hb')
  | _ => intro b hb; simp only [loopsAll] at hb; cases hb
/-- What is to be shown of a loop of the program's. -/
theorem lp_ok {P : Program} {l : Lp} (h1 : oneLoop P l.f l.id = true) (h : (∀ b' ∈ loopsOf (loopAt P l.f l.id), InFn P l.f b') → LoopOk P (loopAt P l.f l.id) l.g) : l.Ok P := by
  intro body ⟨fn, c, hf, hc, hmem⟩ hfr
  have hb : body = loopAt P l.f l.id := by
    unfold oneLoop at h1
    unfold loopAt
    rw [hf] at h1 ⊢
    dsimp only at h1 ⊢
    rw [hc] at h1 ⊢
    dsimp only at h1 ⊢
    have hm : body ∈ (loopsAll c).filter (fun b => match firstRegion b with | some i => Nat.beq i l.id | none => false) := by
      rw [List.mem_filter]
      exact ⟨hmem, by rw [hfr]; simp⟩
    generalize (loopsAll c).filter (fun b => match firstRegion b with | some i => Nat.beq i l.id | none => false) = L at hm h1 ⊢
    match L, h1, hm with
    | [b], _, hm => exact List.mem_singleton.1 hm
  subst hb
  exact h fun b' hb' => ⟨fn, c, hf, hc, loops_in c _ hmem b' hb'⟩
/-- 'holds', closed up: the elaborator does not look behind it. -/
structure Tree.Hold {α : Type} (P : Program) (T : Tree α) (Q : α → Prop) : Prop where
  h : T.holds P Q
/-- A law's call answers true. -/
theorem meets_true {E : Env} (hE : E.Ok) (k : Nat) {g : FuncId} {args : V} (hhas : Has E.P g) (h : Tree.Hold E.P (evFn E k g args) fun r => r.soft = .bool false true) : Meets E.P g args (.bool false true) :=
  meets hE k hhas rfl (Tree.holds_mono _ (fun r hr => by rw [hr]; exact ⟨rfl, rfl⟩) h.h)
end Go.Fw
