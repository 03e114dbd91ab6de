/- Ways brought together: nothing false is said. -/
import Derived.Test.YtkkojdcchnailaaGreatDoorQGwM
namespace Go.Fw

theorem mergeB_R {F : Nat → Prop} {w : World} {b : Bool} {x y : Blk} {n : Nat} {m : Nat → Option Nat} {z : Option Nat} (h : RB F w n m (bif b then x else y) z) : RB F w n m (mergeB b x y) z := by
  unfold mergeB
  split
  · rename_i cs cs'
    cases hs : sameRow cs cs'
    · trivial
    · have e : (bif b then (Blk.var cs) else .var cs') = .var (bif b then cs else cs') := by cases b <;> rfl
      rw [e] at h
      obtain ⟨B, xs, el, ys, zs, h1, h2, hsp, h3⟩ := h
      exact ⟨B, xs, el, ys, zs, h1, h2, hsp, (mergeV_R b cs cs' n m).2 hs _ h3⟩
  · cases b <;> exact h
  · trivial
theorem anyRange_look (g : Nat → Blk) (h : PT Blk) (n k j : Nat) : look g (anyRange h n k) j = if n ≤ j ∧ j < n + k then .any else look g h j := by
  induction k with
  | zero => rw [if_neg (by omega)]; rfl
  | succ k ih =>
    show look g ((anyRange h n k).set (n + k) .any) j = _
    rw [look_set, ih]
    by_cases e : j = n + k
    · rw [if_pos e, if_pos (by omega)]
    · rw [if_neg e]
      by_cases e2 : n ≤ j ∧ j < n + k
      · rw [if_pos e2, if_pos (by omega)]
      · rw [if_neg e2, if_neg (by omega)]

section
variable {B : Base}
/-- Where the one state stands, the other stands too. -/
def Weak (s s' : St B) : Prop := s.n ≤ s'.n ∧ ∀ (lo base : Nat) (m : Nat → Option Nat) (F : Nat → Prop) (a : Act) (w : World), Rel lo base m F s a w → Rel lo base m F s' a w
theorem Weak.refl (s : St B) : Weak s s := ⟨Nat.le_refl _, fun _ _ _ _ _ _ h => h⟩
theorem Weak.trans {s s1 s2 : St B} (h : Weak s s1) (h' : Weak s1 s2) : Weak s s2 := ⟨Nat.le_trans h.1 h'.1, fun _ _ _ _ _ _ hr => h'.2 _ _ _ _ _ _ (h.2 _ _ _ _ _ _ hr)⟩
def WX (x y : Ex × St B) : Prop := x.1 = y.1 ∧ Weak x.2 y.2

theorem both_look {β : Type} (d : Nat → β) (f : Nat → β) (t u : PT β) (ht : t.fin = true) (hu : u.fin = true) (k : Nat) : look d (t.both f u 1 0) k = match t.get k, u.get k with | none, none => d k | _, _ => f k := by
  unfold look
  rw [PT.get_both _ _ _ _ _ _ ht hu]
  simp only [Nat.one_mul, Nat.add_zero]
  cases t.get k <;> cases u.get k <;> rfl

theorem bif_some {α : Type} {p : Bool} {a b : α} (h : (bif p then some a else none) = some b) : p = true ∧ a = b := by
  cases p
  · cases h
  · injection h with h; exact ⟨rfl, h⟩
theorem mergeSt_weak {c : Bool} {s1 s2 s : St B} (h : mergeSt c s1 s2 = some s) : Weak (bif c then s1 else s2) s := by
  unfold mergeSt at h
  dsimp only at h
  generalize hlo : (bif Nat.ble s1.n s2.n then s1.n else s2.n) = lo at h
  generalize hhi : (bif Nat.ble s1.n s2.n then s2.n else s1.n) = hi at h
  have hle : lo ≤ hi ∧ lo ≤ s1.n ∧ lo ≤ s2.n ∧ s1.n ≤ hi ∧ s2.n ≤ hi := by
    subst hlo; subst hhi
    cases hb : Nat.ble s1.n s2.n
    · have : ¬ s1.n ≤ s2.n := fun h => by rw [Nat.ble_eq_true_of_le h] at hb; cases hb
      simp only [cond_false]; omega
    · have := Nat.le_of_ble_eq_true hb
      simp only [cond_true]; omega
  clear hlo hhi
  obtain ⟨hc, h⟩ := bif_some h
  simp only [Bool.and_eq_true] at hc
  have hN := Nat.eq_of_beq_eq_true hc.2.2
  subst h
  generalize hx : (bif c then s1 else s2) = x
  have hxN : x.N = s1.N := by subst hx; cases c <;> simp [hN]
  have hxn : lo ≤ x.n ∧ x.n ≤ hi := by subst hx; cases c <;> simp <;> omega
  have htmp : ∀ k, x.tmp k = bif c then s1.tmp k else s2.tmp k := by intro k; subst hx; cases c <;> rfl
  have hblk : ∀ k, x.blk k = bif c then s1.blk k else s2.blk k := by intro k; subst hx; cases c <;> rfl
  have hany : ∀ b, x.blk b = .any → look B.h (anyRange (s1.h.both (fun k => mergeB c (s1.blk k) (s2.blk k)) s2.h 1 0) lo (hi - lo)) b = .any := by
    intro b hb
    rw [anyRange_look]
    by_cases e : lo ≤ b ∧ b < lo + (hi - lo)
    · rw [if_pos e]
    · rw [if_neg e, both_look _ _ _ _ (PT.fin_allK _ _ _ _ hc.2.1.1) (PT.fin_allK _ _ _ _ hc.2.1.2)]
      rw [hblk] at hb
      have hm : mergeB c (s1.blk b) (s2.blk b) = .any := by
        cases c
        · rw [show s2.blk b = .any from hb]; unfold mergeB; cases s1.blk b <;> rfl
        · rw [show s1.blk b = .any from hb]; unfold mergeB; rfl
      cases e1 : s1.h.get b with
      | some _ => exact hm
      | none =>
        cases e2 : s2.h.get b with
        | some _ => exact hm
        | none =>
          have k1 : s1.blk b = B.h b := by simp only [St.blk, look, e1]
          have k2 : s2.blk b = B.h b := by simp only [St.blk, look, e2]
          rw [k1, k2] at hb
          cases c <;> exact hb
  refine ⟨hxn.2, fun lo' base m F a w hr => ?_⟩
  have hext : Ext base m F x.n w m F hi w := ⟨fun _ h => h, fun _ h => .inl h, fun _ _ => rfl, Nat.le_refl _, Sizes.refl w, Own.refl m w, hxn.2, fun _ _ _ h => h, Calm.refl w⟩
  refine ⟨⟨hr.hr.low, hr.hr.fdom, fun b hb => ?_, hr.hr.dom, fun b hb => hr.hr.new b (Nat.le_trans hxn.2 hb), hr.hr.gl, hr.hr.own, fun b b' C h1 h2 hne => (hr.hr.inj b b' C h1 h2 hne).imp (hany b) (hany b')⟩, hr.defers, hr.size.trans hxN, fun k => ?_⟩
  · have hb' : b < hi := hb
    show RB F w hi m (look B.h (anyRange _ _ _) b) (m b)
    rw [anyRange_look]
    by_cases e : lo ≤ b ∧ b < lo + (hi - lo)
    · rw [if_pos e]; trivial
    · rw [if_neg e, both_look _ _ _ _ (PT.fin_allK _ _ _ _ hc.2.1.1) (PT.fin_allK _ _ _ _ hc.2.1.2)]
      have h1 := RB_ext hext (fun _ _ => rfl) (hr.hr.blk b (by omega))
      rw [hblk] at h1
      cases e1 : s1.h.get b with
      | some _ => exact mergeB_R h1
      | none =>
        cases e2 : s2.h.get b with
        | some _ => exact mergeB_R h1
        | none =>
          have k1 : s1.blk b = B.h b := by simp only [St.blk, look, e1]
          have k2 : s2.blk b = B.h b := by simp only [St.blk, look, e2]
          rw [k1, k2] at h1
          cases c <;> exact h1
  · show R F w (look B.t (PT.both _ _ _ 1 0) k) hi m _
    rw [both_look _ _ _ _ (PT.fin_allK _ _ _ _ hc.1.1) (PT.fin_allK _ _ _ _ hc.1.2)]
    have h1 := hext.val (hr.tmp k)
    rw [htmp] at h1
    cases e1 : s1.t.get k with
    | some _ => exact mergeOne_R h1
    | none =>
      cases e2 : s2.t.get k with
      | some _ => exact mergeOne_R h1
      | none =>
        have k1 : s1.tmp k = B.t k := by simp only [St.tmp, look, e1]
        have k2 : s2.tmp k = B.t k := by simp only [St.tmp, look, e2]
        rw [k1, k2] at h1
        cases c <;> exact h1

/-- The way that is taken. -/
def sel : Ways B → Option (Ex × St B)
  | [] => none
  | x :: r => bif x.1 then some x.2 else sel r
theorem sameEx_eq : ∀ (e e' : Ex), sameEx e e' = true → e = e'
  | .normal, .normal, _ => rfl
  | .ret, .ret, _ => rfl
  | .exit i, .exit j, h => by rw [Nat.eq_of_beq_eq_true h]
theorem sel_map (l : Ways B) (f : Bool → Bool) (hf : ∀ b, f b = b) : sel (l.map fun | (p, x) => (f p, x)) = sel l := by
  induction l with
  | nil => rfl
  | cons x r ih => simp only [List.map_cons, sel]; rw [ih, hf]
theorem comb_weak : ∀ (k : Nat) (c : Bool) (l1 l2 l : Ways B), comb k c l1 l2 = some l → ∀ x, sel (bif c then l1 else l2) = some x → ∃ y, sel l = some y ∧ WX x y := by
  intro k
  induction k with
  | zero => intro c l1 l2 l h; cases h
  | succ k ih =>
    intro c l1 l2 l h x hx
    cases l1 with
    | nil =>
      have h : some (l2.map fun | (p, x) => (bif c then false else p, x)) = some l := h
      injection h with h; subst h
      cases c with
      | true => cases hx
      | false => exact ⟨x, by rw [sel_map l2 (fun b => bif false then false else b) (fun b => rfl)]; exact hx, rfl, Weak.refl _⟩
    | cons x1 r1 =>
      obtain ⟨p1, e1, s1⟩ := x1
      cases l2 with
      | nil =>
        have h : some (((p1, e1, s1) :: r1).map fun | (p, x) => (bif c then p else false, x)) = some l := h
        injection h with h; subst h
        cases c with
        | false => cases hx
        | true => exact ⟨x, by rw [sel_map ((p1, e1, s1) :: r1) (fun b => bif true then b else false) (fun b => rfl)]; exact hx, rfl, Weak.refl _⟩
      | cons x2 r2 =>
        obtain ⟨p2, e2, s2⟩ := x2
        have h : (bif sameEx e1 e2 then match mergeSt c s1 s2 with
          | some s => match comb k c r1 r2 with
            | some r => some ((bif c then p1 else p2, e1, s) :: r)
            | none => none
          | none => none
        else bif Nat.blt e1.key e2.key then match comb k c r1 ((p2, e2, s2) :: r2) with
          | some r => some ((bif c then p1 else false, e1, s1) :: r)
          | none => none
        else match comb k c ((p1, e1, s1) :: r1) r2 with
          | some r => some ((bif c then false else p2, e2, s2) :: r)
          | none => none) = some l := h
        cases he : sameEx e1 e2
        · rw [he] at h
          simp only [cond_false] at h
          cases hk : Nat.blt e1.key e2.key
          · rw [hk] at h
            simp only [cond_false] at h
            split at h
            · rename_i r hr
              injection h with h; subst h
              have := ih c ((p1, e1, s1) :: r1) r2 r hr
              cases c with
              | true => simp only [cond_true, sel, cond_false] at hx this ⊢; exact this x hx
              | false =>
                simp only [cond_false, sel] at hx this ⊢
                cases p2
                · exact this x hx
                · exact ⟨x, hx, rfl, Weak.refl _⟩
            · cases h
          · rw [hk] at h
            simp only [cond_true] at h
            split at h
            · rename_i r hr
              injection h with h; subst h
              have := ih c r1 ((p2, e2, s2) :: r2) r hr
              cases c with
              | false => simp only [sel, cond_false] at hx this ⊢; exact this x hx
              | true =>
                simp only [cond_true, sel] at hx this ⊢
                cases p1
                · exact this x hx
                · exact ⟨x, hx, rfl, Weak.refl _⟩
            · cases h
        · rw [he] at h
          simp only [cond_true] at h
          split at h
          · rename_i s hs
            split at h
            · rename_i r hr
              injection h with h; subst h
              have := ih c r1 r2 r hr
              have hw := mergeSt_weak hs
              have hee := sameEx_eq _ _ he
              cases c with
              | true =>
                simp only [cond_true, sel] at hx this hw ⊢
                cases p1
                · exact this x hx
                · injection hx with hx
                  subst hx
                  exact ⟨_, rfl, rfl, hw⟩
              | false =>
                simp only [cond_false, sel] at hx this hw ⊢
                cases p2
                · exact this x hx
                · injection hx with hx
                  subst hx
                  exact ⟨_, rfl, hee.symm, hw⟩
            · cases h
          · cases h

def Needs {α : Type} (T : Tree α) : Prop := match needs T with | none => True | some p => p
theorem ways_holds {P : Program} : ∀ (T : Tree (Ex × St B)) (l : Ways B) (Q : Ex × St B → Prop), ways T = some l → Needs T → (∀ y, sel l = some y → Q y) → T.holds P fun x => ∃ y, Q y ∧ WX x y := by
  intro T
  induction T with
  | leaf x =>
    intro l Q h _ hq
    injection h with h; subst h
    exact ⟨x, hq x rfl, rfl, Weak.refl _⟩
  | stuck => intro l Q h; cases h
  | all σ t _ => intro l Q h; cases h
  | given p t _ => intro l Q h; cases h
  | need p t ih =>
    intro l Q h hn hq
    have hn' : p ∧ Needs t := by
      unfold Needs at hn ⊢
      simp only [needs] at hn
      cases hm : needs t with
      | none => rw [hm] at hn; exact ⟨hn, trivial⟩
      | some q => rw [hm] at hn; exact hn
    exact ⟨hn'.1, ih l Q h hn'.2 hq⟩
  | node c t f iht ihf =>
    intro l Q h hn hq
    simp only [ways] at h
    split at h
    · rename_i l1 h1
      split at h
      · rename_i l2 h2
        have hw := comb_weak _ _ _ _ _ h
        have hn' : (c = true → Needs t) ∧ (c = false → Needs f) := by
          unfold Needs at hn ⊢
          simp only [needs] at hn
          cases hm : needs t <;> cases hm' : needs f <;> rw [hm, hm'] at hn <;> dsimp only at hn ⊢
          · exact ⟨fun _ => trivial, fun _ => trivial⟩
          · exact ⟨fun _ => trivial, hn⟩
          · exact ⟨hn, fun _ => trivial⟩
          · exact hn
        have step : ∀ (l' : Ways B) (T' : Tree (Ex × St B)), (bif c then l1 else l2) = l' → (∀ Q' : Ex × St B → Prop, (∀ y, sel l' = some y → Q' y) → T'.holds P fun x => ∃ y, Q' y ∧ WX x y) → T'.holds P fun x => ∃ y, Q y ∧ WX x y := by
          intro l' T' hl hT
          refine Tree.holds_mono T' (fun x ⟨y, ⟨z, hz1, hz2⟩, hy⟩ => ⟨z, hz1, hy.1.trans hz2.1, hy.2.trans hz2.2⟩) (hT (fun y => ∃ z, Q z ∧ WX y z) fun y hy => ?_)
          obtain ⟨z, hz1, hz2⟩ := hw y (by rw [hl]; exact hy)
          exact ⟨z, hq z hz1, hz2⟩
        exact ⟨fun hc => step l1 t (by rw [hc]; rfl) fun Q' hQ' => iht l1 Q' h1 (hn'.1 hc) hQ', fun hc => step l2 f (by rw [hc]; rfl) fun Q' hQ' => ihf l2 Q' h2 (hn'.2 hc) hQ'⟩
      · cases h
    · cases h
theorem ofWays_holds {P : Program} : ∀ (l : Ways B) (Q : Ex × St B → Prop), (ofWays l).holds P Q → ∀ y, sel l = some y → Q y
  | [], _, h, _, _ => h.elim
  | [x], Q, h, y, hy => by
    simp only [sel] at hy
    cases hb : x.1
    · rw [hb] at hy; cases hy
    · rw [hb] at hy; injection hy with hy; subst hy; exact h
  | x :: x' :: r, Q, h, y, hy => by
    have h' : (x.1 = true → Q x.2) ∧ (x.1 = false → (ofWays (x' :: r)).holds P Q) := h
    simp only [sel] at hy
    cases hb : x.1
    · rw [hb] at hy
      exact ofWays_holds (x' :: r) Q (h'.2 hb) y hy
    · rw [hb] at hy
      injection hy with hy; subst hy; exact h'.1 hb
theorem mergeT_holds {P : Program} {T : Tree (Ex × St B)} {Q : Ex × St B → Prop} (h : (mergeT T).holds P Q) : T.holds P fun x => ∃ y, Q y ∧ WX x y := by
  have refl : T.holds P Q → T.holds P fun x => ∃ y, Q y ∧ WX x y := Tree.holds_mono T fun x hx => ⟨x, hx, rfl, Weak.refl _⟩
  have main : (match ways T with
    | some l => match needs T with
      | none => ofWays l
      | some p => .need p (ofWays l)
    | none => T).holds P Q → T.holds P fun x => ∃ y, Q y ∧ WX x y := by
    intro h
    split at h
    · rename_i l hl
      split at h
      · rename_i hn
        exact ways_holds T l Q hl (by unfold Needs; rw [hn]; trivial) (ofWays_holds l Q h)
      · rename_i p hn
        exact ways_holds T l Q hl (by unfold Needs; rw [hn]; exact h.1) (ofWays_holds l Q h.2)
    · exact refl h
  unfold mergeT at h
  split at h
  · exact refl h
  · exact main h

theorem sub_rel {s : St B} {lo base : Nat} {m : Nat → Option Nat} {F : Nat → Prop} {a : Act} {w : World} (hr : Rel lo base m F s a w) : Rel lo base m F s.sub a w :=
  ⟨hr.hr, hr.defers, hr.size, hr.tmp⟩
theorem rebase_rel {s : St B} {s1 : St s.bs} {lo base : Nat} {m : Nat → Option Nat} {F : Nat → Prop} {a : Act} {w : World} (hr : Rel lo base m F s1 a w) : Rel lo base m F (s.rebase s1) a w := by
  have ht : ∀ i, (s.rebase s1).tmp i = s1.tmp i := fun i => over_look _ _ _ _
  have hb : (s.rebase s1).blk = s1.blk := funext fun i => over_look _ _ _ _
  exact ⟨by rw [hb]; exact hr.hr, hr.defers, hr.size, fun i => by rw [ht]; exact hr.tmp i⟩
theorem merged_holds {P : Program} {s : St B} {f : St s.bs → Tree (Ex × St s.bs)} {Q : Ex × St B → Prop} (h : (merged s f).holds P Q) :
    (f s.sub).holds P fun x => ∃ y, Q (y.1, s.rebase y.2) ∧ WX x y := by
  unfold merged at h
  rw [Tree.holds_bind] at h
  exact mergeT_holds h
end
end Go.Fw
