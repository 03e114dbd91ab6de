/- Blocks that are turned, forgotten, or told anew; and append. -/
import Derived.Test.YtpeekgekmjldlaaDoorGwJ
import Derived.Laws.Append
namespace Go.Fw

theorem splice_eq {α : Type} (xs : List α) (o : Nat) (vs : List α) (h : o + vs.length ≤ xs.length) : xs.take o ++ vs ++ xs.drop (o + vs.length) = spliceL xs o vs := by
  apply List.ext_getElem?
  intro j
  by_cases hj : j < xs.length
  · rw [spliceL_get _ _ _ _ hj]
    by_cases h1 : j < o
    · rw [if_neg (by omega), List.append_assoc, List.getElem?_append_left (by simp; omega), List.getElem?_take_of_lt h1]
    · by_cases h2 : j < o + vs.length
      · rw [if_pos ⟨by omega, h2⟩, List.append_assoc, List.getElem?_append_right (by simp; omega), List.getElem?_append_left (by simp; omega)]
        congr 1
        simp
        omega
      · rw [if_neg (by omega), List.getElem?_append_right (by simp; omega), List.getElem?_drop]
        congr 1
        simp
        omega
  · rw [List.getElem?_eq_none (by simp; omega), List.getElem?_eq_none (by rw [spliceL_length]; omega)]

theorem spliceL_app {α : Type} (ys zs : List α) (o : Nat) (vs : List α) (h : o + vs.length ≤ ys.length) : spliceL (ys ++ zs) o vs = spliceL ys o vs ++ zs := by
  apply List.ext_getElem?
  intro j
  by_cases hj : j < (ys ++ zs).length
  · rw [spliceL_get _ _ _ _ hj]
    by_cases h1 : j < ys.length
    · rw [List.getElem?_append_left h1, List.getElem?_append_left (show j < (spliceL ys o vs).length by rw [spliceL_length]; exact h1), spliceL_get _ _ _ _ h1]
    · rw [if_neg (by omega), List.getElem?_append_right (by omega), List.getElem?_append_right (show (spliceL ys o vs).length ≤ j by rw [spliceL_length]; omega), spliceL_length]
  · rw [List.getElem?_eq_none (by rw [spliceL_length]; omega), List.getElem?_eq_none (by simp [spliceL_length] at hj ⊢; omega)]
section
variable {P : Program} {base : Nat} {m : Nat → Option Nat} {F : Nat → Prop} {h : Nat → Blk} {n : Nat} {w : World} {a : Act} {g : Nat → Blk} {h0 : PT Blk}

/-- A block that is ours is turned. -/
theorem HR.turn (hr : HR base m F h n w) {h' : Nat → Blk} {b B : Nat} (hb : m b = some B) {old new : Array Value} {el : TypeId} (hold : w.heap[B]? = some (.cells old el (0, 0))) (hns : new.size = old.size) (hna : h b ≠ .any) {blk : Blk}
    (hh : ∀ c, h' c = if c = b then blk else h c) (hblk : (∀ v n' m' xs, RL F w v n' m' xs → RL F (w.setRow B new) v n' m' xs) → RB F (w.setRow B new) n m blk (some B)) :
    HR base m F h' n (w.setRow B new) ∧ Ext base m F n w m F n (w.setRow B new) := by
  have hown := hr.own b B hb
  have keep : ∀ k, k ≠ B → (w.setRow B new).heap[k]? = w.heap[k]? := fun k hk => setRow_other w B k new hk
  have hsz : Sizes w (w.setRow B new) := fun k c el' fr hk => by
    by_cases e : k = B
    · subst e
      rw [hold] at hk
      injection hk with hk
      injection hk with h1 h2 h3
      subst h1; subst h2; subst h3
      exact ⟨new, _, setRow_heap w k _ new _ _ hold, hns⟩
    · exact ⟨c, fr, by rw [keep k e]; exact hk, rfl⟩
  have hkF : ∀ k, F k → (w.setRow B new).heap[k]? = w.heap[k]? := fun k hk => keep k fun e => by subst e; exact hown.2 hk
  have hext : Ext base m F n w m F n (w.setRow B new) :=
    ⟨fun _ h => h, fun _ h => .inl h, fun k hk => keep k (fun e => by subst e; rcases hk with h | h; exact absurd hown.1 (Nat.not_le.2 h); exact hown.2 h), by simp, hsz, ⟨fun k _ hk => keep k fun e => hk b (by rw [e]; exact hb), fun c _ hc _ => ⟨c, hc⟩⟩, Nat.le_refl _, fun _ _ _ h => h, ⟨rfl, rfl, rfl⟩⟩
  refine ⟨⟨by simpa using hr.low, fun k hk => by simpa using hr.fdom k hk, fun c hc => ?_, fun c C hC => by simpa using hr.dom c C hC, hr.new, hr.gl.mono hsz (fun _ h => h) hkF, hr.own, fun c c' C h1 h2 hne => ?_⟩, hext⟩
  · rw [hh c]
    by_cases e : c = b
    · subst e
      rw [if_pos rfl, hb]
      exact hblk fun v n' m' xs hv => (R_mono hsz (fun _ h => h) hkF v n' n' m' m' (Nat.le_refl _) (fun _ _ _ h => h)).2 xs hv
    · rw [if_neg e]
      by_cases e2 : m c = some B
      · rcases hr.inj c b B e2 hb e with h1 | h1
        · rw [h1]; exact trivial
        · exact absurd h1 hna
      · exact RB_ext hext (fun k hk => keep k fun e' => by subst e'; exact e2 hk) (hr.blk c hc)
  · rw [hh c, hh c']
    rcases hr.inj c c' C h1 h2 hne with h3 | h3
    · left
      rw [if_neg (fun e => hna (by rw [← e]; exact h3))]
      exact h3
    · right
      rw [if_neg (fun e => hna (by rw [← e]; exact h3))]
      exact h3

theorem oneCell_of {xs : List Value} (h : ∀ x ∈ xs, (∀ c, x ≠ .agg c) ∧ ∀ c, x ≠ .tuple c) : ∀ v ∈ xs, v.oneCell' = true := by
  intro v hv
  obtain ⟨h1, h2⟩ := h v hv
  cases v <;> first | rfl | exact absurd rfl (h1 _) | exact absurd rfl (h2 _)


/-- A block is known no more. -/
theorem HR.forget (hr : HR base m F h n w) {h' : Nat → Blk} {b : Nat} (hh : ∀ c, h' c = if c = b then .any else h c) : HR base m F h' n w := by
  refine ⟨hr.low, hr.fdom, fun c hc => ?_, hr.dom, hr.new, hr.gl, hr.own, fun c c' C h1 h2 hne => ?_⟩
  · rw [hh c]
    by_cases e : c = b
    · rw [if_pos e]; exact trivial
    · rw [if_neg e]; exact hr.blk c hc
  · rw [hh c, hh c']
    rcases hr.inj c c' C h1 h2 hne with h3 | h3
    · left; by_cases e : c = b
      · rw [if_pos e]
      · rw [if_neg e]; exact h3
    · right; by_cases e : c' = b
      · rw [if_pos e]
      · rw [if_neg e]; exact h3
theorem HR.forget? (hr : HR base m F (look g h0) n w) (b : Option Nat) : HR base m F (look g (lostB h0 b)) n w := by
  cases b with
  | none => exact hr
  | some b => exact hr.forget (b := b) fun c => look_set _ _ _ _ _
theorem RB_more {n' : Nat} {m' : Nat → Option Nat} {blk : Blk} {B : Option Nat} (hn : n ≤ n') (hm : ∀ b, b < n → ∀ B, m b = some B → m' b = some B) (hb : RB F w n m blk B) : RB F w n' m' blk B := by
  have hm' := fun v => R_mono (F := F) (F' := F) (w := w) (w' := w) (Sizes.refl w) (fun _ h => h) (fun _ _ => rfl) v n n' m m' hn hm
  cases blk with
  | none => exact hb
  | any => exact hb
  | var cs =>
    obtain ⟨b, xs, el, ys, zs, e, hc, hsp, hr⟩ := hb
    exact ⟨b, xs, el, ys, zs, e, hc, hsp, (hm' cs).2 _ hr⟩
  | arr es k get => exact hb
  | rng f ps asg bd row N st pend =>
    obtain ⟨l, r, e, hc, h1, h2, h3, h4, h5, h6, h7⟩ := hb
    exact ⟨l, r, e, hc, h1, h2, h3, h4, h5, h6, fun i => (hm' (row i)).1 _ (h7 i)⟩
theorem Ext.name {w' : World} {B : Option Nat} (he : Ext base m F n w m F n w') (hB : ∀ k, B = some k → w.heap.size ≤ k ∨ ∃ c, m c = some k) : Ext base m F n w (fun c => if c = n then B else m c) F (n + 1) w' :=
  ⟨he.f, he.back, he.keep, he.size, he.sz, ⟨he.ow.un, fun b k hk hlt => by
    by_cases e : b = n
    · rw [if_pos e] at hk
      rcases hB k hk with h | h
      · omega
      · exact h
    · rw [if_neg e] at hk; exact ⟨b, hk⟩⟩, by omega, fun b hb k hk => by rw [if_neg (by omega)]; exact he.map b hb k hk, he.calm⟩
/-- A block of ours that is known under no name gets a new one; or no block does. -/
theorem HR.name (hr : HR base m F h n w) {h' : Nat → Blk} {B : Option Nat} {blk : Blk} (hB : ∀ k, B = some k → (base ≤ k ∧ ¬ F k) ∧ k < w.heap.size ∧ ∀ c, m c = some k → h c = .any)
    (hh : ∀ c, h' c = if c = n then blk else h c) (hblk : RB F w (n + 1) (fun c => if c = n then B else m c) blk B) :
    HR base (fun c => if c = n then B else m c) F h' (n + 1) w := by
  have hmap : ∀ b, b < n → ∀ k, m b = some k → (if b = n then B else m b) = some k := fun b hb k hk => by rw [if_neg (by omega)]; exact hk
  refine ⟨hr.low, hr.fdom, fun c hc => ?_, fun c k hk => ?_, fun c hc => ?_, hr.gl, fun c k hk => ?_, fun c c' C h1 h2 hne => ?_⟩
  · rw [hh c]
    by_cases e : c = n
    · rw [if_pos e, if_pos e]; exact hblk
    · rw [if_neg e, if_neg e]; exact RB_more (by omega) hmap (hr.blk c (by omega))
  · by_cases e : c = n
    · rw [if_pos e] at hk; exact (hB k hk).2.1
    · rw [if_neg e] at hk; exact hr.dom c k hk
  · rw [if_neg (by omega)]; exact hr.new c (by omega)
  · by_cases e : c = n
    · rw [if_pos e] at hk; exact (hB k hk).1
    · rw [if_neg e] at hk; exact hr.own c k hk
  · rw [hh c, hh c']
    by_cases e1 : c = n <;> by_cases e2 : c' = n
    · exact absurd (e1.trans e2.symm) hne
    · rw [if_pos e1] at h1; rw [if_neg e2] at h2
      right; rw [if_neg e2]; exact (hB C h1).2.2 c' h2
    · rw [if_neg e1] at h1; rw [if_pos e2] at h2
      left; rw [if_neg e1]; exact (hB C h2).2.2 c h1
    · rw [if_neg e1] at h1; rw [if_neg e2] at h2
      rw [if_neg e1, if_neg e2]; exact hr.inj c c' C h1 h2 hne
end
end Go.Fw
