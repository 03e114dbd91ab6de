/- BucketHolds: the loop over where to begin, and the loop that passes the times. -/
import Derived.Test.YtfealfofcjgihaaZeA
import Derived.Test.YtfealfofcjgihaaZeC
import Derived.Test.YtfealfofcjgihaaZw
namespace Go.Proofs.Ytfealfofcjgihaa
open Go.Fw
set_option maxRecDepth 100000

structure Need2 (ln j : Int) (n k : Nat) (c : Int) (get : Nat → V) : Prop where
  l : ln = n ∧ j = 0 ∧ k = n
  h : ∃ f τ, get = row2 f ∧ Hist c n f τ
noncomputable def h2G : Lp := ⟨4, 20, fun _ s => match vwR 16 16 123 h2K h3H s with
  | (true, .cons (.ptr true 0 0 0 0) (.cons (.bool _ r) (.cons (.osl _ 15 2 0 n) (.cons (.int _ .i64 ln) (.cons (.int _ .i64 j) .nil)))), .cons (.agg (.cons (.int _ .i64 c) (.cons (.int _ .i64 t) .nil))) (.cons (.rsl _ 2 k get) .nil)) =>
    bif Nat.beq s.n 16 then .need (Need2 ln j n k c get) (.all Int fun j => .leaf (.exit 2, canonR 16 123 h2K h3H (h2T r n j) (hB c t n get))) else .stuck
  | _ => .stuck⟩
theorem hE2_ok : (en [c_bBound] [h3G]).Ok := en_okl (l := [c_bBound]) ⟨c_bBound_ok, trivial⟩ (ls := [h3G]) ⟨h3G_ok, trivial⟩
theorem h2G_ok : h2G.Ok P := by
  refine lp_ok (by kernel_rfl) fun hin B s Q hq => ?_
  simp only [h2G] at hq hin ⊢
  split at hq
  · rename_i q0 r q1 n q2 ln q3 j q4 c q5 t q6 k get heq
    cases hn : Nat.beq s.n 16
    · rw [hn] at hq; exact hq.elim
    · rw [hn] at hq
      obtain ⟨⟨⟨rfl, rfl, rfl⟩, f, τ, rfl, hist⟩, hq⟩ := hq
      have hsame : SameR 16 16 123 h2K h3H s (h2T r k 0) (hB c t k (row2 f)) := by
        refine ⟨by rw [heq], ?_, ?_⟩
        · rw [heq]; exact Le.soft rfl
        · rw [heq]; exact LeBs.two (LeB.var (Le.soft rfl)) (LeB.arr rfl fun _ _ => rfl)
      refine loop_viewR (k := 400) (f := 4) hE2_ok hin (n1 := 16) (n0 := 16) (N0 := 123) (fun x : Nat => h2T r k x) (fun _ => hB c t k (row2 f))
        (fun x => x ≤ k) (fun x => k - x) Q (fun x _ => holds2_body B r c t k f x) ?_ (Nat.eq_of_beq_eq_true hn) (i0 := 0) (Nat.zero_le _) hsame
      intro x hx
      have hfew := hist.few
      refine ⟨fun _ => ⟨rfl, h2T r k x, hB c t k (row2 f), Le.soft rfl, LeBs.two (LeB.var (Le.soft rfl)) (LeB.arr rfl fun _ _ => rfl), hq x⟩, fun hlt => ?_⟩
      have hlt : x < k := by
        apply Classical.byContradiction; intro h
        have h' : ¬ ((x : Int) < (k : Int)) := by omega
        simp [h'] at hlt
      refine ⟨⟨by omega, by omega⟩, ⟨⟨rfl, rfl, rfl, rfl, rfl⟩, ⟨rfl, rfl, rfl, by rw [Int.toNat_natCast]; omega⟩, f, τ, rfl, hist⟩, fun _ => ?_⟩
      rw [IntWalk.i64_in ((x : Int) + 1) ⟨by omega, by omega⟩]
      exact ⟨rfl, x + 1, hlt, by omega, Le.soft rfl, LeBs.two (LeB.var (Le.soft rfl)) (LeB.arr rfl fun _ _ => rfl)⟩
  · exact hq.elim

structure Need1 (ln : Nat) (l : Nat → Int × Int × Int) (n' : Nat) (get : Nat → V) (len i c t : Int) : Prop where
  l : n' = ln ∧ get = row3 l ∧ len = ln ∧ i = 0
  g : 1 ≤ c ∧ c ≤ 800 ∧ -8000000000 ≤ t ∧ t ≤ c * 100000000
noncomputable def h1G (ln : Nat) (l : Nat → Int × Int × Int) : Lp := ⟨4, 7, fun _ s => match vwR 15 16 123 hK hH s with
  | (true, .cons (.ptr true 0 0 0 0) (.cons (.bool _ r) (.cons .nilsl (.cons (.rsl _ 3 n' get) (.cons (.int _ .i64 len) (.cons (.int _ .i64 i) .nil))))), .cons (.agg (.cons (.int _ .i64 c) (.cons (.int _ .i64 t) .nil))) (.cons .undef .nil)) =>
    bif Nat.beq s.n 15 then .need (Need1 ln l n' get len i c t) (.all Nat fun i => .all (Nat → Int × Int) fun f => .all Int fun t => .given (∃ τ, Hist c i f τ) (.leaf (.exit 0, canonR 16 123 hK hH (hT r ln l i) (hB c t i (row2 f))))) else .stuck
  | _ => .stuck⟩
theorem hE1_ok : (en [c_bCheck, c_bDry, c_bPass]).Ok := en_ok (l := [c_bCheck, c_bDry, c_bPass]) ⟨c_bCheck_ok, c_bDry_ok, c_bPass_ok, trivial⟩
theorem h1G_ok (ln : Nat) (l : Nat → Int × Int × Int) : (h1G ln l).Ok P := by
  refine lp_ok (by kernel_rfl) fun hin B s Q hq => ?_
  simp only [h1G] at hq hin ⊢
  split at hq
  · rename_i q0 r q1 n' get q2 len q3 i0 q4 c q5 t heq
    cases hn : Nat.beq s.n 15
    · rw [hn] at hq; exact hq.elim
    · rw [hn] at hq
      obtain ⟨⟨⟨rfl, rfl, rfl, rfl⟩, hc1, hc2, ht1, ht2⟩, hq⟩ := hq
      have hsame : SameR 15 16 123 hK hH s (hT r n' l 0) (hB c t 0 (fun _ => .nil)) := by
        refine ⟨by rw [heq], ?_, ?_⟩
        · rw [heq]; exact Le.cons (Le.soft rfl) (Le.cons (Le.soft rfl) (Le.cons (Le.nilsl (by decide)) (Le.soft rfl)))
        · rw [heq]; exact LeBs.two (LeB.var (Le.soft rfl)) LeB.none
      refine loop_viewR (k := 400) (f := 4) hE1_ok hin (n1 := 15) (n0 := 16) (N0 := 123) (fun x : Nat × Int × (Nat → V) => hT r n' l x.1) (fun x => hB c x.2.1 x.1 x.2.2)
        (fun x => ∃ f τ, Hist c x.1 f τ ∧ τ x.1 = x.2.1 ∧ ∀ j, j < x.1 → x.2.2 j = row2 f j) (fun x => 60 - x.1) Q (fun x _ => holds_body B r c x.2.1 n' l x.1 x.2.2) ?_ (Nat.eq_of_beq_eq_true hn)
        (i0 := (0, t, fun _ => .nil)) ⟨fun _ => (0, 0), fun _ => t, ⟨⟨hc1, hc2⟩, by omega, fun j _ => ⟨ht1, ht2⟩, fun j hj => absurd hj (Nat.not_lt_zero _), fun j hj => absurd hj (Nat.not_lt_zero _), fun j hj => absurd hj (Nat.not_lt_zero _)⟩, rfl, fun j hj => absurd hj (Nat.not_lt_zero _)⟩ hsame
      rintro ⟨i, t1, g⟩ ⟨f, τ, hist, hτ, hg⟩
      dsimp only at hist hτ hg
      subst hτ
      have out : Q (.exit 0, canonR 16 123 hK hH (hT r n' l i) (hB c (τ i) i (row2 f))) := hq i f (τ i) ⟨τ, hist⟩
      have hfew := hist.few
      refine ⟨fun _ => ⟨rfl, hT r n' l i, hB c (τ i) i (row2 f), Le.soft rfl, LeBs.two (LeB.var (Le.soft rfl)) (LeB.arr rfl hg), out⟩, fun hx => ?_⟩
      have hlt : i < n' := by
        apply Classical.byContradiction; intro h
        have h' : ¬ ((i : Int) < (n' : Int)) := by omega
        simp [h'] at hx
      dsimp only
      rw [Int.toNat_natCast]
      generalize (l i).1 = a
      generalize (l i).2.2 = b
      obtain ⟨hd0, hnn, hnd⟩ := part_in a b hist
      generalize (bif bDry_0 c (τ i) then (0 : Int) else Int.tmod (if (0 : Int) > b then 0 else b) 9) = nn at *
      generalize Int.tmod (if (0 : Int) > a then 0 else a) 10000001 = dt at *
      obtain ⟨⟨k0, _, k2⟩, _, hck⟩ := hist.tok hd0 hnn hnd
      have hnx := fun h60 : i < 60 => hist.next h60 hd0 hnn hnd
      generalize bPass_0 c (τ i) dt nn = b0 at *
      generalize bPass_1 c (τ i) dt nn = t2 at *
      generalize bPass_2 c (τ i) dt nn = e2 at *
      have hw : IntKind.wrap IntKind.i64 ((i : Int) + 1) = ((i + 1 : Nat) : Int) := IntWalk.i64_in ((i : Int) + 1) ⟨by omega, by omega⟩
      have hin1 : (0 : Int) ≤ (i : Int) ∧ (i : Int) < (n' : Int) := ⟨by omega, by omega⟩
      have hfit : fits (i + 1) 16 := by unfold fits; omega
      refine ⟨⟨hin1, fun h60 _ => ⟨Nat.le_refl _, hfit⟩⟩, fun h => ?_, fun _ => ⟨fun _ => ⟨rfl, hT r n' l i, hB c (τ i) i (row2 f), Le.soft rfl, LeBs.two (LeB.var (Le.soft rfl)) (LeB.arr rfl hg), out⟩, fun h60 => ?_⟩⟩
      · exfalso
        rw [k0, k2, hck] at h
        simp at h
      · have h60' : i ≠ 60 := fun h => by subst h; simp at h60
        have hi60 : i < 60 := Nat.lt_of_le_of_ne hfew h60'
        rw [hw, k0]
        refine ⟨rfl, (i + 1, t2, fun a => cond (Nat.beq a (i + 0)) (.cons (.int false .i64 dt) (.cons (.int false .i64 nn) .nil)) (g a)), ?_, ?_, ?_, ?_⟩
        · refine ⟨fun j => if j = i then (dt, nn) else f j, fun j => if j = i + 1 then t2 else τ j, hnx hi60, ?_, fun j hj => ?_⟩
          · dsimp only
            rw [if_pos rfl]
          dsimp only
          by_cases e : j = i
          · subst e
            simp
          · have e' : Nat.beq j (i + 0) = false := by
              cases hb : Nat.beq j (i + 0)
              · rfl
              · exact absurd (Nat.eq_of_beq_eq_true hb) e
            have hg' := hg j (Nat.lt_of_le_of_ne (Nat.le_of_lt_succ hj) e)
            rw [e', cond_false, hg']
            simp only [row2]
            rw [if_neg e]
        · exact Nat.sub_lt_sub_left hi60 (Nat.lt_succ_self i)
        · exact Le.soft rfl
        · exact LeBs.two (LeB.var (Le.soft rfl)) (LeB.arr rfl fun _ _ => rfl)
  · exact hq.elim
end Go.Proofs.Ytfealfofcjgihaa
