/- ClockSteps: its loop. -/
import Derived.Test.YtpeekgekmjldlaaDoorKfS
import Derived.Test.YtpeekgekmjldlaaDoorKo
namespace Go.Proofs.YtpeekgekmjldlaaDoor
open Go.Fw
set_option maxRecDepth 100000

theorem stepsE_ok : (en [c_kUp, c_kDown, c_kAdd, c_tRight, c_tAdd]).Ok := en_ok (l := [c_kUp, c_kDown, c_kAdd, c_tRight, c_tAdd]) ⟨c_kUp_ok, c_kDown_ok, c_kAdd_ok, c_tRight_ok, c_tAdd_ok, trivial⟩
noncomputable def stepsG (n : Nat) (f : Nat → Int × Int) : Lp := ⟨6, 4, fun _ s => match vw 1 94 [2,18,19,20] [] s with
  | (true, .cons (.bool _ r) (.cons (.rsl _ 2 n' get) (.cons (.int _ .i64 l) (.cons (.int _ .i64 i) .nil))), .nil) =>
    bif Nat.beq s.n 1 then .need (n' = n ∧ get = rowF f ∧ l = n ∧ i = 0) (.all Int fun j => .leaf (.exit 0, canon 1 94 [2,18,19,20] [] (kT r n f j) .nil)) else .stuck
  | _ => .stuck⟩
theorem stepsG_ok (n : Nat) (f : Nat → Int × Int) : (stepsG n f).Ok P := by
  refine lp_ok (by kernel_rfl) fun hin B s Q hq => ?_
  simp only [stepsG] at hq hin ⊢
  split at hq
  · rename_i q0 r q1 n' get q2 l q3 i heq
    cases hn : Nat.beq s.n 1
    · rw [hn] at hq; exact hq.elim
    · rw [hn] at hq
      obtain ⟨⟨rfl, rfl, rfl, rfl⟩, hq⟩ := hq
      have hsame : Same 1 94 [2,18,19,20] [] s (kT r n' f 0) .nil := by
        refine ⟨by rw [heq], by rw [heq]; rfl, by rw [heq]⟩
      refine loop_view (k := 400) (f := 6) stepsE_ok hin (fun j : Int => kT r n' f j) (fun _ => .nil) (fun j => 0 ≤ j ∧ j ≤ 40) (fun j => (40 - j).toNat) Q (fun j => steps_body B r n' f j) ?_ (Nat.eq_of_beq_eq_true hn) (i0 := 0) ⟨by omega, by omega⟩ hsame
      intro j hj
      refine ⟨fun _ => ⟨rfl, _, _, rfl, rfl, hq j⟩, fun hx => ?_⟩
      have hlt : j < n' := by apply Classical.byContradiction; intro h; simp [h] at hx
      generalize (f (Int.toNat j)).1 = t
      generalize (f (Int.toNat j)).2 = d
      refine ⟨⟨⟨hj.1, hlt⟩, fun _ hc => ?_⟩, fun h => ?_, fun _ => ⟨fun _ => ⟨rfl, _, _, rfl, rfl, hq j⟩, fun h40 => ?_⟩⟩
      · have hd0 : d ≠ 0 := by intro e; subst e; simp at hc
        exact ⟨hd0, fun _ _ => hd0, fun _ => ⟨fun _ _ => hd0, fun _ _ => hd0⟩⟩
      · exfalso
        have h40 : (j == 40) = false := by
          cases e : (j == 40)
          · rfl
          · simp [e] at h
        by_cases hr : isT t ∧ isT d
        · obtain ⟨ht, hd⟩ := hr
          by_cases h0 : d = 0
          · subst h0
            obtain ⟨a0, a1⟩ := kdown_zero ht
            obtain ⟨u0, u1⟩ := kup_zero ht
            rw [a0, a1, u0, u1] at h
            simp [h40, tright, ht, hd] at h
          · obtain ⟨a0, a1⟩ := kdown_in ht hd h0
            obtain ⟨b0, b1, b2, b3, b4⟩ := below ht hd h0
            obtain ⟨u0, u1⟩ := kup_in ht hd h0
            obtain ⟨i0, i1, _⟩ := ins b0 hd
            have hq1 : Int.tdiv t d * d = t - Int.tmod t d := (tmod_quot t d).symm
            have hb0 := b0
            have ht' := ht
            have hd' := hd
            unfold isT at ht' hd' hb0
            have hk : 0 ≤ Int.tdiv t d ∧ Int.tdiv t d ≤ t := ⟨Int.tdiv_nonneg ht'.1 hd'.1, by
              rw [Int.tdiv_eq_ediv_of_nonneg ht'.1]; exact Int.ediv_le_self d ht'.1⟩
            have w0 : IntKind.wrap IntKind.i64 (Int.tdiv t d) = Int.tdiv t d := IntWalk.i64_in _ ⟨by omega, by omega⟩
            have w1 : IntKind.wrap IntKind.i64 (Int.tdiv t d * d) = t - Int.tmod t d := by rw [hq1]; exact IntWalk.i64_in _ ⟨by omega, by omega⟩
            rw [w0, w1, a0, a1, u0, u1, i0, i1] at h
            have h0' : (d == 0) = false := by simp [h0]
            by_cases k1 : t - Int.tmod t d = t
            · simp [h40, tright, ht, hd, h0', k1] at h
            · by_cases k2 : t - Int.tmod t d + d ≤ 1125899906842624
              · simp [h40, tright, ht, hd, h0', k1, k2] at h
              · simp [h40, tright, ht, hd, h0', k1, k2] at h
        · obtain ⟨a0, a1⟩ := kdown_out hr
          obtain ⟨u0, u1⟩ := kup_out hr
          have hb : (bif tRight_0 t then tRight_0 d else false) = false := by
            rw [tright, tright]
            by_cases h1 : isT t
            · have h2 : ¬ isT d := fun h2 => hr ⟨h1, h2⟩
              simp [h2]
            · simp [h1]
          rw [a0, a1, u0, u1, hb] at h
          simp [h40] at h
      · have h40' : j ≠ 40 := fun h => by subst h; simp at h40
        rw [IntWalk.i64_in (j + 1) ⟨by omega, by omega⟩]
        exact ⟨rfl, j + 1, ⟨by omega, by omega⟩, by omega, rfl, rfl⟩
  · exact hq.elim
end Go.Proofs.YtpeekgekmjldlaaDoor
