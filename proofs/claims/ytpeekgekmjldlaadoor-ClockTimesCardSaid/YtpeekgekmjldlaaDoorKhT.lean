/- ClockTimes: its loop. -/
import Derived.Test.YtpeekgekmjldlaaDoorKfT
import Derived.Test.YtpeekgekmjldlaaDoorKo
namespace Go.Proofs.YtpeekgekmjldlaaDoor
open Go.Fw
set_option maxRecDepth 100000

theorem timesE_ok : (en [c_kTimes, c_tRight]).Ok := en_ok (l := [c_kTimes, c_tRight]) ⟨c_kTimes_ok, c_tRight_ok, trivial⟩
noncomputable def timesG (n : Nat) (f : Nat → Int × Int) : Lp := ⟨5, 4, fun _ s => match vw 1 49 [2,11,12,13] [] s with
  | (true, .cons (.bool _ r) (.cons (.rsl _ 2 n' get) (.cons (.int _ .i64 l) (.cons (.int _ .i64 i) .nil))), .nil) =>
    bif Nat.beq s.n 1 then .need (n' = n ∧ get = rowF f ∧ l = n ∧ i = 0) (.all Int fun j => .leaf (.exit 0, canon 1 49 [2,11,12,13] [] (kT r n f j) .nil)) else .stuck
  | _ => .stuck⟩
theorem timesG_ok (n : Nat) (f : Nat → Int × Int) : (timesG n f).Ok P := by
  refine lp_ok (by kernel_rfl) fun hin B s Q hq => ?_
  simp only [timesG] at hq hin ⊢
  split at hq
  · rename_i q0 r q1 n' get q2 l q3 i heq
    cases hn : Nat.beq s.n 1
    · rw [hn] at hq; exact hq.elim
    · rw [hn] at hq
      obtain ⟨⟨rfl, rfl, rfl, rfl⟩, hq⟩ := hq
      have hsame : Same 1 49 [2,11,12,13] [] s (kT r n' f 0) .nil := by
        refine ⟨by rw [heq], by rw [heq]; rfl, by rw [heq]⟩
      refine loop_view (k := 400) (f := 5) timesE_ok hin (fun j : Int => kT r n' f j) (fun _ => .nil) (fun j => 0 ≤ j ∧ j ≤ 40) (fun j => (40 - j).toNat) Q (fun j => times_body B r n' f j) ?_ (Nat.eq_of_beq_eq_true hn) (i0 := 0) ⟨by omega, by omega⟩ hsame
      intro j hj
      refine ⟨fun _ => ⟨rfl, _, _, rfl, rfl, hq j⟩, fun hx => ⟨⟨hj.1, ?_⟩, fun _ => ⟨rfl, _, _, rfl, rfl, hq j⟩, fun h40 => ?_⟩⟩
      · apply Classical.byContradiction; intro h; simp [h] at hx
      · have h40' : j ≠ 40 := fun h => by subst h; simp at h40
        rw [IntWalk.i64_in (j + 1) ⟨by omega, by omega⟩]
        generalize (f (Int.toNat j)).1 = t
        generalize (f (Int.toNat j)).2 = d
        refine ⟨fun _ _ h => ?_, fun hc => ⟨fun h => ?_, fun _ => ⟨rfl, j + 1, ⟨by omega, by omega⟩, by omega, rfl, rfl⟩⟩, fun hc => ⟨fun h => ?_, fun _ => ⟨rfl, j + 1, ⟨by omega, by omega⟩, by omega, rfl, rfl⟩⟩⟩
        · have := of_decide_eq_true h; omega
        · exfalso
          by_cases ht : isT t
          · by_cases hd : d < 0
            · obtain ⟨a, b⟩ := ktimes_neg ht hd
              simp [tright, ht, hd, a, b] at h
            · simp [tright, ht, hd] at hc
          · obtain ⟨a, b⟩ := ktimes_out (b := d) ht
            simp [tright, ht, a, b] at h
        · exfalso
          by_cases ht : isT t
          · by_cases hd : d < 0
            · simp [tright, ht, hd] at hc
            · by_cases h0 : t > 0
              · obtain ⟨a, b⟩ := ktimes_in ht h0 hd
                have e : decide (t > 0) = true := by simp; omega
                rw [a, b, tright] at h
                simp only [ht, hd, e, decide_true, decide_false, cond_true, cond_false] at h
                cases hq' : decide (d > IntKind.wrap IntKind.i64 (Int.tdiv (1125899906842624 : Int) t)) <;> simp [hq'] at h
              · have h0' : t = 0 := by unfold isT at ht; omega
                subst h0'
                obtain ⟨a, b⟩ := ktimes_zero hd
                have e : IntKind.wrap IntKind.i64 0 = 0 := IntWalk.i64_in 0 ⟨by omega, by omega⟩
                simp [tright, ht, hd, a, b, e] at h
          · simp [tright, ht] at hc
  · exact hq.elim
end Go.Proofs.YtpeekgekmjldlaaDoor
