/- ClockAdds: its loop. -/
import Derived.Test.YtpeekgekmjldlaaDoorKeD
import Derived.Test.YtpeekgekmjldlaaDoorKx
namespace Go.Proofs.YtpeekgekmjldlaaDoor
open Go.Fw
set_option maxRecDepth 100000

theorem aE_ok : (en [c_kCheck, c_kAdd, c_kLess, c_kStop, c_kAgo, c_tRight, c_tAdd, c_tStop]).Ok := en_ok (l := [c_kCheck, c_kAdd, c_kLess, c_kStop, c_kAgo, c_tRight, c_tAdd, c_tStop]) ⟨c_kCheck_ok, c_kAdd_ok, c_kLess_ok, c_kStop_ok, c_kAgo_ok, c_tRight_ok, c_tAdd_ok, c_tStop_ok, trivial⟩
noncomputable def addsG (n : Nat) (f : Nat → Int × Int) : Lp := ⟨3, 4, fun _ s => match vw 1 152 [2,23,24,25] [] s with
  | (true, .cons (.bool _ r) (.cons (.rsl _ 2 n' get) (.cons (.int _ .i64 l) (.cons (.int _ .i64 i) .nil))), .nil) =>
    bif Nat.beq s.n 1 then .need (n' = n ∧ get = rowF f ∧ l = n ∧ i = 0) (.all Int fun j => .leaf (.exit 0, canon 1 152 [2,23,24,25] [] (kT r n f j) .nil)) else .stuck
  | _ => .stuck⟩
theorem addsG_ok (n : Nat) (f : Nat → Int × Int) : (addsG n f).Ok P := by
  refine lp_ok (by kernel_rfl) fun hin B s Q hq => ?_
  simp only [addsG] at hq hin ⊢
  split at hq
  · rename_i q0 r q1 n' get q2 l q3 i heq
    cases hn : Nat.beq s.n 1
    · rw [hn] at hq; exact hq.elim
    · rw [hn] at hq
      obtain ⟨⟨rfl, rfl, rfl, rfl⟩, hq⟩ := hq
      have hsame : Same 1 152 [2,23,24,25] [] s (kT r n' f 0) .nil := by
        refine ⟨by rw [heq], by rw [heq]; rfl, by rw [heq]⟩
      refine loop_view (k := 400) (f := 3) aE_ok hin (fun j : Int => kT r n' f j) (fun _ => .nil) (fun j => 0 ≤ j ∧ j ≤ 40) (fun j => (40 - j).toNat) Q (fun j => adds_body B r n' f j) ?_ (Nat.eq_of_beq_eq_true hn) (i0 := 0) ⟨by omega, by omega⟩ hsame
      intro j hj
      refine ⟨fun _ => ⟨rfl, _, _, rfl, rfl, hq j⟩, fun hx => ⟨⟨hj.1, ?_⟩, fun _ => ⟨rfl, _, _, rfl, rfl, hq j⟩, fun h40 => ?_⟩⟩
      · apply Classical.byContradiction; intro h; simp [h] at hx
      · have h40' : j ≠ 40 := fun h => by subst h; simp at h40
        rw [IntWalk.i64_in (j + 1) ⟨by omega, by omega⟩]
        generalize (f (Int.toNat j)).1 = t
        generalize (f (Int.toNat j)).2 = d
        refine ⟨fun h => ?_, fun _ => ⟨fun h => ?_, fun _ => ⟨fun _ => ⟨rfl, j + 1, ⟨by omega, by omega⟩, by omega, rfl, rfl⟩, fun h0 => ⟨fun h => ?_, fun _ => ⟨rfl, j + 1, ⟨by omega, by omega⟩, by omega, rfl, rfl⟩⟩⟩⟩⟩
        · rw [adds_first] at h; cases h
        · exfalso
          by_cases hr : isT t ∧ isT d
          · simp [tright, hr.1, hr.2] at h
          · obtain ⟨a0, a1, a2, a3, a4, a5, a6, a7⟩ := outs hr
            rw [a0, a1, a2, a3, a4, a5, a6, a7] at h
            simp at h
        · exfalso
          by_cases hr : isT t ∧ isT d
          · obtain ⟨b0, b1, b2, b3, b4, b5, b6⟩ := ins hr.1 hr.2
            obtain ⟨a0, a1⟩ := kadd_in hr.1 hr.2
            obtain ⟨s0, s1⟩ := kstop_in hr.1 hr.2
            have ht := hr.1
            have hd := hr.2
            unfold isT at ht hd
            rw [b0, b1, b2, b3, b4, b5, b6, a0, a1, s0, s1, IntWalk.i64_in (t - d) ⟨by omega, by omega⟩] at h
            by_cases c1 : t + d ≤ 1125899906842624
            · by_cases c2 : d ≤ t
              · have c3 : ¬ d > t := by omega
                have c4 : ¬ 0 > t - d := by omega
                simp [c1, c2, c3, c4] at h
              · have c3 : d > t := by omega
                have c4 : 0 > t - d := by omega
                simp [c1, c2, c3, c4] at h
            · by_cases c2 : d ≤ t
              · have c3 : ¬ d > t := by omega
                have c4 : ¬ 0 > t - d := by omega
                simp [c1, c2, c3, c4] at h
              · have c3 : d > t := by omega
                have c4 : 0 > t - d := by omega
                simp [c1, c2, c3, c4] at h
          · obtain ⟨a0, a1, a2, a3, a4, a5, a6, a7⟩ := outs hr
            have hb : (bif tRight_0 t then tRight_0 d else false) = false := by
              rw [tright, tright]
              by_cases h1 : isT t
              · have h2 : ¬ isT d := fun h2 => hr ⟨h1, h2⟩
                simp [h2]
              · simp [h1]
            rw [a0, a1, a2, a3, a4, a5, a6, a7, hb] at h0
            simp at h0
  · exact hq.elim
end Go.Proofs.YtpeekgekmjldlaaDoor
