/- ClockBack: its loop. -/
import Derived.Test.YtpeekgekmjldlaaDoorKeB
import Derived.Test.YtpeekgekmjldlaaDoorKp
namespace Go.Proofs.YtpeekgekmjldlaaDoor
open Go.Fw
set_option maxRecDepth 100000

theorem kE_ok : kE.Ok := en_ok (l := [c_kCheck, c_kAdd, c_kLess, c_kStop, c_kAgo]) ⟨c_kCheck_ok, c_kAdd_ok, c_kLess_ok, c_kStop_ok, c_kAgo_ok, trivial⟩
/-- The tests of a round come out right. -/
theorem back_first (t d : Int) : (bif kAdd_1 t d != 0 then bif bif bif kAdd_1 t d == 6 then bif kStop_1 t d != 0 then true else kStop_0 t d != 1125899906842624 else false then true else false then true else false else false) = false := by
  by_cases h : isT t ∧ isT d
  · obtain ⟨s0, s1⟩ := kstop_in h.1 h.2
    obtain ⟨a0, a1⟩ := kadd_in h.1 h.2
    rw [s0, s1, a1]
    by_cases hf : t + d ≤ 1125899906842624 <;> simp [hf]
  · obtain ⟨a1, a2⟩ := kadd_out h
    have e : (kAdd_1 t d == 6) = false := by simp [a2]
    simp [e]
theorem back_last (t d : Int) (h0 : (bif kAdd_1 t d != 0 then bif bif bif kAdd_1 t d == 6 then bif kStop_1 t d != 0 then true else kStop_0 t d != 1125899906842624 else false then true else false then false else true else false) = false) :
    (bif bif kStop_1 t d != 0 then true else bif kLess_1 (kAdd_0 t d) d != 0 then true else bif kAgo_1 (kAdd_0 t d) t != 0 then true else bif kLess_0 (kAdd_0 t d) d != t then true else bif kAgo_0 (kAdd_0 t d) t != d then true else bif kStop_0 t d != kAdd_0 t d then true else kCheck_0 (kAdd_0 t d) != 0 then true else false) = false := by
  by_cases h : isT t ∧ isT d
  · obtain ⟨s0, s1⟩ := kstop_in h.1 h.2
    obtain ⟨a0, a1⟩ := kadd_in h.1 h.2
    rw [s0, s1, a1] at h0
    by_cases hf : t + d ≤ 1125899906842624
    · rw [if_pos hf] at a0 s0
      have ht := h.1
      have hd := h.2
      have hs : isT (t + d) := by unfold isT at *; omega
      obtain ⟨l0, l1⟩ := kless_in hs hd (by unfold isT at *; omega)
      obtain ⟨g0, g1⟩ := kago_in hs ht (by unfold isT at *; omega)
      rw [a0, s0, s1, l0, l1, g0, g1, kcheck hs]
      have e1 : t + d - d = t := by omega
      have e2 : t + d - t = d := by omega
      simp [e1, e2]
    · rw [if_neg hf] at h0
      simp [hf] at h0
  · obtain ⟨a1, a2⟩ := kadd_out h
    have e : (kAdd_1 t d == 6) = false := by simp [a2]
    have e' : (kAdd_1 t d != 0) = true := by simp [a1]
    simp [e, e'] at h0

noncomputable def backG (n : Nat) (f : Nat → Int × Int) : Lp := ⟨4, 4, fun _ s => match vw 1 97 [2,17,18,19] [] s with
  | (true, .cons (.bool _ r) (.cons (.rsl _ 2 n' get) (.cons (.int _ .i64 l) (.cons (.int _ .i64 i) .nil))), .nil) =>
    bif Nat.beq s.n 1 then .need (n' = n ∧ get = rowF f ∧ l = n ∧ i = 0) (.all Int fun j => .leaf (.exit 0, canon 1 97 [2,17,18,19] [] (kT r n f j) .nil)) else .stuck
  | _ => .stuck⟩
theorem backG_ok (n : Nat) (f : Nat → Int × Int) : (backG n f).Ok P := by
  refine lp_ok (by kernel_rfl) fun hin B s Q hq => ?_
  simp only [backG] at hq hin ⊢
  split at hq
  · rename_i q0 r q1 n' get q2 l q3 i heq
    cases hn : Nat.beq s.n 1
    · rw [hn] at hq; exact hq.elim
    · rw [hn] at hq
      obtain ⟨⟨rfl, rfl, rfl, rfl⟩, hq⟩ := hq
      have hsame : Same 1 97 [2,17,18,19] [] s (kT r n' f 0) .nil := by
        refine ⟨by rw [heq], by rw [heq]; rfl, by rw [heq]⟩
      refine loop_view (E := kE) (k := 400) (f := 4) kE_ok hin (fun j : Int => kT r n' f j) (fun _ => .nil) (fun j => 0 ≤ j ∧ j ≤ 40) (fun j => (40 - j).toNat) Q (fun j => back_body B r n' f j) ?_ (Nat.eq_of_beq_eq_true hn) (i0 := 0) ⟨by omega, by omega⟩ hsame
      intro j hj
      refine ⟨fun _ => ⟨rfl, _, _, rfl, rfl, hq j⟩, fun hx => ⟨⟨hj.1, ?_⟩, fun _ => ⟨rfl, _, _, rfl, rfl, hq j⟩, fun h40 => ?_⟩⟩
      · apply Classical.byContradiction; intro h; simp [h] at hx
      · have h40' : j ≠ 40 := fun h => by subst h; simp at h40
        rw [IntWalk.i64_in (j + 1) ⟨by omega, by omega⟩]
        refine ⟨fun h => ?_, fun _ => ⟨fun _ => ⟨rfl, j + 1, ⟨by omega, by omega⟩, by omega, rfl, rfl⟩, fun h0 => ⟨fun h => ?_, fun _ => ⟨rfl, j + 1, ⟨by omega, by omega⟩, by omega, rfl, rfl⟩⟩⟩⟩
        · rw [back_first] at h; cases h
        · rw [back_last _ _ h0] at h; cases h
  · exact hq.elim
end Go.Proofs.YtpeekgekmjldlaaDoor
