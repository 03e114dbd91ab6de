/- WaitPauses: the two loops. -/
import Derived.Test.YtfealfofcjgihaaXeP
import Derived.Test.YtfealfofcjgihaaXeQ
namespace Go.Proofs.Ytfealfofcjgihaa
open Go.Fw
set_option maxRecDepth 100000

theorem runs_iff (s p po u : Int) : wRuns_0 s p po u = decide (s = 1 ∧ p = 0 ∧ po = 0 ∧ u = 0) := by
  rw [wRuns_0_eq, wcheck]
  simp only [V.toBool, fit]
  grind
theorem fit_p {s p po u q : Int} (h : fit s p po u) (hq : 0 ≤ q ∧ q ≤ 15) : fit s q po u := by unfold fit at h ⊢; omega
theorem pause_in {s p po u : Int} (h : fit s p po u) (hp : p < 15) : wPause_0 s p po u = s ∧ wPause_1 s p po u = p + 1 ∧ wPause_2 s p po u = po ∧ wPause_3 s p po u = u ∧ wPause_4 s p po u = 0 := by
  have hf := h
  unfold fit at hf
  rw [wPause_0_eq, wPause_1_eq, wPause_2_eq, wPause_3_eq, wPause_4_eq, wcheck, if_pos h, IntWalk.i64_in (p + 1) ⟨by omega, by omega⟩]
  have e : (p == 15) = false := by simp; omega
  simp [V.toInt, e]
theorem pause_15 {s po u : Int} (h : fit s 15 po u) : wPause_4 s 15 po u = 6 := by
  rw [wPause_4_eq, wcheck, if_pos h]
  simp [V.toInt]
theorem unpause_in {s p po u : Int} (h : fit s p po u) (hp : 0 < p) : wUnpause_0 s p po u = s ∧ wUnpause_1 s p po u = p - 1 ∧ wUnpause_2 s p po u = po ∧ wUnpause_3 s p po u = u ∧
    wUnpause_4 s p po u = wRuns_0 s (p - 1) po u ∧ wUnpause_5 s p po u = 0 := by
  have hf := h
  unfold fit at hf
  rw [wUnpause_0_eq, wUnpause_1_eq, wUnpause_2_eq, wUnpause_3_eq, wUnpause_4_eq, wUnpause_5_eq, wcheck, if_pos h, IntWalk.i64_in (p - 1) ⟨by omega, by omega⟩]
  have e : (p == 0) = false := by simp; omega
  simp [V.toInt, V.toBool, e]

def pInv (s p po u n i : Int) : Prop := fit s p po u ∧ 0 ≤ i ∧ i ≤ n ∧ n ≤ 15 ∧ p + i ≤ 15
theorem pE_ok : pE.Ok := en_ok (l := [c_wCheck, c_wRuns, c_wPause]) ⟨c_wCheck_ok, c_wRuns_ok, c_wPause_ok, trivial⟩
theorem qE_ok : qE.Ok := en_ok (l := [c_wCheck, c_wRuns, c_wUnpause]) ⟨c_wCheck_ok, c_wRuns_ok, c_wUnpause_ok, trivial⟩

noncomputable def pausesG : Lp := ⟨12, 9, fun _ st => match vw 34 125 [2,3,6,7,8,33,34] [0,33] st with
  | (true, .cons (.int _ .i64 c) (.cons (.ptr _ 0 0 0 0) (.cons (.bool _ r) (.cons (.ptr _ 33 0 0 0) (.cons (.int _ .i64 k) (.cons (.int _ .i64 n) (.cons (.int _ .i64 i) .nil)))))),
      .cons (.agg (.cons (.int _ .i64 s) (.cons (.int _ .i64 p) (.cons (.int _ .u32 po) (.cons (.int _ .i64 u) .nil))))) (.cons (.agg (.cons (.int _ .i64 x0) (.cons (.int _ .i64 x1) (.cons (.int _ .u32 x2) (.cons (.int _ .i64 x3) .nil))))) .nil)) =>
    bif Nat.beq st.n 34 then .need (pInv s p po u n 0 ∧ i = 0 ∧ k = 0 ∧ x0 = s ∧ x1 = p ∧ x2 = po ∧ x3 = u)
      (.all Int fun j => .given (pInv s p po u n j) (.leaf (.exit 0, canon 34 125 [2,3,6,7,8,33,34] [0,33] (pT c r j n j) (pB s p po u s (p + j) po u)))) else .stuck
  | _ => .stuck⟩
theorem pausesG_ok : pausesG.Ok P := by
  refine lp_ok (by kernel_rfl) fun hin B st Q hq => ?_
  simp only [pausesG] at hq hin ⊢
  split at hq
  · rename_i q0 c q1 q2 r q3 q4 k q5 n q6 i q7 s q8 p q9 po q10 u q11 x0 q12 x1 q13 x2 q14 x3 heq
    cases hn : Nat.beq st.n 34
    · rw [hn] at hq; exact hq.elim
    · rw [hn] at hq
      obtain ⟨⟨hI, rfl, rfl, rfl, rfl, rfl, rfl⟩, hq⟩ := hq
      have hsame : Same 34 125 [2,3,6,7,8,33,34] [0,33] st (pT c r 0 n 0) (pB x0 x1 x2 x3 x0 (x1 + 0) x2 x3) := by
        rw [Int.add_zero]
        refine ⟨by rw [heq], by rw [heq]; rfl, by rw [heq]; rfl⟩
      refine loop_view (E := pE) (k := 400) (f := 12) pE_ok hin (fun j : Int => pT c r j n j) (fun j => pB x0 x1 x2 x3 x0 (x1 + j) x2 x3) (fun j => pInv x0 x1 x2 x3 n j) (fun j => (n - j).toNat) Q
        (fun j => pauses_body B r c j n j x0 x1 x2 x3 x0 (x1 + j) x2 x3) ?_ (Nat.eq_of_beq_eq_true hn) (i0 := 0) hI hsame
      intro j hj
      have hj2 := hj
      obtain ⟨hf, h0, h1, h2, h3⟩ := hj2
      have hf2 := hf
      unfold fit at hf2
      refine ⟨fun hx => ?_, fun hx => ?_⟩
      · exact ⟨rfl, _, _, rfl, rfl, hq j hj⟩
      · have hlt : j < n := by
          apply Classical.byContradiction; intro h; simp [h] at hx
        by_cases h15 : x1 + j < 15
        · obtain ⟨p0, p1, p2, p3, p4⟩ := pause_in (fit_p hf ⟨by omega, by omega⟩) h15
          have hr : wRuns_0 x0 (x1 + j + 1) x2 x3 = false := by rw [runs_iff]; exact decide_eq_false fun h => by omega
          rw [p0, p1, p2, p3, p4, hr]
          refine ⟨fun hy => ?_, fun hy => ⟨fun hz => ?_, fun hz => ?_⟩⟩
          · simp at hy
          · simp at hz
          · rw [IntWalk.i64_in (j + 1) ⟨by omega, by omega⟩, show x1 + j + 1 = x1 + (j + 1) by omega]
            exact ⟨rfl, j + 1, ⟨hf, by omega, by omega, h2, by omega⟩, by omega, rfl, rfl⟩
        · have e15 : x1 + j = 15 := by omega
          have p4 : wPause_4 x0 (x1 + j) x2 x3 = 6 := by rw [e15]; exact pause_15 (fit_p hf ⟨by omega, by omega⟩)
          rw [p4]
          refine ⟨fun hy => ?_, fun hy => ⟨fun hz => ?_, fun hz => ?_⟩⟩
          · simp at hy
          · exact ⟨rfl, _, _, rfl, rfl, hq j hj⟩
          · simp at hz
  · exact hq.elim

def qInv (s p po u a0 a2 a3 k i : Int) : Prop := fit s p po u ∧ fit a0 p a2 a3 ∧ 0 ≤ i ∧ i ≤ k ∧ p + k ≤ 15
noncomputable def pausesG2 : Lp := ⟨12, 23, fun _ st => match vw 36 125 [3,6,7,8,11,14,77,78] [0,33,34,35] st with
  | (true, .cons (.ptr _ 0 0 0 0) (.cons (.bool _ r) (.cons (.ptr _ 33 0 0 0) (.cons (.int _ .i64 k) (.cons (.ptr _ 34 0 0 0) (.cons (.ptr _ 35 0 0 0) (.cons (.int _ .i64 l) (.cons (.int _ .i64 i) .nil))))))),
      .cons (.agg (.cons (.int _ .i64 s) (.cons (.int _ .i64 p) (.cons (.int _ .u32 po) (.cons (.int _ .i64 u) .nil))))) (.cons (.agg (.cons (.int _ .i64 x0) (.cons (.int _ .i64 x1) (.cons (.int _ .u32 x2) (.cons (.int _ .i64 x3) .nil)))))
      (.cons (.agg (.cons (.int _ .i64 a0) (.cons (.int _ .i64 a1) (.cons (.int _ .u32 a2) (.cons (.int _ .i64 a3) .nil))))) (.cons (.agg (.cons (.int _ .i64 b0) (.cons (.int _ .i64 b1) (.cons (.int _ .u32 b2) (.cons (.int _ .i64 b3) .nil))))) .nil)))) =>
    bif Nat.beq st.n 36 then .need (qInv s p po u a0 a2 a3 k 0 ∧ i = 0 ∧ l = k ∧ x0 = s ∧ x1 = p + k ∧ x2 = po ∧ x3 = u ∧ a1 = p ∧ b0 = a0 ∧ b1 = p + k ∧ b2 = a2 ∧ b3 = a3)
      (.leaf (.exit 2, canon 36 125 [3,6,7,8,11,14,77,78] [0,33,34,35] (qT r k l l) (qB s p po u s p po u a0 a1 a2 a3 a0 a1 a2 a3))) else .stuck
  | _ => .stuck⟩
theorem pausesG2_ok : pausesG2.Ok P := by
  refine lp_ok (by kernel_rfl) fun hin B st Q hq => ?_
  simp only [pausesG2] at hq hin ⊢
  split at hq
  · rename_i q1 q2 r q3 q4 k q5 q6 q7 l q8 i q9 s q10 p q11 po q12 u q13 x0 q14 x1 q15 x2 q16 x3 q17 a0 q18 a1 q19 a2 q20 a3 q21 b0 q22 b1 q23 b2 q24 b3 heq
    cases hn : Nat.beq st.n 36
    · rw [hn] at hq; exact hq.elim
    · rw [hn] at hq
      obtain ⟨⟨hI, rfl, rfl, rfl, rfl, rfl, rfl, rfl, rfl, rfl, rfl, rfl⟩, hq⟩ := hq
      have hsame : Same 36 125 [3,6,7,8,11,14,77,78] [0,33,34,35] st (qT r l l 0) (qB x0 a1 x2 x3 x0 (a1 + (l - 0)) x2 x3 b0 a1 b2 b3 b0 (a1 + (l - 0)) b2 b3) := by
        rw [Int.sub_zero]
        refine ⟨by rw [heq], by rw [heq]; rfl, by rw [heq]; rfl⟩
      refine loop_view (E := qE) (k := 400) (f := 12) qE_ok hin (fun j : Int => qT r l l j) (fun j => qB x0 a1 x2 x3 x0 (a1 + (l - j)) x2 x3 b0 a1 b2 b3 b0 (a1 + (l - j)) b2 b3) (fun j => qInv x0 a1 x2 x3 b0 b2 b3 l j) (fun j => (l - j).toNat) Q
        (fun j => pauses_body2 B r l l j x0 a1 x2 x3 x0 (a1 + (l - j)) x2 x3 b0 a1 b2 b3 b0 (a1 + (l - j)) b2 b3) ?_ (Nat.eq_of_beq_eq_true hn) (i0 := 0) hI hsame
      intro j hj
      have hj2 := hj
      obtain ⟨hf, hg, h0, h1, h2⟩ := hj2
      have hf2 := hf
      unfold fit at hf2
      refine ⟨fun hx => ?_, fun hx => ?_⟩
      · have hlt : ¬ j < l := fun h => by simp [h] at hx
        have hjl : j = l := by omega
        subst hjl
        refine ⟨rfl, _, _, rfl, rfl, ?_⟩
        rw [Int.sub_self, Int.add_zero]
        exact hq
      · have hlt : j < l := by
          apply Classical.byContradiction; intro h; simp [h] at hx
        obtain ⟨p0, p1, p2, p3, p4, p5⟩ := unpause_in (p := a1 + (l - j)) (fit_p hf ⟨by omega, by omega⟩) (by omega)
        obtain ⟨r0, r1, r2, r3, r4, r5⟩ := unpause_in (p := a1 + (l - j)) (fit_p hg ⟨by omega, by omega⟩) (by omega)
        have hr : (bif wRuns_0 x0 (a1 + (l - j) - 1) x2 x3 then decide (j < IntKind.wrap IntKind.i64 (l - 1)) else false) = false := by
          rw [IntWalk.i64_in (l - 1) ⟨by omega, by omega⟩, runs_iff]
          by_cases h : j < l - 1
          · have : ¬ (x0 = 1 ∧ a1 + (l - j) - 1 = 0 ∧ x2 = 0 ∧ x3 = 0) := fun h' => by omega
            simp [this]
          · simp [h]
        rw [p0, p1, p2, p3, p4, p5, r0, r1, r2, r3, r5, hr]
        refine ⟨fun hy => ?_, fun hy => ?_⟩
        · simp at hy
        · rw [IntWalk.i64_in (j + 1) ⟨by omega, by omega⟩, show a1 + (l - j) - 1 = a1 + (l - (j + 1)) by omega]
          exact ⟨rfl, j + 1, ⟨hf, hg, by omega, by omega, h2⟩, by omega, rfl, rfl⟩
  · exact hq.elim
end Go.Proofs.Ytfealfofcjgihaa
