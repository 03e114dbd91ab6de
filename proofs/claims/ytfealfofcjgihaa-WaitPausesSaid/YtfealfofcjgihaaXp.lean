/- The plain law of WaitChanges. -/
import Derived.Test.YtfealfofcjgihaaXeA
import Derived.Test.YtfealfofcjgihaaXeB
namespace Go.Proofs.Ytfealfofcjgihaa
open Go.Fw

def fit (s p po u : Int) : Prop := 0 ≤ s ∧ s ≤ 3 ∧ 0 ≤ p ∧ p ≤ 15 ∧ 0 ≤ u ∧ u ≤ 1125899906842624 ∧ ((po ≠ 0 ∨ u ≠ 0) ↔ s = 3)
instance (s p po u : Int) : Decidable (fit s p po u) := by unfold fit; infer_instance

theorem wcheck (s p po u : Int) : wCheck_0 s p po u = if fit s p po u then 0 else 270 := by
  rw [wCheck_0_eq]
  simp only [V.toInt, fit]
  grind
theorem qright (s p po u : Int) (hp : 0 ≤ po) : qRight_0 s p po u = decide (fit s p po u) := by
  rw [qRight_0_eq]
  simp only [V.toBool, fit]
  grind
theorem changes_true (s p po u : Int) (hp : 0 ≤ po) : lwChanges_0 s p po u = true := by
  have hq := qright s p po u hp
  have hc := wcheck s p po u
  rw [lwChanges_0_eq]
  by_cases h : fit s p po u
  · rw [if_pos h] at hc
    rw [decide_eq_true h] at hq
    simp only [V.toBool, V.toInt, hq, hc, wUp_0_eq, wUp_1_eq, wUp_2_eq, wUp_3_eq, wUp_4_eq, wDown_0_eq, wDown_1_eq, wDown_2_eq, wDown_3_eq, wDown_4_eq, wPause_0_eq, wPause_1_eq, wPause_2_eq, wPause_3_eq, wPause_4_eq,
      wUnpause_0_eq, wUnpause_1_eq, wUnpause_2_eq, wUnpause_3_eq, wUnpause_4_eq, wUnpause_5_eq, wDue_0_eq, wDue_1_eq, wRuns_0_eq, qRuns_0_eq, qReady_0_eq, qReady_1_eq, qReady_2_eq, qReady_3_eq, wcheck]
    simp only [fit] at h ⊢
    rw [IntWalk.i64_in (p + 1) ⟨by omega, by omega⟩, IntWalk.i64_in (p - 1) ⟨by omega, by omega⟩]
    grind
  · rw [if_neg h] at hc
    rw [decide_eq_false h] at hq
    simp [V.toBool, V.toInt, hq, hc, wUp_0_eq, wUp_1_eq, wUp_2_eq, wUp_3_eq, wUp_4_eq, wDown_0_eq, wDown_1_eq, wDown_2_eq, wDown_3_eq, wDown_4_eq, wPause_0_eq, wPause_1_eq, wPause_2_eq, wPause_3_eq, wPause_4_eq,
      wUnpause_0_eq, wUnpause_1_eq, wUnpause_2_eq, wUnpause_3_eq, wUnpause_4_eq, wUnpause_5_eq, wDue_0_eq, wDue_1_eq, wRuns_0_eq]
end Go.Proofs.Ytfealfofcjgihaa
