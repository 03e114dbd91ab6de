/- The plain facts of multiples and products of times. -/
import Derived.Test.YtpeekgekmjldlaaDoorKn
namespace Go.Proofs.YtpeekgekmjldlaaDoor
open Go.Fw

theorem kdown_out {t s : Int} (h : ¬ (isT t ∧ isT s)) : kDown_0 t s = 0 ∧ kDown_1 t s = 120 := by
  unfold isT at h
  rw [kDown_0_eq, kDown_1_eq]
  simp only [V.toInt]
  constructor <;> grind
theorem kdown_zero {t : Int} (h : isT t) : kDown_0 t 0 = 0 ∧ kDown_1 t 0 = 2 := by
  unfold isT at h
  rw [kDown_0_eq, kDown_1_eq]
  simp only [V.toInt]
  constructor <;> grind
theorem kdown_in {t s : Int} (h : isT t) (h' : isT s) (h0 : s ≠ 0) : kDown_0 t s = t - Int.tmod t s ∧ kDown_1 t s = 0 := by
  unfold isT at h h'
  have hm := tmod_in (t := t) (s := s) h.1 (by omega)
  rw [kDown_0_eq, kDown_1_eq, IntWalk.i64_in (t - Int.tmod t s) ⟨by omega, by omega⟩]
  simp only [V.toInt]
  have e1 : decide (t < 0) = false := by simp; omega
  have e2 : decide (t > 1125899906842624) = false := by simp; omega
  have e3 : decide (s < 0) = false := by simp; omega
  have e4 : decide (s > 1125899906842624) = false := by simp; omega
  have e5 : (s == 0) = false := by simp [h0]
  simp [e1, e2, e3, e4, e5]
theorem kdown_ok {t s : Int} (h : kDown_1 t s = 0) : isT t ∧ isT s ∧ s ≠ 0 := by
  by_cases h1 : isT t ∧ isT s
  · refine ⟨h1.1, h1.2, fun e => ?_⟩
    subst e
    rw [(kdown_zero h1.1).2] at h
    cases h
  · rw [(kdown_out h1).2] at h; cases h
/-- The multiple below. -/
theorem below {t s : Int} (h : isT t) (h' : isT s) (h0 : s ≠ 0) : isT (t - Int.tmod t s) ∧ t - Int.tmod t s ≤ t ∧ t - (t - Int.tmod t s) < s ∧ Int.tmod (t - Int.tmod t s) s = 0 ∧ Int.tmod (t - Int.tmod t s + s) s = 0 := by
  unfold isT at *
  have hm := tmod_in (t := t) (s := s) h.1 (by omega)
  refine ⟨⟨by omega, by omega⟩, by omega, by omega, ?_, ?_⟩
  · rw [tmod_quot, Int.mul_tmod_left]
  · have e : Int.tdiv t s * s + s = (Int.tdiv t s + 1) * s := by rw [Int.add_mul, Int.one_mul]
    rw [tmod_quot, e, Int.mul_tmod_left]
theorem kup_out {t s : Int} (h : ¬ (isT t ∧ isT s)) : kUp_0 t s = 0 ∧ kUp_1 t s = 120 := by
  obtain ⟨a, b⟩ := kdown_out h
  rw [kUp_0_eq, kUp_1_eq, a, b]
  simp [V.toInt]
theorem kup_zero {t : Int} (h : isT t) : kUp_0 t 0 = 0 ∧ kUp_1 t 0 = 2 := by
  obtain ⟨a, b⟩ := kdown_zero h
  rw [kUp_0_eq, kUp_1_eq, a, b]
  simp [V.toInt]
theorem kup_in {t s : Int} (h : isT t) (h' : isT s) (h0 : s ≠ 0) : kUp_0 t s = (if t - Int.tmod t s = t then t else if t - Int.tmod t s + s ≤ 1125899906842624 then t - Int.tmod t s + s else 0) ∧
    kUp_1 t s = (if t - Int.tmod t s = t then 0 else if t - Int.tmod t s + s ≤ 1125899906842624 then 0 else 6) := by
  obtain ⟨a, b⟩ := kdown_in h h' h0
  obtain ⟨c, d⟩ := kadd_in (below h h' h0).1 h'
  rw [kUp_0_eq, kUp_1_eq, a, b, c, d]
  simp only [V.toInt]
  by_cases e : t - Int.tmod t s = t
  · simp [e]
  · simp [e]
theorem ktimes_out {a b : Int} (h : ¬ isT a) : kTimes_0 a b = 0 ∧ kTimes_1 a b = 120 := by
  unfold isT at h
  rw [kTimes_0_eq, kTimes_1_eq]
  simp only [V.toInt]
  constructor <;> grind
theorem ktimes_neg {a b : Int} (h : isT a) (hb : b < 0) : kTimes_0 a b = 0 ∧ kTimes_1 a b = 2 := by
  unfold isT at h
  rw [kTimes_0_eq, kTimes_1_eq]
  simp only [V.toInt]
  constructor <;> grind
theorem ktimes_zero {b : Int} (hb : ¬ b < 0) : kTimes_0 0 b = 0 ∧ kTimes_1 0 b = 0 := by
  rw [kTimes_0_eq, kTimes_1_eq]
  simp only [V.toInt]
  constructor <;> grind
theorem ktimes_in {a b : Int} (h : isT a) (h0 : a > 0) (hb : ¬ b < 0) : kTimes_0 a b = (bif decide (b > IntKind.wrap IntKind.i64 (Int.tdiv (1125899906842624 : Int) a)) then 1125899906842624 else IntKind.wrap IntKind.i64 (b * a)) ∧ kTimes_1 a b = 0 := by
  unfold isT at h
  rw [kTimes_0_eq, kTimes_1_eq]
  have e1 : decide (a < 0) = false := by simp; omega
  have e2 : decide (a > 1125899906842624) = false := by simp; omega
  have e3 : (a == 0) = false := by simp; omega
  have e4 : decide (b < 0) = false := by simp; omega
  simp [V.toInt, e1, e2, e3, e4]
end Go.Proofs.YtpeekgekmjldlaaDoor
