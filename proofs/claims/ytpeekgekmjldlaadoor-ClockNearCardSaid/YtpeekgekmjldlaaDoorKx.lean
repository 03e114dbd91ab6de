/- ClockAdds: the tests of a round come out right. -/
import Derived.Test.YtpeekgekmjldlaaDoorKp
namespace Go.Proofs.YtpeekgekmjldlaaDoor
open Go.Fw

theorem tright (t : Int) : tRight_0 t = decide (isT t) := by
  rw [tRight_0_eq]; simp only [V.toBool, isT]; grind
theorem kcheck_is (t : Int) : kCheck_0 t = if isT t then 0 else 120 := by
  rw [kCheck_0_eq]; simp only [V.toInt, isT]; grind
theorem adds_first (t : Int) : (bif bif !(kCheck_0 t == (0 : Int)) == tRight_0 t then true else bif kCheck_0 t != (0 : Int) then kCheck_0 t != (120 : Int) else false then true else false) = false := by
  rw [tright, kcheck_is]
  by_cases h : isT t <;> simp [h]
theorem outs {t d : Int} (h : ¬ (isT t ∧ isT d)) : kAdd_0 t d = 0 ∧ kAdd_1 t d = 120 ∧ kLess_0 t d = 0 ∧ kLess_1 t d = 120 ∧ kStop_0 t d = 0 ∧ kStop_1 t d = 120 ∧ kAgo_0 t d = 0 ∧ kAgo_1 t d = 120 := by
  unfold isT at h
  rw [kAdd_0_eq, kAdd_1_eq, kLess_0_eq, kLess_1_eq, kStop_0_eq, kStop_1_eq, kAgo_0_eq, kAgo_1_eq]
  simp only [V.toInt]
  refine ⟨?_, ?_, ?_, ?_, ?_, ?_, ?_, ?_⟩ <;> grind
theorem ins {t d : Int} (h : isT t) (h' : isT d) : tAdd_0 t d = (if t + d ≤ 1125899906842624 then t + d else 0) ∧ tAdd_1 t d = decide (t + d ≤ 1125899906842624) ∧ tStop_0 t d = (if t + d ≤ 1125899906842624 then t + d else 1125899906842624) ∧
    kLess_0 t d = (if d ≤ t then t - d else 0) ∧ kLess_1 t d = (if d ≤ t then 0 else 2) ∧ kAgo_0 t d = (if d ≤ t then t - d else 0) ∧ kAgo_1 t d = 0 := by
  unfold isT at h h'
  have e1 : tAdd_0 t d = (if t + d ≤ 1125899906842624 then t + d else 0) ∧ tAdd_1 t d = decide (t + d ≤ 1125899906842624) := by
    rw [tAdd_0_eq, tAdd_1_eq, IntWalk.i64_in (t + d) ⟨by omega, by omega⟩, IntWalk.i64_in ((1125899906842624 : Int) - t) ⟨by omega, by omega⟩]
    simp only [V.toInt, V.toBool]
    constructor <;> grind
  refine ⟨e1.1, e1.2, ?_, ?_, ?_, ?_, ?_⟩
  · rw [tStop_0_eq, e1.1, e1.2]; simp only [V.toInt]; grind
  · rw [kLess_0_eq, IntWalk.i64_in (t - d) ⟨by omega, by omega⟩]; simp only [V.toInt]; grind
  · rw [kLess_1_eq]; simp only [V.toInt]; grind
  · rw [kAgo_0_eq, IntWalk.i64_in (t - d) ⟨by omega, by omega⟩]; simp only [V.toInt]; grind
  · rw [kAgo_1_eq]; simp only [V.toInt]; grind
end Go.Proofs.YtpeekgekmjldlaaDoor
