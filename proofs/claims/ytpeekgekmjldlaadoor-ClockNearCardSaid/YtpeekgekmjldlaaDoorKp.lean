/- The plain facts of times. -/
import Derived.Test.YtpeekgekmjldlaaDoorKeA
namespace Go.Proofs.YtpeekgekmjldlaaDoor
open Go.Fw

def isT (t : Int) : Prop := 0 ≤ t ∧ t ≤ 1125899906842624
instance (t : Int) : Decidable (isT t) := by unfold isT; infer_instance
theorem kcheck {t : Int} (h : isT t) : kCheck_0 t = 0 := by
  rw [kCheck_0_eq]; simp only [V.toInt]; unfold isT at h; grind
theorem kadd_in {t d : Int} (h : isT t) (h' : isT d) : kAdd_0 t d = (if t + d ≤ 1125899906842624 then t + d else 0) ∧ kAdd_1 t d = (if t + d ≤ 1125899906842624 then 0 else 6) := by
  unfold isT at h h'
  rw [kAdd_0_eq, kAdd_1_eq, IntWalk.i64_in (t + d) ⟨by omega, by omega⟩]
  simp only [V.toInt]
  constructor <;> grind
theorem kadd_out {t d : Int} (h : ¬ (isT t ∧ isT d)) : kAdd_1 t d ≠ 0 ∧ kAdd_1 t d ≠ 6 := by
  unfold isT at h
  rw [kAdd_1_eq]
  simp only [V.toInt]
  constructor <;> grind
theorem kstop_in {t d : Int} (h : isT t) (h' : isT d) : kStop_0 t d = (if t + d ≤ 1125899906842624 then t + d else 1125899906842624) ∧ kStop_1 t d = 0 := by
  unfold isT at h h'
  rw [kStop_0_eq, kStop_1_eq, IntWalk.i64_in (t + d) ⟨by omega, by omega⟩]
  simp only [V.toInt]
  constructor <;> grind
theorem kless_in {t d : Int} (h : isT t) (h' : isT d) (hd : d ≤ t) : kLess_0 t d = t - d ∧ kLess_1 t d = 0 := by
  unfold isT at h h'
  rw [kLess_0_eq, kLess_1_eq, IntWalk.i64_in (t - d) ⟨by omega, by omega⟩]
  simp only [V.toInt]
  constructor <;> grind
theorem kago_in {t d : Int} (h : isT t) (h' : isT d) (hd : d ≤ t) : kAgo_0 t d = t - d ∧ kAgo_1 t d = 0 := by
  unfold isT at h h'
  rw [kAgo_0_eq, kAgo_1_eq, IntWalk.i64_in (t - d) ⟨by omega, by omega⟩]
  simp only [V.toInt]
  constructor <;> grind
end Go.Proofs.YtpeekgekmjldlaaDoor
