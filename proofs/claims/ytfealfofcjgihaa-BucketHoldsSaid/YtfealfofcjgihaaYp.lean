/- The plain facts of buckets. -/
import Derived.Test.YtfealfofcjgihaaYeA
namespace Go.Proofs.Ytfealfofcjgihaa
open Go.Fw

def good (c t : Int) : Prop := 0 ≤ c ∧ c ≤ 800 ∧ -8000000000 ≤ t ∧ t ≤ c * 100000000 ∧ (c = 0 → t = 0)
instance (c t : Int) : Decidable (good c t) := by unfold good; infer_instance

theorem bcheck (c t : Int) : bCheck_0 c t = if good c t then 0 else 210 := by
  rw [bCheck_0_eq]
  by_cases h : 0 ≤ c ∧ c ≤ 800
  · rw [IntWalk.i64_in (c * 100000000) ⟨by omega, by omega⟩]
    simp only [V.toInt, good]
    grind
  · simp only [V.toInt, good]
    have h' : c < 0 ∨ c > 800 := by omega
    rcases h' with h' | h'
    · have : ¬ (0 ≤ c) := by omega
      simp [h', this]
    · have : ¬ (c ≤ 800) := by omega
      simp [h', this]
theorem bdry (c t : Int) : bDry_0 c t = decide (good c t ∧ 0 < c ∧ t ≤ 0) := by
  rw [bDry_0_eq, bcheck]
  simp only [V.toBool]
  grind
theorem pass0 {c t dt : Int} (h : good c t) (hd : 0 ≤ dt ∧ dt ≤ 10000000) : bPass_0 c t dt 0 = c ∧ bPass_1 c t dt 0 = (if c = 0 then t else if c * 100000000 < t + c * dt then c * 100000000 else t + c * dt) ∧ bPass_2 c t dt 0 = 0 := by
  have hg := h
  unfold good at hg
  have e1 : IntKind.wrap IntKind.i64 ((100 : Int) * 0) = 0 := by decide
  have hm : 0 ≤ c * dt ∧ c * dt ≤ 8000000000 := by
    constructor
    · exact Int.mul_nonneg hg.1 hd.1
    · have h1 : c * dt ≤ 800 * dt := Int.mul_le_mul_of_nonneg_right hg.2.1 hd.1
      omega
  rw [bPass_0_eq, bPass_1_eq, bPass_2_eq, bcheck, if_pos h, e1, IntWalk.i64_in (c - 0) ⟨by omega, by omega⟩, Int.sub_zero, IntWalk.i64_in (c * dt) ⟨by omega, by omega⟩, IntWalk.i64_in (t + c * dt) ⟨by omega, by omega⟩, IntWalk.i64_in (c * 100000000) ⟨by omega, by omega⟩]
  have h1 : ¬ dt < 0 := by omega
  have h2 : ¬ dt > 10000000 := by omega
  simp only [V.toInt]
  by_cases h0 : c = 0
  · subst h0
    have ht : t = 0 := by omega
    subst ht
    refine ⟨?_, ?_, ?_⟩ <;> simp [h1, h2]
  · have h3 : (c == 0) = false := by simp [h0]
    refine ⟨?_, ?_, ?_⟩ <;> simp [h1, h2, h3, h0]
end Go.Proofs.Ytfealfofcjgihaa
