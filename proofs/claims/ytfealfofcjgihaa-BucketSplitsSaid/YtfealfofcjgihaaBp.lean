/- The plain laws of buckets: what the layer's functions compute, against the document's. -/
import Derived.Test.YtfealfofcjgihaaBeA
import Derived.Test.YtfealfofcjgihaaBeL
namespace Go.Proofs.Ytfealfofcjgihaa
open Go.Fw

theorem wrap64 {n : Int} (h1 : -9223372036854775808 ≤ n) (h2 : n ≤ 9223372036854775807) : IntKind.wrap IntKind.i64 n = n :=
  IntWalk.i64_in n ⟨h1, by omega⟩

def good (c t : Int) : Prop := 0 ≤ c ∧ c ≤ 800 ∧ -8000000000 ≤ t ∧ t ≤ c * 100000000 ∧ (c = 0 → t = 0)
instance (c t : Int) : Decidable (good c t) := by unfold good; infer_instance

theorem check_good {c t : Int} (h : good c t) : bCheck_0 c t = 0 := by
  unfold good at h
  rw [bCheck_0_eq, wrap64 (n := c * 100000000) (by omega) (by omega)]
  simp only [V.toInt, Bool.cond_eq_ite, decide_eq_true_eq, beq_iff_eq, Bool.not_eq_true', Bool.and_eq_false_iff, beq_eq_false_iff_ne, Bool.and_true]
  repeat' split
  all_goals first | rfl | omega
theorem check_bad {c t : Int} (h : ¬ good c t) : bCheck_0 c t = 210 := by
  unfold good at h
  rw [bCheck_0_eq]
  by_cases h0 : 0 ≤ c ∧ c ≤ 800
  · rw [wrap64 (n := c * 100000000) (by omega) (by omega)]
    simp only [V.toInt, Bool.cond_eq_ite, decide_eq_true_eq, beq_iff_eq, Bool.not_eq_true', Bool.and_eq_false_iff, beq_eq_false_iff_ne, Bool.and_true]
    repeat' split
    all_goals first | rfl | omega
  · simp only [V.toInt, Bool.cond_eq_ite, decide_eq_true_eq]
    repeat' split
    all_goals first | rfl | omega
theorem right_good {c t : Int} (h : good c t) : rRight_0 c t = true := by
  unfold good at h
  rw [rRight_0_eq, wrap64 (n := c * 100000000) (by omega) (by omega)]
  simp only [V.toBool, Bool.cond_eq_ite, decide_eq_true_eq, beq_iff_eq]
  repeat' split
  all_goals first | rfl | omega | (simp; omega)
theorem right_bad {c t : Int} (h : ¬ good c t) : rRight_0 c t = false := by
  unfold good at h
  rw [rRight_0_eq]
  by_cases h0 : 0 ≤ c ∧ c ≤ 800
  · rw [wrap64 (n := c * 100000000) (by omega) (by omega)]
    simp only [V.toBool, Bool.cond_eq_ite, decide_eq_true_eq, beq_iff_eq]
    repeat' split
    all_goals first | rfl | omega | (simp; omega)
  · simp only [V.toBool, Bool.cond_eq_ite, decide_eq_true_eq]
    repeat' split
    all_goals first | rfl | omega
theorem dry_good {c t : Int} (h : good c t) : bDry_0 c t = decide (0 < c ∧ t ≤ 0) := by
  rw [bDry_0_eq, check_good h]
  simp only [V.toBool]
  rw [Bool.eq_iff_iff]
  by_cases h1 : 0 < c <;> simp [h1]
theorem dry_bad {c t : Int} (h : ¬ good c t) : bDry_0 c t = false := by
  rw [bDry_0_eq, check_bad h]; rfl
theorem rdry_eq (c t : Int) : rDry_0 c t = decide (0 < c ∧ t ≤ 0) := by
  rw [rDry_0_eq]
  simp only [V.toBool]
  rw [Bool.eq_iff_iff]
  by_cases h1 : 0 < c <;> simp [h1]
theorem mul_bounds {x y X Y : Int} (hx : 0 ≤ x) (hX : x ≤ X) (hy : 0 ≤ y) (hY : y ≤ Y) : 0 ≤ x * y ∧ x * y ≤ X * Y :=
  ⟨Int.mul_nonneg hx hy, Int.mul_le_mul hX hY hy (Int.le_trans hx hX)⟩

theorem pass_all (c t dt n : Int) : bPass_0 c t dt n = rPass_0 c t dt n ∧ bPass_1 c t dt n = rPass_1 c t dt n ∧ bPass_2 c t dt n = rPass_2 c t dt n := by
  rw [bPass_0_eq, bPass_1_eq, bPass_2_eq, rPass_0_eq, rPass_1_eq, rPass_2_eq, rdry_eq]
  by_cases hg : good c t
  · rw [check_good hg, dry_good hg, right_good hg]
    by_cases d1 : dt < 0
    · simp [V.toInt, d1]
    by_cases d2 : dt > 10000000
    · simp [V.toInt, d1, d2]
    by_cases d3 : n < 0
    · simp [V.toInt, d1, d2, d3]
    by_cases d4 : n > 8
    · simp [V.toInt, d1, d2, d3, d4]
    have h1 : 0 ≤ dt := by omega
    have h2 : dt ≤ 10000000 := by omega
    have h3 : 0 ≤ n := by omega
    have h4 : n ≤ 8 := by omega
    have hg' := hg
    unfold good at hg'
    have b1 := mul_bounds hg'.1 hg'.2.1 h1 h2
    have b2 := mul_bounds h3 h4 h1 h2
    have e3 : (c - 100 * n) * dt = c * dt - 100 * (n * dt) := by rw [Int.sub_mul, Int.mul_assoc]
    have e4 : 100 * n * dt = 100 * (n * dt) := Int.mul_assoc _ _ _
    rw [wrap64 (n := c * 100000000) (by omega) (by omega), wrap64 (n := 100 * n) (by omega) (by omega), wrap64 (n := c - 100 * n) (by omega) (by omega), e3, e4]
    generalize c * dt = p at *
    generalize n * dt = q at *
    rw [wrap64 (n := p - 100 * q) (by omega) (by omega), wrap64 (n := t + (p - 100 * q)) (by omega) (by omega), wrap64 (n := p) (by omega) (by omega), wrap64 (n := t + p) (by omega) (by omega),
      wrap64 (n := 100 * q) (by omega) (by omega), wrap64 (n := t + p - 100 * q) (by omega) (by omega)]
    have e5 : t + (p - 100 * q) = t + p - 100 * q := by omega
    rw [e5]
    simp only [V.toInt, d1, d2, d3, d4, decide_false, cond_false, bne_self_eq_false, Bool.not_true]
    by_cases hd : 0 < c ∧ t ≤ 0 <;> by_cases hn : n > 0 <;> by_cases hdt : dt > 0 <;> by_cases hc : c = 0 <;> by_cases hm : c * 100000000 < t + p - 100 * q <;> simp [hd, hn, hdt, hc, hm] <;> omega
  · rw [check_bad hg, dry_bad hg, right_bad hg]
    simp [V.toInt]
theorem passes_true (c t dt n : Int) : lPasses_0 c t dt n = true := by
  obtain ⟨h1, h2, h3⟩ := pass_all c t dt n
  rw [lPasses_0_eq, h1, h2, h3]
  simp [V.toBool]
end Go.Proofs.Ytfealfofcjgihaa
