/- The plain laws of buckets, more: BucketTells, BucketChanges, BucketSplits. -/
import Derived.Test.YtfealfofcjgihaaBp
import Derived.Test.YtfealfofcjgihaaBeB
import Derived.Test.YtfealfofcjgihaaBeM
namespace Go.Proofs.Ytfealfofcjgihaa
open Go.Fw

theorem div_facts {t c : Int} (hc : 0 < c) (ht : t ≤ 0) : 0 ≤ Int.tdiv (0 - t) c ∧ c * Int.tdiv (0 - t) c ≤ 0 - t ∧ 0 - t < c * Int.tdiv (0 - t) c + c ∧ Int.tdiv (0 - t) c ≤ 0 - t := by
  have e : Int.tdiv (0 - t) c = (0 - t) / c := Int.tdiv_eq_ediv_of_nonneg (by omega)
  rw [e]
  have h1 := Int.mul_ediv_add_emod (0 - t) c
  have h2 := Int.emod_nonneg (0 - t) (show c ≠ 0 by omega)
  have h3 := Int.emod_lt_of_pos (0 - t) hc
  have h4 : 0 ≤ (0 - t) / c := Int.ediv_nonneg (by omega) (by omega)
  have h5 : (0 - t) / c ≤ 0 - t := Int.ediv_le_self _ (by omega)
  generalize (0 - t) / c = q at *
  generalize c * q = p at *
  omega

theorem tells_true (c t : Int) : lTells_0 c t = true := by
  rw [lTells_0_eq, bDepth_0_eq, bWait_0_eq, bWait_1_eq, rdry_eq]
  by_cases hg : good c t
  · rw [check_good hg, dry_good hg, right_good hg, rDepth_0_eq]
    by_cases hd : 0 < c ∧ t ≤ 0
    · obtain ⟨h1, h2, h3, h4⟩ := div_facts hd.1 hd.2
      unfold good at hg
      rw [wrap64 (n := c * 100000000) (by omega) (by omega), wrap64 (n := 0 - t) (by omega) (by omega)]
      generalize Int.tdiv (0 - t) c = q at *
      have hd' : decide (0 < c ∧ t ≤ 0) = true := by simp [hd]
      have e1 : c * (q + 1) = c * q + c := by rw [Int.mul_add, Int.mul_one]
      have e2 : q + 1 - 1 = q := by omega
      rw [wrap64 (n := q) (by omega) (by omega), wrap64 (n := q + 1) (by omega) (by omega), hd']
      simp only [V.toBool, V.toInt, Bool.not_true, cond_false, bne_self_eq_false, beq_self_eq_true]
      rw [e1, e2, wrap64 (n := q) (by omega) (by omega)]
      generalize c * q = p at *
      rw [wrap64 (n := p + c) (by omega) (by omega), wrap64 (n := p) (by omega) (by omega), wrap64 (n := t + (p + c)) (by omega) (by omega), wrap64 (n := t + p) (by omega) (by omega)]
      have g1 : q + 1 > 0 := by omega
      have g2 : t + (p + c) > 0 := by omega
      have g3 : t + p ≤ 0 := by omega
      simp [g1, g2, g3]
    · simp [V.toBool, V.toInt, hd]
  · rw [check_bad hg, dry_bad hg, right_bad hg]
    simp [V.toBool, V.toInt]

theorem new_in {n : Int} (h : 0 ≤ n ∧ n ≤ 800) : bNew_0 n = n ∧ bNew_1 n = n * 100000000 ∧ bNew_2 n = 0 := by
  rw [bNew_0_eq, bNew_1_eq, bNew_2_eq, wrap64 (n := n * 100000000) (by omega) (by omega)]
  have h1 : ¬ n < 0 := by omega
  have h2 : ¬ n > 800 := by omega
  simp [V.toInt, h1, h2]
theorem new_out {n : Int} (h : ¬ (0 ≤ n ∧ n ≤ 800)) : bNew_0 n = 0 ∧ bNew_1 n = 0 ∧ bNew_2 n = 2 := by
  rw [bNew_0_eq, bNew_1_eq, bNew_2_eq]
  by_cases h1 : n < 0
  · simp [V.toInt, h1]
  · have h2 : n > 800 := by omega
    simp [V.toInt, h1, h2]
theorem change_bad {c t : Int} (h : ¬ good c t) (n : Int) : bChange_0 c t n = 0 ∧ bChange_1 c t n = 0 ∧ bChange_2 c t n = 210 := by
  rw [bChange_0_eq, bChange_1_eq, bChange_2_eq, check_bad h]
  simp [V.toInt]
theorem change_out {c t n : Int} (h : good c t) (hn : ¬ (0 ≤ n ∧ n ≤ 800)) : bChange_0 c t n = 0 ∧ bChange_1 c t n = 0 ∧ bChange_2 c t n = 2 := by
  obtain ⟨h0, h1, h2⟩ := new_out hn
  rw [bChange_0_eq, bChange_1_eq, bChange_2_eq, check_good h, h0, h1, h2]
  simp [V.toInt]
theorem change_in {c t n : Int} (h : good c t) (hn : 0 ≤ n ∧ n ≤ 800) : bChange_0 c t n = n ∧ bChange_1 c t n = (if 0 < n ∧ 0 < c ∧ t < n * 100000000 then t else n * 100000000) ∧ bChange_2 c t n = 0 := by
  obtain ⟨h0, h1, h2⟩ := new_in hn
  rw [bChange_0_eq, bChange_1_eq, bChange_2_eq, check_good h, h0, h1, h2, wrap64 (n := n * 100000000) (by omega) (by omega)]
  refine ⟨by simp [V.toInt], ?_, by simp [V.toInt]⟩
  by_cases a : n > 0 <;> by_cases b : c > 0 <;> simp [V.toInt, a, b] <;> repeat' split
  all_goals omega
theorem rchange_in {c t n : Int} (hn : 0 ≤ n ∧ n ≤ 800) : rChange_0 c t n = n ∧ rChange_1 c t n = (if 0 < n ∧ 0 < c ∧ t < n * 100000000 then t else n * 100000000) := by
  rw [rChange_0_eq, rChange_1_eq, wrap64 (n := n * 100000000) (by omega) (by omega)]
  by_cases a : n = 0
  · subst a; simp [V.toInt]
  · have a' : n > 0 := by omega
    have a'' : (n == 0) = false := by simp [a]
    by_cases b : c > 0 <;> by_cases d : t < n * 100000000 <;> simp [V.toInt, a', a'', b, d]

def fits (n t g r : Int) : Prop := 1 ≤ n ∧ n ≤ 800 ∧ 0 ≤ t ∧ t ≤ 1125899906842624 ∧ 0 ≤ g ∧ g ≤ 10000000 ∧ 0 ≤ r ∧ r ≤ 8
instance (n t g r : Int) : Decidable (fits n t g r) := by unfold fits; infer_instance
theorem bound_out {n t g r : Int} (h : ¬ fits n t g r) : bBound_0 n t g r = 0 ∧ bBound_1 n t g r = 2 := by
  unfold fits at h
  rw [bBound_0_eq, bBound_1_eq]
  simp only [V.toInt, Bool.cond_eq_ite, decide_eq_true_eq]
  constructor <;> repeat' split
  all_goals first | rfl | omega
theorem bound_in {n t g r : Int} (h : fits n t g r) : bBound_0 n t g r = n * 100000000 + n * t + 100 * r * g ∧ bBound_1 n t g r = 0 := by
  unfold fits at h
  rw [bBound_0_eq, bBound_1_eq]
  have b1 := mul_bounds (show 0 ≤ n by omega) (show n ≤ 800 by omega) h.2.2.1 h.2.2.2.1
  have b2 := mul_bounds (show 0 ≤ 100 * r by omega) (show 100 * r ≤ 800 by omega) h.2.2.2.2.1 h.2.2.2.2.2.1
  rw [wrap64 (n := 100 * r) (by omega) (by omega)]
  generalize n * t = p at *
  generalize 100 * r * g = q at *
  rw [wrap64 (n := n * 100000000) (by omega) (by omega), wrap64 (n := p) (by omega) (by omega), wrap64 (n := q) (by omega) (by omega), wrap64 (n := n * 100000000 + p) (by omega) (by omega), wrap64 (n := n * 100000000 + p + q) (by omega) (by omega)]
  simp only [V.toInt, Bool.cond_eq_ite, decide_eq_true_eq]
  constructor <;> repeat' split
  all_goals first | rfl | omega

/-- The law's last part, wherever it stands. -/
theorem bound_part (b c0 c1 c2 : Int) :
    (bif decide (b < 1) then bif bBound_0 b c0 c1 c2 == 0 then bBound_1 b c0 c1 c2 == 2 else false
    else bif decide (b > 800) then bif bBound_0 b c0 c1 c2 == 0 then bBound_1 b c0 c1 c2 == 2 else false
    else bif decide (c0 < 0) then bif bBound_0 b c0 c1 c2 == 0 then bBound_1 b c0 c1 c2 == 2 else false
    else bif decide (c0 > 1125899906842624) then bif bBound_0 b c0 c1 c2 == 0 then bBound_1 b c0 c1 c2 == 2 else false
    else bif decide (c1 < 0) then bif bBound_0 b c0 c1 c2 == 0 then bBound_1 b c0 c1 c2 == 2 else false
    else bif decide (c1 > 10000000) then bif bBound_0 b c0 c1 c2 == 0 then bBound_1 b c0 c1 c2 == 2 else false
    else bif decide (c2 < 0) then bif bBound_0 b c0 c1 c2 == 0 then bBound_1 b c0 c1 c2 == 2 else false
    else bif decide (c2 > 8) then bif bBound_0 b c0 c1 c2 == 0 then bBound_1 b c0 c1 c2 == 2 else false
    else bif bBound_1 b c0 c1 c2 == 0 then bBound_0 b c0 c1 c2 == IntKind.wrap IntKind.i64 (IntKind.wrap IntKind.i64 (IntKind.wrap IntKind.i64 (b * c0) + rDepth_0 b) + IntKind.wrap IntKind.i64 (IntKind.wrap IntKind.i64 (100 * c2) * c1))
    else false) = true := by
  by_cases h : fits b c0 c1 c2
  · obtain ⟨e1, e2⟩ := bound_in h
    rw [e1, e2, rDepth_0_eq]
    unfold fits at h
    have b1 := mul_bounds (show 0 ≤ b by omega) (show b ≤ 800 by omega) h.2.2.1 h.2.2.2.1
    have b2 := mul_bounds (show 0 ≤ 100 * c2 by omega) (show 100 * c2 ≤ 800 by omega) h.2.2.2.2.1 h.2.2.2.2.2.1
    rw [wrap64 (n := 100 * c2) (by omega) (by omega)]
    generalize b * c0 = p at *
    generalize 100 * c2 * c1 = q at *
    simp only [V.toInt]
    rw [wrap64 (n := b * 100000000) (by omega) (by omega), wrap64 (n := p) (by omega) (by omega), wrap64 (n := q) (by omega) (by omega), wrap64 (n := p + b * 100000000) (by omega) (by omega), wrap64 (n := p + b * 100000000 + q) (by omega) (by omega)]
    simp only [Bool.cond_eq_ite, decide_eq_true_eq]
    repeat' split
    all_goals first | rfl | omega | (simp at *; omega) | simp_all
  · obtain ⟨e1, e2⟩ := bound_out h
    rw [e1, e2]
    unfold fits at h
    simp only [Bool.cond_eq_ite, decide_eq_true_eq]
    repeat' split
    all_goals first | rfl | omega | simp_all

theorem changes_true (c t n x y z : Int) : lChanges_0 c t n x y z = true := by
  have hb := bound_part n x y z
  rw [lChanges_0_eq]
  simp only [V.toBool]
  generalize (bif decide (n < 1) then _ else _ : Bool) = B at hb ⊢
  subst hb
  by_cases hn : 0 ≤ n ∧ n ≤ 800
  · obtain ⟨a0, a1, a2⟩ := new_in hn
    obtain ⟨r0, r1⟩ := rchange_in (c := 0) (t := 0) hn
    have n1 : n ≥ 0 := hn.1
    have n2 : n ≤ 800 := hn.2
    by_cases hg : good c t
    · obtain ⟨k0, k1, k2⟩ := change_in hg hn
      obtain ⟨q0, q1⟩ := rchange_in (c := c) (t := t) hn
      rw [a0, a1, a2, r0, r1, k0, k1, k2, q0, q1, right_good hg]
      simp [n1, n2]
    · obtain ⟨k0, k1, k2⟩ := change_bad hg n
      rw [a0, a1, a2, r0, r1, k0, k1, k2, right_bad hg]
      simp [n1, n2]
  · obtain ⟨a0, a1, a2⟩ := new_out hn
    by_cases hg : good c t
    · obtain ⟨k0, k1, k2⟩ := change_out hg hn
      rw [a0, a1, a2, k0, k1, k2, right_good hg]
      by_cases n1 : n ≥ 0
      · have n2 : ¬ n ≤ 800 := by omega
        simp [n1, n2]
      · simp [n1]
    · obtain ⟨k0, k1, k2⟩ := change_bad hg n
      rw [a0, a1, a2, k0, k1, k2, right_bad hg]
      by_cases n1 : n ≥ 0
      · have n2 : ¬ n ≤ 800 := by omega
        simp [n1, n2]
      · simp [n1]

theorem pass_err {c t dt n : Int} (h : rPass_2 c t dt n ≠ 0) : rPass_0 c t dt n = 0 ∧ rPass_1 c t dt n = 0 := by
  revert h
  rw [rPass_0_eq, rPass_1_eq, rPass_2_eq, rdry_eq]
  simp only [V.toInt]
  generalize rRight_0 c t = r
  cases r
  · simp
  by_cases d1 : dt < 0
  · simp [d1]
  by_cases d2 : dt > 10000000
  · simp [d1, d2]
  by_cases d3 : n < 0
  · simp [d1, d2, d3]
  by_cases d4 : n > 8
  · simp [d1, d2, d3, d4]
  by_cases hd : 0 < c ∧ t ≤ 0
  · by_cases hn : n > 0
    · by_cases hdt : dt > 0
      · simp [d1, d2, d3, d4, hd, hn, hdt]
      · simp [d1, d2, d3, d4, hd, hn, hdt]
    · simp [d1, d2, d3, d4, hd, hn]
  · simp [d1, d2, d3, d4, hd]
def may (dt n : Int) : Prop := 0 ≤ dt ∧ dt ≤ 10000000 ∧ 0 ≤ n ∧ n ≤ 8
instance (dt n : Int) : Decidable (may dt n) := by unfold may; infer_instance
theorem min_eq (a b : Int) : (if a > b then b else a) = min a b := by
  rw [Int.min_def]; split <;> split <;> omega
theorem pass_ok {c t dt n : Int} : rPass_2 c t dt n = 0 ↔ good c t ∧ may dt n ∧ ¬ (0 < c ∧ t ≤ 0 ∧ 0 < n ∧ 0 < dt) := by
  rw [rPass_2_eq, rdry_eq]
  by_cases hg : good c t
  · rw [right_good hg]
    simp only [V.toInt, Bool.cond_eq_ite, decide_eq_true_eq, Bool.not_true, Bool.false_eq_true, if_false, may]
    repeat' split
    all_goals simp [hg]
    all_goals omega
  · rw [right_bad hg]
    simp [V.toInt, hg]
theorem pass_val {c t dt n : Int} (h : rPass_2 c t dt n = 0) : rPass_0 c t dt n = c ∧ rPass_1 c t dt n = (if c = 0 then t else min (t + c * dt - 100 * (n * dt)) (c * 100000000)) := by
  obtain ⟨hg, hm, hd⟩ := pass_ok.1 h
  rw [rPass_0_eq, rPass_1_eq, rdry_eq, right_good hg]
  have hg' := hg
  unfold good at hg'
  unfold may at hm
  have b1 := mul_bounds hg'.1 hg'.2.1 hm.1 hm.2.1
  have b2 := mul_bounds hm.2.2.1 hm.2.2.2 hm.1 hm.2.1
  have e4 : 100 * n * dt = 100 * (n * dt) := Int.mul_assoc _ _ _
  rw [wrap64 (n := c * 100000000) (by omega) (by omega), wrap64 (n := 100 * n) (by omega) (by omega), e4]
  generalize c * dt = p at *
  generalize n * dt = q at *
  rw [wrap64 (n := p) (by omega) (by omega), wrap64 (n := t + p) (by omega) (by omega), wrap64 (n := 100 * q) (by omega) (by omega), wrap64 (n := t + p - 100 * q) (by omega) (by omega), ← min_eq]
  simp only [V.toInt, Bool.cond_eq_ite, decide_eq_true_eq, Bool.not_true, Bool.false_eq_true, if_false, beq_iff_eq]
  constructor <;> repeat' split
  all_goals first | rfl | omega

theorem change_part {c t : Int} (hg : good c t) (k : Int) :
    (bif bChange_2 c t k != 0 then true
    else bif k == 0 then true
    else bif c == 0 then true
    else bif bChange_2 (bChange_0 c t k) (bChange_1 c t k) c == 0 then
      bif bChange_0 (bChange_0 c t k) (bChange_1 c t k) c == c then
        bif decide (bChange_1 (bChange_0 c t k) (bChange_1 c t k) c ≤ t) then
          bif decide (k < c) then true else bChange_0 (bChange_0 c t k) (bChange_1 c t k) c == c && (bChange_1 (bChange_0 c t k) (bChange_1 c t k) c == t && true)
        else false
      else false
    else false) = true := by
  by_cases hk : 0 ≤ k ∧ k ≤ 800
  · obtain ⟨k0, k1, k2⟩ := change_in hg hk
    have hg0 := hg
    unfold good at hg0
    rw [k0, k1, k2]
    by_cases z1 : k = 0
    · simp [z1]
    by_cases z2 : c = 0
    · simp [z2]
    have hg' : good k (if 0 < k ∧ 0 < c ∧ t < k * 100000000 then t else k * 100000000) := by
      unfold good
      split <;> omega
    obtain ⟨q0, q1, q2⟩ := change_in hg' (n := c) ⟨by omega, by omega⟩
    rw [q0, q1, q2]
    have hle : (if 0 < c ∧ 0 < k ∧ (if 0 < k ∧ 0 < c ∧ t < k * 100000000 then t else k * 100000000) < c * 100000000 then (if 0 < k ∧ 0 < c ∧ t < k * 100000000 then t else k * 100000000) else c * 100000000) ≤ t := by
      repeat' split
      all_goals omega
    have heq : ¬ k < c → (if 0 < c ∧ 0 < k ∧ (if 0 < k ∧ 0 < c ∧ t < k * 100000000 then t else k * 100000000) < c * 100000000 then (if 0 < k ∧ 0 < c ∧ t < k * 100000000 then t else k * 100000000) else c * 100000000) = t := by
      intro _
      repeat' split
      all_goals omega
    generalize (if 0 < c ∧ 0 < k ∧ (if 0 < k ∧ 0 < c ∧ t < k * 100000000 then t else k * 100000000) < c * 100000000 then (if 0 < k ∧ 0 < c ∧ t < k * 100000000 then t else k * 100000000) else c * 100000000) = E at hle heq ⊢
    by_cases hkc : k < c
    · simp [hle, hkc]
    · have := heq hkc
      subst this
      simp [hkc]
  · obtain ⟨k0, k1, k2⟩ := change_out hg hk
    rw [k2]
    rfl

theorem splits_true (c t x y n k : Int) : lSplits_0 c t x y n k = true := by
  have e0 : ∀ c t dt n, bPass_0 c t dt n = rPass_0 c t dt n := fun c t dt n => (pass_all c t dt n).1
  have e1 : ∀ c t dt n, bPass_1 c t dt n = rPass_1 c t dt n := fun c t dt n => (pass_all c t dt n).2.1
  have e2 : ∀ c t dt n, bPass_2 c t dt n = rPass_2 c t dt n := fun c t dt n => (pass_all c t dt n).2.2
  rw [lSplits_0_eq]
  simp only [e0, e1, e2, V.toBool]
  by_cases h : rPass_2 c t x n = 0
  · obtain ⟨hg, hm, hd⟩ := pass_ok.1 h
    obtain ⟨v0, v1⟩ := pass_val h
    have hK := change_part hg k
    generalize (bif bChange_2 c t k != 0 then _ else _ : Bool) = K at hK ⊢
    subst hK
    rw [h, v0]
    by_cases h' : rPass_2 c (rPass_1 c t x n) y n = 0
    · obtain ⟨hg', hm', hd'⟩ := pass_ok.1 h'
      obtain ⟨u0, u1⟩ := pass_val h'
      rw [h', u0, u1]
      have hm0 := hm
      unfold may at hm hm'
      have hgg := hg
      unfold good at hgg
      rw [wrap64 (n := 100 * n) (by omega) (by omega), wrap64 (n := x + y) (by omega) (by omega)]
      by_cases a1 : c ≤ 100 * n
      · by_cases a2 : x + y ≤ 10000000
        · have m1 := Int.mul_nonneg (show 0 ≤ 100 * n - c by omega) hm.1
          have m2 := Int.mul_nonneg (show 0 ≤ 100 * n - c by omega) hm'.1
          rw [Int.sub_mul, Int.mul_assoc] at m1 m2
          have hz : rPass_2 c t (x + y) n = 0 := by
            refine pass_ok.2 ⟨hg, by unfold may; omega, fun ⟨d1, d2, d3, d4⟩ => ?_⟩
            have dx : x = 0 := by omega
            subst dx
            refine hd' ⟨d1, ?_, d3, by omega⟩
            rw [v1, if_neg (by omega), Int.mul_zero, Int.mul_zero]
            omega
          obtain ⟨w0, w1⟩ := pass_val hz
          rw [hz, w0, w1, v1, Int.mul_add, Int.mul_add]
          have hv : (if c = 0 then (if c = 0 then t else min (t + c * x - 100 * (n * x)) (c * 100000000)) else min ((if c = 0 then t else min (t + c * x - 100 * (n * x)) (c * 100000000)) + c * y - 100 * (n * y)) (c * 100000000))
              = if c = 0 then t else min (t + (c * x + c * y) - 100 * (n * x + n * y)) (c * 100000000) := by
            by_cases z : c = 0
            · simp [z]
            · rw [if_neg z, if_neg z, if_neg z]
              generalize c * x = p1 at *
              generalize c * y = p2 at *
              generalize n * x = p3 at *
              generalize n * y = p4 at *
              omega
          rw [hv]
          simp
        · simp [a1, a2]
      · simp [a1]
    · have h'' : (rPass_2 c (rPass_1 c t x n) y n == 0) = false := by simp [h']
      rw [h'']
      simp
  · obtain ⟨p0, p1⟩ := pass_err h
    rw [p0, p1]
    simp [h]
end Go.Proofs.Ytfealfofcjgihaa
