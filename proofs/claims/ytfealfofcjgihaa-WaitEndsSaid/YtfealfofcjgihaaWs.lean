/- The plain law of WaitEnds. -/
import Derived.Test.YtfealfofcjgihaaWr
namespace Go.Proofs.Ytfealfofcjgihaa
open Go.Fw

theorem runs_eq (s p po u : Int) : wRuns_0 s p po u = decide (s = 1 ∧ p = 0 ∧ po = 0 ∧ u = 0) := by
  rw [wRuns_0_eq, wcheck]
  simp only [V.toBool]
  rw [Bool.eq_iff_iff, decide_eq_true_eq]
  by_cases h : fit s p po u
  · simp [h]
  · have hn : ¬ (s = 1 ∧ p = 0 ∧ po = 0 ∧ u = 0) := by
      rintro ⟨rfl, rfl, rfl, rfl⟩
      exact h (by unfold fit; omega)
    simp [h]; omega
def sees (b e : Int) : Bool := IntKind.wrap IntKind.u32 ↑(BitVec.toNat (BitVec.ofInt (IntKind.bits IntKind.u32) b &&& BitVec.ofInt (IntKind.bits IntKind.u32) e)) != 0
def asks (b c : Int) : Prop := ¬ (b = 0 ∧ c = 0) ∧ 0 ≤ c ∧ c ≤ 1125899906842624
instance (b c : Int) : Decidable (asks b c) := by unfold asks; infer_instance
def goes (b c d e : Int) : Bool := sees b e || (decide (c ≠ 0) && decide (c ≤ d))
theorem fit_runs : fit 1 0 0 0 := by unfold fit; omega
theorem poll_out {b c : Int} (h : ¬ asks b c) (d e : Int) : wPoll_0 1 0 0 0 b c d e = 0 ∧ wPoll_1 1 0 0 0 b c d e = 0 ∧ wPoll_2 1 0 0 0 b c d e = 0 ∧ wPoll_3 1 0 0 0 b c d e = 0 ∧ wPoll_4 1 0 0 0 b c d e = false ∧ wPoll_5 1 0 0 0 b c d e = 2 := by
  rw [wPoll_0_eq, wPoll_1_eq, wPoll_2_eq, wPoll_3_eq, wPoll_4_eq, wPoll_5_eq, wcheck, if_pos fit_runs, runs_eq]
  unfold asks at h
  by_cases hb : b = 0
  · by_cases hc : c = 0
    · simp [V.toInt, V.toBool, hb, hc]
    · by_cases h1 : c < 0
      · simp [V.toInt, V.toBool, hb, h1]
      · have h2 : c > 1125899906842624 := by omega
        simp [V.toInt, V.toBool, hb, h1, h2]
  · by_cases h1 : c < 0
    · simp [V.toInt, V.toBool, h1]
    · have h2 : c > 1125899906842624 := by omega
      simp [V.toInt, V.toBool, h1, h2]
theorem poll_in {b c : Int} (h : asks b c) (d e : Int) : wPoll_0 1 0 0 0 b c d e = (bif goes b c d e then 1 else 3) ∧ wPoll_1 1 0 0 0 b c d e = 0 ∧ wPoll_2 1 0 0 0 b c d e = (bif goes b c d e then 0 else b) ∧ wPoll_3 1 0 0 0 b c d e = (bif goes b c d e then 0 else c) ∧
    wPoll_4 1 0 0 0 b c d e = !goes b c d e ∧ wPoll_5 1 0 0 0 b c d e = 0 := by
  rw [wPoll_0_eq, wPoll_1_eq, wPoll_2_eq, wPoll_3_eq, wPoll_4_eq, wPoll_5_eq, wcheck, if_pos fit_runs, runs_eq]
  unfold asks at h
  unfold goes sees
  generalize (IntKind.wrap IntKind.u32 ↑(BitVec.toNat (BitVec.ofInt (IntKind.bits IntKind.u32) b &&& BitVec.ofInt (IntKind.bits IntKind.u32) e)) != 0) = z
  have h1 : ¬ c < 0 := by omega
  have h2 : ¬ c > 1125899906842624 := by omega
  by_cases hb : b = 0
  · have hc : c ≠ 0 := fun hc => h.1 ⟨hb, hc⟩
    have c0 : (c == 0) = false := by simp [hc]
    have c1 : (c != 0) = true := by simp [hc]
    by_cases hd : c ≤ d <;> cases z <;> simp [V.toInt, V.toBool, hb, hc, c0, c1, h1, h2, hd]
  · by_cases hc : c = 0
    · subst hc
      have b0 : (b == 0) = false := by simp [hb]
      cases z <;> simp [V.toInt, V.toBool, b0]
    · have c0 : (c == 0) = false := by simp [hc]
      have c1 : (c != 0) = true := by simp [hc]
      have b0 : (b == 0) = false := by simp [hb]
      by_cases hd : c ≤ d <;> cases z <;> simp [V.toInt, V.toBool, hc, b0, c0, c1, h1, h2, hd]

theorem round_true {a u : Int} (h : fit 3 0 a u) {i : Int} (hi : 0 ≤ i ∧ i < 32) (K : Bool) : roundE 3 0 a u a i K = K := by
  obtain ⟨e0, e1, e2, e3, e4, e5⟩ := event_in h hi true
  obtain ⟨f0, f1, f2, f3, f4, f5⟩ := event_in h hi false
  unfold roundE
  rw [e0, e1, e2, e3, e4, e5, f0, f1, f2, f3, f4, f5, runs_eq, runs_eq]
  unfold rings
  generalize bit a i = z
  cases z <;> simp
theorem rounds_true {a u : Int} (h : fit 3 0 a u) (K : Bool) : ∀ (n i : Nat), i + n ≤ 32 → roundsE 3 0 a u a K n i = K := by
  intro n
  induction n with
  | zero => intro i _; rfl
  | succ n ih =>
    intro i hi
    rw [roundsE, ih (i + 1) (by omega)]
    exact round_true h ⟨Int.natCast_nonneg i, by show (i : Int) < 32; omega⟩ K
theorem tail_true {a u t : Int} (h : fit 3 0 a u) (hg : u ≠ 0 → ¬ u ≤ t) : tailE 3 0 a u u t = true := by
  have hf := h
  unfold fit at hf
  unfold tailE
  have d0 : wDue_0 3 0 a u = u := by
    rw [wDue_0_eq, wcheck, if_pos h]
    by_cases hu : u = 0
    · simp [V.toInt, hu]
    · have u0 : (u == 0) = false := by simp [hu]
      simp [V.toInt, u0]
  have d1 : wDue_1 3 0 a u = decide (u ≠ 0) := by
    rw [wDue_1_eq, wcheck, if_pos h]
    by_cases hu : u = 0
    · simp [V.toBool, hu]
    · have u0 : (u == 0) = false := by simp [hu]
      simp [V.toBool, u0, hu]
  rw [d0, d1]
  by_cases hu : u = 0
  · subst hu
    obtain ⟨t0, t1, t2, t3, t4, t5⟩ := time_in h 1125899906842624
    rw [t0, t1, t2, t3, t4, t5]
    simp [ends]
  · rw [IntWalk.i64_in (u - 1) ⟨by omega, by omega⟩]
    obtain ⟨t0, t1, t2, t3, t4, t5⟩ := time_in h (u - 1)
    obtain ⟨s0, s1, s2, s3, s4, s5⟩ := time_in h u
    rw [t0, t1, t2, t3, t4, t5, s0, s1, s2, s3, s4, s5, runs_eq]
    have x1 : ends u (u - 1) = false := by unfold ends; simp; omega
    have x2 : ends u u = true := by unfold ends; simp; omega
    have := hg hu
    rw [x1, x2]
    simp [hu]; omega
theorem ends_true (a0 a1 a2 a3 b : Int) : lwEnds_0 a0 a1 a2 a3 b = true := by
  rw [lwEnds_0_eq]
  have hc : 0 ≤ Int.tmod (if 0 > b then 0 else b) 32 ∧ Int.tmod (if 0 > b then 0 else b) 32 < 32 := by
    have hp : 0 ≤ (if 0 > b then 0 else b) := by split <;> omega
    rw [Int.tmod_eq_emod_of_nonneg hp]
    omega
  generalize Int.tmod (if 0 > b then 0 else b) 32 = c at hc ⊢
  unfold headE
  have hb : fit 2 0 0 0 := by unfold fit; omega
  obtain ⟨e0, e1, e2, e3, e4, e5⟩ := event_in hb hc true
  obtain ⟨f0, f1, f2, f3, f4, f5⟩ := event_in hb hc false
  have r1 : rings 2 0 c true = false := by simp [rings]
  have r2 : rings 2 0 c false = true := by simp [rings]
  rw [e0, e1, e2, e3, e4, e5, f0, f1, f2, f3, f4, f5, runs_eq, r1, r2]
  by_cases ha : asks a0 a2
  · obtain ⟨p0, p1, p2, p3, p4, p5⟩ := poll_in ha a3 a1
    rw [p0, p1, p2, p3, p4, p5, runs_eq]
    cases hg : goes a0 a2 a3 a1
    · have h3 : fit 3 0 a0 a2 := by unfold asks at ha; unfold fit; omega
      have ht : a2 ≠ 0 → ¬ a2 ≤ a3 := by
        intro h1 h2
        unfold goes at hg
        simp [h1, h2] at hg
      simp only [cond_false]
      rw [rounds_true h3 _ 32 0 (by omega), tail_true h3 ht]
      simp
    · simp
  · obtain ⟨p0, p1, p2, p3, p4, p5⟩ := poll_out ha a3 a1
    rw [p0, p1, p2, p3, p5]
    simp
end Go.Proofs.Ytfealfofcjgihaa
