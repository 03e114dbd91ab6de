/- BucketWaits: its law. -/
import Derived.Test.YtfealfofcjgihaaYeV
namespace Go.Proofs.Ytfealfofcjgihaa
open Go.Fw
set_option maxRecDepth 100000

theorem wait_dry {c t : Int} (h : good c t) (hc : 0 < c) (ht : t ≤ 0) : bWait_0 c t = -t / c + 1 ∧ bWait_1 c t = 0 := by
  have hd : bDry_0 c t = true := by rw [bdry]; exact decide_eq_true ⟨h, hc, ht⟩
  have hg := h
  unfold good at hg
  rw [bWait_0_eq, bWait_1_eq, hd, bcheck, if_pos h]
  have q0 : 0 ≤ -t / c := Int.ediv_nonneg (by omega) (by omega)
  have q1 : -t / c ≤ -t := Int.ediv_le_self _ (by omega)
  have e0 : (0 : Int) - t = -t := by omega
  rw [e0, IntWalk.i64_in (-t) ⟨by omega, by omega⟩, Int.tdiv_eq_ediv_of_nonneg (by omega), IntWalk.i64_in (-t / c) ⟨by omega, by omega⟩, IntWalk.i64_in (-t / c + 1) ⟨by omega, by omega⟩]
  simp [V.toInt]
theorem wait_not {c t : Int} (h : ¬ (good c t ∧ 0 < c ∧ t ≤ 0)) : bDry_0 c t = false ∧ (bif bif bWait_1 c t != 0 then true else bWait_0 c t == 0 then true else false) = true := by
  have hd : bDry_0 c t = false := by rw [bdry]; exact decide_eq_false h
  refine ⟨hd, ?_⟩
  rw [bWait_0_eq, bWait_1_eq, hd, bcheck]
  simp only [V.toInt]
  split <;> simp
theorem pass_one {c t left i : Int} (h : wInv c t left i) (hl : left = 0) : bPass_2 c t 1 0 = 0 ∧ bDry_0 (bPass_0 c t 1 0) (bPass_1 c t 1 0) = false := by
  obtain ⟨hg, hc, ht, h0, h1, h2, h3, h4, h5⟩ := h
  subst hl
  obtain ⟨p0, p1, p2⟩ := pass0 (dt := 1) hg ⟨by omega, by omega⟩
  refine ⟨p2, ?_⟩
  rw [p0, p1, if_neg (by omega), bdry]
  simp only [Int.mul_one, Int.mul_zero] at *
  refine decide_eq_false fun h => ?_
  have := h.2.2
  split at this <;> omega
theorem waits_holds (a0 a1 : Int) : Tree.Hold P (evFn (en [c_bCheck, c_bDry, c_bPass, c_bWait] [waitsG]) 400 5 (.cons (.agg (.cons (.int false .i64 a0) (.cons (.int false .i64 a1) .nil))) .nil)) fun r => r.soft = .bool false true := by
  constructor
  rw [waits_tree]
  by_cases h : good a0 a1 ∧ 0 < a0 ∧ a1 ≤ 0
  · obtain ⟨hg, hc, ht⟩ := h
    obtain ⟨w0, w1⟩ := wait_dry hg hc ht
    have hg' := hg
    unfold good at hg'
    have q0 : 0 ≤ -a1 / a0 := Int.ediv_nonneg (by omega) (by omega)
    have q1 : -a1 / a0 ≤ -a1 := Int.ediv_le_self _ (by omega)
    have q2 : a0 * (-a1 / a0) ≤ -a1 := Int.mul_ediv_self_le (by omega)
    have q3 : -a1 < a0 * (-a1 / a0) + a0 := Int.lt_mul_ediv_self_add hc
    rw [w0, w1]
    refine ⟨fun h => ?_, fun _ => ⟨?_, fun x hx => ?_⟩⟩
    · exfalso
      have e : ((-a1 / a0 + 1 : Int) == 0) = false := by simp; omega
      simp [e] at h
    · have e : (-a1 / a0 + 1 - 1 : Int) = -a1 / a0 := by omega
      rw [e, IntWalk.i64_in _ ⟨by omega, by omega⟩]
      exact ⟨hg, hc, ht, by omega, by omega, by omega, by omega, by omega, by omega⟩
    · obtain ⟨hI, hE⟩ := hx
      have hP : bPass_2 a0 x.1 1 0 = 0 ∧ (x.2.1 > 0 ∨ bDry_0 (bPass_0 a0 x.1 1 0) (bPass_1 a0 x.1 1 0) = false) := by
        by_cases hl : x.2.1 = 0
        · obtain ⟨p, q⟩ := pass_one hI hl; exact ⟨p, .inr q⟩
        · have hI2 := hI
          obtain ⟨hg, hc, ht, h0, h1, h2, h3, h4, h5⟩ := hI2
          obtain ⟨p0, p1, p2⟩ := pass0 (dt := 1) hg ⟨by omega, by omega⟩
          exact ⟨p2, .inl (by omega)⟩
      have hb : (bif bPass_2 a0 x.1 1 0 == 0 then bif decide (x.2.1 > 0) then true else !bDry_0 (bPass_0 a0 x.1 1 0) (bPass_1 a0 x.1 1 0) else false) = true := by
        rcases hP with ⟨p, q | q⟩
        · simp [p, q]
        · cases hd : decide (x.2.1 > 0) <;> simp [p, q]
      rw [hb]
      exact rfl
  · obtain ⟨d, e⟩ := wait_not h
    rw [e, d]
    exact ⟨fun _ => rfl, fun h => by cases h⟩
theorem waits_meets (a0 a1 : Int) : Meets P 5 (.cons (.agg (.cons (.int false .i64 a0) (.cons (.int false .i64 a1) .nil))) .nil) (.bool false true) :=
  meets_true (en_okl (l := [c_bCheck, c_bDry, c_bPass, c_bWait]) ⟨c_bCheck_ok, c_bDry_ok, c_bPass_ok, c_bWait_ok, trivial⟩ (ls := [waitsG]) ⟨waitsG_ok, trivial⟩) 400 (Has.of hn Try.func5 rfl) (waits_holds a0 a1)
end Go.Proofs.Ytfealfofcjgihaa
