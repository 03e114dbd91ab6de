/- The plain laws of waiting, more: WaitWakes. -/
import Derived.Test.YtfealfofcjgihaaWp
import Derived.Test.YtfealfofcjgihaaWeC
import Derived.Test.YtfealfofcjgihaaWeK
namespace Go.Proofs.Ytfealfofcjgihaa
open Go.Fw

theorem halves_eq : ∀ (n : Nat) (p : Int), 0 ≤ p → p ≤ 4294967295 → halves n p = p / 2 ^ n := by
  intro n
  induction n with
  | zero => intro p _ _; simp [halves]
  | succ n ih =>
    intro p h0 h1
    rw [halves, Int.tdiv_eq_ediv_of_nonneg h0, IntWalk.u32_in _ ⟨by omega, by omega⟩, ih _ (by omega) (by omega), Int.pow_succ, Int.mul_comm, Int.ediv_ediv_of_nonneg (by decide)]
theorem bit_has {p b : Int} (h0 : 0 ≤ p) (h1 : p ≤ 4294967295) (hb : 0 ≤ b ∧ b < 32) : hasB p b = bit p b := by
  unfold hasB bit
  rw [halves_eq _ _ h0 h1]
  have e1 : min (Int.toNat b) (IntKind.bits IntKind.u32) = b.toNat := by
    have : IntKind.bits IntKind.u32 = 32 := rfl
    omega
  have hpos : (0 : Int) < 2 ^ b.toNat := Int.pow_pos (by decide)
  rw [e1, Int.fdiv_eq_ediv_of_nonneg _ (Int.le_of_lt hpos)]
  have q0 : 0 ≤ p / 2 ^ b.toNat := Int.ediv_nonneg h0 (Int.le_of_lt hpos)
  have q1 : p / 2 ^ b.toNat ≤ p := Int.ediv_le_self _ h0
  generalize p / 2 ^ b.toNat = q at q0 q1
  have e2 : IntKind.bits IntKind.u32 = 32 := rfl
  rw [e2, BitVec.toNat_and, BitVec.toNat_ofInt, BitVec.toNat_ofInt]
  have e3 : ((1 : Int) % ((2 ^ 32 : Nat) : Int)).toNat = 1 := by decide
  have e4 : (q % ((2 ^ 32 : Nat) : Int)).toNat = q.toNat := by
    rw [Int.emod_eq_of_lt q0 (by omega)]
  rw [e3, e4, Nat.and_one_is_mod, Int.tmod_eq_emod_of_nonneg q0, IntWalk.u32_in _ ⟨by omega, by omega⟩]
  rw [Bool.eq_iff_iff]
  simp only [beq_iff_eq]
  omega

theorem right_fit {s p po u : Int} (h0 : 0 ≤ po) : qRight_0 s p po u = decide (fit s p po u) := by
  rw [qRight_0_eq]
  have b3 : (s == 3) = decide (s = 3) := by by_cases h : s = 3 <;> simp [h]
  have a0 : (po == 0) = decide (po = 0) := by by_cases h : po = 0 <;> simp [h]
  have c0 : (u == 0) = decide (u = 0) := by by_cases h : u = 0 <;> simp [h]
  simp only [V.toBool, b3, a0, c0]
  rw [Bool.eq_iff_iff, decide_eq_true_eq]
  unfold fit
  simp only [Bool.cond_eq_ite, decide_eq_true_eq]
  repeat' split
  all_goals simp
  all_goals omega

theorem qevent {s p po u b : Int} (h0 : 0 ≤ po) (h1 : po ≤ 4294967295) (c : Bool) :
    qEvent_0 s p po u b c = wEvent_0 s p po u b c ∧ qEvent_1 s p po u b c = wEvent_1 s p po u b c ∧ qEvent_2 s p po u b c = wEvent_2 s p po u b c ∧ qEvent_3 s p po u b c = wEvent_3 s p po u b c ∧ qEvent_4 s p po u b c = wEvent_5 s p po u b c := by
  rw [qEvent_0_eq, qEvent_1_eq, qEvent_2_eq, qEvent_3_eq, qEvent_4_eq, right_fit h0]
  simp only [qReady_0_eq, qReady_1_eq, qReady_2_eq, qReady_3_eq, V.toInt]
  by_cases h : fit s p po u
  · by_cases hb : 0 ≤ b ∧ b < 32
    · obtain ⟨e0, e1, e2, e3, e4, e5⟩ := event_in h hb c
      rw [e0, e1, e2, e3, e5, bit_has h0 h1 hb]
      unfold rings
      generalize bit po b = z
      have d1 : ¬ b < 0 := by omega
      have d2 : ¬ b > 31 := by omega
      by_cases h3 : s = 3
      · subst h3
        cases z <;> cases c <;> simp [h, d1, d2]
      · by_cases h4 : s = 2
        · subst h4
          cases c <;> simp [h, d1, d2]
        · have x3 : (s == 3) = false := by simp [h3]
          have x4 : (s == 2) = false := by simp [h4]
          cases c <;> simp [h, d1, d2, x3, x4]
    · obtain ⟨e0, e1, e2, e3, e4, e5⟩ := event_out h hb c
      rw [e0, e1, e2, e3, e5]
      by_cases d1 : b < 0
      · simp [h, d1]
      · have d2 : b > 31 := by omega
        simp [h, d1, d2]
  · obtain ⟨e0, e1, e2, e3, e4, e5⟩ := event_bad h b c
    rw [e0, e1, e2, e3, e5]
    simp [h]

theorem qtime {s p po u : Int} (h : fit s p po u) (t : Int) :
    qTime_0 s p po u t = wTime_0 s p po u t ∧ qTime_1 s p po u t = wTime_1 s p po u t ∧ qTime_2 s p po u t = wTime_2 s p po u t ∧ qTime_3 s p po u t = wTime_3 s p po u t := by
  obtain ⟨t0, t1, t2, t3, t4, t5⟩ := time_in h t
  rw [t0, t1, t2, t3, qTime_0_eq, qTime_1_eq, qTime_2_eq, qTime_3_eq]
  simp only [qReady_0_eq, qReady_1_eq, qReady_2_eq, qReady_3_eq, V.toInt]
  have hs : u > 0 → s = 3 := fun hu => by unfold fit at h; omega
  unfold ends
  by_cases h1 : u > 0
  · have h3 := hs h1
    subst h3
    by_cases h2 : t ≥ u <;> simp [h1, h2]
  · simp [h1]

theorem rings_turn {s p po u b : Int} {c : Bool} (h : fit s p po u) : ((bif rings s po b c then 1 else s) == s && (p == p && ((bif rings s po b c then 0 else po) == po && ((bif rings s po b c then 0 else u) == u && true)))) = !rings s po b c := by
  cases hz : rings s po b c
  · simp
  · have : s ≠ 1 := by rintro rfl; simp [rings] at hz
    have e : ((1 : Int) == s) = false := by simp; omega
    simp [e]
theorem ends_turn {s p po u t : Int} (h : fit s p po u) : ((bif ends u t then 1 else s) == s && (p == p && ((bif ends u t then 0 else po) == po && ((bif ends u t then 0 else u) == u && true)))) = !ends u t := by
  cases hz : ends u t
  · simp
  · have h3 : s = 3 := by unfold ends at hz; unfold fit at h; simp at hz; omega
    subst h3
    simp

theorem wakes_true (s p po u x0 x1 x2 t b : Int) (h0 : 0 ≤ po) (h1 : po ≤ 4294967295) : lwWakes_0 s p po u x0 x1 x2 t b = true := by
  rw [lwWakes_0_eq, right_fit h0]
  obtain ⟨a0, a1, a2, a3, a4⟩ := qevent (s := s) (p := p) (u := u) (b := b) h0 h1 false
  obtain ⟨b0, b1, b2, b3, b4⟩ := qevent (s := s) (p := p) (u := u) (b := b) h0 h1 true
  rw [a0, a1, a2, a3, a4, b0, b1, b2, b3, b4]
  simp only [V.toBool]
  by_cases h : fit s p po u
  · obtain ⟨t0, t1, t2, t3, t4, t5⟩ := time_in h t
    obtain ⟨q0, q1, q2, q3⟩ := qtime h t
    rw [q0, q1, q2, q3, t0, t1, t2, t3, t4, t5, ends_turn h]
    by_cases hb : 0 ≤ b ∧ b < 32
    · obtain ⟨e0, e1, e2, e3, e4, e5⟩ := event_in h hb false
      obtain ⟨f0, f1, f2, f3, f4, f5⟩ := event_in h hb true
      rw [e0, e1, e2, e3, e4, e5, f0, f1, f2, f3, f4, f5, rings_turn h, rings_turn h]
      simp [h]
    · obtain ⟨e0, e1, e2, e3, e4, e5⟩ := event_out h hb false
      obtain ⟨f0, f1, f2, f3, f4, f5⟩ := event_out h hb true
      rw [e0, e1, e2, e3, e4, e5, f0, f1, f2, f3, f4, f5]
      simp [h]
  · obtain ⟨t0, t1, t2, t3, t4, t5⟩ := time_bad h t
    obtain ⟨e0, e1, e2, e3, e4, e5⟩ := event_bad h b false
    obtain ⟨f0, f1, f2, f3, f4, f5⟩ := event_bad h b true
    rw [t0, t1, t2, t3, t4, t5, e0, e1, e2, e3, e4, e5, f0, f1, f2, f3, f4, f5]
    simp [h]
end Go.Proofs.Ytfealfofcjgihaa
