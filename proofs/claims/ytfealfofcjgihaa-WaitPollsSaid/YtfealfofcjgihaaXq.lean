/- The plain law of WaitPolls. -/
import Derived.Test.YtfealfofcjgihaaXp
import Derived.Test.YtfealfofcjgihaaXeC
namespace Go.Proofs.Ytfealfofcjgihaa
open Go.Fw
set_option maxRecDepth 100000

def halves : Nat → Int → Int
  | 0, p => p
  | n + 1, p => halves n (IntKind.wrap .u32 (Int.tdiv p 2))
def chain (a b : Int) : Nat → Nat → Bool
  | 0, _ => false
  | n + 1, i => bif bif bif bif Int.tmod (halves i a) 2 == 1 then Int.tmod (halves i b) 2 == 1 else false then true else false then true else false then true else chain a b n (i + 1)
theorem rBoth_chain (a b : Int) : rBoth_0 a b = V.toBool (V.bool false (bif chain a b 32 0 then true else false)) := by kernel_rfl

theorem halves_eq : ∀ (n : Nat) (p : Int), 0 ≤ p → p ≤ 4294967295 → halves n p = p / 2 ^ n := by
  intro n
  induction n with
  | zero => intro p _ _; simp [halves]
  | succ n ih =>
    intro p h0 h1
    rw [halves, Int.tdiv_eq_ediv_of_nonneg h0, IntWalk.u32_in _ ⟨by omega, by omega⟩, ih _ (by omega) (by omega), Int.pow_succ, Int.mul_comm, Int.ediv_ediv_of_nonneg (by decide)]
theorem hbit (n k : Nat) (h : n ≤ 4294967295) : (Int.tmod (halves k (n : Int)) 2 == 1) = n.testBit k := by
  rw [halves_eq k n (by omega) (by omega)]
  have e : ((n : Int) / 2 ^ k) = ((n / 2 ^ k : Nat) : Int) := by simp
  rw [e, Int.tmod_eq_emod_of_nonneg (Int.natCast_nonneg _), Nat.testBit_eq_decide_div_mod_eq, Bool.eq_iff_iff]
  generalize n / 2 ^ k = q
  simp only [beq_iff_eq, decide_eq_true_eq]
  omega
theorem chain_any (a b : Nat) (ha : a ≤ 4294967295) (hb : b ≤ 4294967295) : ∀ (n i : Nat), chain a b n i = (List.range' i n).any fun k => a.testBit k && b.testBit k := by
  intro n
  induction n with
  | zero => intro i; rfl
  | succ n ih =>
    intro i
    rw [chain, hbit a i ha, hbit b i hb, ih, List.range'_succ, List.any_cons]
    cases a.testBit i <;> cases b.testBit i <;> rfl
theorem both_and (a b : Nat) (ha : a ≤ 4294967295) : ((List.range' 0 32).any fun k => a.testBit k && b.testBit k) = (a &&& b != 0) := by
  rw [Bool.eq_iff_iff, List.any_eq_true]
  constructor
  · rintro ⟨k, _, h⟩
    rw [← Nat.testBit_and] at h
    simp only [bne_iff_ne]
    intro e
    rw [e, Nat.zero_testBit] at h
    cases h
  · intro h
    simp only [bne_iff_ne] at h
    obtain ⟨k, hk⟩ := Nat.exists_testBit_of_ne_zero h
    refine ⟨k, ?_, by rw [← Nat.testBit_and]; exact hk⟩
    have h1 : 2 ^ k ≤ a &&& b := Nat.ge_two_pow_of_testBit hk
    have h2 : a &&& b ≤ a := Nat.and_le_left
    rw [List.mem_range']
    refine ⟨k, ?_, by omega⟩
    apply Classical.byContradiction
    intro h3
    have h4 : 2 ^ 32 ≤ 2 ^ k := Nat.pow_le_pow_right (by decide) (by omega)
    omega
theorem both_sees (b e : Int) (h0 : 0 ≤ b) (h1 : b ≤ 4294967295) (h2 : 0 ≤ e) (h3 : e ≤ 4294967295) :
    rBoth_0 b e = (IntKind.wrap IntKind.u32 ↑(BitVec.toNat (BitVec.ofInt (IntKind.bits IntKind.u32) b &&& BitVec.ofInt (IntKind.bits IntKind.u32) e)) != 0) := by
  obtain ⟨n, rfl⟩ := Int.eq_ofNat_of_zero_le h0
  obtain ⟨k, rfl⟩ := Int.eq_ofNat_of_zero_le h2
  have e2 : IntKind.bits IntKind.u32 = 32 := rfl
  have en : ∀ q : Nat, q ≤ 4294967295 → ((q : Int) % ((2 ^ 32 : Nat) : Int)).toNat = q := fun q hq => by
    rw [Int.emod_eq_of_lt (by omega) (by omega)]; simp
  rw [rBoth_chain, chain_any n k (by omega) (by omega), both_and n k (by omega), e2, BitVec.toNat_and, BitVec.toNat_ofInt, BitVec.toNat_ofInt, en n (by omega), en k (by omega)]
  have h4 : n &&& k ≤ n := Nat.and_le_left
  rw [IntWalk.u32_in _ ⟨by omega, by omega⟩]
  simp only [V.toBool]
  generalize n &&& k = q
  cases q <;> simp <;> omega


theorem fit_runs {s p po u : Int} (h : fit s p po u) : wRuns_0 s p po u = qRuns_0 s p po u := by
  rw [wRuns_0_eq, qRuns_0_eq, wcheck, if_pos h]
  simp only [V.toBool, fit] at h ⊢
  grind
theorem runs_is {s p po u : Int} : wRuns_0 s p po u = decide (s = 1 ∧ p = 0 ∧ po = 0 ∧ u = 0) := by
  rw [wRuns_0_eq, wcheck]
  simp only [V.toBool, fit]
  grind
theorem polls_true (s p po u b0 b1 b2 b3 : Int) (c : Bool) (hp : 0 ≤ po) (h0 : 0 ≤ b0) (h1 : b0 ≤ 4294967295) (h2 : 0 ≤ b1) (h3 : b1 ≤ 4294967295) : lwPolls_0 s p po u b0 b1 b2 b3 c = true := by
  have hq := qright s p po u hp
  have hc := wcheck s p po u
  have hs := both_sees b0 b1 h0 h1 h2 h3
  rw [lwPolls_0_eq]
  by_cases h : fit s p po u
  · rw [if_pos h] at hc
    rw [decide_eq_true h] at hq
    have hr := fit_runs h
    have hr2 := runs_is (s := s) (p := p) (po := po) (u := u)
    simp only [V.toBool, V.toInt, hq, hc, wPoll_0_eq, wPoll_1_eq, wPoll_2_eq, wPoll_3_eq, wPoll_4_eq, wPoll_5_eq, qPoll_0_eq, qPoll_1_eq, qPoll_2_eq, qPoll_3_eq, qPoll_4_eq, ← hs, ← hr,
      wBlock_0_eq, wBlock_1_eq, wBlock_2_eq, wBlock_3_eq, wBlock_4_eq, wBlock_5_eq, qReady_0_eq, qReady_1_eq, qReady_2_eq, qReady_3_eq]
    clear hs hr
    generalize rBoth_0 b0 b1 = z
    rw [hr2]
    by_cases hg : s = 1 ∧ p = 0 ∧ po = 0 ∧ u = 0
    · obtain ⟨rfl, rfl, rfl, rfl⟩ := hg
      have hXY : (bif b0 == 0 then bif b2 == 0 then true else bif decide (b2 < 0) then true else decide (b2 > 1125899906842624) else bif decide (b2 < 0) then true else decide (b2 > 1125899906842624)) = false →
          (bif b2 != 0 then decide (b2 ≤ b3) else false) = (bif decide (b2 > 0) then decide (b2 ≤ b3) else false) := by
        by_cases x2 : b2 < 0
        · simp [x2]
        · by_cases x1 : b2 = 0
          · simp [x1]
          · have x3 : b2 > 0 := by omega
            have x4 : (b2 != 0) = true := by simp [x1]
            simp [x3, x4]
      generalize (bif b0 == 0 then bif b2 == 0 then true else bif decide (b2 < 0) then true else decide (b2 > 1125899906842624) else bif decide (b2 < 0) then true else decide (b2 > 1125899906842624)) = X at hXY ⊢
      cases X
      · rw [hXY rfl]
        generalize (bif decide (b2 > 0) then decide (b2 ≤ b3) else false) = Y
        cases z <;> cases Y <;> cases c <;> simp
      · cases c <;> simp
    · rw [decide_eq_false hg]
      cases c <;> simp
  · rw [if_neg h] at hc
    rw [decide_eq_false h] at hq
    simp [V.toBool, V.toInt, hq, hc, wPoll_0_eq, wPoll_1_eq, wPoll_2_eq, wPoll_3_eq, wPoll_4_eq, wPoll_5_eq, qPoll_0_eq, qPoll_1_eq, qPoll_2_eq, qPoll_3_eq, qPoll_4_eq, 
      wBlock_0_eq, wBlock_1_eq, wBlock_2_eq, wBlock_3_eq, wBlock_4_eq, wBlock_5_eq]
end Go.Proofs.Ytfealfofcjgihaa
