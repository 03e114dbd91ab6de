/- The plain laws of waiting: what the layer's functions compute. -/
import Derived.Test.YtfealfofcjgihaaWeA
import Derived.Test.YtfealfofcjgihaaWeB
import Derived.Test.YtfealfofcjgihaaWeL
namespace Go.Proofs.Ytfealfofcjgihaa
open Go.Fw

def fit (s p po u : Int) : Prop := 0 ≤ s ∧ s ≤ 3 ∧ 0 ≤ p ∧ p ≤ 15 ∧ 0 ≤ u ∧ u ≤ 1125899906842624 ∧ ((po ≠ 0 ∨ u ≠ 0) ↔ s = 3)
instance (s p po u : Int) : Decidable (fit s p po u) := by unfold fit; infer_instance

theorem wcheck (s p po u : Int) : wCheck_0 s p po u = if fit s p po u then 0 else 270 := by
  rw [wCheck_0_eq]
  unfold fit
  by_cases h1 : s ≥ 0
  · by_cases h2 : s ≤ 3
    · by_cases h3 : p ≥ 0
      · by_cases h4 : p ≤ 15
        · by_cases h5 : u ≥ 0
          · have b3 : (s == 3) = decide (s = 3) := by by_cases h : s = 3 <;> simp [h]
            have b0 : (u != 0) = !decide (u = 0) := by by_cases h : u = 0 <;> simp [h]
            have p0 : (po != 0) = !decide (po = 0) := by by_cases h : po = 0 <;> simp [h]
            rw [b3, b0, p0]
            by_cases h6 : po = 0 <;> by_cases h7 : u ≤ 1125899906842624 <;> by_cases h8 : u = 0 <;> by_cases h9 : s = 3 <;> simp [V.toInt, h1, h2, h3, h4, h5, h6, h7, h8, h9]
          · simp [V.toInt, h1, h2, h3, h4, h5]
        · simp [V.toInt, h1, h2, h3, h4]
      · simp [V.toInt, h1, h2, h3]
    · simp [V.toInt, h1, h2]
  · simp [V.toInt, h1]

def bit (po b : Int) : Bool := IntKind.wrap IntKind.u32 ↑(BitVec.toNat (BitVec.ofInt (IntKind.bits IntKind.u32) (Int.fdiv po (2 ^ min (Int.toNat b) (IntKind.bits IntKind.u32))) &&& BitVec.ofInt (IntKind.bits IntKind.u32) 1)) == 1
/-- Does an event wake? -/
def rings (s po b : Int) (c : Bool) : Bool := (s == 3 && (bit po b || !c)) || (s == 2 && !c)

theorem event_bad {s p po u : Int} (h : ¬ fit s p po u) (b : Int) (c : Bool) :
    wEvent_0 s p po u b c = 0 ∧ wEvent_1 s p po u b c = 0 ∧ wEvent_2 s p po u b c = 0 ∧ wEvent_3 s p po u b c = 0 ∧ wEvent_4 s p po u b c = false ∧ wEvent_5 s p po u b c = 270 := by
  rw [wEvent_0_eq, wEvent_1_eq, wEvent_2_eq, wEvent_3_eq, wEvent_4_eq, wEvent_5_eq, wcheck, if_neg h]
  exact ⟨rfl, rfl, rfl, rfl, rfl, rfl⟩
theorem event_out {s p po u b : Int} (h : fit s p po u) (hb : ¬ (0 ≤ b ∧ b < 32)) (c : Bool) :
    wEvent_0 s p po u b c = 0 ∧ wEvent_1 s p po u b c = 0 ∧ wEvent_2 s p po u b c = 0 ∧ wEvent_3 s p po u b c = 0 ∧ wEvent_4 s p po u b c = false ∧ wEvent_5 s p po u b c = 2 := by
  rw [wEvent_0_eq, wEvent_1_eq, wEvent_2_eq, wEvent_3_eq, wEvent_4_eq, wEvent_5_eq, wcheck, if_pos h]
  by_cases h1 : b < 0
  · simp [V.toInt, V.toBool, h1]
  · have h2 : b ≥ 32 := by omega
    simp [V.toInt, V.toBool, h1, h2]
theorem event_in {s p po u b : Int} (h : fit s p po u) (hb : 0 ≤ b ∧ b < 32) (c : Bool) :
    wEvent_0 s p po u b c = (bif rings s po b c then 1 else s) ∧ wEvent_1 s p po u b c = p ∧ wEvent_2 s p po u b c = (bif rings s po b c then 0 else po) ∧ wEvent_3 s p po u b c = (bif rings s po b c then 0 else u) ∧
      wEvent_4 s p po u b c = rings s po b c ∧ wEvent_5 s p po u b c = 0 := by
  have hbit : ∀ (x y : Int), (bif IntKind.wrap IntKind.u32 ↑(BitVec.toNat (BitVec.ofInt (IntKind.bits IntKind.u32) (Int.fdiv po (2 ^ min (Int.toNat b) (IntKind.bits IntKind.u32))) &&& BitVec.ofInt (IntKind.bits IntKind.u32) 1)) == 1 then x else y) = bif bit po b then x else y := fun _ _ => rfl
  have hbit' : ∀ (x y : Bool), (bif IntKind.wrap IntKind.u32 ↑(BitVec.toNat (BitVec.ofInt (IntKind.bits IntKind.u32) (Int.fdiv po (2 ^ min (Int.toNat b) (IntKind.bits IntKind.u32))) &&& BitVec.ofInt (IntKind.bits IntKind.u32) 1)) == 1 then x else y) = bif bit po b then x else y := fun _ _ => rfl
  rw [wEvent_0_eq, wEvent_1_eq, wEvent_2_eq, wEvent_3_eq, wEvent_4_eq, wEvent_5_eq, wcheck, if_pos h]
  simp only [hbit, hbit', V.toInt, V.toBool, rings]
  generalize bit po b = z
  have h1 : ¬ b < 0 := by omega
  have h2 : ¬ b ≥ 32 := by omega
  by_cases h3 : s = 3
  · subst h3
    cases z <;> cases c <;> simp [h1, h2]
  · by_cases h4 : s = 2
    · subst h4
      cases c <;> simp [h1, h2]
    · have e3 : (s == 3) = false := by simp [h3]
      have e4 : (s == 2) = false := by simp [h4]
      cases c <;> simp [h1, h2, e3, e4]
theorem fit_woken {s p po u : Int} (h : fit s p po u) : fit 1 p 0 0 := by
  unfold fit at h ⊢; omega

theorem time_bad {s p po u : Int} (h : ¬ fit s p po u) (b : Int) :
    wTime_0 s p po u b = 0 ∧ wTime_1 s p po u b = 0 ∧ wTime_2 s p po u b = 0 ∧ wTime_3 s p po u b = 0 ∧ wTime_4 s p po u b = false ∧ wTime_5 s p po u b = 270 := by
  rw [wTime_0_eq, wTime_1_eq, wTime_2_eq, wTime_3_eq, wTime_4_eq, wTime_5_eq, wcheck, if_neg h]
  exact ⟨rfl, rfl, rfl, rfl, rfl, rfl⟩
def ends (u b : Int) : Bool := decide (0 < u) && decide (u ≤ b)
theorem time_in {s p po u : Int} (h : fit s p po u) (b : Int) :
    wTime_0 s p po u b = (bif ends u b then 1 else s) ∧ wTime_1 s p po u b = p ∧ wTime_2 s p po u b = (bif ends u b then 0 else po) ∧ wTime_3 s p po u b = (bif ends u b then 0 else u) ∧
      wTime_4 s p po u b = ends u b ∧ wTime_5 s p po u b = 0 := by
  rw [wTime_0_eq, wTime_1_eq, wTime_2_eq, wTime_3_eq, wTime_4_eq, wTime_5_eq, wcheck, if_pos h]
  have hs : u > 0 → s = 3 := fun hu => by unfold fit at h; omega
  unfold ends
  by_cases h1 : u > 0
  · have h3 := hs h1
    subst h3
    by_cases h2 : b ≥ u <;> simp [V.toInt, V.toBool, h1, h2]
  · simp [V.toInt, V.toBool, h1]

theorem once_true (s p po u x0 x1 x2 t b : Int) : lwOnce_0 s p po u x0 x1 x2 t b = true := by
  rw [lwOnce_0_eq]
  simp only [V.toBool]
  by_cases h : fit s p po u
  · by_cases hb : 0 ≤ b ∧ b < 32
    · obtain ⟨e0, e1, e2, e3, e4, e5⟩ := event_in h hb false
      obtain ⟨t0, t1, t2, t3, t4, t5⟩ := time_in h t
      rw [e0, e1, e2, e3, e5, t0, t1, t2, t3, t5]
      have hev : ∀ z : Bool, (bif ends u t then 1 else s) = (bif ends u t then 1 else s) → wTime_5 (bif ends u t then 1 else s) p (bif ends u t then 0 else po) (bif ends u t then 0 else u) t = 0 ∧
          wTime_4 (bif ends u t then 1 else s) p (bif ends u t then 0 else po) (bif ends u t then 0 else u) t = false ∧
          wTime_0 (bif ends u t then 1 else s) p (bif ends u t then 0 else po) (bif ends u t then 0 else u) t = (bif ends u t then 1 else s) ∧
          wTime_1 (bif ends u t then 1 else s) p (bif ends u t then 0 else po) (bif ends u t then 0 else u) t = p ∧
          wTime_2 (bif ends u t then 1 else s) p (bif ends u t then 0 else po) (bif ends u t then 0 else u) t = (bif ends u t then 0 else po) ∧
          wTime_3 (bif ends u t then 1 else s) p (bif ends u t then 0 else po) (bif ends u t then 0 else u) t = (bif ends u t then 0 else u) := by
        intro _ _
        cases hz : ends u t
        · simp only [cond_false]
          rw [hz] at t0 t2 t3 t4
          exact ⟨t5, t4, t0, t1, t2, t3⟩
        · simp only [cond_true]
          obtain ⟨q0, q1, q2, q3, q4, q5⟩ := time_in (fit_woken h) t
          exact ⟨q5, q4, q0, q1, q2, q3⟩
      obtain ⟨q5, q4, q0, q1, q2, q3⟩ := hev true rfl
      rw [q5, q4, q0, q1, q2, q3]
      have hre : wEvent_5 (bif rings s po b false then 1 else s) p (bif rings s po b false then 0 else po) (bif rings s po b false then 0 else u) b false = 0 ∧
          wEvent_4 (bif rings s po b false then 1 else s) p (bif rings s po b false then 0 else po) (bif rings s po b false then 0 else u) b false = false ∧
          wEvent_0 (bif rings s po b false then 1 else s) p (bif rings s po b false then 0 else po) (bif rings s po b false then 0 else u) b false = (bif rings s po b false then 1 else s) ∧
          wEvent_1 (bif rings s po b false then 1 else s) p (bif rings s po b false then 0 else po) (bif rings s po b false then 0 else u) b false = p ∧
          wEvent_2 (bif rings s po b false then 1 else s) p (bif rings s po b false then 0 else po) (bif rings s po b false then 0 else u) b false = (bif rings s po b false then 0 else po) ∧
          wEvent_3 (bif rings s po b false then 1 else s) p (bif rings s po b false then 0 else po) (bif rings s po b false then 0 else u) b false = (bif rings s po b false then 0 else u) := by
        cases hz : rings s po b false
        · simp only [cond_false]
          rw [hz] at e0 e2 e3 e4
          exact ⟨e5, e4, e0, e1, e2, e3⟩
        · simp only [cond_true]
          obtain ⟨q0, q1, q2, q3, q4, q5⟩ := event_in (fit_woken h) hb false
          exact ⟨q5, q4, q0, q1, q2, q3⟩
      obtain ⟨r5, r4, r0, r1, r2, r3⟩ := hre
      rw [r5, r4, r0, r1, r2, r3]
      simp
    · obtain ⟨e0, e1, e2, e3, e4, e5⟩ := event_out h hb false
      rw [e0, e1, e2, e3, e5]
      rfl
  · obtain ⟨e0, e1, e2, e3, e4, e5⟩ := event_bad h b false
    rw [e0, e1, e2, e3, e5]
    rfl
end Go.Proofs.Ytfealfofcjgihaa
