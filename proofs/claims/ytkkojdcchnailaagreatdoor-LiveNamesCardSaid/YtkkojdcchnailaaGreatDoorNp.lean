/- LiveNames: what its rounds say is so. -/
import Derived.Test.YtkkojdcchnailaaGreatDoorNe
import Derived.Test.YtkkojdcchnailaaGreatDoorNd
namespace Go.Proofs.YtkkojdcchnailaaGreatDoor
open Go.Fw
set_option maxRecDepth 100000
theorem name_same (a : Int) : lname_0 a = rname_0 a := by
  rcases (show a < 1 ∨ a = 1 ∨ a = 2 ∨ a = 3 ∨ a = 4 ∨ a = 5 ∨ a = 6 ∨ a = 7 ∨ a = 8 ∨ a = 9 ∨ a = 10 ∨ 10 < a by omega) with h | rfl | rfl | rfl | rfl | rfl | rfl | rfl | rfl | rfl | rfl | h
  · rw [lname_0_eq, rname_0_eq]
    simp only [V.toStr]
    have h1 : decide (a < (1 : Int)) = true := decide_eq_true h
    rw [h1]
    simp only [cond_true]
    cases h2 : decide (a < (0 : Int))
    · have h3 := of_decide_eq_false h2
      have h4 : a = 0 := by omega
      subst h4
      rfl
    · simp only [cond_true]
  · rw [lname_0_eq, rname_0_eq]; rfl
  · rw [lname_0_eq, rname_0_eq]; rfl
  · rw [lname_0_eq, rname_0_eq]; rfl
  · rw [lname_0_eq, rname_0_eq]; rfl
  · rw [lname_0_eq, rname_0_eq]; rfl
  · rw [lname_0_eq, rname_0_eq]; rfl
  · rw [lname_0_eq, rname_0_eq]; rfl
  · rw [lname_0_eq, rname_0_eq]; rfl
  · rw [lname_0_eq, rname_0_eq]; rfl
  · rw [lname_0_eq, rname_0_eq]; rfl
  · rw [lname_0_eq, rname_0_eq]
    simp only [V.toStr]
    have h1 : decide (a < (1 : Int)) = false := decide_eq_false (by omega)
    have h2 : decide (a > (10 : Int)) = true := decide_eq_true h
    have h3 : decide (a < (0 : Int)) = false := decide_eq_false (by omega)
    have h4 : decide (a ≥ (11 : Int)) = true := decide_eq_true (by omega)
    rw [h1, h2, h3, h4]
    rfl
theorem kind_ok (t : List UInt8) : lkind_0 t = isK t ∧ lkind_1 t = decide (isK t > (0 : Int)) := by
  rw [lkind_0_eq, lkind_1_eq]
  by_cases h0 : t = []
  · subst h0; exact ⟨by rfl, by rfl⟩
  by_cases h1 : t = [(119 : UInt8), (101 : UInt8), (105 : UInt8), (103 : UInt8), (104 : UInt8), (116 : UInt8)]
  · subst h1; exact ⟨by rfl, by rfl⟩
  by_cases h2 : t = [(99 : UInt8), (97 : UInt8), (112 : UInt8)]
  · subst h2; exact ⟨by rfl, by rfl⟩
  by_cases h3 : t = [(112 : UInt8), (111 : UInt8), (111 : UInt8), (108 : UInt8)]
  · subst h3; exact ⟨by rfl, by rfl⟩
  by_cases h4 : t = [(114 : UInt8), (101 : UInt8), (109 : UInt8), (97 : UInt8), (115 : UInt8), (107 : UInt8)]
  · subst h4; exact ⟨by rfl, by rfl⟩
  by_cases h5 : t = [(102 : UInt8), (111 : UInt8), (114 : UInt8), (109 : UInt8)]
  · subst h5; exact ⟨by rfl, by rfl⟩
  by_cases h6 : t = [(112 : UInt8), (97 : UInt8), (114 : UInt8), (116 : UInt8)]
  · subst h6; exact ⟨by rfl, by rfl⟩
  by_cases h7 : t = [(108 : UInt8), (101 : UInt8), (97 : UInt8), (118 : UInt8), (101 : UInt8)]
  · subst h7; exact ⟨by rfl, by rfl⟩
  by_cases h8 : t = [(115 : UInt8), (112 : UInt8), (108 : UInt8), (105 : UInt8), (116 : UInt8)]
  · subst h8; exact ⟨by rfl, by rfl⟩
  by_cases h9 : t = [(106 : UInt8), (111 : UInt8), (105 : UInt8), (110 : UInt8)]
  · subst h9; exact ⟨by rfl, by rfl⟩
  by_cases h10 : t = [(109 : UInt8), (111 : UInt8), (118 : UInt8), (101 : UInt8)]
  · subst h10; exact ⟨by rfl, by rfl⟩
  have e0 : (t == []) = false := beq_eq_false_iff_ne.2 h0
  have e1 : (t == [(119 : UInt8), (101 : UInt8), (105 : UInt8), (103 : UInt8), (104 : UInt8), (116 : UInt8)]) = false := beq_eq_false_iff_ne.2 h1
  have d1 : ([(119 : UInt8), (101 : UInt8), (105 : UInt8), (103 : UInt8), (104 : UInt8), (116 : UInt8)] == t) = false := beq_eq_false_iff_ne.2 (Ne.symm h1)
  have e2 : (t == [(99 : UInt8), (97 : UInt8), (112 : UInt8)]) = false := beq_eq_false_iff_ne.2 h2
  have d2 : ([(99 : UInt8), (97 : UInt8), (112 : UInt8)] == t) = false := beq_eq_false_iff_ne.2 (Ne.symm h2)
  have e3 : (t == [(112 : UInt8), (111 : UInt8), (111 : UInt8), (108 : UInt8)]) = false := beq_eq_false_iff_ne.2 h3
  have d3 : ([(112 : UInt8), (111 : UInt8), (111 : UInt8), (108 : UInt8)] == t) = false := beq_eq_false_iff_ne.2 (Ne.symm h3)
  have e4 : (t == [(114 : UInt8), (101 : UInt8), (109 : UInt8), (97 : UInt8), (115 : UInt8), (107 : UInt8)]) = false := beq_eq_false_iff_ne.2 h4
  have d4 : ([(114 : UInt8), (101 : UInt8), (109 : UInt8), (97 : UInt8), (115 : UInt8), (107 : UInt8)] == t) = false := beq_eq_false_iff_ne.2 (Ne.symm h4)
  have e5 : (t == [(102 : UInt8), (111 : UInt8), (114 : UInt8), (109 : UInt8)]) = false := beq_eq_false_iff_ne.2 h5
  have d5 : ([(102 : UInt8), (111 : UInt8), (114 : UInt8), (109 : UInt8)] == t) = false := beq_eq_false_iff_ne.2 (Ne.symm h5)
  have e6 : (t == [(112 : UInt8), (97 : UInt8), (114 : UInt8), (116 : UInt8)]) = false := beq_eq_false_iff_ne.2 h6
  have d6 : ([(112 : UInt8), (97 : UInt8), (114 : UInt8), (116 : UInt8)] == t) = false := beq_eq_false_iff_ne.2 (Ne.symm h6)
  have e7 : (t == [(108 : UInt8), (101 : UInt8), (97 : UInt8), (118 : UInt8), (101 : UInt8)]) = false := beq_eq_false_iff_ne.2 h7
  have d7 : ([(108 : UInt8), (101 : UInt8), (97 : UInt8), (118 : UInt8), (101 : UInt8)] == t) = false := beq_eq_false_iff_ne.2 (Ne.symm h7)
  have e8 : (t == [(115 : UInt8), (112 : UInt8), (108 : UInt8), (105 : UInt8), (116 : UInt8)]) = false := beq_eq_false_iff_ne.2 h8
  have d8 : ([(115 : UInt8), (112 : UInt8), (108 : UInt8), (105 : UInt8), (116 : UInt8)] == t) = false := beq_eq_false_iff_ne.2 (Ne.symm h8)
  have e9 : (t == [(106 : UInt8), (111 : UInt8), (105 : UInt8), (110 : UInt8)]) = false := beq_eq_false_iff_ne.2 h9
  have d9 : ([(106 : UInt8), (111 : UInt8), (105 : UInt8), (110 : UInt8)] == t) = false := beq_eq_false_iff_ne.2 (Ne.symm h9)
  have e10 : (t == [(109 : UInt8), (111 : UInt8), (118 : UInt8), (101 : UInt8)]) = false := beq_eq_false_iff_ne.2 h10
  have d10 : ([(109 : UInt8), (111 : UInt8), (118 : UInt8), (101 : UInt8)] == t) = false := beq_eq_false_iff_ne.2 (Ne.symm h10)
  unfold isK V.toInt V.toBool
  rw [e0, e1, e2, e3, e4, e5, e6, e7, e8, e9, e10]
  rw [d10, d9, d8, d7, d6, d5, d4, d3, d2, d1]
  exact ⟨rfl, rfl⟩
theorem good (t : List UInt8) : (bif lkind_0 t != isK t then true else !lkind_1 t == decide (isK t > (0 : Int))) = false := by
  obtain ⟨h1, h2⟩ := kind_ok t
  rw [h1, h2]
  generalize isK t = x
  simp
end Go.Proofs.YtkkojdcchnailaaGreatDoor
