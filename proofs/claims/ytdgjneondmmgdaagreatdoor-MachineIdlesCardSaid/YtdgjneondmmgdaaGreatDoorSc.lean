/- The machine answers so, at each number of pCPUs. -/
import Derived.Test.YtdgjneondmmgdaaGreatDoorSb
import Derived.Test.YtdgjneondmmgdaaGreatDoorLbA
import Derived.Test.YtdgjneondmmgdaaGreatDoorLbB
import Derived.Test.YtdgjneondmmgdaaGreatDoorLbC
import Derived.Test.YtdgjneondmmgdaaGreatDoorLbD
import Derived.Test.YtdgjneondmmgdaaGreatDoorLbE
import Derived.Test.YtdgjneondmmgdaaGreatDoorLbF
import Derived.Test.YtdgjneondmmgdaaGreatDoorLbG
import Derived.Test.YtdgjneondmmgdaaGreatDoorLbH
set_option linter.unusedSimpArgs false
set_option linter.unusedVariables false
namespace Go.Proofs.YtdgjneondmmgdaaGreatDoor
open Go.Fw
set_option maxRecDepth 100000
set_option linter.unusedVariables false
set_option linter.unusedSimpArgs false
theorem g_do0_ok {c : Nat} (h : 1 ≤ c ∧ c ≤ 8) : (f_do0 c).Ok P 10 := by
  rcases (show c = 1 ∨ c = 2 ∨ c = 3 ∨ c = 4 ∨ c = 5 ∨ c = 6 ∨ c = 7 ∨ c = 8 by omega) with rfl | rfl | rfl | rfl | rfl | rfl | rfl | rfl
  · exact f_do0_okA
  · exact f_do0_okB
  · exact f_do0_okC
  · exact f_do0_okD
  · exact f_do0_okE
  · exact f_do0_okF
  · exact f_do0_okG
  · exact f_do0_okH
theorem g_do0_form (c : Nat) (l : List Int) : ∃ a r t, (f_do0 c).fam l = .cons (.agg (.cons a (.cons (seatsV c) (.cons (setsV c) r)))) t := ⟨_, _, _, rfl⟩
theorem g_do1_ok {c : Nat} (h : 1 ≤ c ∧ c ≤ 8) : (f_do1 c).Ok P 10 := by
  rcases (show c = 1 ∨ c = 2 ∨ c = 3 ∨ c = 4 ∨ c = 5 ∨ c = 6 ∨ c = 7 ∨ c = 8 by omega) with rfl | rfl | rfl | rfl | rfl | rfl | rfl | rfl
  · exact f_do1_okA
  · exact f_do1_okB
  · exact f_do1_okC
  · exact f_do1_okD
  · exact f_do1_okE
  · exact f_do1_okF
  · exact f_do1_okG
  · exact f_do1_okH
theorem g_do1_form (c : Nat) (l : List Int) : ∃ a r t, (f_do1 c).fam l = .cons (.agg (.cons a (.cons (seatsV c) (.cons (setsV c) r)))) t := ⟨_, _, _, rfl⟩
theorem g_do2_ok {c : Nat} (h : 1 ≤ c ∧ c ≤ 8) : (f_do2 c).Ok P 10 := by
  rcases (show c = 1 ∨ c = 2 ∨ c = 3 ∨ c = 4 ∨ c = 5 ∨ c = 6 ∨ c = 7 ∨ c = 8 by omega) with rfl | rfl | rfl | rfl | rfl | rfl | rfl | rfl
  · exact f_do2_okA
  · exact f_do2_okB
  · exact f_do2_okC
  · exact f_do2_okD
  · exact f_do2_okE
  · exact f_do2_okF
  · exact f_do2_okG
  · exact f_do2_okH
theorem g_do2_form (c : Nat) (l : List Int) : ∃ a r t, (f_do2 c).fam l = .cons (.agg (.cons a (.cons (seatsV c) (.cons (setsV c) r)))) t := ⟨_, _, _, rfl⟩
theorem g_do4_ok {c : Nat} (h : 1 ≤ c ∧ c ≤ 8) : (f_do4 c).Ok P 10 := by
  rcases (show c = 1 ∨ c = 2 ∨ c = 3 ∨ c = 4 ∨ c = 5 ∨ c = 6 ∨ c = 7 ∨ c = 8 by omega) with rfl | rfl | rfl | rfl | rfl | rfl | rfl | rfl
  · exact f_do4_okA
  · exact f_do4_okB
  · exact f_do4_okC
  · exact f_do4_okD
  · exact f_do4_okE
  · exact f_do4_okF
  · exact f_do4_okG
  · exact f_do4_okH
theorem g_do4_form (c : Nat) (l : List Int) : ∃ a r t, (f_do4 c).fam l = .cons (.agg (.cons a (.cons (seatsV c) (.cons (setsV c) r)))) t := ⟨_, _, _, rfl⟩
theorem g_ran_ok {c : Nat} (h : 1 ≤ c ∧ c ≤ 8) : (f_ran c).Ok P 8 := by
  rcases (show c = 1 ∨ c = 2 ∨ c = 3 ∨ c = 4 ∨ c = 5 ∨ c = 6 ∨ c = 7 ∨ c = 8 by omega) with rfl | rfl | rfl | rfl | rfl | rfl | rfl | rfl
  · exact f_ran_okA
  · exact f_ran_okB
  · exact f_ran_okC
  · exact f_ran_okD
  · exact f_ran_okE
  · exact f_ran_okF
  · exact f_ran_okG
  · exact f_ran_okH
theorem g_ran_form (c : Nat) (l : List Int) : ∃ a r t, (f_ran c).fam l = .cons (.agg (.cons a (.cons (seatsV c) (.cons (setsV c) r)))) t := ⟨_, _, _, rfl⟩
theorem flat_meets {c : Nat} (h : 1 ≤ c ∧ c ≤ 8) : Meets P 7 (.cons (.int false .i64 (c : Int)) .nil) (.agg (.cons (seatsV c) .nil)) := by
  rcases (show c = 1 ∨ c = 2 ∨ c = 3 ∨ c = 4 ∨ c = 5 ∨ c = 6 ∨ c = 7 ∨ c = 8 by omega) with rfl | rfl | rfl | rfl | rfl | rfl | rfl | rfl
  · exact (f_flat1_okA [] trivial).hard
  · exact (f_flat1_okB [] trivial).hard
  · exact (f_flat1_okC [] trivial).hard
  · exact (f_flat1_okD [] trivial).hard
  · exact (f_flat1_okE [] trivial).hard
  · exact (f_flat1_okF [] trivial).hard
  · exact (f_flat1_okG [] trivial).hard
  · exact (f_flat1_okH [] trivial).hard
theorem new_meets {c : Nat} (h : 1 ≤ c ∧ c ≤ 8) : Meets P 9 (.cons (.agg (.cons (seatsV c) .nil)) .nil) (.tup (.cons (.agg (maC0 c)) (.cons (.int true .i64 0) .nil))) := by
  rcases (show c = 1 ∨ c = 2 ∨ c = 3 ∨ c = 4 ∨ c = 5 ∨ c = 6 ∨ c = 7 ∨ c = 8 by omega) with rfl | rfl | rfl | rfl | rfl | rfl | rfl | rfl
  · exact f_new_okA [] trivial
  · exact f_new_okB [] trivial
  · exact f_new_okC [] trivial
  · exact f_new_okD [] trivial
  · exact f_new_okE [] trivial
  · exact f_new_okF [] trivial
  · exact f_new_okG [] trivial
  · exact f_new_okH [] trivial
theorem t_do_ok {c : Nat} (h : 1 ≤ c ∧ c ≤ 8) : (t_do c).Ok P := famConC_ok (seats_self c) (sets_self c) ⟨⟨g_do0_ok h, g_do0_form c⟩, ⟨g_do1_ok h, g_do1_form c⟩, ⟨g_do2_ok h, g_do2_form c⟩, ⟨g_do4_ok h, g_do4_form c⟩, trivial⟩
theorem t_ran_ok {c : Nat} (h : 1 ≤ c ∧ c ≤ 8) : (t_ran c).Ok P := famConC_ok (seats_self c) (sets_self c) ⟨⟨g_ran_ok h, g_ran_form c⟩, trivial⟩
theorem t_flat_ok {c : Nat} (h : 1 ≤ c ∧ c ≤ 8) : (t_flat c).Ok P := by
  intro x
  dsimp only [t_flat]
  split
  · rename_i h
    split at h <;> cases h
  · rename_i h'
    split at h'
    · injection h' with h'; injection h' with k1 k2; subst k1; subst k2
      intro e
      subst e
      exact Meets.of_soft (flat_meets h)
    · cases h'
  · rename_i h
    split at h <;> cases h
  · trivial
theorem t_new_ok {c : Nat} (h : 1 ≤ c ∧ c ≤ 8) : (t_new c).Ok P := by
  intro x
  dsimp only [t_new]
  split
  · rename_i h
    split at h <;> cases h
  · rename_i h'
    split at h'
    · injection h' with h'; injection h' with k1 k2; subst k1; subst k2
      intro e
      subst e
      exact new_meets h
    · cases h'
  · rename_i h
    split at h <;> cases h
  · trivial
end Go.Proofs.YtdgjneondmmgdaaGreatDoor
