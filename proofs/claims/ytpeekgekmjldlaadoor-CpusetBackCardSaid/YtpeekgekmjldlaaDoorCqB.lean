/- CpusetBack: its plain law. -/
import Derived.Test.YtpeekgekmjldlaaDoorCfB
namespace Go.Proofs.YtpeekgekmjldlaaDoor
open Go.Fw
set_option maxRecDepth 100000
noncomputable abbrev backBad (a b : Int) : Bool :=
  (bif bif uWith_1 a b == (0 : Int) then bif bif bif uWithout_1 (uWith_0 a b) b != (0 : Int) then true else bif uWithout_0 (uWith_0 a b) b != a then true else bif !uHas_0 (uWith_0 a b) b then true else bif uCount_0 (uWith_0 a b) != IntKind.wrap IntKind.i64 (uCount_0 a + (1 : Int)) then true else bif uWithout_1 a b != (4 : Int) then true else bif !uWithin_0 a (uWith_0 a b) then true else uWithin_0 (uWith_0 a b) a then true else false then true else false else bif bif uWithout_1 a b == (0 : Int) then bif bif bif uWith_1 (uWithout_0 a b) b != (0 : Int) then true else bif uWith_0 (uWithout_0 a b) b != a then true else bif uHas_0 (uWithout_0 a b) b then true else !uWithin_0 (uWithout_0 a b) a then true else false then true else false else bif bif bif uWith_1 a b != (2 : Int) then true else uWithout_1 a b != (2 : Int) then true else false then true else false then true else false then true else false)
def backBadP (a b : Int) : Bool :=
  (bif bif uWith_1_p a b == (0 : Int) then bif bif bif uWithout_1_p (uWith_0_p a b) b != (0 : Int) then true else bif uWithout_0_p (uWith_0_p a b) b != a then true else bif !uHas_0_p (uWith_0_p a b) b then true else bif uCount_0_p (uWith_0_p a b) != IntKind.wrap IntKind.i64 (uCount_0_p a + (1 : Int)) then true else bif uWithout_1_p a b != (4 : Int) then true else bif !uWithin_0_p a (uWith_0_p a b) then true else uWithin_0_p (uWith_0_p a b) a then true else false then true else false else bif bif uWithout_1_p a b == (0 : Int) then bif bif bif uWith_1_p (uWithout_0_p a b) b != (0 : Int) then true else bif uWith_0_p (uWithout_0_p a b) b != a then true else bif uHas_0_p (uWithout_0_p a b) b then true else !uWithin_0_p (uWithout_0_p a b) a then true else false then true else false else bif bif bif uWith_1_p a b != (2 : Int) then true else uWithout_1_p a b != (2 : Int) then true else false then true else false then true else false then true else false)
theorem back_small {a b : Int} (h0 : 0 ≤ a) (h1 : a < 256) (h2 : 0 ≤ b) (h3 : b < 8) : backBadP a b = false := by
  have := below8 (f := fun a b => !(backBadP a b)) (by kernel_rfl) h0 h1 h2 h3
  simpa using this
theorem back_ok {a b : Int} (h0 : 0 ≤ a) (h1 : a < 256) : backBad a b = false := by
  by_cases hc : 0 ≤ b ∧ b < 8
  · have e : backBad a b = backBadP a b := by
      unfold backBad
      simp only [uWith_0_pe, uWith_1_pe, uWithout_0_pe, uWithout_1_pe, uHas_0_pe, uCount_0_pe, uWithin_0_pe]
      rfl
    rw [e]
    exact back_small h0 h1 hc.1 hc.2
  · obtain ⟨_, e2, _, e4⟩ := with_out h0 h1 hc
    unfold backBad
    rw [e2, e4]
    rfl
end Go.Proofs.YtpeekgekmjldlaaDoor
