/- CpusetTurns: its plain law. -/
import Derived.Test.YtpeekgekmjldlaaDoorCqA
namespace Go.Proofs.YtpeekgekmjldlaaDoor
open Go.Fw
set_option maxRecDepth 100000
abbrev turnsBad (w0 w1 o0 o1 : Int) (r c h : Bool) (a b : Int) : Bool :=
  bif bif bif w1 != bif !r then (140 : Int) else bif !c then (2 : Int) else bif h then (5 : Int) else (0 : Int) then true else bif o1 != bif !r then (140 : Int) else bif !c then (2 : Int) else bif h then (0 : Int) else (4 : Int) then true else bif w0 != bif !r then (0 : Int) else bif !c then (0 : Int) else bif h then (0 : Int) else IntKind.wrap IntKind.u32 (a + IntKind.wrap IntKind.u32 ((1 : Int) * (2 : Int) ^ min (Int.toNat b) (IntKind.bits IntKind.u32))) then true else o0 != bif !r then (0 : Int) else bif !c then (0 : Int) else bif h then IntKind.wrap IntKind.u32 (a - IntKind.wrap IntKind.u32 ((1 : Int) * (2 : Int) ^ min (Int.toNat b) (IntKind.bits IntKind.u32))) else (0 : Int) then true else false then true else false
theorem turns_small {a b : Int} (h0 : 0 ≤ a) (h1 : a < 256) (h2 : 0 ≤ b) (h3 : b < 8) : turnsBad (uWith_0_p a b) (uWith_1_p a b) (uWithout_0_p a b) (uWithout_1_p a b) true true (vHas_0_p a b) a b = false := by
  have := below8 (f := fun a b => !(turnsBad (uWith_0_p a b) (uWith_1_p a b) (uWithout_0_p a b) (uWithout_1_p a b) true true (vHas_0_p a b) a b)) (by kernel_rfl) h0 h1 h2 h3
  simpa using this
theorem turns_ok {a b : Int} (h0 : 0 ≤ a) (h1 : a < 4294967296) : turnsBad (uWith_0 a b) (uWith_1 a b) (uWithout_0 a b) (uWithout_1 a b) (vRight_0 a) (vCpu_0 b) (vHas_0 a b) a b = false := by
  by_cases hr : a < 256
  · have er : vRight_0 a = true := by rw [right_eq]; exact decide_eq_true hr
    by_cases hc : 0 ≤ b ∧ b < 8
    · have ec : vCpu_0 b = true := by rw [cpu_eq]; exact decide_eq_true hc
      rw [er, ec, uWith_0_pe, uWith_1_pe, uWithout_0_pe, uWithout_1_pe, vHas_0_pe]
      exact turns_small h0 hr hc.1 hc.2
    · have ec : vCpu_0 b = false := by rw [cpu_eq]; exact decide_eq_false hc
      obtain ⟨e1, e2, e3, e4⟩ := with_out h0 hr hc
      rw [er, ec, e1, e2, e3, e4]
      rfl
  · have er : vRight_0 a = false := by rw [right_eq]; exact decide_eq_false hr
    obtain ⟨e1, e2, e3, e4⟩ := with_big (b := b) (show 256 ≤ a by omega) h1
    rw [er, e1, e2, e3, e4]
    rfl
end Go.Proofs.YtpeekgekmjldlaaDoor
