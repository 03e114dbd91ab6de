/- WaitPauses: its law. -/
import Derived.Test.YtfealfofcjgihaaXeR
namespace Go.Proofs.Ytfealfofcjgihaa
open Go.Fw
set_option maxRecDepth 100000

theorem event_false {s p po u c : Int} (h : fit s p po u) (hc : 0 ≤ c ∧ c < 32) : wEvent_0 s p po u c false = (if 2 ≤ s then 1 else s) ∧ wEvent_1 s p po u c false = p ∧ wEvent_2 s p po u c false = (if 2 ≤ s then 0 else po) ∧
    wEvent_3 s p po u c false = (if 2 ≤ s then 0 else u) ∧ wEvent_4 s p po u c false = decide (2 ≤ s) ∧ wEvent_5 s p po u c false = 0 := by
  have h1 : ¬ c < 0 := by omega
  have h2 : ¬ c ≥ 32 := by omega
  rw [wEvent_0_eq, wEvent_1_eq, wEvent_2_eq, wEvent_3_eq, wEvent_4_eq, wEvent_5_eq, wcheck, if_pos h]
  generalize (IntKind.wrap IntKind.u32 ↑(BitVec.toNat (BitVec.ofInt (IntKind.bits IntKind.u32) (Int.fdiv po ((2 : Int) ^ min (Int.toNat c) (IntKind.bits IntKind.u32))) &&& BitVec.ofInt (IntKind.bits IntKind.u32) (1 : Int))) == (1 : Int)) = z
  unfold fit at h
  have hs : s = 0 ∨ s = 1 ∨ s = 2 ∨ s = 3 := by omega
  rcases hs with rfl | rfl | rfl | rfl
  · simp [V.toInt, V.toBool, h1, h2]
  · simp [V.toInt, V.toBool, h1, h2]
  · simp [V.toInt, V.toBool, h1, h2]
  · cases z <;> simp [V.toInt, V.toBool, h1, h2]
theorem pauses_holds (s p po u b c : Int) : Tree.Hold P (evFn (en [c_wCheck, c_wRuns, c_wEvent] [pausesG, pausesG2]) 400 12 (.cons (.agg (.cons (.int false .i64 s) (.cons (.int false .i64 p) (.cons (.int false .u32 po) (.cons (.int false .i64 u) .nil))))) (.cons (.int false .i64 b) (.cons (.int false .i64 c) .nil)))) fun r => r.soft = .bool false true := by
  constructor
  rw [pauses_tree]
  have hb : 0 ≤ Int.tmod (if (0 : Int) > b then (0 : Int) else b) 16 ∧ Int.tmod (if (0 : Int) > b then (0 : Int) else b) 16 ≤ 15 := by
    have hp : 0 ≤ (if (0 : Int) > b then (0 : Int) else b) := by split <;> omega
    rw [Int.tmod_eq_emod_of_nonneg hp]
    omega
  have hc : 0 ≤ Int.tmod (if (0 : Int) > c then (0 : Int) else c) 32 ∧ Int.tmod (if (0 : Int) > c then (0 : Int) else c) 32 < 32 := by
    have hp : 0 ≤ (if (0 : Int) > c then (0 : Int) else c) := by split <;> omega
    rw [Int.tmod_eq_emod_of_nonneg hp]
    omega
  generalize Int.tmod (if (0 : Int) > b then (0 : Int) else b) 16 = n at hb ⊢
  generalize Int.tmod (if (0 : Int) > c then (0 : Int) else c) 32 = k at hc ⊢
  rw [wcheck]
  by_cases h : fit s p po u
  · rw [if_pos h]
    have hf := h
    unfold fit at hf
    refine ⟨fun hx => by simp at hx, fun _ => ⟨⟨⟨h, by omega, by omega, by omega, by omega⟩, rfl, rfl, rfl, rfl, rfl, rfl⟩, fun x hx => ?_⟩⟩
    obtain ⟨_, x0, x1, x2, x3⟩ := hx
    obtain ⟨e0, e1, e2, e3, e4, e5⟩ := event_false h hc
    obtain ⟨f0, f1, f2, f3, f4, f5⟩ := event_false (fit_p (q := p + x) h ⟨by omega, by omega⟩) hc
    rw [e0, e1, e2, e3, e4, e5, f0, f1, f2, f3, f4, f5]
    refine ⟨fun hy => ?_, fun _ => ⟨⟨⟨h, ?_, by omega, by omega, by omega⟩, rfl, rfl, rfl, rfl, rfl, rfl, rfl, rfl, rfl, rfl, rfl⟩, ?_⟩⟩
    · cases decide (2 ≤ s) <;> simp at hy
    · unfold fit
      by_cases h2 : 2 ≤ s
      · simp only [if_pos h2]; omega
      · simp only [if_neg h2]; omega
    · have hbb : (bif s == s && (p == p && (po == po && (u == u && true))) then (if 2 ≤ s then 1 else s) == (if 2 ≤ s then 1 else s) && (p == p && ((if 2 ≤ s then 0 else po) == (if 2 ≤ s then 0 else po) && ((if 2 ≤ s then 0 else u) == (if 2 ≤ s then 0 else u) && true))) else false) = true := by simp
      rw [hbb]
      exact rfl
  · rw [if_neg h]
    exact ⟨fun _ => rfl, fun hx => by simp at hx⟩
theorem pauses_meets (s p po u b c : Int) : Meets P 12 (.cons (.agg (.cons (.int false .i64 s) (.cons (.int false .i64 p) (.cons (.int false .u32 po) (.cons (.int false .i64 u) .nil))))) (.cons (.int false .i64 b) (.cons (.int false .i64 c) .nil))) (.bool false true) :=
  meets_true (en_okl (l := [c_wCheck, c_wRuns, c_wEvent]) ⟨c_wCheck_ok, c_wRuns_ok, c_wEvent_ok, trivial⟩ (ls := [pausesG, pausesG2]) ⟨pausesG_ok, pausesG2_ok, trivial⟩) 400 (Has.of hn Try.func12 rfl) (pauses_holds s p po u b c)
end Go.Proofs.Ytfealfofcjgihaa
