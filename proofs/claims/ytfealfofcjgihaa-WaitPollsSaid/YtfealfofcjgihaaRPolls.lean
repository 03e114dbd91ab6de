/- For every argument WaitPolls answers true and leaves its arguments as they were: no condition. -/
import Derived.Test.YtfealfofcjgihaaXq
import Derived.Test.YtfealfofcjgihaaGwR
import Derived.Test.YtfealfofcjgihaaRows
import Derived.JoinedTies
namespace Go.Proofs.Ytfealfofcjgihaa.waitPolls
open Go.Fw
set_option maxRecDepth 100000
set_option linter.unusedVariables false

theorem own : ownKnob Try.prog.godebug = none := by kernel_rfl
theorem laid : laidOutB Try.prog = true := by kernel_rfl

abbrev sh : Sh := (.pair (.pair (.int .i64) (.pair (.int .i64) (.pair (.int .u32) (.pair (.int .i64) .unit)))) (.pair (.pair (.int .u32) (.pair (.int .u32) (.pair (.int .i64) (.pair (.int .i64) .unit)))) (.pair .bool .unit)))
theorem word (x : sh.den) (w : sh.wf x) : Meets Try.prog 11 (sh.vals x) (.bool false true) := by
  have hpw : (Lit.int .u32 x.1.2.2.1).wf = true := w.1.2.2.1
  have hp : 0 ≤ x.1.2.2.1 ∧ x.1.2.2.1 ≤ 4294967295 := by simpa [Lit.wf, IntKind.min, IntKind.max, IntKind.signed, IntKind.bits] using hpw
  have h0w : (Lit.int .u32 x.2.1.1).wf = true := w.2.1.1
  have h0 : 0 ≤ x.2.1.1 ∧ x.2.1.1 ≤ 4294967295 := by simpa [Lit.wf, IntKind.min, IntKind.max, IntKind.signed, IntKind.bits] using h0w
  have h1w : (Lit.int .u32 x.2.1.2.1).wf = true := w.2.1.2.1
  have h1 : 0 ≤ x.2.1.2.1 ∧ x.2.1.2.1 ≤ 4294967295 := by simpa [Lit.wf, IntKind.min, IntKind.max, IntKind.signed, IntKind.bits] using h1w
  have h : Meets P _ (sh.vals x) (.bool false (lwPolls_0 x.1.1 x.1.2.1 x.1.2.2.1 x.1.2.2.2.1 x.2.1.1 x.2.1.2.1 x.2.1.2.2.1 x.2.1.2.2.2.1 x.2.2.1)) := c_lwPolls_ok (sh.vals x)
  rwa [polls_true _ _ _ _ _ _ _ _ _ hp.1 h0.1 h0.2 h1.1 h1.2] at h

theorem contract (H : Type) (enc : TypeId × Value → H) (W : World) (base : Nat) (args : Array Value) (ds gs : List (DataW H)) (before : List MemPlace)
    (hval : ∀ (j : Nat) t v, Try.f11.params[j]? = some t → args[j]? = some v → Value.okWide Try.prog W .any base t v)
    (hW : DataW.Whole enc Try.prog Try.f11.params.toList Rows.waitPollsSpec.vars false W args.toList ds gs before) :
    Calls Try.prog 11 args W fun e W' => ∃ v, e = .returned v ∧ Rows.waitPollsSpec.post enc Try.prog Try.f11 false true false false W args v W' :=
  law_contract (P := Try.prog) (f := Try.f11) (k := 5) (sh := sh) (tb := 4)
    word (by kernel_rfl) rfl laid (by kernel_rfl) (by kernel_rfl) (by kernel_rfl)
    (fun ds h => by
      match ds, h with
      | [_, _, _], _ => rfl) (fun g v h => by cases h) hval hW

theorem lifted (os : Os) (started : os.Started) (H : Type) (enc : TypeId × Value → H) :
    ReturnsInHanded {} Try.checked os 11 .any (Rows.waitPollsSpec.pre6 enc Try.prog Try.f11 Rows.waitPollsRow.domain false) (Rows.waitPollsSpec.post enc Try.prog Try.f11 false true false false) := by
  refine returnsInHanded_of_change (C := Try.checked) own started (by kernel_rfl) Try.func11
    (ChangeSpec.witness6 (enc := enc) (C := Try.checked) false ⟨#[], #[.agg #[.int .i64 0, .int .i64 0, .int .u32 0, .int .i64 0], .agg #[.int .u32 0, .int .u32 0, .int .i64 0, .int .i64 0], .bool false], []⟩ 8 (by kernel_rfl) (by kernel_rfl) (by kernel_rfl) (by kernel_rfl)) ?_
  intro W base args ds gs before hval hW _ _
  exact contract H enc W base args ds gs before hval hW

theorem over : Rows.waitPollsRow.holds Try.pinned (OpenSpec.ofChange Rows.waitPollsSpec) :=
  OpenClaim.holds_of_wide 11 Try.f11 rfl rfl rfl rfl rfl rfl rfl ⟨rfl, rfl, rfl, rfl, rfl⟩ rfl rfl rfl rfl rfl (by kernel_rfl) Try.func11 (by kernel_rfl)
    (of_decide_eq_true (by kernel_rfl)) (by unfold Func.isWrapper; rw [if_neg (of_decide_eq_false (by kernel_rfl))]; exact ⟨rfl, rfl⟩)
    (fun os started H enc _ => lifted os started H enc)

theorem proved : Rows.WaitPollsSaid := over
end Go.Proofs.Ytfealfofcjgihaa.waitPolls
