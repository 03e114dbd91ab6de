/- For every argument BucketWaits answers true and leaves its arguments as they were: no condition. -/
import Derived.Test.YtfealfofcjgihaaYv
import Derived.Test.YtfealfofcjgihaaGwR
import Derived.Test.YtfealfofcjgihaaRows
import Derived.JoinedTies
namespace Go.Proofs.Ytfealfofcjgihaa.bucketWaits
open Go.Fw
set_option maxRecDepth 100000
set_option linter.unusedVariables false

theorem own : ownKnob Try.prog.godebug = none := by kernel_rfl
theorem laid : laidOutB Try.prog = true := by kernel_rfl

abbrev sh : Sh := (.pair (.pair (.int .i64) (.pair (.int .i64) .unit)) .unit)
theorem word (x : sh.den) (w : sh.wf x) : Meets Try.prog 5 (sh.vals x) (.bool false true) := by
  exact waits_meets x.1.1 x.1.2.1

theorem contract (H : Type) (enc : TypeId × Value → H) (W : World) (base : Nat) (args : Array Value) (ds gs : List (DataW H)) (before : List MemPlace)
    (hval : ∀ (j : Nat) t v, Try.f5.params[j]? = some t → args[j]? = some v → Value.okWide Try.prog W .any base t v)
    (hW : DataW.Whole enc Try.prog Try.f5.params.toList Rows.bucketWaitsSpec.vars false W args.toList ds gs before) :
    Calls Try.prog 5 args W fun e W' => ∃ v, e = .returned v ∧ Rows.bucketWaitsSpec.post enc Try.prog Try.f5 false true false false W args v W' :=
  law_contract (P := Try.prog) (f := Try.f5) (k := 5) (sh := sh) (tb := 4)
    word (by kernel_rfl) rfl laid (by kernel_rfl) (by kernel_rfl) (by kernel_rfl)
    (fun ds h => by
      match ds, h with
      | [_], _ => rfl) (fun g v h => by cases h) hval hW

theorem lifted (os : Os) (started : os.Started) (H : Type) (enc : TypeId × Value → H) :
    ReturnsInHanded {} Try.checked os 5 .any (Rows.bucketWaitsSpec.pre6 enc Try.prog Try.f5 Rows.bucketWaitsRow.domain false) (Rows.bucketWaitsSpec.post enc Try.prog Try.f5 false true false false) := by
  refine returnsInHanded_of_change (C := Try.checked) own started (by kernel_rfl) Try.func5
    (ChangeSpec.witness6 (enc := enc) (C := Try.checked) false ⟨#[], #[.agg #[.int .i64 0, .int .i64 0]], []⟩ 8 (by kernel_rfl) (by kernel_rfl) (by kernel_rfl) (by kernel_rfl)) ?_
  intro W base args ds gs before hval hW _ _
  exact contract H enc W base args ds gs before hval hW

theorem over : Rows.bucketWaitsRow.holds Try.pinned (OpenSpec.ofChange Rows.bucketWaitsSpec) :=
  OpenClaim.holds_of_wide 5 Try.f5 rfl rfl rfl rfl rfl rfl rfl ⟨rfl, rfl, rfl, rfl, rfl⟩ rfl rfl rfl rfl rfl (by kernel_rfl) Try.func5 (by kernel_rfl)
    (of_decide_eq_true (by kernel_rfl)) (by unfold Func.isWrapper; rw [if_neg (of_decide_eq_false (by kernel_rfl))]; exact ⟨rfl, rfl⟩)
    (fun os started H enc _ => lifted os started H enc)

theorem proved : Rows.BucketWaitsSaid := over
end Go.Proofs.Ytfealfofcjgihaa.bucketWaits
