/- For every argument BucketHolds answers true and leaves its arguments as they were: no condition. -/
import Derived.Test.YtfealfofcjgihaaZu
import Derived.Test.YtfealfofcjgihaaGwR
import Derived.Test.YtfealfofcjgihaaRows
import Derived.JoinedTies
namespace Go.Proofs.Ytfealfofcjgihaa.bucketHolds
open Go.Fw
set_option maxRecDepth 100000
set_option linter.unusedVariables false

theorem own : ownKnob Try.prog.godebug = none := by kernel_rfl
theorem laid : laidOutB Try.prog = true := by kernel_rfl

abbrev sh : Sh := (.pair (.pair (.int .i64) (.pair (.int .i64) .unit)) (.pair (.sl 3 (.pair (.int .i64) (.pair (.int .i64) (.pair (.int .i64) .unit)))) .unit))
theorem word (x : sh.den) (w : sh.wf x) : Meets Try.prog 4 (sh.vals x) (.bool false true) := by
  exact holds_meets x.1.1 x.1.2.1 x.2.1.1 (fun j => ((x.2.1.2 j).1, (x.2.1.2 j).2.1, (x.2.1.2 j).2.2.1))

theorem contract (H : Type) (enc : TypeId × Value → H) (W : World) (base : Nat) (args : Array Value) (ds gs : List (DataW H)) (before : List MemPlace)
    (hval : ∀ (j : Nat) t v, Try.f4.params[j]? = some t → args[j]? = some v → Value.okWide Try.prog W .any base t v)
    (hW : DataW.Whole enc Try.prog Try.f4.params.toList Rows.bucketHoldsSpec.vars false W args.toList ds gs before) :
    Calls Try.prog 4 args W fun e W' => ∃ v, e = .returned v ∧ Rows.bucketHoldsSpec.post enc Try.prog Try.f4 false true false false W args v W' :=
  law_contract (P := Try.prog) (f := Try.f4) (k := 5) (sh := sh) (tb := 4)
    word (by kernel_rfl) rfl laid (by kernel_rfl) (by kernel_rfl) (by kernel_rfl)
    (fun ds h => by
      match ds, h with
      | [_, _], _ => rfl) (fun g v h => by cases h) hval hW

theorem lifted (os : Os) (started : os.Started) (H : Type) (enc : TypeId × Value → H) :
    ReturnsInHanded {} Try.checked os 4 .any (Rows.bucketHoldsSpec.pre6 enc Try.prog Try.f4 Rows.bucketHoldsRow.domain false) (Rows.bucketHoldsSpec.post enc Try.prog Try.f4 false true false false) := by
  refine returnsInHanded_of_change (C := Try.checked) own started (by kernel_rfl) Try.func4
    (ChangeSpec.witness6 (enc := enc) (C := Try.checked) false ⟨#[], #[.agg #[.int .i64 0, .int .i64 0], .slice none 0 0], []⟩ 8 (by kernel_rfl) (by kernel_rfl) (by kernel_rfl) (by kernel_rfl)) ?_
  intro W base args ds gs before hval hW _ _
  exact contract H enc W base args ds gs before hval hW

theorem over : Rows.bucketHoldsRow.holds Try.pinned (OpenSpec.ofChange Rows.bucketHoldsSpec) :=
  OpenClaim.holds_of_wide 4 Try.f4 rfl rfl rfl rfl rfl rfl rfl ⟨rfl, rfl, rfl, rfl, rfl⟩ rfl rfl rfl rfl rfl (by kernel_rfl) Try.func4 (by kernel_rfl)
    (of_decide_eq_true (by kernel_rfl)) (by unfold Func.isWrapper; rw [if_neg (of_decide_eq_false (by kernel_rfl))]; exact ⟨rfl, rfl⟩)
    (fun os started H enc _ => lifted os started H enc)

theorem proved : Rows.BucketHoldsSaid := over
end Go.Proofs.Ytfealfofcjgihaa.bucketHolds
