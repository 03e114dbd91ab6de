/- For every two numbers and row of numbers (the table of Go's library as the program's text lays it), MachineIdles answers true and leaves its arguments as they were: no condition on the arguments; what is listed is tied by the card. -/
import Derived.Test.YtdgjneondmmgdaaGreatDoorNx
import Derived.Test.YtdgjneondmmgdaaGreatDoorNfC
import Derived.Test.YtdgjneondmmgdaaGreatDoorNg
import Derived.Test.YtdgjneondmmgdaaGreatDoorFe
import Derived.Test.YtdgjneondmmgdaaGreatDoorRows
import Derived.Test.YtdgjneondmmgdaaGreatDoorTe
import Derived.Test.YtdgjneondmmgdaaGreatDoorCards
import Derived.JoinedTies
import Derived.JoinedOf
import Derived.LaidLaws
import Derived.LaidHandle
import Derived.SevenTiedAt
import Derived.Stop.Joined
set_option linter.unusedSimpArgs false
set_option linter.unusedVariables false
namespace Go.Proofs.YtdgjneondmmgdaaGreatDoor.machineIdles
open Go.Fw
set_option maxRecDepth 100000
set_option linter.unusedVariables false

theorem own : ownKnob Tryz.prog.godebug = none := by kernel_rfl
theorem laidOut : laidOutB Tryz.prog = true := fact1
abbrev sh : Sh := .pair (.int .i64) (.pair (.int .i64) (.pair (.sl 1 (.int .i64)) .unit))
theorem word (x : sh.den) (w : sh.wf x) : Meets Tryz.prog 3 (sh.vals x) (.bool false true) :=
  idles_meets x.1 x.2.1 x.2.2.1.1 (fun i => x.2.2.1.2 i)

theorem contract (H : Type) (enc : TypeId × Value → H) (W : World) (base : Nat) (args : Array Value) (ds gs : List (DataW H)) (before : List MemPlace) (hL : laidMetH Tryz.prog Rows.machineIdlesRow.laid W)
    (hval : ∀ (j : Nat) t v, Tryz.f3.params[j]? = some t → args[j]? = some v → Value.okWide Tryz.prog W .any base t v)
    (hW : DataW.Whole enc Tryz.prog Tryz.f3.params.toList Rows.machineIdlesSpec.vars false W args.toList ds gs before) :
    Calls Tryz.prog 3 args W fun e W' => ∃ v, e = .returned v ∧ Rows.machineIdlesSpec.post enc Tryz.prog Tryz.f3 false true false false W args v W' :=
  law_contract (P := Tryz.prog) (f := Tryz.f3) (k := 8) (sh := sh) (tb := 4)
    word (by kernel_rfl) rfl laidOut (by kernel_rfl) (by kernel_rfl) (by kernel_rfl)
    (fun ds h => by
      match ds, h with
      | [_, _, _], _ => rfl) (gok_of hL (by kernel_rfl)) hval hW

def setVar (w : World) (g : Nat) (k : IntKind) (zs : List Int) : World :=
  { w with heap := w.heap.modify g fun
      | .cells _ t frozen => .cells (zs.map (Value.int k)).toArray t frozen
      | o => o }
/-- A world that meets the condition: the settled one, the table laid. -/
noncomputable def laidWorld (os : Os) : World := setVar (World.holding Tryz.prog os ⟨#[], #[], []⟩) 0 .u8 tab0
theorem laidWorld_met (os : Os) (args : Array Value) : laidMetH Tryz.prog Rows.machineIdlesRow.laid ((laidWorld os).forCall (fun _ _ => 0) ⟨#[], args, []⟩).memory := by
  have h : laidMet Tryz.prog Rows.machineIdlesRow.laid ((laidWorld os).forCall (fun _ _ => 0) ⟨#[], args, []⟩).memory := laidMet_of_run' 8 (by kernel_rfl) (by kernel_rfl)
  exact h

theorem lifted (os : Os) (started : os.Started) (H : Type) (enc : TypeId × Value → H) :
    ReturnsInHanded {} Tryz.checked os 3 .any (fun w args => (Rows.machineIdlesSpec.pre enc Tryz.prog Tryz.f3 [] false w args ∧ laidMetH Tryz.prog Rows.machineIdlesRow.laid w) ∧ sizedMet enc Tryz.prog Tryz.f3 (OpenSpec.ofChange Rows.machineIdlesSpec) false w args)
      (Rows.machineIdlesSpec.post enc Tryz.prog Tryz.f3 false true false false) := by
  refine returnsInHanded_of_change_and (C := Tryz.checked) (X := fun w _ => laidMetH Tryz.prog Rows.machineIdlesRow.laid w) (fun _ _ _ hh h => h.of_heap hh) own started (by kernel_rfl) Tryz.func3
    (ChangeSpec.witness_at (enc := enc) (C := Tryz.checked) (os := os) (X := fun w _ => laidMetH Tryz.prog Rows.machineIdlesRow.laid w) false (laidWorld os) #[.int .i64 0, .int .i64 0, .slice none 0 0] 8 rfl (by kernel_rfl) (by kernel_rfl) (by kernel_rfl) (by kernel_rfl) (by kernel_rfl) (laidWorld_met os _)) ?_
  intro W base args ds gs before hval hW _ _ hL _
  exact contract H enc W base args ds gs before hL hval hW

theorem inst : Tryz.f3.isInstance Tryz.prog Rows.machineIdlesRow.origin Rows.machineIdlesRow.targs := of_decide_eq_true (by kernel_rfl)
theorem over : Rows.MachineIdlesSaid :=
  OpenClaim.holds_of_wide 3 Tryz.f3 rfl rfl rfl rfl rfl rfl rfl ⟨rfl, rfl, rfl, rfl, rfl⟩ rfl rfl rfl rfl rfl (by kernel_rfl) Tryz.func3 closed
    inst (by unfold Func.isWrapper; rw [if_neg (of_decide_eq_false (by kernel_rfl))]; exact ⟨rfl, rfl⟩)
    (fun os started H enc _ => lifted os started H enc)
end Go.Proofs.YtdgjneondmmgdaaGreatDoor.machineIdles
