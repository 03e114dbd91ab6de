/- For every number and text (the tables as the program's text lays them), CallNames answers true and leaves its arguments as they were: no condition on the arguments; what is listed is tied by the card. -/
import Derived.Test.YtkkojdcchnailaaGreatDoorQNx
import Derived.Test.YtkkojdcchnailaaGreatDoorQNfA
import Derived.Test.YtkkojdcchnailaaGreatDoorQGwR
import Derived.Test.YtkkojdcchnailaaGreatDoorQNg
import Derived.Test.YtkkojdcchnailaaGreatDoorRows
import Derived.Test.YtkkojdcchnailaaGreatDoorTie
import Derived.Test.YtkkojdcchnailaaGreatDoorCards
import Derived.JoinedTies
import Derived.JoinedOf
import Derived.LaidLaws
import Derived.LaidHandle
import Derived.SevenTiedAt
import Derived.Stop.Joined
namespace Go.Proofs.YtkkojdcchnailaaGreatDoor.callNames
open Go.Fw
set_option maxRecDepth 100000
set_option linter.unusedVariables false

theorem own : ownKnob Tryz.prog.godebug = none := by kernel_rfl
theorem laidOut : laidOutB Tryz.prog = true := by kernel_rfl
abbrev sh : Sh := .pair (.int .i64) (.pair .str .unit)
theorem word (x : sh.den) (w : sh.wf x) : Meets Tryz.prog 4 (sh.vals x) (.bool false true) :=
  names_meets x.1 x.2.1

theorem contract (H : Type) (enc : TypeId × Value → H) (W : World) (base : Nat) (args : Array Value) (ds gs : List (DataW H)) (before : List MemPlace) (hL : laidMetH Tryz.prog Rows.callNamesRow.laid W)
    (hval : ∀ (j : Nat) t v, Tryz.f4.params[j]? = some t → args[j]? = some v → Value.okWide Tryz.prog W .any base t v)
    (hW : DataW.Whole enc Tryz.prog Tryz.f4.params.toList Rows.callNamesSpec.vars false W args.toList ds gs before) :
    Calls Tryz.prog 4 args W fun e W' => ∃ v, e = .returned v ∧ Rows.callNamesSpec.post enc Tryz.prog Tryz.f4 false true false false W args v W' :=
  law_contract (P := Tryz.prog) (f := Tryz.f4) (k := 8) (sh := sh) (tb := 4)
    word (by kernel_rfl) rfl laidOut (by kernel_rfl) (by kernel_rfl) (by kernel_rfl)
    (fun ds h => by
      match ds, h with
      | [_, _], _ => rfl) (gok_of hL (by kernel_rfl) (by kernel_rfl)) hval hW

def setVar (w : World) (g : Nat) (k : IntKind) (zs : List Int) : World :=
  { w with heap := w.heap.modify g fun
      | .cells _ t frozen => .cells (zs.map (Value.int k)).toArray t frozen
      | o => o }
def setStr (w : World) (g : Nat) (ss : List (List UInt8)) : World :=
  { w with heap := w.heap.modify g fun
      | .cells _ t frozen => .cells (ss.map fun s => Value.string ⟨s.toArray⟩).toArray t frozen
      | o => o }
/-- A world that meets the condition: the settled one, the tables laid. -/
noncomputable def laidWorld (os : Os) : World := setStr (setVar (World.holding Tryz.prog os ⟨#[], #[], []⟩) 2 .u8 tab2) 1 tab1
theorem laidWorld_met (os : Os) (args : Array Value) : laidMetH Tryz.prog Rows.callNamesRow.laid ((laidWorld os).forCall (fun _ _ => 0) ⟨#[], args, []⟩).memory := by
  have h : laidMet Tryz.prog Rows.callNamesRow.laid ((laidWorld os).forCall (fun _ _ => 0) ⟨#[], args, []⟩).memory := laidMet_of_run' 8 (by kernel_rfl) (by kernel_rfl)
  exact h

theorem lifted (os : Os) (started : os.Started) (H : Type) (enc : TypeId × Value → H) :
    ReturnsInHanded {} Tryz.checked os 4 .any (fun w args => (Rows.callNamesSpec.pre enc Tryz.prog Tryz.f4 [] false w args ∧ laidMetH Tryz.prog Rows.callNamesRow.laid w) ∧ sizedMet enc Tryz.prog Tryz.f4 (OpenSpec.ofChange Rows.callNamesSpec) false w args)
      (Rows.callNamesSpec.post enc Tryz.prog Tryz.f4 false true false false) := by
  refine returnsInHanded_of_change_and (C := Tryz.checked) (X := fun w _ => laidMetH Tryz.prog Rows.callNamesRow.laid w) (fun _ _ _ hh h => h.of_heap hh) own started (by kernel_rfl) Tryz.func4
    (ChangeSpec.witness_at (enc := enc) (C := Tryz.checked) (os := os) (X := fun w _ => laidMetH Tryz.prog Rows.callNamesRow.laid w) false (laidWorld os) #[.int .i64 0, .string ⟨#[]⟩] 8 rfl (by kernel_rfl) (by kernel_rfl) (by kernel_rfl) (by kernel_rfl) (by kernel_rfl) (laidWorld_met os _)) ?_
  intro W base args ds gs before hval hW _ _ hL _
  exact contract H enc W base args ds gs before hL hval hW

theorem inst : Tryz.f4.isInstance Tryz.prog Rows.callNamesRow.origin Rows.callNamesRow.targs := of_decide_eq_true (by kernel_rfl)
theorem over : Rows.CallNamesSaid :=
  OpenClaim.holds_of_wide 4 Tryz.f4 rfl rfl rfl rfl rfl rfl rfl ⟨rfl, rfl, rfl, rfl, rfl⟩ rfl rfl rfl rfl rfl (by kernel_rfl) Tryz.func4 closed
    inst (by unfold Func.isWrapper; rw [if_neg (of_decide_eq_false (by kernel_rfl))]; exact ⟨rfl, rfl⟩)
    (fun os started H enc _ => lifted os started H enc)
end Go.Proofs.YtkkojdcchnailaaGreatDoor.callNames
