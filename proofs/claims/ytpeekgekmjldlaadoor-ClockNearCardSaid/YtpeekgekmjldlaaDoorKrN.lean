/- For every row of pairs of int64 (the tables of Go's library as the program's text lays them), ClockNear answers true and leaves its argument as it was: no condition on the argument; the tables are tied by the card. -/
import Derived.Test.YtpeekgekmjldlaaDoorKiN
import Derived.Test.YtpeekgekmjldlaaDoorKg
import Derived.Test.YtpeekgekmjldlaaDoorGwR
import Derived.Test.YtpeekgekmjldlaaDoorRows
import Derived.Test.YtpeekgekmjldlaaDoorTie
import Derived.Test.YtpeekgekmjldlaaDoorCards
import Derived.JoinedTies
import Derived.JoinedOf
import Derived.LaidLaws
import Derived.LaidHandle
import Derived.SevenTiedAt
import Derived.Stop.Joined
namespace Go.Proofs.YtpeekgekmjldlaaDoor.clockNear
open Go.Fw
set_option maxRecDepth 100000
set_option linter.unusedVariables false

theorem own : ownKnob Tryd.prog.godebug = none := by kernel_rfl
theorem laidOut : laidOutB Tryd.prog = true := by kernel_rfl
abbrev sh : Sh := .pair (.sl 2 (.pair (.int .i64) (.pair (.int .i64) .unit))) .unit
theorem word (x : sh.den) (w : sh.wf x) : Meets Tryd.prog 7 (sh.vals x) (.bool false true) :=
  near_meets x.1.1 (fun j => ((x.1.2 j).1, (x.1.2 j).2.1))

theorem contract (H : Type) (enc : TypeId × Value → H) (W : World) (base : Nat) (args : Array Value) (ds gs : List (DataW H)) (before : List MemPlace) (hL : laidMetH Tryd.prog Rows.clockNearRow.laid W)
    (hval : ∀ (j : Nat) t v, Tryd.f7.params[j]? = some t → args[j]? = some v → Value.okWide Tryd.prog W .any base t v)
    (hW : DataW.Whole enc Tryd.prog Tryd.f7.params.toList Rows.clockNearSpec.vars false W args.toList ds gs before) :
    Calls Tryd.prog 7 args W fun e W' => ∃ v, e = .returned v ∧ Rows.clockNearSpec.post enc Tryd.prog Tryd.f7 false true false false W args v W' :=
  law_contract (P := Tryd.prog) (f := Tryd.f7) (k := 5) (sh := sh) (tb := 4)
    word (by kernel_rfl) rfl laidOut (by kernel_rfl) (by kernel_rfl) (by kernel_rfl)
    (fun ds h => by
      match ds, h with
      | [_], _ => rfl) (gok_of hL (by kernel_rfl) (by kernel_rfl) (by kernel_rfl)) hval hW

def accRow : List Int := [128, 191, 160, 191, 128, 159, 144, 191, 128, 143, 0, 0, 0, 0, 0, 0, 0, 0, 0, 0, 0, 0, 0, 0, 0, 0, 0, 0, 0, 0, 0, 0]
def setVar (w : World) (g : Nat) (k : IntKind) (zs : List Int) : World :=
  { w with heap := w.heap.modify g fun
      | .cells _ t frozen => .cells (zs.map (Value.int k)).toArray t frozen
      | o => o }
/-- A world that meets the condition: the settled one, the tables laid. -/
noncomputable def laidWorld (os : Os) : World :=
  setVar (setVar (setVar (setVar (setVar (World.holding Tryd.prog os ⟨#[], #[], []⟩) 0 .u8 tab0) 1 .u64 tab1) 5 .u8 (Go.Pinned.utf8FirstZ.map Int.ofNat)) 6 .u8 accRow) 7 .u8 tab7
theorem laidWorld_met (os : Os) (args : Array Value) : laidMetH Tryd.prog Rows.clockNearRow.laid ((laidWorld os).forCall (fun _ _ => 0) ⟨#[], args, []⟩).memory := by
  have h : laidMet Tryd.prog Rows.clockNearRow.laid ((laidWorld os).forCall (fun _ _ => 0) ⟨#[], args, []⟩).memory := laidMet_of_run' 8 (by kernel_rfl) (by kernel_rfl)
  exact h

theorem lifted (os : Os) (started : os.Started) (H : Type) (enc : TypeId × Value → H) :
    ReturnsInHanded {} Tryd.checked os 7 .any (fun w args => (Rows.clockNearSpec.pre enc Tryd.prog Tryd.f7 [] false w args ∧ laidMetH Tryd.prog Rows.clockNearRow.laid w) ∧ sizedMet enc Tryd.prog Tryd.f7 (OpenSpec.ofChange Rows.clockNearSpec) false w args)
      (Rows.clockNearSpec.post enc Tryd.prog Tryd.f7 false true false false) := by
  refine returnsInHanded_of_change_and (C := Tryd.checked) (X := fun w _ => laidMetH Tryd.prog Rows.clockNearRow.laid w) (fun _ _ _ hh h => h.of_heap hh) own started (by kernel_rfl) Tryd.func7
    (ChangeSpec.witness_at (enc := enc) (C := Tryd.checked) (os := os) (X := fun w _ => laidMetH Tryd.prog Rows.clockNearRow.laid w) false (laidWorld os) #[.slice none 0 0] 8 rfl (by kernel_rfl) (by kernel_rfl) (by kernel_rfl) (by kernel_rfl) (by kernel_rfl) (laidWorld_met os _)) ?_
  intro W base args ds gs before hval hW _ _ hL _
  exact contract H enc W base args ds gs before hL hval hW

theorem over : Rows.ClockNearSaid :=
  OpenClaim.holds_of_wide 7 Tryd.f7 rfl rfl rfl rfl rfl rfl rfl ⟨rfl, rfl, rfl, rfl, rfl⟩ rfl rfl rfl rfl rfl (by kernel_rfl) Tryd.func7 (by kernel_rfl)
    (of_decide_eq_true (by kernel_rfl)) (by unfold Func.isWrapper; rw [if_neg (of_decide_eq_false (by kernel_rfl))]; exact ⟨rfl, rfl⟩)
    (fun os started H enc _ => lifted os started H enc)
end Go.Proofs.YtpeekgekmjldlaaDoor.clockNear
