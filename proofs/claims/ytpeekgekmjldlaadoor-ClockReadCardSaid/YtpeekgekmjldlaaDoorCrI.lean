/- For every row of times and row of texts (the tables and the two errors of Go's library as the program's text lays them), ClockRead answers true and leaves its arguments as they were: no condition on the arguments; what is listed is tied by the card. -/
import Derived.Test.YtpeekgekmjldlaaDoorTyE
import Derived.Test.YtpeekgekmjldlaaDoorCgK
import Derived.Test.YtpeekgekmjldlaaDoorGwR
import Derived.Test.YtpeekgekmjldlaaDoorRows
import Derived.Test.YtpeekgekmjldlaaDoorTie
import Derived.Test.YtpeekgekmjldlaaDoorCards
import Derived.JoinedTies
import Derived.JoinedOf
import Derived.LaidLaws
import Derived.LaidHandle
import Derived.SevenTiedAt
import Derived.Stop.Joined
namespace Go.Proofs.YtpeekgekmjldlaaDoor.clockRead
open Go.Fw
set_option maxRecDepth 100000
set_option linter.unusedVariables false

theorem own : ownKnob Tryd.prog.godebug = none := by kernel_rfl
theorem laidOut : laidOutB Tryd.prog = true := by kernel_rfl
abbrev sh : Sh := .pair (.sl 1 (.int .i64)) (.pair (.sl 1 .str) .unit)
theorem u32_wf {x : Int} (h : (Lit.int .u32 x).wf = true) : 0 ≤ x ∧ x < 4294967296 := by
  simp only [Lit.wf, IntKind.min, IntKind.max, IntKind.signed, IntKind.bits, Bool.and_eq_true, decide_eq_true_eq, Bool.false_eq_true, if_false] at h
  omega
theorem word (x : sh.den) (w : sh.wf x) : Meets Tryd.prog 12 (sh.vals x) (.bool false true) :=
  cread_meets x.1.1 x.1.2 x.2.1.1 x.2.1.2

theorem contract (H : Type) (enc : TypeId × Value → H) (W : World) (base : Nat) (args : Array Value) (ds gs : List (DataW H)) (before : List MemPlace) (hL : laidMetH Tryd.prog Rows.clockReadRow.laid W)
    (hval : ∀ (j : Nat) t v, Tryd.f12.params[j]? = some t → args[j]? = some v → Value.okWide Tryd.prog W .any base t v)
    (hW : DataW.Whole enc Tryd.prog Tryd.f12.params.toList Rows.clockReadSpec.vars false W args.toList ds gs before) :
    Calls Tryd.prog 12 args W fun e W' => ∃ v, e = .returned v ∧ Rows.clockReadSpec.post enc Tryd.prog Tryd.f12 false true false false W args v W' :=
  law_contract (P := Tryd.prog) (f := Tryd.f12) (k := 5) (sh := sh) (tb := 4)
    word (by kernel_rfl) rfl laidOut (by kernel_rfl) (by kernel_rfl) (by kernel_rfl)
    (fun ds h => by
      match ds, h with
      | [_, _], _ => rfl) (gok_of hL (by kernel_rfl) (by kernel_rfl) (by kernel_rfl) (by kernel_rfl) (by kernel_rfl)) hval hW

def accRow : List Int := [128, 191, 160, 191, 128, 159, 144, 191, 128, 143, 0, 0, 0, 0, 0, 0, 0, 0, 0, 0, 0, 0, 0, 0, 0, 0, 0, 0, 0, 0, 0, 0]
def setVar (w : World) (g : Nat) (k : IntKind) (zs : List Int) : World :=
  { w with heap := w.heap.modify g fun
      | .cells _ t frozen => .cells (zs.map (Value.int k)).toArray t frozen
      | o => o }
def setErr (w : World) (g b : Nat) : World :=
  { w with heap := w.heap.modify g fun
      | .cells _ t frozen => .cells #[.iface 172 (.pointer (some ⟨b, 0, none⟩))] t frozen
      | o => o }
abbrev synS : ByteArray := { data := #[105, 110, 118, 97, 108, 105, 100, 32, 115, 121, 110, 116, 97, 120] }
abbrev rngS : ByteArray := { data := #[118, 97, 108, 117, 101, 32, 111, 117, 116, 32, 111, 102, 32, 114, 97, 110, 103, 101] }
noncomputable def low : Nat := (World.holding Tryd.prog default ⟨#[], #[], []⟩).heap.size
/-- A world that meets the condition: the settled one, the tables and the errors laid. -/
noncomputable def laidWorld (os : Os) : World :=
  setErr (setErr (setVar (setVar (setVar (setVar (setVar (World.holding Tryd.prog os ⟨#[.cells #[.string synS] 174, .cells #[.string rngS] 174], #[], []⟩) 0 .u8 tab0) 1 .u64 tab1) 5 .u8 (Go.Pinned.utf8FirstZ.map Int.ofNat)) 6 .u8 accRow) 7 .u8 tab7) 3 low) 4 (low + 1)
theorem laidWorld_met (os : Os) (args : Array Value) : laidMetH Tryd.prog Rows.clockReadRow.laid ((laidWorld os).forCall (fun _ _ => 0) ⟨#[], args, []⟩).memory := by
  have h : laidMet Tryd.prog Rows.clockReadRow.laid ((laidWorld os).forCall (fun _ _ => 0) ⟨#[], args, []⟩).memory := laidMet_of_run' 8 (by kernel_rfl) (by kernel_rfl)
  exact h

theorem lifted (os : Os) (started : os.Started) (H : Type) (enc : TypeId × Value → H) :
    ReturnsInHanded {} Tryd.checked os 12 .any (fun w args => (Rows.clockReadSpec.pre enc Tryd.prog Tryd.f12 [] false w args ∧ laidMetH Tryd.prog Rows.clockReadRow.laid w) ∧ sizedMet enc Tryd.prog Tryd.f12 (OpenSpec.ofChange Rows.clockReadSpec) false w args)
      (Rows.clockReadSpec.post enc Tryd.prog Tryd.f12 false true false false) := by
  refine returnsInHanded_of_change_and (C := Tryd.checked) (X := fun w _ => laidMetH Tryd.prog Rows.clockReadRow.laid w) (fun _ _ _ hh h => h.of_heap hh) own started (by kernel_rfl) Tryd.func12
    (ChangeSpec.witness_at (enc := enc) (C := Tryd.checked) (os := os) (X := fun w _ => laidMetH Tryd.prog Rows.clockReadRow.laid w) false (laidWorld os) #[.slice none 0 0, .slice none 0 0] 8 rfl (by kernel_rfl) (by kernel_rfl) (by kernel_rfl) (by kernel_rfl) (by kernel_rfl) (laidWorld_met os _)) ?_
  intro W base args ds gs before hval hW _ _ hL _
  exact contract H enc W base args ds gs before hL hval hW

theorem over : Rows.ClockReadSaid :=
  OpenClaim.holds_of_wide 12 Tryd.f12 rfl rfl rfl rfl rfl rfl rfl ⟨rfl, rfl, rfl, rfl, rfl⟩ rfl rfl rfl rfl rfl (by kernel_rfl) Tryd.func12 (by kernel_rfl)
    (of_decide_eq_true (by kernel_rfl)) (by unfold Func.isWrapper; rw [if_neg (of_decide_eq_false (by kernel_rfl))]; exact ⟨rfl, rfl⟩)
    (fun os started H enc _ => lifted os started H enc)
end Go.Proofs.YtpeekgekmjldlaaDoor.clockRead
