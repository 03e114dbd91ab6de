/- For every state (the table of Go's library as the program's text lays it), StateQueues answers true and leaves its argument as it was: no condition on the argument; what is listed is tied by the card. -/
import Derived.Test.YtnjjailadijdlaaGreatDoorMBg
import Derived.Test.YtnjjailadijdlaaGreatDoorMBd
import Derived.Test.YtnjjailadijdlaaGreatDoorMBe
import Derived.Test.YtnjjailadijdlaaGreatDoorMBc
import Derived.Test.YtnjjailadijdlaaGreatDoorRows
import Derived.Test.YtnjjailadijdlaaGreatDoorTie
import Derived.Test.YtnjjailadijdlaaGreatDoorCards
import Derived.JoinedTies
import Derived.JoinedOf
import Derived.LaidLaws
import Derived.LaidHandle
import Derived.SevenTiedAt
import Derived.Stop.Joined
set_option maxRecDepth 100000
set_option linter.unusedVariables false
set_option linter.unusedSimpArgs false
noncomputable section
namespace Go.Proofs.YtnjjailadijdlaaGreatDoor.stateQueues
open Go.Fw
theorem own:ownKnob Tryz.prog.godebug = none:=by kernel_rfl
theorem laidOut:laidOutB Tryz.prog = true:=by kernel_rfl
abbrev stateSh:Sh:=.pair (.int .i64) (.pair (.pair (.sl 2 (.pair (.int .i64) (.pair (.int .i64) .unit))) .unit) (.pair (.pair (.sl 1 (.int .u32)) .unit) (.pair (.pair (.sl 4 (.pair (.int .i64) (.pair (.int .i64) (.pair (.int .i64) (.pair (.int .i64) .unit))))) (.pair (.sl 4 (.pair (.int .i64) (.pair (.int .i64) (.pair (.pair (.int .u32) (.pair (.int .u32) .unit)) .unit)))) .unit)) (.pair (.pair (.sl 2 (.pair (.int .i64) (.pair (.sl 1 (.int .i64)) .unit))) .unit) (.pair (.sl 11 (.pair (.int .i64) (.pair (.pair (.int .i64) (.pair (.int .i64) (.pair (.int .u32) (.pair (.int .i64) .unit)))) (.pair (.pair (.pair (.int .u64) (.pair (.int .u64) .unit)) (.pair (.int .u64) .unit)) (.pair (.int .u64) (.pair (.int .i64) (.pair (.int .i64) .unit))))))) (.pair (.sl 2 (.pair (.int .i64) (.pair (.int .i64) .unit))) (.pair (.pair (.sl 5 (.pair (.int .i64) (.pair (.int .i64) (.pair (.int .i64) (.pair .bool (.pair .bool .unit)))))) .unit) (.pair (.pair (.pair (.int .i64) (.pair (.sl 2 (.pair (.int .i64) (.pair (.int .i64) .unit))) .unit)) (.pair (.sl 3 (.pair (.int .i64) (.pair (.int .i64) (.pair (.int .i64) .unit)))) .unit)) (.pair (.sl 2 (.pair (.int .i64) (.pair (.int .i64) .unit))) (.pair (.int .u64) .unit))))))))))
abbrev sh:Sh:=.pair stateSh .unit
def stateOf (x:stateSh.den):Zb:=
 ⟨x.1,
  x.2.1.1.1,fun i=>let y:=x.2.1.1.2 i; ⟨y.1,y.2.1⟩,
  x.2.2.1.1.1,fun i=>⟨x.2.2.1.1.2 i⟩,
  x.2.2.2.1.1.1,fun i=>let y:=x.2.2.2.1.1.2 i; ⟨y.1,y.2.1,y.2.2.1,y.2.2.2.1⟩,
  x.2.2.2.1.2.1.1,fun i=>let y:=x.2.2.2.1.2.1.2 i; ⟨y.1,y.2.1,y.2.2.1.1,y.2.2.1.2.1⟩,
  x.2.2.2.2.1.1.1,fun i=>let y:=x.2.2.2.2.1.1.2 i; ⟨y.1,y.2.1.1,fun j=>⟨y.2.1.2 j⟩⟩,
  x.2.2.2.2.2.1.1,fun i=>let y:=x.2.2.2.2.2.1.2 i; ⟨y.1,y.2.1.1,y.2.1.2.1,y.2.1.2.2.1,y.2.1.2.2.2.1,y.2.2.1.1.1,y.2.2.1.1.2.1,y.2.2.1.2.1,y.2.2.2.1,y.2.2.2.2.1,y.2.2.2.2.2.1⟩,
  x.2.2.2.2.2.2.1.1,fun i=>let y:=x.2.2.2.2.2.2.1.2 i; ⟨y.1,y.2.1⟩,
  x.2.2.2.2.2.2.2.1.1.1,fun i=>let y:=x.2.2.2.2.2.2.2.1.1.2 i; ⟨y.1,y.2.1,y.2.2.1,y.2.2.2.1,y.2.2.2.2.1⟩,
  x.2.2.2.2.2.2.2.2.1.1.1,
  x.2.2.2.2.2.2.2.2.1.1.2.1.1,fun i=>let y:=x.2.2.2.2.2.2.2.2.1.1.2.1.2 i; ⟨y.1,y.2.1⟩,
  x.2.2.2.2.2.2.2.2.1.2.1.1,fun i=>let y:=x.2.2.2.2.2.2.2.2.1.2.1.2 i; ⟨y.1,y.2.1,y.2.2.1⟩,
  x.2.2.2.2.2.2.2.2.2.1.1,fun i=>let y:=x.2.2.2.2.2.2.2.2.2.1.2 i; ⟨y.1,y.2.1⟩,
  x.2.2.2.2.2.2.2.2.2.2.1⟩
theorem word (x:sh.den) (w:sh.wf x):Zi Tryz.prog 6 (sh.vals x) (.bool true true):=Zje (stateOf x.1)
theorem contract (H:Type) (enc:TypeId×Value->H) (W:World) (base:Nat) (args:Array Value) (ds gs:List (DataW H)) (before:List MemPlace) (hL:laidMetH Tryz.prog Rows.stateQueuesRow.laid W)
  (hval:∀ (j:Nat) t v,Tryz.f6.params[j]? = some t->args[j]? = some v->Value.okWide Tryz.prog W .any base t v)
  (hW:DataW.Whole enc Tryz.prog Tryz.f6.params.toList Rows.stateQueuesSpec.vars false W args.toList ds gs before) :
  Calls Tryz.prog 6 args W fun e W'=>∃ v,e = .returned v/\Rows.stateQueuesSpec.post enc Tryz.prog Tryz.f6 false true false false W args v W':=
 Zky (P:=Tryz.prog) (f:=Tryz.f6) (k:=8) (sh:=sh) (tb:=4)
  word (by kernel_rfl) rfl laidOut (by kernel_rfl) (by kernel_rfl) (by kernel_rfl)
  (fun ds h=>by
   match ds,h with
   | [_],_=>rfl) (gok_of hL (by kernel_rfl)) hval hW
def setVar (w:World) (g:Nat) (k:IntKind) (zs:List Int):World:=
 { w with heap:=w.heap.modify g fun
   | .cells _ t frozen=>.cells (zs.map (Value.int k)).toArray t frozen
   | o=>o }
def ZfR (os:Os):World:=setVar (World.holding Tryz.prog os ⟨#[],#[],[]⟩) 0 .u8 tab0
theorem Zkh (os:Os) (args:Array Value):laidMetH Tryz.prog Rows.stateQueuesRow.laid ((ZfR os).forCall (fun _ _=>0) ⟨#[],args,[]⟩).memory:=by
 have h:laidMet Tryz.prog Rows.stateQueuesRow.laid ((ZfR os).forCall (fun _ _=>0) ⟨#[],args,[]⟩).memory:=laidMet_of_run' 8 (by kernel_rfl) (by kernel_rfl)
 exact h
theorem lifted (os:Os) (started:os.Started) (H:Type) (enc:TypeId×Value->H) :
  ReturnsInHanded {} Tryz.checked os 6 .any (fun w args=>(Rows.stateQueuesSpec.pre enc Tryz.prog Tryz.f6 [] false w args/\laidMetH Tryz.prog Rows.stateQueuesRow.laid w)/\sizedMet enc Tryz.prog Tryz.f6 (OpenSpec.ofChange Rows.stateQueuesSpec) false w args)
   (Rows.stateQueuesSpec.post enc Tryz.prog Tryz.f6 false true false false):=by
 refine returnsInHanded_of_change_and (C:=Tryz.checked) (X:=fun w _=>laidMetH Tryz.prog Rows.stateQueuesRow.laid w) (fun _ _ _ hh h=>h.of_heap hh) own started (by kernel_rfl) Tryz.func6
  (ChangeSpec.witness_at (enc:=enc) (C:=Tryz.checked) (os:=os) (X:=fun w _=>laidMetH Tryz.prog Rows.stateQueuesRow.laid w) false (ZfR os) #[.agg #[.int .i64 0,.slice none 0 0,.slice none 0 0,.slice none 0 0,.slice none 0 0,.slice none 0 0,.slice none 0 0,.slice none 0 0,.slice none 0 0,.int .i64 0,.slice none 0 0,.slice none 0 0,.slice none 0 0,.int .u64 0]] 8 rfl (by kernel_rfl) (by kernel_rfl) (by kernel_rfl) (by kernel_rfl) (by kernel_rfl) (Zkh os _)) ?_
 intro W base args ds gs before hval hW _ _ hL _
 exact contract H enc W base args ds gs before hL hval hW
theorem inst:Tryz.f6.isInstance Tryz.prog Rows.stateQueuesRow.origin Rows.stateQueuesRow.targs:=of_decide_eq_true (by kernel_rfl)
theorem over:Rows.StateQueuesSaid:=
 OpenClaim.holds_of_wide 6 Tryz.f6 rfl rfl rfl rfl rfl rfl rfl ⟨rfl,rfl,rfl,rfl,rfl⟩ rfl rfl rfl rfl rfl (by kernel_rfl) Tryz.func6 closed
  inst (by unfold Func.isWrapper; rw [if_neg (of_decide_eq_false (by kernel_rfl))]; exact ⟨rfl,rfl⟩)
  (fun os started H enc _=>lifted os started H enc)
end Go.Proofs.YtnjjailadijdlaaGreatDoor.stateQueues
end
