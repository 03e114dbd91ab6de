/- StateQueues: what its row says of the program, fact by fact. -/
import Derived.Test.YtnjjailadijdlaaGreatDoorRows
import Derived.JoinedOf
import Derived.LaidLaws
set_option maxRecDepth 100000
set_option linter.unusedVariables false
set_option linter.unusedSimpArgs false
noncomputable section
namespace Go.Proofs.YtnjjailadijdlaaGreatDoor.stateQueues
open Go
theorem YQ {a b:Bool} (ha:a = true) (hb:b = true):(a&&b) = true:=by rw [ha,hb]; rfl
theorem fact0:(Rows.stateQueuesRow.wf (OpenSpec.ofChange Rows.stateQueuesSpec)) = true:=by kernel_rfl
theorem fact1:(laidOutB Tryz.prog) = true:=by kernel_rfl
theorem fact2:(mapsRowed Tryz.prog) = true:=by kernel_rfl
theorem fact3:(Tryz.f6.params.all (Tryz.prog.readableRec ·)) = true:=by kernel_rfl
theorem fact4:(namedTie Tryz.prog Rows.stateQueuesRow.named Rows.stateQueuesSpec.vars) = true:=by kernel_rfl
theorem fact5:(Rows.stateQueuesRow.stops==[]) = true:=by kernel_rfl
theorem fact6:(Tryz.prog.stops==[]) = true:=by kernel_rfl
theorem fact7:(Rows.stateQueuesRow.knobs==[]) = true:=by kernel_rfl
theorem fact8:(Tryz.prog.stopKnobs==[]) = true:=by kernel_rfl
theorem fact9:(Rows.stateQueuesRow.inPlace==Tryz.prog.inPlace 6) = true:=by kernel_rfl
theorem fact10:(Rows.stateQueuesRow.unfollowed==Tryz.prog.unfollowed 6) = true:=by kernel_rfl
theorem fact11:(Rows.stateQueuesRow.recurses==Tryz.prog.recurses 6) = true:=by kernel_rfl
theorem fact12:(Rows.stateQueuesRow.named==Tryz.prog.varsNamed 6) = true:=by kernel_rfl
theorem fact13:(Rows.stateQueuesRow.maps==(Tryz.f6.params.toList ++ Rows.stateQueuesSpec.plain.varTypes Tryz.prog).any (Tryz.prog.mapsRec ·)) = true:=by kernel_rfl
theorem fact14:(Rows.stateQueuesRow.ifaces==(Tryz.f6.params.toList ++ Rows.stateQueuesSpec.plain.varTypes Tryz.prog).any (Tryz.prog.ifacesRec ·)) = true:=by kernel_rfl
theorem fact15:(Rows.stateQueuesRow.mapsOut==Tryz.prog.mapsAmong Tryz.f6.resultTypes.toList) = true:=by kernel_rfl
theorem fact16:(Rows.stateQueuesRow.loops==(Tryz.f6.params.toList ++ Rows.stateQueuesSpec.plain.varTypes Tryz.prog).any (Tryz.prog.loopsFrom ·)) = true:=by kernel_rfl
theorem fact17:(Rows.stateQueuesRow.wideKeys==(Tryz.f6.params.toList ++ Rows.stateQueuesSpec.plain.varTypes Tryz.prog ++ Tryz.f6.resultTypes.toList).any (Tryz.prog.wideKeysFrom ·)) = true:=by kernel_rfl
theorem fact18:(Rows.stateQueuesSpec.vars.all (Tryz.prog.varReadable ·)) = true:=by kernel_rfl
theorem fact19:(Tryz.f6.resultTypes.all (fun t=>Tryz.prog.readableRec t&&decide (t < Tryz.prog.types.size))) = true:=by kernel_rfl
theorem fact20:(Rows.stateQueuesRow.ifacesOut==Tryz.f6.resultTypes.toList.any (Tryz.prog.ifacesRec ·)) = true:=by kernel_rfl
theorem fact21:(Rows.stateQueuesRow.loopsOut==Tryz.f6.resultTypes.toList.any (Tryz.prog.loopsFrom ·)) = true:=by kernel_rfl
theorem fact22:(Rows.stateQueuesRow.plainKeys==Tryz.prog.plainKeys) = true:=by kernel_rfl
theorem fact23:(Rows.stateQueuesRow.shortTexts.isNone) = true:=by kernel_rfl
theorem fact24:(Tryz.prog.stopsHeard) = true:=by kernel_rfl
theorem fact25:(Tryz.prog.mayEnter) = true:=by kernel_rfl
theorem fact26:(Rows.stateQueuesRow.lifted==Tryz.prog.liftsFinal) = true:=by kernel_rfl
theorem fact27:(Tryz.prog.make==some Rows.stateQueuesRow.make) = true:=by kernel_rfl
theorem fact28:(Rows.stateQueuesRow.kinds==(if Rows.stateQueuesRow.domain.isEmpty then [] else Tryz.f6.params.toList.map fun t=>match Tryz.prog.underlying t with | some (.int k)=>some k | _=>none)) = true:=by kernel_rfl
theorem fact29:(Rows.stateQueuesRow.pinned==Rows.stateQueuesRow.pinnedBy) = true:=by kernel_rfl
theorem fact30:(Rows.stateQueuesRow.veiled==(Tryz.f6.params.toList ++ Rows.stateQueuesSpec.plain.varTypes Tryz.prog ++ Tryz.f6.resultTypes.toList).any (Tryz.prog.veiledRec ·)) = true:=by kernel_rfl
theorem fact31:(Rows.stateQueuesRow.veiledFits Tryz.prog Tryz.f6.params.toList (Tryz.f6.params.toList ++ Rows.stateQueuesSpec.plain.varTypes Tryz.prog ++ Tryz.f6.resultTypes.toList)) = true:=by kernel_rfl
theorem closed:joinedFacts Tryz.prog 6 Tryz.f6 Rows.stateQueuesSpec Rows.stateQueuesRow = true:=
 (YQ (YQ (YQ (YQ (YQ (YQ (YQ (YQ (YQ (YQ (YQ (YQ (YQ (YQ (YQ (YQ (YQ (YQ (YQ (YQ (YQ (YQ (YQ (YQ (YQ (YQ (YQ (YQ (YQ (YQ (YQ fact0 fact1) fact2) fact3) fact4) fact5) fact6) fact7) fact8) fact9) fact10) fact11) fact12) fact13) fact14) fact15) fact16) fact17) fact18) fact19) fact20) fact21) fact22) fact23) fact24) fact25) fact26) fact27) fact28) fact29) fact30) fact31)
end Go.Proofs.YtnjjailadijdlaaGreatDoor.stateQueues
end
