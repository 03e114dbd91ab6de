/- The tied card of StateQueues. For every state (the table of Go's library as the program's text lays it), StateQueues answers true and leaves its argument as it was: no condition on the argument; what is listed is tied by the card. -/
import Derived.Test.YtnjjailadijdlaaGreatDoorMBh
set_option maxRecDepth 100000
set_option linter.unusedVariables false
set_option linter.unusedSimpArgs false
noncomputable section
namespace Go.Proofs.YtnjjailadijdlaaGreatDoor.stateQueues
open Go
theorem card_wf:Rows.stateQueuesRow.wfByText (OpenSpec.ofChange Rows.stateQueuesSpec) = true:=by kernel_rfl
theorem card_main : Tryz.prog.mainIs = some (true, "61fb5b12dc8f0af1adb30342621242e883a2d8376440bbf0aae89587c7d2baca".toList) := by kernel_rfl
theorem ZlH : Tryz.prog.funcNamed "mainsheet/mainsheetlaw20.StateQueues" = some 6 := by kernel_rfl
theorem Zjj:false = Tryz.prog.looks []:=by kernel_rfl
theorem ZlG:Tryz.prog.wantsStandIn 54 = false:=by kernel_rfl
theorem card_goes:false = Rows.stateQueuesRow.goesBy Tryz.prog:=by kernel_rfl
theorem proved:Rows.StateQueuesCardSaid:=
 Claim7.holds_tied_plain_at .later [] [.data] true (true, "61fb5b12dc8f0af1adb30342621242e883a2d8376440bbf0aae89587c7d2baca") false
  over (fun _ h=>by cases h) card_wf (fun _ h=>by cases h) stateQueues_row_tie rfl ⟨rfl,rfl⟩ card_main rfl
  (fun f fn hf hfn=>by
   obtain rfl:f = 6:=Option.some.inj (ZlH.symm.trans hf) |>.symm
   obtain rfl:fn = Tryz.f6:=(Option.some.inj (Tryz.func6.symm.trans hfn)).symm
   exact ⟨Zjj,fun j t ht=>by
    rw [Tryz.params6] at ht
    have h3:t = 54:=by
     rcases j with _ | j
     ·simpa using ht.symm
     ·simp at ht
    subst h3
    exact ZlG⟩)
  card_goes
end Go.Proofs.YtnjjailadijdlaaGreatDoor.stateQueues
end
