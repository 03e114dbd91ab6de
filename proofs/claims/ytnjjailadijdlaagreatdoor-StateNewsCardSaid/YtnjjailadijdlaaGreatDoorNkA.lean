/- The tied card of StateNews: for every row of topologies it answers true and leaves its argument as it was; the table of Go's library that it lists is tied to the program's text. No condition on the argument. -/
import Derived.Test.YtnjjailadijdlaaGreatDoorNrA
namespace Go.Proofs.YtnjjailadijdlaaGreatDoor.stateNews
open Go
theorem card_wf : Rows.stateNewsRow.wfByText (OpenSpec.ofChange Rows.stateNewsSpec) = true := by kernel_rfl
theorem card_main : Tryz.prog.mainIs = some (true, "61fb5b12dc8f0af1adb30342621242e883a2d8376440bbf0aae89587c7d2baca".toList) := by kernel_rfl
theorem card_named : Tryz.prog.funcNamed "mainsheet/mainsheetlaw20.StateNews" = some 3 := by kernel_rfl
theorem card_looks : false = Tryz.prog.looks [] := by kernel_rfl
theorem card_plain : Tryz.prog.wantsStandIn 22 = false := by kernel_rfl
theorem card_goes : false = Rows.stateNewsRow.goesBy Tryz.prog := by kernel_rfl
theorem proved : Rows.StateNewsCardSaid :=
  Claim7.holds_tied_plain_at .later [] [.data] true (true, "61fb5b12dc8f0af1adb30342621242e883a2d8376440bbf0aae89587c7d2baca") false
    over (fun _ h => by cases h) card_wf (fun _ h => by cases h) stateNews_row_tie rfl ⟨rfl, rfl⟩ card_main rfl
    (fun f fn hf hfn => by
      obtain rfl : f = 3 := Option.some.inj (card_named.symm.trans hf) |>.symm
      obtain rfl : fn = Tryz.f3 := (Option.some.inj (Tryz.func3.symm.trans hfn)).symm
      exact ⟨card_looks, fun j t ht => by
        rw [Tryz.params3] at ht
        have h3 : t = 22 := by
          rcases j with _ | j
          · simpa using ht.symm
          · simp at ht
        subst h3
        exact card_plain⟩)
    card_goes
end Go.Proofs.YtnjjailadijdlaaGreatDoor.stateNews
