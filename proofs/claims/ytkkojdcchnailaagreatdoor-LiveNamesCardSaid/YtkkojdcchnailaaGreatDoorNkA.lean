/- The tied card of LiveNames. For every two rows, of numbers and of texts (the tables as the program's text lays them), LiveNames answers true and leaves its arguments as they were: no condition on the arguments; what is listed is tied by the card. -/
import Derived.Test.YtkkojdcchnailaaGreatDoorNrA
namespace Go.Proofs.YtkkojdcchnailaaGreatDoor.liveNames
open Go
theorem card_wf : Rows.liveNamesRow.wfByText (OpenSpec.ofChange Rows.liveNamesSpec) = true := by kernel_rfl
theorem card_main : Tryz.prog.mainIs = some (true, "3dda697fd5afe8216d9b21b8e1e5714400f6f49ef5f24aab273c0e7359c04196".toList) := by kernel_rfl
theorem card_named : Tryz.prog.funcNamed "mainsheet/mainsheetlaw24.LiveNames" = some 3 := by kernel_rfl
theorem card_looks : false = Tryz.prog.looks [] := by kernel_rfl
theorem card_plain : Tryz.prog.wantsStandIn 22 = false := by kernel_rfl
theorem card_plain2 : Tryz.prog.wantsStandIn 23 = false := by kernel_rfl
theorem card_goes : false = Rows.liveNamesRow.goesBy Tryz.prog := by kernel_rfl
theorem proved : Rows.LiveNamesCardSaid :=
  Claim7.holds_tied_plain_at .later [] [.data, .widerDeep] true (true, "3dda697fd5afe8216d9b21b8e1e5714400f6f49ef5f24aab273c0e7359c04196") false
    over (fun _ h => by cases h) card_wf (fun _ h => by cases h) liveNames_row_tie rfl ⟨rfl, rfl⟩ card_main rfl
    (fun f fn hf hfn => by
      obtain rfl : f = 3 := Option.some.inj (card_named.symm.trans hf) |>.symm
      obtain rfl : fn = Tryz.f3 := (Option.some.inj (Tryz.func3.symm.trans hfn)).symm
      exact ⟨card_looks, fun j t ht => by
        rw [Tryz.params3] at ht
        have h3 : t = 22 ∨ t = 23 := by
          rcases j with _ | _ | j
          · left; simpa using ht.symm
          · right; simpa using ht.symm
          · simp at ht
        rcases h3 with rfl | rfl
        · exact card_plain
        · exact card_plain2⟩)
    card_goes
end Go.Proofs.YtkkojdcchnailaaGreatDoor.liveNames
