/- The tied card of CallNames. For every number and text (the tables as the program's text lays them), CallNames answers true and leaves its arguments as they were: no condition on the arguments; what is listed is tied by the card. -/
import Derived.Test.YtkkojdcchnailaaGreatDoorQNrA
namespace Go.Proofs.YtkkojdcchnailaaGreatDoor.callNames
open Go
theorem card_wf : Rows.callNamesRow.wfByText (OpenSpec.ofChange Rows.callNamesSpec) = true := by kernel_rfl
theorem card_main : Tryz.prog.mainIs = some (true, "3dda697fd5afe8216d9b21b8e1e5714400f6f49ef5f24aab273c0e7359c04196".toList) := by kernel_rfl
theorem card_named : Tryz.prog.funcNamed "mainsheet/mainsheetlaw21.CallNames" = some 4 := by kernel_rfl
theorem card_looks : false = Tryz.prog.looks [] := by kernel_rfl
theorem card_plain : Tryz.prog.wantsStandIn 3 = false := by kernel_rfl
theorem card_plain2 : Tryz.prog.wantsStandIn 9 = false := by kernel_rfl
theorem no_goes : Tryz.prog.funcs.any Func.goes = false := by kernel_rfl
theorem goes_at (g : Nat) : (Tryz.prog.funcs[g]?).any Func.goes = false := by
  cases h : Tryz.prog.funcs[g]? with
  | none => rfl
  | some fn =>
    have h1 := no_goes
    rw [← Array.any_toList, List.any_eq_false] at h1
    have h2 : fn ∈ Tryz.prog.funcs.toList := List.mem_of_getElem? (by rw [Array.getElem?_toList]; exact h)
    simpa using h1 fn h2
theorem goes_of (f : Nat) : Tryz.prog.goes f = false := by
  unfold Program.goes
  rw [no_goes, Bool.and_false, Bool.or_false]
  simp only [goes_at]
  generalize Tryz.prog.closure f = l
  simp
theorem card_goes : false = Rows.callNamesRow.goesBy Tryz.prog := by
  show false = (((Tryz.prog.funcNamed "mainsheet/mainsheetlaw21.CallNames").any Tryz.prog.goes) || false)
  rw [card_named]
  simp only [Option.any_some, goes_of, Bool.or_false]
theorem proved : Rows.CallNamesCardSaid :=
  Claim7.holds_tied_plain_at .later [] [.data, .widerDeep] true (true, "3dda697fd5afe8216d9b21b8e1e5714400f6f49ef5f24aab273c0e7359c04196") false
    over (fun _ h => by cases h) card_wf (fun _ h => by cases h) callNames_row_tie rfl ⟨rfl, rfl⟩ card_main rfl
    (fun f fn hf hfn => by
      obtain rfl : f = 4 := Option.some.inj (card_named.symm.trans hf) |>.symm
      obtain rfl : fn = Tryz.f4 := (Option.some.inj (Tryz.func4.symm.trans hfn)).symm
      exact ⟨card_looks, fun j t ht => by
        rw [Tryz.params4] at ht
        have h3 : t = 3 ∨ t = 9 := by
          rcases j with _ | _ | j
          · left; simpa using ht.symm
          · right; simpa using ht.symm
          · simp at ht
        rcases h3 with rfl | rfl
        · exact card_plain
        · exact card_plain2⟩)
    card_goes
end Go.Proofs.YtkkojdcchnailaaGreatDoor.callNames
