/- The tied card of MachineIdles. For every two numbers and row of numbers (the table of Go's library as the program's text lays it), MachineIdles answers true and leaves its arguments as they were: no condition on the arguments; what is listed is tied by the card. -/
import Derived.Test.YtdgjneondmmgdaaGreatDoorNrA
set_option linter.unusedSimpArgs false
set_option linter.unusedVariables false
namespace Go.Proofs.YtdgjneondmmgdaaGreatDoor.machineIdles
open Go
theorem card_wf : Rows.machineIdlesRow.wfByText (OpenSpec.ofChange Rows.machineIdlesSpec) = true := by kernel_rfl
theorem card_main : Tryz.prog.mainIs = some (true, "33f19a3490f85ca57efd21e95374b805821829351eb0bb78ba9255e8ad43989b".toList) := by kernel_rfl
theorem card_named : Tryz.prog.funcNamed "mainsheet/mainsheetlaw27.MachineIdles" = some 3 := by kernel_rfl
theorem card_looks : false = Tryz.prog.looks [] := by kernel_rfl
theorem card_plain : Tryz.prog.wantsStandIn 3 = false := by kernel_rfl
theorem card_plain2 : Tryz.prog.wantsStandIn 22 = false := by kernel_rfl
theorem no_goes : Tryz.prog.funcs.any Func.goes = false := by kernel_rfl
theorem goes_none {P : Program} (h : P.funcs.any Func.goes = false) (f : Nat) : P.goes f = false := by
  have h0 : ∀ g : Nat, (P.funcs[g]?).any Func.goes = false := fun g => by
    cases e : P.funcs[g]? with
    | none => rfl
    | some fn =>
      have h1 := h
      rw [← Array.any_toList, List.any_eq_false] at h1
      have h2 : fn ∈ P.funcs.toList := List.mem_of_getElem? (by rw [Array.getElem?_toList]; exact e)
      simpa using h1 fn h2
  unfold Program.goes
  rw [h, Bool.and_false, Bool.or_false]
  simp only [h0]
  generalize P.closure f = l
  simp
theorem goesAt_of {P : Program} {f : Nat} {s : String} (h1 : P.funcNamed s = some f) (h2 : P.goes f = false) : P.goesAt .entering s = false := by
  unfold Program.goesAt Program.goesFrom
  rw [h1]
  simp [h2]
theorem goesBy_of {P : Program} {c : OpenClaim} {s : String} (h1 : c.start = .entering) (h2 : c.func = s) (h3 : P.goesAt .entering s = false) : false = c.goesBy P := by
  unfold OpenClaim.goesBy
  rw [h1, h2, h3]
theorem card_goes : false = Rows.machineIdlesRow.goesBy Tryz.prog := goesBy_of rfl rfl (goesAt_of card_named (goes_none no_goes 3))
theorem proved : Rows.MachineIdlesCardSaid :=
  Claim7.holds_tied_plain_at .later [] [.data] true (true, "33f19a3490f85ca57efd21e95374b805821829351eb0bb78ba9255e8ad43989b") false
    over (fun _ h => by cases h) card_wf (fun _ h => by cases h) machineIdles_tieOwn rfl ⟨rfl, rfl⟩ card_main rfl
    (fun f fn hf hfn => by
      obtain rfl : f = 3 := Option.some.inj (card_named.symm.trans hf) |>.symm
      obtain rfl : fn = Tryz.f3 := (Option.some.inj (Tryz.func3.symm.trans hfn)).symm
      exact ⟨card_looks, fun j t ht => by
        rw [Tryz.params3] at ht
        have h3 : t = 3 ∨ t = 22 := by
          rcases j with _ | _ | _ | j
          · left; simpa using ht.symm
          · left; simpa using ht.symm
          · right; simpa using ht.symm
          · simp at ht
        rcases h3 with rfl | rfl
        · exact card_plain
        · exact card_plain2⟩)
    card_goes
end Go.Proofs.YtdgjneondmmgdaaGreatDoor.machineIdles
