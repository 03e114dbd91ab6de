/- The tied card of ClockNear: for every row of pairs of int64 it answers true and leaves its argument as it was; the tables of Go's library that it lists are tied to the program's text. No condition on the argument. -/
import Derived.Test.YtpeekgekmjldlaaDoorKrN
namespace Go.Proofs.YtpeekgekmjldlaaDoor.clockNear
open Go

theorem proved : Rows.ClockNearCardSaid :=
  Claim7.holds_tied_plain_at .later [] [.data, .data, .data, .data, .pinned] true (true, "830965a2c2084d7bf68e810bdb2f04e4840b9f7f0e0391f649d75d6548120833") true
    over (fun _ h => by cases h) (by kernel_rfl) (fun _ h => by cases h) clockNear_row_tie rfl ⟨rfl, rfl⟩ (by kernel_rfl) rfl
    (fun f fn hf hfn => by
      obtain rfl : f = 7 := Option.some.inj ((show Tryd.prog.funcNamed "mainsheet/mainsheetlaw02.ClockNear" = some 7 by kernel_rfl).symm.trans hf) |>.symm
      obtain rfl : fn = Tryd.f7 := (Option.some.inj (Tryd.func7.symm.trans hfn)).symm
      exact ⟨by kernel_rfl, fun j t ht => by
        rw [Tryd.params7] at ht
        have h3 : t = 22 := by
          rcases j with _ | j
          · simpa using ht.symm
          · simp at ht
        subst h3
        exact (show Tryd.prog.wantsStandIn 22 = false by kernel_rfl)⟩)
    (by kernel_rfl)
end Go.Proofs.YtpeekgekmjldlaaDoor.clockNear
