/- The tied card of ClockRead: for every row of times and row of texts it answers true and leaves its arguments as they were; the tables and errors of Go's library that it lists are tied to the program's text. No condition on the arguments. -/
import Derived.Test.YtpeekgekmjldlaaDoorCrI
namespace Go.Proofs.YtpeekgekmjldlaaDoor.clockRead
open Go

theorem proved : Rows.ClockReadCardSaid :=
  Claim7.holds_tied_plain_at .later [] [.data, .data, .data, .data, .sentinel, .sentinel, .pinned] true (true, "830965a2c2084d7bf68e810bdb2f04e4840b9f7f0e0391f649d75d6548120833") true
    over (fun _ h => by cases h) (by kernel_rfl) (fun _ h => by cases h) clockRead_row_tie rfl ⟨rfl, rfl⟩ (by kernel_rfl) rfl
    (fun f fn hf hfn => by
      obtain rfl : f = 12 := Option.some.inj ((show Tryd.prog.funcNamed "mainsheet/mainsheetlaw02.ClockRead" = some 12 by kernel_rfl).symm.trans hf) |>.symm
      obtain rfl : fn = Tryd.f12 := (Option.some.inj (Tryd.func12.symm.trans hfn)).symm
      exact ⟨by kernel_rfl, fun j t ht => by
        rw [Tryd.params12] at ht
        have h3 : t = 64 ∨ t = 42 := by
          rcases j with _ | j
          · exact .inl (by simpa using ht.symm)
          · rcases j with _ | j
            · exact .inr (by simpa using ht.symm)
            · simp at ht
        rcases h3 with rfl | rfl
        · exact (show Tryd.prog.wantsStandIn 64 = false by kernel_rfl)
        · exact (show Tryd.prog.wantsStandIn 42 = false by kernel_rfl)⟩)
    (by kernel_rfl)
end Go.Proofs.YtpeekgekmjldlaaDoor.clockRead
