/- The ports' test: its answer, port by port. -/
import Derived.Test.YtfealfofcjgihaaWcB
namespace Go.Proofs.Ytfealfofcjgihaa
open Go.Fw
set_option maxRecDepth 100000

def halves : Nat → Int → Int
  | 0, p => p
  | n + 1, p => halves n (IntKind.wrap .u32 (Int.tdiv p 2))
def hasB (p i : Int) : Bool := Int.tmod (halves i.toNat p) 2 == 1
theorem has_0 (p : Int) : Meets P 55 (.cons (.int false .u32 p) (.cons (.int true .i64 0) .nil)) (.bool false (hasB p 0)) :=
  meets_total (E := en []) (en_ok (l := []) trivial) 400 (g := 55) (Has.of hn Try.func55 rfl) (by kernel_rfl) (by kernel_rfl)
theorem has_1 (p : Int) : Meets P 55 (.cons (.int false .u32 p) (.cons (.int true .i64 1) .nil)) (.bool false (hasB p 1)) :=
  meets_total (E := en []) (en_ok (l := []) trivial) 400 (g := 55) (Has.of hn Try.func55 rfl) (by kernel_rfl) (by kernel_rfl)
theorem has_2 (p : Int) : Meets P 55 (.cons (.int false .u32 p) (.cons (.int true .i64 2) .nil)) (.bool false (hasB p 2)) :=
  meets_total (E := en []) (en_ok (l := []) trivial) 400 (g := 55) (Has.of hn Try.func55 rfl) (by kernel_rfl) (by kernel_rfl)
theorem has_3 (p : Int) : Meets P 55 (.cons (.int false .u32 p) (.cons (.int true .i64 3) .nil)) (.bool false (hasB p 3)) :=
  meets_total (E := en []) (en_ok (l := []) trivial) 400 (g := 55) (Has.of hn Try.func55 rfl) (by kernel_rfl) (by kernel_rfl)
theorem has_4 (p : Int) : Meets P 55 (.cons (.int false .u32 p) (.cons (.int true .i64 4) .nil)) (.bool false (hasB p 4)) :=
  meets_total (E := en []) (en_ok (l := []) trivial) 400 (g := 55) (Has.of hn Try.func55 rfl) (by kernel_rfl) (by kernel_rfl)
theorem has_5 (p : Int) : Meets P 55 (.cons (.int false .u32 p) (.cons (.int true .i64 5) .nil)) (.bool false (hasB p 5)) :=
  meets_total (E := en []) (en_ok (l := []) trivial) 400 (g := 55) (Has.of hn Try.func55 rfl) (by kernel_rfl) (by kernel_rfl)
theorem has_6 (p : Int) : Meets P 55 (.cons (.int false .u32 p) (.cons (.int true .i64 6) .nil)) (.bool false (hasB p 6)) :=
  meets_total (E := en []) (en_ok (l := []) trivial) 400 (g := 55) (Has.of hn Try.func55 rfl) (by kernel_rfl) (by kernel_rfl)
theorem has_7 (p : Int) : Meets P 55 (.cons (.int false .u32 p) (.cons (.int true .i64 7) .nil)) (.bool false (hasB p 7)) :=
  meets_total (E := en []) (en_ok (l := []) trivial) 400 (g := 55) (Has.of hn Try.func55 rfl) (by kernel_rfl) (by kernel_rfl)
theorem has_8 (p : Int) : Meets P 55 (.cons (.int false .u32 p) (.cons (.int true .i64 8) .nil)) (.bool false (hasB p 8)) :=
  meets_total (E := en []) (en_ok (l := []) trivial) 400 (g := 55) (Has.of hn Try.func55 rfl) (by kernel_rfl) (by kernel_rfl)
theorem has_9 (p : Int) : Meets P 55 (.cons (.int false .u32 p) (.cons (.int true .i64 9) .nil)) (.bool false (hasB p 9)) :=
  meets_total (E := en []) (en_ok (l := []) trivial) 400 (g := 55) (Has.of hn Try.func55 rfl) (by kernel_rfl) (by kernel_rfl)
theorem has_10 (p : Int) : Meets P 55 (.cons (.int false .u32 p) (.cons (.int true .i64 10) .nil)) (.bool false (hasB p 10)) :=
  meets_total (E := en []) (en_ok (l := []) trivial) 400 (g := 55) (Has.of hn Try.func55 rfl) (by kernel_rfl) (by kernel_rfl)
theorem has_11 (p : Int) : Meets P 55 (.cons (.int false .u32 p) (.cons (.int true .i64 11) .nil)) (.bool false (hasB p 11)) :=
  meets_total (E := en []) (en_ok (l := []) trivial) 400 (g := 55) (Has.of hn Try.func55 rfl) (by kernel_rfl) (by kernel_rfl)
theorem has_12 (p : Int) : Meets P 55 (.cons (.int false .u32 p) (.cons (.int true .i64 12) .nil)) (.bool false (hasB p 12)) :=
  meets_total (E := en []) (en_ok (l := []) trivial) 400 (g := 55) (Has.of hn Try.func55 rfl) (by kernel_rfl) (by kernel_rfl)
theorem has_13 (p : Int) : Meets P 55 (.cons (.int false .u32 p) (.cons (.int true .i64 13) .nil)) (.bool false (hasB p 13)) :=
  meets_total (E := en []) (en_ok (l := []) trivial) 400 (g := 55) (Has.of hn Try.func55 rfl) (by kernel_rfl) (by kernel_rfl)
theorem has_14 (p : Int) : Meets P 55 (.cons (.int false .u32 p) (.cons (.int true .i64 14) .nil)) (.bool false (hasB p 14)) :=
  meets_total (E := en []) (en_ok (l := []) trivial) 400 (g := 55) (Has.of hn Try.func55 rfl) (by kernel_rfl) (by kernel_rfl)
theorem has_15 (p : Int) : Meets P 55 (.cons (.int false .u32 p) (.cons (.int true .i64 15) .nil)) (.bool false (hasB p 15)) :=
  meets_total (E := en []) (en_ok (l := []) trivial) 400 (g := 55) (Has.of hn Try.func55 rfl) (by kernel_rfl) (by kernel_rfl)
theorem has_16 (p : Int) : Meets P 55 (.cons (.int false .u32 p) (.cons (.int true .i64 16) .nil)) (.bool false (hasB p 16)) :=
  meets_total (E := en []) (en_ok (l := []) trivial) 400 (g := 55) (Has.of hn Try.func55 rfl) (by kernel_rfl) (by kernel_rfl)
theorem has_17 (p : Int) : Meets P 55 (.cons (.int false .u32 p) (.cons (.int true .i64 17) .nil)) (.bool false (hasB p 17)) :=
  meets_total (E := en []) (en_ok (l := []) trivial) 400 (g := 55) (Has.of hn Try.func55 rfl) (by kernel_rfl) (by kernel_rfl)
theorem has_18 (p : Int) : Meets P 55 (.cons (.int false .u32 p) (.cons (.int true .i64 18) .nil)) (.bool false (hasB p 18)) :=
  meets_total (E := en []) (en_ok (l := []) trivial) 400 (g := 55) (Has.of hn Try.func55 rfl) (by kernel_rfl) (by kernel_rfl)
theorem has_19 (p : Int) : Meets P 55 (.cons (.int false .u32 p) (.cons (.int true .i64 19) .nil)) (.bool false (hasB p 19)) :=
  meets_total (E := en []) (en_ok (l := []) trivial) 400 (g := 55) (Has.of hn Try.func55 rfl) (by kernel_rfl) (by kernel_rfl)
theorem has_20 (p : Int) : Meets P 55 (.cons (.int false .u32 p) (.cons (.int true .i64 20) .nil)) (.bool false (hasB p 20)) :=
  meets_total (E := en []) (en_ok (l := []) trivial) 400 (g := 55) (Has.of hn Try.func55 rfl) (by kernel_rfl) (by kernel_rfl)
theorem has_21 (p : Int) : Meets P 55 (.cons (.int false .u32 p) (.cons (.int true .i64 21) .nil)) (.bool false (hasB p 21)) :=
  meets_total (E := en []) (en_ok (l := []) trivial) 400 (g := 55) (Has.of hn Try.func55 rfl) (by kernel_rfl) (by kernel_rfl)
theorem has_22 (p : Int) : Meets P 55 (.cons (.int false .u32 p) (.cons (.int true .i64 22) .nil)) (.bool false (hasB p 22)) :=
  meets_total (E := en []) (en_ok (l := []) trivial) 400 (g := 55) (Has.of hn Try.func55 rfl) (by kernel_rfl) (by kernel_rfl)
theorem has_23 (p : Int) : Meets P 55 (.cons (.int false .u32 p) (.cons (.int true .i64 23) .nil)) (.bool false (hasB p 23)) :=
  meets_total (E := en []) (en_ok (l := []) trivial) 400 (g := 55) (Has.of hn Try.func55 rfl) (by kernel_rfl) (by kernel_rfl)
theorem has_24 (p : Int) : Meets P 55 (.cons (.int false .u32 p) (.cons (.int true .i64 24) .nil)) (.bool false (hasB p 24)) :=
  meets_total (E := en []) (en_ok (l := []) trivial) 400 (g := 55) (Has.of hn Try.func55 rfl) (by kernel_rfl) (by kernel_rfl)
theorem has_25 (p : Int) : Meets P 55 (.cons (.int false .u32 p) (.cons (.int true .i64 25) .nil)) (.bool false (hasB p 25)) :=
  meets_total (E := en []) (en_ok (l := []) trivial) 400 (g := 55) (Has.of hn Try.func55 rfl) (by kernel_rfl) (by kernel_rfl)
theorem has_26 (p : Int) : Meets P 55 (.cons (.int false .u32 p) (.cons (.int true .i64 26) .nil)) (.bool false (hasB p 26)) :=
  meets_total (E := en []) (en_ok (l := []) trivial) 400 (g := 55) (Has.of hn Try.func55 rfl) (by kernel_rfl) (by kernel_rfl)
theorem has_27 (p : Int) : Meets P 55 (.cons (.int false .u32 p) (.cons (.int true .i64 27) .nil)) (.bool false (hasB p 27)) :=
  meets_total (E := en []) (en_ok (l := []) trivial) 400 (g := 55) (Has.of hn Try.func55 rfl) (by kernel_rfl) (by kernel_rfl)
theorem has_28 (p : Int) : Meets P 55 (.cons (.int false .u32 p) (.cons (.int true .i64 28) .nil)) (.bool false (hasB p 28)) :=
  meets_total (E := en []) (en_ok (l := []) trivial) 400 (g := 55) (Has.of hn Try.func55 rfl) (by kernel_rfl) (by kernel_rfl)
theorem has_29 (p : Int) : Meets P 55 (.cons (.int false .u32 p) (.cons (.int true .i64 29) .nil)) (.bool false (hasB p 29)) :=
  meets_total (E := en []) (en_ok (l := []) trivial) 400 (g := 55) (Has.of hn Try.func55 rfl) (by kernel_rfl) (by kernel_rfl)
theorem has_30 (p : Int) : Meets P 55 (.cons (.int false .u32 p) (.cons (.int true .i64 30) .nil)) (.bool false (hasB p 30)) :=
  meets_total (E := en []) (en_ok (l := []) trivial) 400 (g := 55) (Has.of hn Try.func55 rfl) (by kernel_rfl) (by kernel_rfl)
theorem has_31 (p : Int) : Meets P 55 (.cons (.int false .u32 p) (.cons (.int true .i64 31) .nil)) (.bool false (hasB p 31)) :=
  meets_total (E := en []) (en_ok (l := []) trivial) 400 (g := 55) (Has.of hn Try.func55 rfl) (by kernel_rfl) (by kernel_rfl)

theorem has_cast {p k : Int} {v : V} (h : Meets P 55 (.cons (.int false .u32 p) (.cons (.int true .i64 k) .nil)) v) : Meets P 55 (.cons (.int false .u32 p) (.cons (.int false .i64 k) .nil)) v :=
  ⟨h.1, fun F w xs hF hx => h.2 F w xs hF (by simpa only [RL, R] using hx)⟩
theorem has_meets (p i : Int) (h : 0 ≤ i ∧ i ≤ 31) : Meets P 55 (.cons (.int false .u32 p) (.cons (.int false .i64 i) .nil)) (.bool false (hasB p i)) := by
  have hi : i = 0 ∨ i = 1 ∨ i = 2 ∨ i = 3 ∨ i = 4 ∨ i = 5 ∨ i = 6 ∨ i = 7 ∨ i = 8 ∨ i = 9 ∨ i = 10 ∨ i = 11 ∨ i = 12 ∨ i = 13 ∨ i = 14 ∨ i = 15 ∨ i = 16 ∨ i = 17 ∨ i = 18 ∨ i = 19 ∨ i = 20 ∨ i = 21 ∨ i = 22 ∨ i = 23 ∨ i = 24 ∨ i = 25 ∨ i = 26 ∨ i = 27 ∨ i = 28 ∨ i = 29 ∨ i = 30 ∨ i = 31 := by omega
  rcases hi with rfl | rfl | rfl | rfl | rfl | rfl | rfl | rfl | rfl | rfl | rfl | rfl | rfl | rfl | rfl | rfl | rfl | rfl | rfl | rfl | rfl | rfl | rfl | rfl | rfl | rfl | rfl | rfl | rfl | rfl | rfl | rfl
  · exact has_cast (has_0 p)
  · exact has_cast (has_1 p)
  · exact has_cast (has_2 p)
  · exact has_cast (has_3 p)
  · exact has_cast (has_4 p)
  · exact has_cast (has_5 p)
  · exact has_cast (has_6 p)
  · exact has_cast (has_7 p)
  · exact has_cast (has_8 p)
  · exact has_cast (has_9 p)
  · exact has_cast (has_10 p)
  · exact has_cast (has_11 p)
  · exact has_cast (has_12 p)
  · exact has_cast (has_13 p)
  · exact has_cast (has_14 p)
  · exact has_cast (has_15 p)
  · exact has_cast (has_16 p)
  · exact has_cast (has_17 p)
  · exact has_cast (has_18 p)
  · exact has_cast (has_19 p)
  · exact has_cast (has_20 p)
  · exact has_cast (has_21 p)
  · exact has_cast (has_22 p)
  · exact has_cast (has_23 p)
  · exact has_cast (has_24 p)
  · exact has_cast (has_25 p)
  · exact has_cast (has_26 p)
  · exact has_cast (has_27 p)
  · exact has_cast (has_28 p)
  · exact has_cast (has_29 p)
  · exact has_cast (has_30 p)
  · exact has_cast (has_31 p)

noncomputable def c_has : Con := ⟨55, fun x => match x with
  | (.cons (.int false .u32 p) (.cons (.int false .i64 i) .nil)) => some (.where_ (0 ≤ i ∧ i ≤ 31) (.bool false (hasB p i)))
  | _ => none⟩
theorem c_has_ok : c_has.Ok P := by
  intro x
  dsimp only [c_has]
  split
  · rename_i h
    split at h <;> cases h
  · rename_i h
    split at h
    · injection h with h; injection h with h1 h2; subst h1; subst h2
      exact fun h => has_meets _ _ h
    · cases h
  · trivial
end Go.Proofs.Ytfealfofcjgihaa
