/- BucketHolds: the families of its inner loops. -/
import Derived.Test.YtfealfofcjgihaaZcA
namespace Go.Proofs.Ytfealfofcjgihaa
open Go.Fw

abbrev h3T (r : Bool) (n : Nat) (j : Int) (fr n2 : Nat) (time run gap most q : Int) : V :=
  .cons (.ptr true 0 0 0 0) (.cons (.bool false r) (.cons (.osl false 15 2 0 n) (.cons (.int false .i64 time) (.cons (.int false .i64 run) (.cons (.int false .i64 gap) (.cons (.int false .i64 most)
    (.cons (.int false .i64 n) (.cons (.int false .i64 j) (.cons (.osl false 15 2 fr n2) (.cons (.int false .i64 n2) (.cons (.int false .i64 q) .nil)))))))))))
abbrev h3K : List Nat := [2, 4, 5, 13, 14, 15, 16, 73, 74, 79, 80, 81]
abbrev h3H : List (Nat × Option Nat) := [(0, none), (15, none)]
abbrev h2T (r : Bool) (n : Nat) (j : Int) : V := .cons (.ptr true 0 0 0 0) (.cons (.bool false r) (.cons (.osl false 15 2 0 n) (.cons (.int false .i64 n) (.cons (.int false .i64 j) .nil))))
abbrev h2K : List Nat := [2, 4, 5, 73, 74]

/-- What has been: the parts of time that passed, and the tokens ahead of each. -/
structure Hist (c : Int) (n : Nat) (f : Nat → Int × Int) (τ : Nat → Int) : Prop where
  cap : 1 ≤ c ∧ c ≤ 800
  few : n ≤ 60
  good : ∀ j, j ≤ n → -8000000000 ≤ τ j ∧ τ j ≤ c * 100000000
  part : ∀ j, j < n → 0 ≤ (f j).1 ∧ (f j).1 ≤ 10000000 ∧ 0 ≤ (f j).2 ∧ (f j).2 ≤ 8
  dry : ∀ j, j < n → τ j ≤ 0 → (f j).2 = 0
  step : ∀ j, j < n → τ (j + 1) = (if c * 100000000 < τ j + (c - 100 * (f j).2) * (f j).1 then c * 100000000 else τ j + (c - 100 * (f j).2) * (f j).1)
structure Need3 (time run gap most ln ln2 q : Int) (n n2 fr k : Nat) (c : Int) (get : Nat → V) : Prop where
  z : time = 0 ∧ run = 0 ∧ gap = 0 ∧ most = 0 ∧ q = 0
  l : ln = n ∧ ln2 = n2 ∧ k = n ∧ fr + n2 = n
  h : ∃ f τ, get = row2 f ∧ Hist c n f τ
noncomputable def h3G : Lp := ⟨4, 24, fun _ s => match vwR 16 16 123 h3K h3H s with
  | (true, .cons (.ptr true 0 0 0 0) (.cons (.bool _ r) (.cons (.osl _ 15 2 0 n) (.cons (.int _ .i64 time) (.cons (.int _ .i64 run) (.cons (.int _ .i64 gap) (.cons (.int _ .i64 most)
      (.cons (.int _ .i64 ln) (.cons (.int _ .i64 j) (.cons (.osl _ 15 2 fr n2) (.cons (.int _ .i64 ln2) (.cons (.int _ .i64 q) .nil))))))))))),
      .cons (.agg (.cons (.int _ .i64 c) (.cons (.int _ .i64 t) .nil))) (.cons (.rsl _ 2 k get) .nil)) =>
    bif Nat.beq s.n 16 then .need (Need3 time run gap most ln ln2 q n n2 fr k c get)
      (.all (Int × Int × Int × Int × Int) fun x => .leaf (.exit 4, canonR 16 123 h3K h3H (h3T r n j fr n2 x.1 x.2.1 x.2.2.1 x.2.2.2.1 x.2.2.2.2) (hB c t n get))) else .stuck
  | _ => .stuck⟩
end Go.Proofs.Ytfealfofcjgihaa
