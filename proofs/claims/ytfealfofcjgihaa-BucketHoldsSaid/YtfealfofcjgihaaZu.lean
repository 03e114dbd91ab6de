/- BucketHolds, as the evaluator has it. -/
import Derived.Test.YtfealfofcjgihaaZv
namespace Go.Proofs.Ytfealfofcjgihaa
open Go.Fw
set_option maxRecDepth 100000

theorem holds_tree (c t : Int) (ln : Nat) (l : Nat → Int × Int × Int) : evFn (en [c_bCheck, c_bDry] [h1G ln l, h2G, h3G]) 400 4 (.cons (.agg (.cons (.int false .i64 c) (.cons (.int false .i64 t) .nil))) (.cons (.rsl false 3 ln (row3 l)) .nil)) =
    Tree.node (bif bif bCheck_0 c t != (0 : Int) then true else c == (0 : Int) then true else false) (Tree.leaf (V.bool true true)) (Tree.need (Need1 ln l ln (row3 l) (ln : Int) (0 : Int) c t)
      (Tree.all Nat fun n => Tree.all (Nat → Int × Int) fun f => Tree.all Int fun _ => Tree.given (∃ τ, Hist c n f τ) (Tree.need (Need2 (n : Int) (0 : Int) n n c (row2 f)) (Tree.all Int fun _ => Tree.leaf (V.bool true true))))) := by kernel_rfl
theorem holds_holds (c t : Int) (ln : Nat) (l : Nat → Int × Int × Int) : Tree.Hold P (evFn (en [c_bCheck, c_bDry] [h1G ln l, h2G, h3G]) 400 4 (.cons (.agg (.cons (.int false .i64 c) (.cons (.int false .i64 t) .nil))) (.cons (.rsl false 3 ln (row3 l)) .nil))) fun r => r.soft = .bool false true := by
  constructor
  rw [holds_tree]
  refine ⟨fun _ => rfl, fun h => ⟨⟨⟨rfl, rfl, rfl, rfl⟩, ?_⟩, fun n f _ hist => ⟨⟨⟨rfl, rfl, rfl⟩, f, hist.elim fun τ h => ⟨τ, rfl, h⟩⟩, fun _ => rfl⟩⟩⟩
  rw [bcheck] at h
  by_cases hg : good c t
  · have h0 : c ≠ 0 := fun e => by simp [e] at h
    unfold good at hg
    omega
  · rw [if_neg hg] at h
    simp at h
theorem holds_meets (c t : Int) (ln : Nat) (l : Nat → Int × Int × Int) : Meets P 4 (.cons (.agg (.cons (.int false .i64 c) (.cons (.int false .i64 t) .nil))) (.cons (.rsl false 3 ln (row3 l)) .nil)) (.bool false true) :=
  meets_true (en_okl (l := [c_bCheck, c_bDry]) ⟨c_bCheck_ok, c_bDry_ok, trivial⟩ (ls := [h1G ln l, h2G, h3G]) ⟨h1G_ok ln l, h2G_ok, h3G_ok, trivial⟩) 400 (Has.of hn Try.func4 rfl) (holds_holds c t ln l)
end Go.Proofs.Ytfealfofcjgihaa
