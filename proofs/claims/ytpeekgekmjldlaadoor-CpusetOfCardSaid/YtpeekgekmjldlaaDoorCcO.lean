/- Cpuset: how many bits a small number has. -/
import Derived.Test.YtpeekgekmjldlaaDoorCcC
namespace Go.Proofs.YtpeekgekmjldlaaDoor
open Go.Fw
set_option maxRecDepth 100000
set_option linter.unusedVariables false
theorem ones_meets {c : Nat} (hc : c < 256) : Meets P 79 (.cons (.int true .u32 (Int.ofNat c)) .nil) (.int false .i64 (Int.ofNat (lst c).length)) :=
  meets_lits (P := P) 0 256 (E := fun _ => enM []) (gs := []) (fun _ => envL_among (l := [])) (fun _ => rfl) 400 (g := 79) (args := fun c => .cons (.int true .u32 (Int.ofNat c)) .nil) (res := fun c => .int false .i64 (Int.ofNat (lst c).length))
    (Has.of hn Tryd.func79 rfl) (by kernel_rfl) (Nat.zero_le c) (by omega) (enM_ok (l := []) trivial)
def c_ones : Con := { g := 79, ans := fun x => match x with
  | .cons (.int _ .u32 b) .nil => some (.where_ (0 ≤ b ∧ b < 256) (.int false .i64 (Int.ofNat (lst b.toNat).length)))
  | _ => none }
theorem c_ones_ok : c_ones.Ok P := by
  intro x
  dsimp only [c_ones]
  split
  · rename_i v h
    split at h <;> cases h
  · rename_i p v h
    split at h
    · rename_i st b
      injection h with h; injection h with h1 h2; subst h1; subst h2
      intro hp
      have h := ones_meets (c := b.toNat) (by omega)
      have e : Int.ofNat b.toNat = b := Int.toNat_of_nonneg hp.1
      rw [e] at h
      exact Meets.of_soft (args := .cons (.int st .u32 b) .nil) (Meets.hard h)
    · cases h
  · trivial
end Go.Proofs.YtpeekgekmjldlaaDoor
