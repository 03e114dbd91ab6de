/- Cpuset: contracts of what goes through sets. -/
import Derived.Test.YtpeekgekmjldlaaDoorCqN
import Derived.Test.YtpeekgekmjldlaaDoorCsF
namespace Go.Proofs.YtpeekgekmjldlaaDoor
open Go.Fw
set_option maxRecDepth 100000
def c_list : Con := { g := 53, ans := fun x => match x with
  | (.cons (.int _ .u32 a) .nil) => some (.sure (rowL (lst (lowN a))))
  | _ => none }
theorem c_list_ok : c_list.Ok P := by
  intro x
  dsimp only [c_list]
  split
  · rename_i v h
    split at h
    · rename_i st a
      injection h with h; injection h with h; subst h
      exact Meets.of_soft (args := (.cons (.int st .u32 a) .nil)) (list_at a (lowN_lt a) (maskI_low a))
    · cases h
  · rename_i p v h
    split at h <;> cases h
  · trivial
def c_rlist : Con := { g := 54, ans := fun x => match x with
  | (.cons (.int _ .u32 a) .nil) => some (.where_ (0 ≤ a ∧ a < 4294967296) (rowL (lst (lowN a))))
  | _ => none }
theorem c_rlist_ok : c_rlist.Ok P := by
  intro x
  dsimp only [c_rlist]
  split
  · rename_i v h
    split at h <;> cases h
  · rename_i p v h
    split at h
    · rename_i st a
      injection h with h; injection h with h1 h2; subst h1; subst h2
      intro hp
      exact Meets.of_soft (args := (.cons (.int st .u32 a) .nil)) (rlist_at a (lowN_lt a) ⟨rfl, hp.1, hp.2⟩)
    · cases h
  · trivial
def c_next : Con := { g := 58, ans := fun x => match x with
  | (.cons (.int _ .u32 a) (.cons (.int _ .i64 n) .nil)) => some (.sure (.tup (.cons (.int false .i64 (nxI (lst (lowN a)) n)) (.cons (.bool false (nxB (lst (lowN a)) n)) .nil))))
  | _ => none }
theorem c_next_ok : c_next.Ok P := by
  intro x
  dsimp only [c_next]
  split
  · rename_i v h
    split at h
    · rename_i st a st' n
      injection h with h; injection h with h; subst h
      exact Meets.of_soft (args := (.cons (.int st .u32 a) (.cons (.int st' .i64 n) .nil))) (next_meets a n)
    · cases h
  · rename_i p v h
    split at h <;> cases h
  · trivial
def c_rnext : Con := { g := 59, ans := fun x => match x with
  | (.cons (.int _ .u32 a) (.cons (.int _ .i64 n) .nil)) => some (.where_ (0 ≤ a ∧ a < 4294967296) (.tup (.cons (.int false .i64 (nxI (lst (lowN a)) n)) (.cons (.bool false (nxB (lst (lowN a)) n)) .nil))))
  | _ => none }
theorem c_rnext_ok : c_rnext.Ok P := by
  intro x
  dsimp only [c_rnext]
  split
  · rename_i v h
    split at h <;> cases h
  · rename_i p v h
    split at h
    · rename_i st a st' n
      injection h with h; injection h with h1 h2; subst h1; subst h2
      intro hp
      exact Meets.of_soft (args := (.cons (.int st .u32 a) (.cons (.int st' .i64 n) .nil))) (rnext_meets a n hp.1 hp.2)
    · cases h
  · trivial
noncomputable def c_rwithin : Con := { g := 57, ans := fun x => match x with
  | (.cons (.int _ .u32 a) (.cons (.int _ .u32 n) .nil)) => some (.where_ (0 ≤ a ∧ a < 4294967296) (.bool false (wtB (lst (lowN a)) n)))
  | _ => none }
theorem c_rwithin_ok : c_rwithin.Ok P := by
  intro x
  dsimp only [c_rwithin]
  split
  · rename_i v h
    split at h <;> cases h
  · rename_i p v h
    split at h
    · rename_i st a st' n
      injection h with h; injection h with h1 h2; subst h1; subst h2
      intro hp
      exact Meets.of_soft (args := (.cons (.int st .u32 a) (.cons (.int st' .u32 n) .nil))) (rwithin_meets a n hp.1 hp.2)
    · cases h
  · trivial
/-- Within the numbers: both rows, the set, where each row stands. -/
abbrev kIt (m : Nat) (f : Nat → Int) (n : Nat) (g : Nat → Int) (i a j : Int) : V :=
  .cons (.rsl false 1 m (rowS f)) (.cons (.rsl false 1 n (rowN g)) (.cons (.int false .u32 a) (.cons (.rsl false 1 m (rowS f)) (.cons (.int false .i64 m) (.cons (.int false .i64 i) (.cons (.rsl false 1 n (rowN g)) (.cons (.int false .i64 n) (.cons (.int false .i64 j) .nil))))))))
/-- Within the sets. -/
abbrev kOt (m : Nat) (f : Nat → Int) (n : Nat) (g : Nat → Int) (i : Int) : V :=
  .cons (.rsl false 1 m (rowS f)) (.cons (.rsl false 1 n (rowN g)) (.cons (.rsl false 1 m (rowS f)) (.cons (.int false .i64 m) (.cons (.int false .i64 i) .nil))))
end Go.Proofs.YtpeekgekmjldlaaDoor
