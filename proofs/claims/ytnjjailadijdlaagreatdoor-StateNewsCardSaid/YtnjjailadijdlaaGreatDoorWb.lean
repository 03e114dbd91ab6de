/- StateNews: the cut of a topology's seats. -/
import Derived.Test.YtnjjailadijdlaaGreatDoorWa
import Derived.Test.YtnjjailadijdlaaGreatDoorWl
import Derived.Test.YtnjjailadijdlaaGreatDoorGwT
import Derived.Test.YtnjjailadijdlaaGreatDoorGwAb
namespace Go.Proofs.YtnjjailadijdlaaGreatDoor
open Go.Fw
set_option maxRecDepth 100000
/-- A row of seats. -/
def seatG (a b : Nat → Int) : Nat → V := fun k => .cons (.int false .i64 (a k)) (.cons (.int false .i64 (b k)) .nil)
noncomputable def c_cut (c : Nat) (a b : Nat → Int) : Con := { g := 11, al := true, ans := fun x => match x with
  | .cons (.rsl _ 2 n g) (.cons (.int _ .i64 z) .nil) => some (.where_ (z = 9 ∧ min n 9 = c ∧ g = seatG a b) (.rsl true 2 c (seatG a b)))
  | _ => none }
theorem cut_tree (n : Nat) (g : Nat → V) : evFn (en []) 400 11 (.cons (.rsl false 2 n g) (.cons (.int true .i64 9) .nil)) =
    Tree.need (((0 : Int) ≤ if (9 : Int) < ↑n then (9 : Int) else ↑n) ∧ (if (9 : Int) < ↑n then (9 : Int) else ↑n) ≤ ↑n) (Tree.need (True ∧ fits ((0 : Nat) + (Int.toNat (if (9 : Int) < ↑n then (9 : Int) else ↑n) - (0 : Nat))) (16 : Nat) ∧ ∀ (j : Nat), j < Int.toNat (if (9 : Int) < ↑n then (9 : Int) else ↑n) - (0 : Nat) → V.allCell (g ((0 : Nat) + j)) = true ∧ V.clean (g ((0 : Nat) + j)) = true) (Tree.need ((0 : Nat) + ((0 : Nat) + (Int.toNat (if (9 : Int) < ↑n then (9 : Int) else ↑n) - (0 : Nat))) ≤ (0 : Nat) + (Int.toNat (if (9 : Int) < ↑n then (9 : Int) else ↑n) - (0 : Nat))) (Tree.leaf (V.rsl false (2 : Nat) ((0 : Nat) + (Int.toNat (if (9 : Int) < ↑n then (9 : Int) else ↑n) - (0 : Nat))) fun j => g ((0 : Nat) + ((0 : Nat) + j)))))) := by kernel_rfl
theorem cut_meets (n : Nat) (a b : Nat → Int) : Meets P 11 (.cons (.rsl false 2 n (seatG a b)) (.cons (.int true .i64 9) .nil)) (.rsl false 2 (min n 9) (seatG a b)) := by
  refine meets (E := en []) (en_ok (l := []) trivial) 400 (Has.of hn Tryz.func11 rfl) (cut_tree n _) ?_
  have e : (0 : Nat) + (Int.toNat (if (9 : Int) < ↑n then (9 : Int) else ↑n) - (0 : Nat)) = min n 9 := by split <;> omega
  refine ⟨by split <;> omega, ⟨trivial, ?_, fun j _ => ⟨rfl, rfl⟩⟩, by omega, ?_⟩
  · rw [e]
    unfold fits; omega
  · rw [e]
    refine ⟨?_, ?_⟩
    · rfl
    · simp only [V.soft, Nat.zero_add]
theorem c_cut_ok (c : Nat) (a b : Nat → Int) : (c_cut c a b).Ok P := by
  intro x
  dsimp only [c_cut]
  split
  · rename_i h
    split at h <;> cases h
  · rename_i h
    split at h
    · injection h with h; injection h with h1 h2; subst h1; subst h2
      rintro ⟨rfl, rfl, rfl⟩
      exact cut_meets _ _ _
    · cases h
  · trivial
/-- The rows of a topology, and how they are seen. -/
noncomputable def topoG (f : Nat → Nat × (Nat → Int × Int)) : Nat → V := fun i => .cons (.rsl false 2 (f i).1 fun k => .cons (.int false .i64 ((f i).2 k).1) (.cons (.int false .i64 ((f i).2 k).2) .nil)) .nil
noncomputable def newsT (n : Nat) (f : Nat → Nat × (Nat → Int × Int)) (r : Bool) (i : Int) : V := .cons (.bool false r) (.cons (.rsl false 1 n (topoG f)) (.cons (.int false .i64 n) (.cons (.int false .i64 i) .nil)))
noncomputable def newsF (n : Nat) (f : Nat → Nat × (Nat → Int × Int)) (i : Int) : V := .cons (.bool true false) (.cons (.rsl false 1 n (topoG f)) (.cons (.int false .i64 n) (.cons (.int false .i64 i) .nil)))
/-- No seat may be so. -/
def pS (x y : Int) : Bool := bif bif bif decide (x < (0 : Int)) then true else bif decide (x ≥ (4 : Int)) then true else bif decide (y < (0 : Int)) then true else decide (y ≥ (8 : Int)) then true else false then true else false
noncomputable abbrev enC (c : Nat) (a b : Nat → Int) : Env := en [c_cut c a b, c_vcheck]
theorem enC_ok (c : Nat) (a b : Nat → Int) : (enC c a b).Ok := en_ok (l := [c_cut c a b, c_vcheck]) ⟨c_cut_ok c a b, c_vcheck_ok, trivial⟩
end Go.Proofs.YtnjjailadijdlaaGreatDoor
