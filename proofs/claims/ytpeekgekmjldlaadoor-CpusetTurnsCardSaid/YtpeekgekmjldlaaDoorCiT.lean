/- CpusetTurns: its outer loop, and what it answers. -/
import Derived.Test.YtpeekgekmjldlaaDoorChT
namespace Go.Proofs.YtpeekgekmjldlaaDoor
open Go.Fw
set_option maxRecDepth 100000

theorem turnsOE_ok (m : Nat) (f : Nat → Int) (n : Nat) (g : Nat → Int) : (en [] [turnsG m f n g]).Ok := en_okl (l := []) trivial (ls := [turnsG m f n g]) ⟨turnsG_ok m f n g, trivial⟩
noncomputable def turnsOG (m : Nat) (f : Nat → Int) (n : Nat) (g : Nat → Int) : Lp := ⟨13, 4, fun _ s => match vw 0 89 [1,19,20,21] [] s with
  | (true, .cons (.rsl _ 1 n' g') (.cons (.rsl _ 1 m' f') (.cons (.int _ .i64 m2) (.cons (.int _ .i64 i0) .nil))), .nil) =>
    bif Nat.beq s.n 0 then .need (((n' = n ∧ g' = rowN g) ∧ (m' = m ∧ f' = rowS f) ∧ m2 = m) ∧ i0 = 0) (.all Int fun i => .leaf (.exit 0, canon 0 89 [1,19,20,21] [] (kO m f n g i) .nil)) else .stuck
  | _ => .stuck⟩
theorem turnsOG_ok (m : Nat) (f : Nat → Int) (n : Nat) (g : Nat → Int) (hf : ∀ j, j < m → 0 ≤ f j ∧ f j < 4294967296) : (turnsOG m f n g).Ok P := by
  refine lp_ok (by kernel_rfl) fun hin B s Q hq => ?_
  simp only [turnsOG] at hq hin ⊢
  split at hq
  · rename_i q0 n' g' q2 m' f' q3 m2 q4 i0 heq
    cases hn : Nat.beq s.n 0
    · rw [hn] at hq; exact hq.elim
    · rw [hn] at hq
      obtain ⟨⟨⟨⟨rfl, rfl⟩, ⟨rfl, rfl⟩, rfl⟩, rfl⟩, hq⟩ := hq
      have hsame : Same 0 89 [1,19,20,21] [] s (kO m' f n' g 0) .nil := by
        refine ⟨by rw [heq], by rw [heq]; rfl, by rw [heq]⟩
      refine loop_view (k := 400) (f := 13) (turnsOE_ok m' f n' g) hin (fun i : Int => kO m' f n' g i) (fun _ => .nil) (fun j => 0 ≤ j ∧ j ≤ 12) (fun j => (12 - j).toNat) Q (fun i => turnsO_body B m' f n' g i) ?_ (Nat.eq_of_beq_eq_true hn) (i0 := 0) ⟨by omega, by omega⟩ hsame
      intro j hj
      refine ⟨fun _ => ⟨rfl, _, _, rfl, rfl, hq j⟩, fun hx => ?_⟩
      have hlt : j < m' := by apply Classical.byContradiction; intro h; simp [h] at hx
      have hr := hf j.toNat (by omega)
      refine ⟨⟨hj.1, hlt⟩, fun _ => ⟨rfl, _, _, rfl, rfl, hq j⟩, fun h12 => ⟨⟨⟨⟨rfl, rfl⟩, ⟨rfl, rfl⟩, rfl⟩, ⟨⟨rfl, rfl⟩, rfl, rfl⟩, hr⟩, fun _ => ?_⟩⟩
      have h12' : j ≠ 12 := fun h => by subst h; simp at h12
      rw [IntWalk.i64_in (j + 1) ⟨by omega, by omega⟩]
      exact ⟨rfl, j + 1, ⟨by omega, by omega⟩, by omega, rfl, rfl⟩
  · exact hq.elim
theorem turns_tree (m : Nat) (f : Nat → Int) (n : Nat) (g : Nat → Int) : evFn (en [c_sets] [turnsOG m f n g]) 400 13 (.cons (.rsl false 1 m (rowS f)) (.cons (.rsl false 1 n (rowN g)) .nil)) =
    Tree.need (((n = n ∧ rowN g = rowN g) ∧ (m = m ∧ rowS f = rowS f) ∧ (m : Int) = (m : Int)) ∧ (0 : Int) = (0 : Int)) (Tree.all Int fun _ => Tree.leaf (V.bool true true)) := by kernel_rfl
theorem turns_holds (m : Nat) (f : Nat → Int) (n : Nat) (g : Nat → Int) : Tree.Hold P (evFn (en [c_sets] [turnsOG m f n g]) 400 13 (.cons (.rsl false 1 m (rowS f)) (.cons (.rsl false 1 n (rowN g)) .nil))) fun r => r.soft = .bool false true := by
  constructor
  rw [turns_tree]
  exact ⟨⟨⟨⟨rfl, rfl⟩, ⟨rfl, rfl⟩, rfl⟩, rfl⟩, fun _ => rfl⟩
theorem turns_meets (m : Nat) (f : Nat → Int) (n : Nat) (g : Nat → Int) (hf : ∀ j, j < m → 0 ≤ f j ∧ f j < 4294967296) : Meets P 13 (.cons (.rsl false 1 m (rowS f)) (.cons (.rsl false 1 n (rowN g)) .nil)) (.bool false true) :=
  meets_true (en_okl (l := [c_sets]) ⟨c_sets_ok, trivial⟩ (ls := [turnsOG m f n g]) ⟨turnsOG_ok m f n g hf, trivial⟩) 400 (Has.of hn Tryd.func13 rfl) (turns_holds m f n g)
end Go.Proofs.YtpeekgekmjldlaaDoor
