/- LiveNames: its loops, and what it answers. -/
import Derived.Test.YtkkojdcchnailaaGreatDoorNc
import Derived.Test.YtkkojdcchnailaaGreatDoorNp
namespace Go.Proofs.YtkkojdcchnailaaGreatDoor
open Go.Fw
set_option maxRecDepth 100000
noncomputable def kindsG (n : Nat) (f : Nat → Int) (m : Nat) (g : Nat → List UInt8) : Lp := ⟨3, 4, fun _ s => match vw 0 70 [1,4,15,16,17] [] s with
  | (true, .cons (.rsl _ 1 m' g') (.cons (.bool _ r) (.cons (.rsl _ 1 n' f') (.cons (.int _ .i64 l) (.cons (.int _ .i64 i) .nil)))), .nil) =>
    bif Nat.beq s.n 0 then .need ((m' = m ∧ g' = rowT g) ∧ r = false ∧ (n' = n ∧ f' = rowN f) ∧ l = n ∧ i = 0) (.all Int fun j => .leaf (.exit 0, canon 0 70 [1,4,15,16,17] [] (kK n f m g j) .nil)) else .stuck
  | _ => .stuck⟩
theorem kindsE_ok : (en [c_lname, c_rname]).Ok := en_ok (l := [c_lname, c_rname]) ⟨c_lname_ok, c_rname_ok, trivial⟩
theorem kindsG_ok (n : Nat) (hn63 : n ≤ maxLen) (f : Nat → Int) (m : Nat) (g : Nat → List UInt8) : (kindsG n f m g).Ok P := by
  refine lp_ok (by kernel_rfl) fun hin B s Q hq => ?_
  simp only [kindsG] at hq hin ⊢
  split at hq
  · rename_i q0 m' g' q1 r q2 n' f' q3 l q4 i heq
    cases hn : Nat.beq s.n 0
    · rw [hn] at hq; exact hq.elim
    · rw [hn] at hq
      obtain ⟨⟨⟨rfl, rfl⟩, rfl, ⟨rfl, rfl⟩, rfl, rfl⟩, hq⟩ := hq
      have hsame : Same 0 70 [1,4,15,16,17] [] s (kK n' f m' g 0) .nil := by
        refine ⟨by rw [heq], by rw [heq]; rfl, by rw [heq]⟩
      refine loop_view (k := 400) (f := 3) kindsE_ok hin (fun j : Int => kK n' f m' g j) (fun _ => .nil) (fun j => 0 ≤ j ∧ j ≤ n') (fun j => (n' - j).toNat) Q (fun j => kinds_body B n' f m' g j) ?_ (Nat.eq_of_beq_eq_true hn) (i0 := 0) ⟨by omega, by omega⟩ hsame
      intro j hj
      refine ⟨fun _ => ⟨rfl, _, _, rfl, rfl, hq j⟩, fun hx => ?_⟩
      have hlt : j < n' := by
        apply Classical.byContradiction; intro h; simp [h] at hx
      refine ⟨⟨hj.1, hlt⟩, fun hc => ?_, fun _ => ?_⟩
      · rw [name_same] at hc
        simp at hc
      · simp only [maxLen] at hn63
        rw [IntWalk.i64_in (j + 1) ⟨by omega, by omega⟩]
        exact ⟨rfl, j + 1, ⟨by omega, by omega⟩, by omega, rfl, rfl⟩
  · exact hq.elim
noncomputable def namesG (m : Nat) (g : Nat → List UInt8) : Lp := ⟨3, 10, fun _ s => match vw 0 70 [4,32,33,34] [] s with
  | (true, .cons (.bool _ r) (.cons (.rsl _ 1 m' g') (.cons (.int _ .i64 l) (.cons (.int _ .i64 i) .nil))), .nil) =>
    bif Nat.beq s.n 0 then .need ((m' = m ∧ g' = rowT g) ∧ l = m ∧ i = 0) (.all Int fun j => .leaf (.exit 2, canon 0 70 [4,32,33,34] [] (kT m g r j) .nil)) else .stuck
  | _ => .stuck⟩
theorem namesE_ok : (en [c_lkind]).Ok := en_ok (l := [c_lkind]) ⟨c_lkind_ok, trivial⟩
theorem namesG_ok (m : Nat) (g : Nat → List UInt8) : (namesG m g).Ok P := by
  refine lp_ok (by kernel_rfl) fun hin B s Q hq => ?_
  simp only [namesG] at hq hin ⊢
  split at hq
  · rename_i q0 r q1 m' g' q2 l q3 i heq
    cases hn : Nat.beq s.n 0
    · rw [hn] at hq; exact hq.elim
    · rw [hn] at hq
      obtain ⟨⟨⟨rfl, rfl⟩, rfl, rfl⟩, hq⟩ := hq
      have hsame : Same 0 70 [4,32,33,34] [] s (kT m' g r 0) .nil := by
        refine ⟨by rw [heq], by rw [heq]; rfl, by rw [heq]⟩
      refine loop_view (k := 400) (f := 3) namesE_ok hin (fun j : Int => kT m' g r j) (fun _ => .nil) (fun j => 0 ≤ j ∧ j ≤ 20) (fun j => (20 - j).toNat) Q (fun j => names_body B m' g r j) ?_ (Nat.eq_of_beq_eq_true hn) (i0 := 0) ⟨by omega, by omega⟩ hsame
      intro j hj
      have hgood := good (cut40 (g (Int.toNat j)))
      refine ⟨fun _ => ⟨rfl, _, _, rfl, rfl, hq j⟩, fun hx => ?_⟩
      have hlt : j < m' := by
        apply Classical.byContradiction; intro h; simp [h] at hx
      refine ⟨⟨⟨hj.1, hlt⟩, fun _ => ⟨by split <;> omega, by split <;> omega⟩⟩, fun hc => ?_, fun _ => ⟨fun _ => ⟨rfl, _, _, rfl, rfl, hq j⟩, fun h20 => ?_⟩⟩
      · exfalso
        rw [hgood] at hc
        cases hb : (bif j == (20 : Int) then true else false) <;> rw [hb] at hc <;> cases hc
      · have h20' : j ≠ 20 := fun h => by subst h; simp at h20
        rw [IntWalk.i64_in (j + 1) ⟨by omega, by omega⟩]
        exact ⟨rfl, j + 1, ⟨by omega, by omega⟩, by omega, rfl, rfl⟩
  · exact hq.elim
theorem names_tree (n : Nat) (f : Nat → Int) (m : Nat) (g : Nat → List UInt8) : evFn (en [c_wakes] [kindsG n f m g, namesG m g]) 400 3 (.cons (.rsl false 1 n (rowN f)) (.cons (.rsl false 1 m (rowT g)) .nil)) =
    Tree.need ((m = m ∧ rowT g = rowT g) ∧ false = false ∧ (n = n ∧ rowN f = rowN f) ∧ (n : Int) = (n : Int) ∧ (0 : Int) = (0 : Int)) (Tree.all Int fun _ => Tree.need ((m = m ∧ rowT g = rowT g) ∧ (m : Int) = (m : Int) ∧ (0 : Int) = (0 : Int)) (Tree.all Int fun _ => Tree.leaf (V.bool true true))) := by kernel_rfl
theorem names_holds (n : Nat) (f : Nat → Int) (m : Nat) (g : Nat → List UInt8) : Tree.Hold P (evFn (en [c_wakes] [kindsG n f m g, namesG m g]) 400 3 (.cons (.rsl false 1 n (rowN f)) (.cons (.rsl false 1 m (rowT g)) .nil))) fun r => r.soft = .bool false true := by
  constructor
  rw [names_tree]
  exact ⟨⟨⟨rfl, rfl⟩, rfl, ⟨rfl, rfl⟩, rfl, rfl⟩, fun _ => ⟨⟨⟨rfl, rfl⟩, rfl, rfl⟩, fun _ => rfl⟩⟩
theorem names_meets (n : Nat) (hn63 : n ≤ maxLen) (f : Nat → Int) (m : Nat) (g : Nat → List UInt8) : Meets P 3 (.cons (.rsl false 1 n (rowN f)) (.cons (.rsl false 1 m (rowT g)) .nil)) (.bool false true) :=
  meets_true (en_okl (l := [c_wakes]) ⟨c_wakes_ok, trivial⟩ (ls := [kindsG n f m g, namesG m g]) ⟨kindsG_ok n hn63 f m g, namesG_ok m g, trivial⟩) 400 (Has.of hn Tryz.func3 rfl) (names_holds n f m g)
end Go.Proofs.YtkkojdcchnailaaGreatDoor
