/- CpusetTurns: its inner loop. -/
import Derived.Test.YtpeekgekmjldlaaDoorCfT
import Derived.Test.YtpeekgekmjldlaaDoorCqT
namespace Go.Proofs.YtpeekgekmjldlaaDoor
open Go.Fw
set_option maxRecDepth 100000

theorem turnsE_ok : (en [c_uWith, c_uWithout, c_vRight, c_vCpu, c_vHas]).Ok := en_ok (l := [c_uWith, c_uWithout, c_vRight, c_vCpu, c_vHas]) ⟨c_uWith_ok, c_uWithout_ok, c_vRight_ok, c_vCpu_ok, c_vHas_ok, trivial⟩
noncomputable def turnsG (m : Nat) (f : Nat → Int) (n : Nat) (g : Nat → Int) : Lp := ⟨13, 8, fun _ s => match vw 0 89 [1,6,19,20,21,28,29,30] [] s with
  | (true, .cons (.rsl _ 1 n' g') (.cons (.int _ .u32 a) (.cons (.rsl _ 1 m' f') (.cons (.int _ .i64 m2) (.cons (.int _ .i64 i) (.cons (.rsl _ 1 n2 g2) (.cons (.int _ .i64 n3) (.cons (.int _ .i64 j0) .nil))))))), .nil) =>
    bif Nat.beq s.n 0 then .need (((n' = n ∧ g' = rowN g) ∧ (m' = m ∧ f' = rowS f) ∧ m2 = m) ∧ ((n2 = n ∧ g2 = rowN g) ∧ n3 = n ∧ j0 = 0) ∧ 0 ≤ a ∧ a < 4294967296) (.all Int fun j => .leaf (.exit 2, canon 0 89 [1,6,19,20,21,28,29,30] [] (kI m f n g i a j) .nil)) else .stuck
  | _ => .stuck⟩
theorem turnsG_ok (m : Nat) (f : Nat → Int) (n : Nat) (g : Nat → Int) : (turnsG m f n g).Ok P := by
  refine lp_ok (by kernel_rfl) fun hin B s Q hq => ?_
  simp only [turnsG] at hq hin ⊢
  split at hq
  · rename_i q0 n' g' q1 a q2 m' f' q3 m2 q4 i q5 n2 g2 q6 n3 q7 j0 heq
    cases hn : Nat.beq s.n 0
    · rw [hn] at hq; exact hq.elim
    · rw [hn] at hq
      obtain ⟨⟨⟨⟨rfl, rfl⟩, ⟨rfl, rfl⟩, rfl⟩, ⟨⟨rfl, rfl⟩, rfl, rfl⟩, ha0, ha1⟩, hq⟩ := hq
      have hsame : Same 0 89 [1,6,19,20,21,28,29,30] [] s (kI m' f n2 g i a 0) .nil := by
        refine ⟨by rw [heq], by rw [heq]; rfl, by rw [heq]⟩
      refine loop_view (k := 400) (f := 13) turnsE_ok hin (fun j : Int => kI m' f n2 g i a j) (fun _ => .nil) (fun j => 0 ≤ j ∧ j ≤ 12) (fun j => (12 - j).toNat) Q (fun j => turns_body B m' f n2 g i a j) ?_ (Nat.eq_of_beq_eq_true hn) (i0 := 0) ⟨by omega, by omega⟩ hsame
      intro j hj
      have hbad := turns_ok (a := a) (b := g (Int.toNat j)) ha0 ha1
      have hcpu := cpu_eq (g (Int.toNat j))
      generalize uWith_0 a (g (Int.toNat j)) = x0 at *
      generalize uWith_1 a (g (Int.toNat j)) = x1 at *
      generalize uWithout_0 a (g (Int.toNat j)) = x2 at *
      generalize uWithout_1 a (g (Int.toNat j)) = x3 at *
      generalize vRight_0 a = x4 at *
      generalize vCpu_0 (g (Int.toNat j)) = x5 at *
      generalize vHas_0 a (g (Int.toNat j)) = x6 at *
      have hge : (!x5) = false → 0 ≤ g (Int.toNat j) := fun h => by
        cases x5
        · cases h
        · exact (of_decide_eq_true hcpu.symm).1
      refine ⟨fun _ => ⟨rfl, _, _, rfl, rfl, hq j⟩, fun hx => ⟨⟨⟨hj.1, ?_⟩, fun _ _ h => ⟨fun _ => hge h, fun _ => hge h⟩⟩, fun hc => ?_, fun _ => ⟨fun _ => ⟨rfl, _, _, rfl, rfl, hq j⟩, fun h12 => ?_⟩⟩⟩
      · apply Classical.byContradiction; intro h; simp [h] at hx
      · exfalso
        cases h12 : (bif j == (12 : Int) then true else false)
        · rw [h12] at hc
          simp only [cond_false] at hc
          have h3 := hc.symm.trans hbad
          cases h3
        · rw [h12] at hc; cases hc
      · have h12' : j ≠ 12 := fun h => by subst h; simp at h12
        rw [IntWalk.i64_in (j + 1) ⟨by omega, by omega⟩]
        exact ⟨rfl, j + 1, ⟨by omega, by omega⟩, by omega, rfl, rfl⟩
  · exact hq.elim
end Go.Proofs.YtpeekgekmjldlaaDoor
