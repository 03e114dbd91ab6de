/- CpusetBack: its loop, and what it answers. -/
import Derived.Test.YtpeekgekmjldlaaDoorCqB
namespace Go.Proofs.YtpeekgekmjldlaaDoor
open Go.Fw
set_option maxRecDepth 100000

theorem back2E_ok : (en [c_uCheck, c_uWith, c_uWithout, c_uHas, c_uCount, c_uWithin]).Ok := en_ok (l := [c_uCheck, c_uWith, c_uWithout, c_uHas, c_uCount, c_uWithin]) ⟨c_uCheck_ok, c_uWith_ok, c_uWithout_ok, c_uHas_ok, c_uCount_ok, c_uWithin_ok, trivial⟩
noncomputable def back2G (m : Nat) (f : Nat → Int) (b : Int) : Lp := ⟨15, 4, fun _ s => match vw 0 121 [1,17,18,19] [] s with
  | (true, .cons (.int _ .i64 b') (.cons (.rsl _ 1 m' f') (.cons (.int _ .i64 m2) (.cons (.int _ .i64 i0) .nil))), .nil) =>
    bif Nat.beq s.n 0 then .need (b' = b ∧ (m' = m ∧ f' = rowS f) ∧ m2 = m ∧ i0 = 0) (.all Int fun i => .leaf (.exit 0, canon 0 121 [1,17,18,19] [] (kB m f b i) .nil)) else .stuck
  | _ => .stuck⟩
theorem back2G_ok (m : Nat) (f : Nat → Int) (b : Int) (hf : ∀ j, j < m → 0 ≤ f j ∧ f j < 4294967296) : (back2G m f b).Ok P := by
  refine lp_ok (by kernel_rfl) fun hin B s Q hq => ?_
  simp only [back2G] at hq hin ⊢
  split at hq
  · rename_i q0 b' q1 m' f' q2 m2 q3 i0 heq
    cases hn : Nat.beq s.n 0
    · rw [hn] at hq; exact hq.elim
    · rw [hn] at hq
      obtain ⟨⟨rfl, ⟨rfl, rfl⟩, rfl, rfl⟩, hq⟩ := hq
      have hsame : Same 0 121 [1,17,18,19] [] s (kB m' f b' 0) .nil := by
        refine ⟨by rw [heq], by rw [heq]; rfl, by rw [heq]⟩
      refine loop_view (k := 400) (f := 15) back2E_ok hin (fun i : Int => kB m' f b' i) (fun _ => .nil) (fun j => 0 ≤ j ∧ j ≤ 20) (fun j => (20 - j).toNat) Q (fun i => back2_body B m' f b' i) ?_ (Nat.eq_of_beq_eq_true hn) (i0 := 0) ⟨by omega, by omega⟩ hsame
      intro j hj
      refine ⟨fun _ => ⟨rfl, _, _, rfl, rfl, hq j⟩, fun hx => ?_⟩
      have hlt : j < m' := by apply Classical.byContradiction; intro h; simp [h] at hx
      have hr := hf j.toNat (by omega)
      have hcheck : ¬ uCheck_0 (f (Int.toNat j)) ≠ 0 → f (Int.toNat j) < 256 := fun h => by
        apply Classical.byContradiction; intro h256
        exact h (by rw [uCheck_0_pe, check_big (show 256 ≤ f (Int.toNat j) by omega) hr.2]; decide)
      have hback := fun h => back_ok (a := f (Int.toNat j)) (b := b') hr.1 (hcheck h)
      refine ⟨⟨hj.1, hlt⟩, fun _ => ⟨rfl, _, _, rfl, rfl, hq j⟩, fun h20 => ?_⟩
      have h20' : j ≠ 20 := fun h => by subst h; simp at h20
      rw [IntWalk.i64_in (j + 1) ⟨by omega, by omega⟩]
      refine ⟨fun _ => ⟨rfl, j + 1, ⟨by omega, by omega⟩, by omega, rfl, rfl⟩, fun hc => ?_⟩
      have hc' : ¬ uCheck_0 (f (Int.toNat j)) ≠ 0 := fun h => by
        have e : (uCheck_0 (f (Int.toNat j)) != 0) = true := by simpa using h
        rw [e] at hc; cases hc
      refine ⟨fun hbad => ?_, fun _ => ⟨rfl, j + 1, ⟨by omega, by omega⟩, by omega, rfl, rfl⟩⟩
      have := hback hc'
      have h3 := hbad.symm.trans this
      cases h3
  · exact hq.elim
theorem back2_tree (m : Nat) (f : Nat → Int) (b : Int) : evFn (en [c_sets] [back2G m f b]) 400 15 (.cons (.rsl false 1 m (rowS f)) (.cons (.int false .i64 b) .nil)) =
    Tree.need (b = b ∧ (m = m ∧ rowS f = rowS f) ∧ (m : Int) = (m : Int) ∧ (0 : Int) = (0 : Int)) (Tree.all Int fun _ => Tree.leaf (V.bool true true)) := by kernel_rfl
theorem back2_holds (m : Nat) (f : Nat → Int) (b : Int) : Tree.Hold P (evFn (en [c_sets] [back2G m f b]) 400 15 (.cons (.rsl false 1 m (rowS f)) (.cons (.int false .i64 b) .nil))) fun r => r.soft = .bool false true := by
  constructor
  rw [back2_tree]
  exact ⟨⟨rfl, ⟨rfl, rfl⟩, rfl, rfl⟩, fun _ => rfl⟩
theorem back2_meets (m : Nat) (f : Nat → Int) (b : Int) (hf : ∀ j, j < m → 0 ≤ f j ∧ f j < 4294967296) : Meets P 15 (.cons (.rsl false 1 m (rowS f)) (.cons (.int false .i64 b) .nil)) (.bool false true) :=
  meets_true (en_okl (l := [c_sets]) ⟨c_sets_ok, trivial⟩ (ls := [back2G m f b]) ⟨back2G_ok m f b hf, trivial⟩) 400 (Has.of hn Tryd.func15 rfl) (back2_holds m f b)
end Go.Proofs.YtpeekgekmjldlaaDoor
