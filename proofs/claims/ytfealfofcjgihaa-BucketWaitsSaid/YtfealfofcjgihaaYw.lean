/- BucketWaits: the loop's law. -/
import Derived.Test.YtfealfofcjgihaaYeW
namespace Go.Proofs.Ytfealfofcjgihaa
open Go.Fw
set_option maxRecDepth 100000

def wInv (c t left i : Int) : Prop := good c t ∧ 0 < c ∧ t ≤ 0 ∧ 0 ≤ left ∧ left ≤ 100000000000 ∧ t + c * left ≤ 0 ∧ 0 < t + (c * left + c) ∧ 0 ≤ i ∧ i ≤ 1000
theorem wInv_round {c t left i : Int} (h : wInv c t left i) (hi : i < 1000) (hl : left ≠ 0) :
    bPass_2 c t (if 10000000 < left then 10000000 else left) 0 = 0 ∧ bPass_0 c t (if 10000000 < left then 10000000 else left) 0 = c ∧
    bDry_0 c (bPass_1 c t (if 10000000 < left then 10000000 else left) 0) = true ∧
    wInv c (bPass_1 c t (if 10000000 < left then 10000000 else left) 0) (left - if 10000000 < left then 10000000 else left) (i + 1) := by
  obtain ⟨hg, hc, ht, h0, h1, h2, h3, h4, h5⟩ := h
  have hd : 0 < (if 10000000 < left then 10000000 else left) ∧ (if 10000000 < left then 10000000 else left) ≤ 10000000 ∧ (if 10000000 < left then 10000000 else left) ≤ left := by split <;> omega
  generalize (if 10000000 < left then 10000000 else left) = dt at hd
  obtain ⟨p0, p1, p2⟩ := pass0 (dt := dt) hg ⟨by omega, hd.2.1⟩
  have hq : 0 ≤ c * dt := Int.mul_nonneg (by omega) (by omega)
  have hqp : c * dt ≤ c * left := Int.mul_le_mul_of_nonneg_left hd.2.2 (by omega)
  have hs : c * (left - dt) = c * left - c * dt := Int.mul_sub _ _ _
  have hg' := hg
  unfold good at hg'
  have e1 : bPass_1 c t dt 0 = t + c * dt := by
    rw [p1, if_neg (by omega), if_neg (by omega)]
  have hg2 : good c (t + c * dt) := by unfold good; omega
  rw [p2, p0, e1, bdry]
  refine ⟨rfl, rfl, decide_eq_true ⟨hg2, hc, by omega⟩, hg2, hc, by omega, by omega, by omega, by rw [hs]; omega, by rw [hs]; omega, by omega, by omega⟩
theorem wE_ok : wE.Ok := en_ok (l := [c_bCheck, c_bDry, c_bPass]) ⟨c_bCheck_ok, c_bDry_ok, c_bPass_ok, trivial⟩

noncomputable def waitsG : Lp := ⟨5, 8, fun _ s => match vw 15 68 [1,2,5,28] [0] s with
  | (true, .cons (.ptr _ 0 0 0 0) (.cons (.bool _ r) (.cons (.int _ .i64 left) (.cons (.int _ .i64 i) .nil))), .cons (.agg (.cons (.int _ .i64 c) (.cons (.int _ .i64 t) .nil))) .nil) =>
    bif Nat.beq s.n 15 then .need (wInv c t left i) (.all (Int × Int × Int) fun x => .given (wInv c x.1 x.2.1 x.2.2 ∧ (x.2.1 = 0 ∨ x.2.2 ≥ 1000)) (.leaf (.exit 0, canon 15 68 [1,2,5,28] [0] (wT r x.2.1 x.2.2) (wB c x.1)))) else .stuck
  | _ => .stuck⟩
theorem waitsG_ok : waitsG.Ok P := by
  refine lp_ok (by kernel_rfl) fun hin B s Q hq => ?_
  simp only [waitsG] at hq hin ⊢
  split at hq
  · rename_i st0 st1 r st2 left st3 i st4 c st5 t heq
    cases hn : Nat.beq s.n 15
    · rw [hn] at hq; exact hq.elim
    · rw [hn] at hq
      obtain ⟨hI, hq⟩ := hq
      have hsame : Same 15 68 [1,2,5,28] [0] s (wT r left i) (wB c t) := by
        refine ⟨by rw [heq], by rw [heq]; rfl, by rw [heq]; rfl⟩
      refine loop_view (E := wE) (k := 400) (f := 5) wE_ok hin (fun x : Int × Int × Int => wT r x.2.1 x.2.2) (fun x => wB c x.1) (fun x => wInv c x.1 x.2.1 x.2.2) (fun x => (1000 - x.2.2).toNat) Q (fun x => waits_body B r x.2.1 x.2.2 c x.1) ?_ (Nat.eq_of_beq_eq_true hn) (i0 := (t, left, i)) hI hsame
      rintro ⟨t, left, i⟩ hI
      dsimp only at hI ⊢
      have hI2 := hI
      obtain ⟨hg, hc, ht, h0, h1, h2, h3, h4, h5⟩ := hI2
      refine ⟨fun hx => ?_, fun hx => ⟨fun hy => ?_, fun hy => ⟨fun hz => ?_, fun hz => ?_⟩⟩⟩
      · refine ⟨rfl, _, _, rfl, rfl, hq (t, left, i) ⟨hI, .inr ?_⟩⟩
        have : ¬ i < 1000 := fun h => by simp [h] at hx
        dsimp only; omega
      · exfalso
        have hi : i < 1000 := by
          apply Classical.byContradiction; intro h; simp [h] at hx
        by_cases hl : left = 0
        · subst hl; simp at hy
        · obtain ⟨p2, p0, pd, _⟩ := wInv_round hI hi hl
          rw [p0, p2, pd] at hy
          simp at hy
      · refine ⟨rfl, _, _, rfl, rfl, hq (t, left, i) ⟨hI, .inl ?_⟩⟩
        simpa using hz
      · have hi : i < 1000 := by
          apply Classical.byContradiction; intro h; simp [h] at hx
        have hl : left ≠ 0 := by intro h; subst h; simp at hz
        obtain ⟨p2, p0, pd, hn'⟩ := wInv_round hI hi hl
        generalize (if (10000000 : Int) < left then (10000000 : Int) else left) = dt at p2 p0 hn' ⊢
        generalize hq1 : bPass_1 c t dt 0 = t' at hn' ⊢
        rw [p0, IntWalk.i64_in (i + 1) ⟨by omega, by omega⟩, IntWalk.i64_in (left - dt) ⟨by have := hn'.2.2.2.1; omega, by have := hn'.2.2.2.2.1; omega⟩]
        show true = true ∧ ∃ i' : Int × Int × Int, wInv c i'.1 i'.2.1 i'.2.2 ∧ (1000 - i'.2.2).toNat < (1000 - i).toNat ∧ V.soft (wT r (left - dt) (i + 1)) = (wT r i'.2.1 i'.2.2).soft ∧ V.soft (wB c t') = (wB c i'.1).soft
        exact ⟨rfl, (t', left - dt, i + 1), hn', by dsimp only; omega, rfl, rfl⟩
  · exact hq.elim
end Go.Proofs.Ytfealfofcjgihaa
