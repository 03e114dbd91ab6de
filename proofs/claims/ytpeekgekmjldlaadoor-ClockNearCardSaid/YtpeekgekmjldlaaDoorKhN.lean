/- ClockNear: its loop. -/
import Derived.Test.YtpeekgekmjldlaaDoorKfN
import Derived.Test.YtpeekgekmjldlaaDoorKo
namespace Go.Proofs.YtpeekgekmjldlaaDoor
open Go.Fw
set_option maxRecDepth 100000

theorem nearE_ok : (en [c_kUp, c_kDown]).Ok := en_ok (l := [c_kUp, c_kDown]) ⟨c_kUp_ok, c_kDown_ok, trivial⟩
noncomputable def nearG (n : Nat) (f : Nat → Int × Int) : Lp := ⟨7, 4, fun _ s => match vw 1 128 [2,16,17,18] [] s with
  | (true, .cons (.bool _ r) (.cons (.rsl _ 2 n' get) (.cons (.int _ .i64 l) (.cons (.int _ .i64 i) .nil))), .nil) =>
    bif Nat.beq s.n 1 then .need (n' = n ∧ get = rowF f ∧ l = n ∧ i = 0) (.all Int fun j => .leaf (.exit 0, canon 1 128 [2,16,17,18] [] (kT r n f j) .nil)) else .stuck
  | _ => .stuck⟩
theorem nearG_ok (n : Nat) (f : Nat → Int × Int) : (nearG n f).Ok P := by
  refine lp_ok (by kernel_rfl) fun hin B s Q hq => ?_
  simp only [nearG] at hq hin ⊢
  split at hq
  · rename_i q0 r q1 n' get q2 l q3 i heq
    cases hn : Nat.beq s.n 1
    · rw [hn] at hq; exact hq.elim
    · rw [hn] at hq
      obtain ⟨⟨rfl, rfl, rfl, rfl⟩, hq⟩ := hq
      have hsame : Same 1 128 [2,16,17,18] [] s (kT r n' f 0) .nil := by
        refine ⟨by rw [heq], by rw [heq]; rfl, by rw [heq]⟩
      refine loop_view (k := 400) (f := 7) nearE_ok hin (fun j : Int => kT r n' f j) (fun _ => .nil) (fun j => 0 ≤ j ∧ j ≤ 40) (fun j => (40 - j).toNat) Q (fun j => near_body B r n' f j) ?_ (Nat.eq_of_beq_eq_true hn) (i0 := 0) ⟨by omega, by omega⟩ hsame
      intro j hj
      refine ⟨fun _ => ⟨rfl, _, _, rfl, rfl, hq j⟩, fun hx => ⟨⟨hj.1, ?_⟩, fun _ => ⟨rfl, _, _, rfl, rfl, hq j⟩, fun h40 => ?_⟩⟩
      · apply Classical.byContradiction; intro h; simp [h] at hx
      · have h40' : j ≠ 40 := fun h => by subst h; simp at h40
        rw [IntWalk.i64_in (j + 1) ⟨by omega, by omega⟩]
        generalize (f (Int.toNat j)).1 = t
        generalize (f (Int.toNat j)).2 = d
        refine ⟨fun _ => ⟨rfl, j + 1, ⟨by omega, by omega⟩, by omega, rfl, rfl⟩, fun hc => ?_⟩
        have hz : kDown_1 t d = 0 := by
          apply Classical.byContradiction; intro h; simp [h] at hc
        obtain ⟨ht, hd, h0⟩ := kdown_ok hz
        obtain ⟨a0, a1⟩ := kdown_in ht hd h0
        obtain ⟨b0, b1, b2, b3, b4⟩ := below ht hd h0
        obtain ⟨c0, c1⟩ := kdown_in b0 hd h0
        obtain ⟨d0, d1⟩ := kup_in b0 hd h0
        obtain ⟨e0, e1⟩ := kup_in ht hd h0
        rw [b3] at c0 d0 d1
        simp only [Int.sub_zero, if_true] at c0 d0 d1
        rw [a0, c0, c1, d0, d1]
        generalize hx : t - Int.tmod t d = x at *
        have hb0 := b0
        unfold isT at ht hd hb0
        have w1 : IntKind.wrap IntKind.i64 (t - x) = t - x := IntWalk.i64_in _ ⟨by omega, by omega⟩
        have w2 : IntKind.wrap IntKind.i64 (1125899906842624 - x) = 1125899906842624 - x := IntWalk.i64_in _ ⟨by omega, by omega⟩
        have n1 : ¬ x > t := by omega
        have n2 : ¬ t - x ≥ d := by omega
        refine ⟨fun _ _ _ _ => h0, fun h => ?_, fun _ => ⟨fun _ _ _ => h0, fun h => ?_, fun _ => ⟨rfl, j + 1, ⟨by omega, by omega⟩, by omega, rfl, rfl⟩⟩⟩
        · exfalso
          simp [w1, n1, n2, b3] at h
        · exfalso
          rw [e0, e1] at h
          by_cases k1 : x = t
          · have w3 : IntKind.wrap IntKind.i64 0 = 0 := IntWalk.i64_in 0 ⟨by omega, by omega⟩
            rw [k1] at b3
            simp [k1, b3] at h
            rw [w3] at h
            omega
          · by_cases k2 : x + d ≤ 1125899906842624
            · have w3 : IntKind.wrap IntKind.i64 (x + d - t) = x + d - t := IntWalk.i64_in _ ⟨by omega, by omega⟩
              have n3 : ¬ x + d < t := by omega
              have n4 : ¬ x + d - t ≥ d := by omega
              simp [k1, k2, w3, n3, n4, b4] at h
            · have n3 : ¬ 1125899906842624 - x ≥ d := by omega
              simp [k1, k2, w2, n3] at h
  · exact hq.elim
end Go.Proofs.YtpeekgekmjldlaaDoor
