/- BucketHolds: the loop over the parts from one on. -/
import Derived.Test.YtfealfofcjgihaaZeB
import Derived.Test.YtfealfofcjgihaaZp
namespace Go.Proofs.Ytfealfofcjgihaa
open Go.Fw
set_option maxRecDepth 100000

theorem hE3_ok : (en [c_bBound]).Ok := en_ok (l := [c_bBound]) ⟨c_bBound_ok, trivial⟩
theorem h3G_ok : h3G.Ok P := by
  refine lp_ok (by kernel_rfl) fun hin B s Q hq => ?_
  simp only [h3G] at hq hin ⊢
  split at hq
  · rename_i q0 r q1 n q2 time q3 run q4 gap q5 most q6 ln q7 j q8 fr n2 q9 ln2 q10 q q11 c q12 t q13 k get heq
    cases hn : Nat.beq s.n 16
    · rw [hn] at hq; exact hq.elim
    · rw [hn] at hq
      obtain ⟨⟨⟨rfl, rfl, rfl, rfl, rfl⟩, ⟨rfl, rfl, rfl, hfn⟩, f, τ, rfl, hist⟩, hq⟩ := hq
      have hsame : SameR 16 16 123 h3K h3H s (h3T r k j fr n2 0 0 0 0 0) (hB c t k (row2 f)) := by
        refine ⟨by rw [heq], ?_, ?_⟩
        · rw [heq]; exact Le.soft rfl
        · rw [heq]; exact LeBs.two (LeB.var (Le.soft rfl)) (LeB.arr rfl fun _ _ => rfl)
      refine loop_viewR (k := 400) (f := 4) hE3_ok hin (n1 := 16) (n0 := 16) (N0 := 123) (fun x : Int × Int × Int × Int × Int => h3T r k j fr n2 x.1 x.2.1 x.2.2.1 x.2.2.2.1 x.2.2.2.2) (fun _ => hB c t k (row2 f))
        (fun x => ∃ q : Nat, x.2.2.2.2 = q ∧ q ≤ n2 ∧ Run c τ fr q x.1 x.2.1 x.2.2.1 x.2.2.2.1) (fun x => n2 - x.2.2.2.2.toNat) Q (fun x _ => holds3_body B r c t k f j fr n2 x.1 x.2.1 x.2.2.1 x.2.2.2.1 x.2.2.2.2) ?_ (Nat.eq_of_beq_eq_true hn)
        (i0 := (0, 0, 0, 0, 0)) ⟨0, rfl, Nat.zero_le _, Run.start c τ fr⟩ hsame
      rintro ⟨time, run, gap, most, q'⟩ ⟨q, hqe, hqn, hrun⟩
      dsimp only at hqe hrun
      subst hqe
      refine ⟨fun _ => ⟨rfl, h3T r k j fr n2 time run gap most q, hB c t k (row2 f), Le.soft rfl, LeBs.two (LeB.var (Le.soft rfl)) (LeB.arr rfl fun _ _ => rfl), hq (time, run, gap, most, q)⟩, fun hx => ?_⟩
      have hlt : q < n2 := by
        apply Classical.byContradiction; intro h
        have h' : ¬ ((q : Int) < (n2 : Int)) := by omega
        simp [h'] at hx
      have hfr : fr + q < k := by omega
      refine ⟨⟨⟨show (0 : Int) ≤ (q : Int) by omega, show (q : Int) < (n2 : Int) by omega⟩, show fr + (q : Int).toNat < k by simpa using hfr⟩, ?_⟩
      have hfew := hist.few
      have hnext := hrun.next hist hfr
      have hbd := hnext.bound hist (by omega)
      have hb := bbound hist.cap (time := time + (f (fr + q)).1) (gap := if (f (fr + q)).1 > gap then (f (fr + q)).1 else gap) (most := if (f (fr + q)).2 > most then (f (fr + q)).2 else most)
        ⟨hnext.hti.1, by have := hnext.hti.2; omega⟩ hnext.hga hnext.hmo
      have hti := hnext.hti
      have hru := hnext.hru
      have hp := hist.part _ hfr
      have hdk : 0 ≤ (f (fr + q)).1 * (f (fr + q)).2 ∧ (f (fr + q)).1 * (f (fr + q)).2 ≤ 80000000 := by
        constructor
        · exact Int.mul_nonneg hp.1 hp.2.2.1
        · have a : (f (fr + q)).1 * (f (fr + q)).2 ≤ (f (fr + q)).1 * 8 := Int.mul_le_mul_of_nonneg_left hp.2.2.2 hp.1
          omega
      rw [Int.toNat_natCast]
      rw [IntWalk.i64_in (time + (f (fr + q)).1) ⟨by omega, by omega⟩, IntWalk.i64_in ((f (fr + q)).1 * (f (fr + q)).2) ⟨by omega, by omega⟩, IntWalk.i64_in (run + (f (fr + q)).1 * (f (fr + q)).2) ⟨by omega, by omega⟩,
        IntWalk.i64_in (100 * (run + (f (fr + q)).1 * (f (fr + q)).2)) ⟨by omega, by omega⟩, IntWalk.i64_in ((q : Int) + 1) ⟨by omega, by omega⟩, hb.1, hb.2]
      refine ⟨fun h => ?_, fun _ => ⟨rfl, (_, _, _, _, ((q + 1 : Nat) : Int)), ⟨q + 1, rfl, hlt, hnext⟩, ?_, Le.soft rfl, LeBs.two (LeB.var (Le.soft rfl)) (LeB.arr rfl fun _ _ => rfl)⟩⟩
      · exfalso
        have : ¬ (100 * (run + (f (fr + q)).1 * (f (fr + q)).2) > c * 100000000 + c * (time + (f (fr + q)).1) + 100 * (if (f (fr + q)).2 > most then (f (fr + q)).2 else most) * (if (f (fr + q)).1 > gap then (f (fr + q)).1 else gap)) := Int.not_lt.2 hbd
        simp [this] at h
      · show n2 - ((q + 1 : Nat) : Int).toNat < n2 - (q : Int).toNat
        omega
  · exact hq.elim
end Go.Proofs.Ytfealfofcjgihaa
