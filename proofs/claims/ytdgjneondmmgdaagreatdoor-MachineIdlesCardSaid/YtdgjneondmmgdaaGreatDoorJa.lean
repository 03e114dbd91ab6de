/- Facts and values. What is told of weights, domains, times, alarms. What is told of guests and alarms. Buckets without caps, the vCPU. Events that may be. Traces go on. -/
import Derived.Test.YtdgjneondmmgdaaGreatDoorGb
import Derived.Test.YtdgjneondmmgdaaGreatDoorFg
set_option linter.unusedSimpArgs false
set_option linter.unusedVariables false
namespace Go.Proofs.YtdgjneondmmgdaaGreatDoor
open Go.Fw
set_option maxRecDepth 100000
set_option linter.unusedVariables false
set_option linter.unusedSimpArgs false
theorem Meets.res {P : Program} {g : FuncId} {a v v' : V} (h : Meets P g a v) (e : v.soft = v'.soft) : Meets P g a v' :=
  ⟨h.1, fun F w xs h1 h2 h3 => (h.2 F w xs h1 h2 h3).mono fun _ w' ⟨x, F', k1, k2, k3⟩ => ⟨x, F', k1, k2, ((R_soft v' 0 _).1 x).1 (by rw [← e]; exact ((R_soft v 0 _).1 x).2 k3)⟩⟩
theorem wf64 {x : Int} (h : -9223372036854775808 ≤ x ∧ x ≤ 9223372036854775807) : wrapF .i64 x = x := by rw [wrapF_eq]; exact IntWalk.i64_in x h
theorem wfu64 {x : Int} (h : 0 ≤ x ∧ x ≤ 18446744073709551615) : wrapF .u64 x = x := by rw [wrapF_eq]; exact IntWalk.u64_in x h
theorem wi64 {x : Int} (h : -9223372036854775808 ≤ x ∧ x ≤ 9223372036854775807) : IntKind.wrap .i64 x = x := IntWalk.i64_in x h
theorem wu64 {x : Int} (h : 0 ≤ x ∧ x ≤ 18446744073709551615) : IntKind.wrap .u64 x = x := IntWalk.u64_in x h
def pT (t : Int) : Prop := 0 ≤ t ∧ t ≤ 1125899906842624
def pW (w : Int) : Prop := 1 ≤ w ∧ w ≤ 65535
/-- Seats, pools and rows of the states that come. -/
def seatsV (c : Nat) : V := .rsl true 2 c fun j => .cons (.int true .i64 0) (.cons (.int true .i64 (Int.ofNat j)) .nil)
def setsV (c : Nat) : V := .rsl true 1 1 fun _ => .cons (.int true .u32 (Int.ofNat (2 ^ c - 1))) .nil
def domsV (w : Int) : V := .rsl true 4 1 fun _ => (.cons (.int true .i64 1) (.cons (.int false .i64 w) (.cons (.int true .i64 0) (.cons (.int true .i64 0) .nil))))
def vcpusV : V := .rsl true 4 1 fun _ => (.cons (.int true .i64 1) (.cons (.int true .i64 1) (.cons (.int true .u32 255) (.cons (.int true .u32 0) .nil))))
def bucksV : V := .rsl true 2 1 fun _ => (.cons (.int true .i64 0) (.cons (.int true .i64 0) .nil))
def putsV : V := .rsl true 2 1 fun _ => (.cons (.int true .i64 1) (.cons (.int true .i64 0) .nil))
def own2 (w : Int) : V := .rsl true 11 1 fun _ => (.cons (.int true .i64 1) (.cons (.int true .i64 0) (.cons (.int true .i64 0) (.cons (.int true .u32 0) (.cons (.int true .i64 0) (.cons (.int true .u64 0) (.cons (.int true .u64 0) (.cons (.int false .u64 w) (.cons (.int true .u64 1) (.cons (.int true .i64 0) (.cons (.int true .i64 0) .nil)))))))))))
def own3 (w : Int) : V := .rsl true 11 1 fun _ => (.cons (.int true .i64 1) (.cons (.int true .i64 1) (.cons (.int true .i64 0) (.cons (.int true .u32 0) (.cons (.int true .i64 0) (.cons (.int true .u64 0) (.cons (.int true .u64 0) (.cons (.int false .u64 w) (.cons (.int true .u64 2) (.cons (.int true .i64 0) (.cons (.int true .i64 0) .nil)))))))))))
def own4 (t w : Int) : V := .rsl true 11 1 fun _ => (.cons (.int true .i64 1) (.cons (.int true .i64 1) (.cons (.int true .i64 0) (.cons (.int true .u32 0) (.cons (.int true .i64 0) (.cons (.int true .u64 0) (.cons (.int false .u64 t) (.cons (.int false .u64 w) (.cons (.int true .u64 2) (.cons (.int true .i64 1000000) (.cons (.int false .i64 t) .nil)))))))))))
def frame0 : V := .rsl true 2 1 fun _ => (.cons (.int true .i64 0) (.cons .nilsl .nil))
def frame4 : V := .rsl true 2 1 fun _ => (.cons (.int true .i64 0) (.cons putsV .nil))
def stC0 (c : Nat) : V := (.cons (.int true .i64 0) (.cons (seatsV c) (.cons (setsV c) (.cons .nilsl (.cons .nilsl (.cons .nilsl (.cons .nilsl (.cons .nilsl (.cons .nilsl (.cons (.int true .i64 0) (.cons .nilsl (.cons .nilsl (.cons .nilsl (.cons (.int true .u64 0) .nil))))))))))))))
def maC0 (c : Nat) : V := (.cons (.int true .i64 0) (.cons (seatsV c) (.cons (setsV c) (.cons .nilsl (.cons .nilsl (.cons .nilsl (.cons .nilsl (.cons .nilsl (.cons .nilsl (.cons (.int true .i64 0) (.cons .nilsl (.cons .nilsl (.cons .nilsl (.cons (.int true .u64 0) (.cons frame0 (.cons (.int true .i64 0) .nil))))))))))))))))
def stC1 (c : Nat) (w : Int) : V := (.cons (.int true .i64 0) (.cons (seatsV c) (.cons (setsV c) (.cons (domsV w) (.cons (.esl true 4) (.cons .nilsl (.cons .nilsl (.cons bucksV (.cons .nilsl (.cons (.int true .i64 0) (.cons .nilsl (.cons .nilsl (.cons .nilsl (.cons (.int true .u64 0) .nil))))))))))))))
def maC1 (c : Nat) (w : Int) : V := (.cons (.int true .i64 0) (.cons (seatsV c) (.cons (setsV c) (.cons (domsV w) (.cons (.esl true 4) (.cons .nilsl (.cons .nilsl (.cons bucksV (.cons .nilsl (.cons (.int true .i64 0) (.cons .nilsl (.cons .nilsl (.cons .nilsl (.cons (.int true .u64 0) (.cons frame0 (.cons (.int true .i64 0) .nil))))))))))))))))
def stC2 (c : Nat) (w : Int) : V := (.cons (.int true .i64 0) (.cons (seatsV c) (.cons (setsV c) (.cons (domsV w) (.cons vcpusV (.cons .nilsl (.cons (own2 w) (.cons bucksV (.cons .nilsl (.cons (.int true .i64 0) (.cons .nilsl (.cons .nilsl (.cons .nilsl (.cons (.int true .u64 1) .nil))))))))))))))
def maC2 (c : Nat) (w : Int) : V := (.cons (.int true .i64 0) (.cons (seatsV c) (.cons (setsV c) (.cons (domsV w) (.cons vcpusV (.cons .nilsl (.cons (own2 w) (.cons bucksV (.cons .nilsl (.cons (.int true .i64 0) (.cons .nilsl (.cons .nilsl (.cons .nilsl (.cons (.int true .u64 1) (.cons frame0 (.cons (.int true .i64 0) .nil))))))))))))))))
def stC3 (c : Nat) (w : Int) : V := (.cons (.int true .i64 0) (.cons (seatsV c) (.cons (setsV c) (.cons (domsV w) (.cons vcpusV (.cons .nilsl (.cons (own3 w) (.cons bucksV (.cons .nilsl (.cons (.int true .i64 0) (.cons .nilsl (.cons .nilsl (.cons .nilsl (.cons (.int true .u64 2) .nil))))))))))))))
def maC3 (c : Nat) (w : Int) : V := (.cons (.int true .i64 0) (.cons (seatsV c) (.cons (setsV c) (.cons (domsV w) (.cons vcpusV (.cons .nilsl (.cons (own3 w) (.cons bucksV (.cons .nilsl (.cons (.int true .i64 0) (.cons .nilsl (.cons .nilsl (.cons .nilsl (.cons (.int true .u64 2) (.cons frame4 (.cons (.int true .i64 0) .nil))))))))))))))))
def stC4 (c : Nat) (t w : Int) : V := (.cons (.int false .i64 t) (.cons (seatsV c) (.cons (setsV c) (.cons (domsV w) (.cons vcpusV (.cons .nilsl (.cons (own4 t w) (.cons bucksV (.cons .nilsl (.cons (.int false .i64 t) (.cons .nilsl (.cons .nilsl (.cons putsV (.cons (.int true .u64 2) .nil))))))))))))))
def maC4 (c : Nat) (t w : Int) : V := (.cons (.int false .i64 t) (.cons (seatsV c) (.cons (setsV c) (.cons (domsV w) (.cons vcpusV (.cons .nilsl (.cons (own4 t w) (.cons bucksV (.cons .nilsl (.cons (.int false .i64 t) (.cons .nilsl (.cons .nilsl (.cons putsV (.cons (.int true .u64 2) (.cons frame4 (.cons (.int false .i64 t) .nil))))))))))))))))
end Go.Proofs.YtdgjneondmmgdaaGreatDoor
namespace Go.Proofs.YtdgjneondmmgdaaGreatDoor
open Go.Fw
set_option maxRecDepth 100000
set_option linter.unusedVariables false
set_option linter.unusedSimpArgs false
/- weights -/
noncomputable def weight_a (w : Int) : V := (.cons (.int false .u64 w) .nil)
noncomputable def weight_r (w : Int) : V := (.bool true true)
def weight_p (w : Int) : Prop := pW w
noncomputable def weight_q (w : Int) : V := (.bool false true)

theorem weight_ask (w : Int) : askK (weight_q w) (evFnS (envL P [] [] true) (gsOf []) 400 263 (weight_a w)) Bx.mk = ⟨
    (bif decide (w ≥ (1 : Int)) then decide (w ≤ (65535 : Int)) else false) = true ∧ True⟩ := by kernel_rfl
theorem weight_meets {w : Int} (h : weight_p w) : Meets P 263 (weight_a w) (weight_r w) :=
  Meets.res (v := weight_q w) (meets_ask (E := envL P [] [] true) (gs := gsOf []) envL_among (en_ok (l := []) trivial) 400 (Has.of hn Tryz.func263 rfl) (weight_ask w) (by
    have h0 := h
    simp only [weight_p, pT, pW] at h0 ⊢
    clear h
    all_goals (repeat' (first | apply And.intro | intro _))
    all_goals first
      | rfl
      | trivial
      | assumption
      | omega
      | (rename_i hh; simp at hh; omega)
      | (simp; omega))) rfl
noncomputable def f_weight : Fam := { ps := [[0]], fam := fun l => weight_a (l.getD 0 0), pre := fun l => weight_p (l.getD 0 0), res := fun l => weight_r (l.getD 0 0) }
theorem f_weight_ok : f_weight.Ok P 263 := fun l h => weight_meets h
noncomputable def c_weight : Con := famCon 263 [f_weight]
theorem c_weight_ok : c_weight.Ok P := famCon_ok ⟨f_weight_ok, trivial⟩
/- domains -/
noncomputable def may_a (w : Int) : V := (.cons (.agg (.cons (.int true .i64 1) (.cons (.int false .i64 w) (.cons (.int true .i64 0) (.cons (.int true .i64 0) .nil))))) .nil)
noncomputable def may_r (w : Int) : V := (.bool true true)
def may_p (w : Int) : Prop := pW w
noncomputable def may_q (w : Int) : V := (.bool false true)

theorem may_ask (w : Int) : askK (may_q w) (evFnS (envL P [] [] true) (gsOf []) 400 130 (may_a w)) Bx.mk = ⟨
    (bif decide (w ≥ (1 : Int)) then decide (w ≤ (65535 : Int)) else false) = true ∧ True⟩ := by kernel_rfl
theorem may_meets {w : Int} (h : may_p w) : Meets P 130 (may_a w) (may_r w) :=
  Meets.res (v := may_q w) (meets_ask (E := envL P [] [] true) (gs := gsOf []) envL_among (en_ok (l := []) trivial) 400 (Has.of hn Tryz.func130 rfl) (may_ask w) (by
    have h0 := h
    simp only [may_p, pT, pW] at h0 ⊢
    clear h
    all_goals (repeat' (first | apply And.intro | intro _))
    all_goals first
      | rfl
      | trivial
      | assumption
      | omega
      | (rename_i hh; simp at hh; omega)
      | (simp; omega))) rfl
noncomputable def f_may : Fam := { ps := [[0, 1]], fam := fun l => may_a (l.getD 0 0), pre := fun l => may_p (l.getD 0 0), res := fun l => may_r (l.getD 0 0) }
theorem f_may_ok : f_may.Ok P 130 := fun l h => may_meets h
noncomputable def c_may : Con := famCon 130 [f_may]
theorem c_may_ok : c_may.Ok P := famCon_ok ⟨f_may_ok, trivial⟩
/- times -/
noncomputable def time_a (t : Int) : V := (.cons (.int false .i64 t) .nil)
noncomputable def time_r (t : Int) : V := (.bool true true)
def time_p (t : Int) : Prop := pT t
noncomputable def time_q (t : Int) : V := (.bool false true)

theorem time_ask (t : Int) : askK (time_q t) (evFnS (envL P [] [] true) (gsOf []) 400 26 (time_a t)) Bx.mk = ⟨
    (bif decide (t ≥ (0 : Int)) then decide (t ≤ (1125899906842624 : Int)) else false) = true ∧ True⟩ := by kernel_rfl
theorem time_meets {t : Int} (h : time_p t) : Meets P 26 (time_a t) (time_r t) :=
  Meets.res (v := time_q t) (meets_ask (E := envL P [] [] true) (gs := gsOf []) envL_among (en_ok (l := []) trivial) 400 (Has.of hn Tryz.func26 rfl) (time_ask t) (by
    have h0 := h
    simp only [time_p, pT, pW] at h0 ⊢
    clear h
    all_goals (repeat' (first | apply And.intro | intro _))
    all_goals first
      | rfl
      | trivial
      | assumption
      | omega
      | (rename_i hh; simp at hh; omega)
      | (simp; omega))) rfl
noncomputable def f_time : Fam := { ps := [[0]], fam := fun l => time_a (l.getD 0 0), pre := fun l => time_p (l.getD 0 0), res := fun l => time_r (l.getD 0 0) }
theorem f_time_ok : f_time.Ok P 26 := fun l h => time_meets h
noncomputable def c_time : Con := famCon 26 [f_time]
theorem c_time_ok : c_time.Ok P := famCon_ok ⟨f_time_ok, trivial⟩
/- alarms -/
noncomputable def vcheck_a (t : Int) : V := (.cons (.agg (.cons (.int false .i64 t) (.cons .nilsl (.cons .nilsl .nil)))) .nil)
noncomputable def vcheck_r (t : Int) : V := (.int true .i64 0)
def vcheck_p (t : Int) : Prop := pT t

theorem vcheck_ask (t : Int) : askK (vcheck_r t) (evFnS (envL P [] [] true) (gsOf []) 400 67 (vcheck_a t)) Bx.mk = ⟨
    ((bif bif decide (t < (0 : Int)) then true else decide (t > (1125899906842624 : Int)) then true else false) = true → False) ∧ ((bif bif decide (t < (0 : Int)) then true else
    decide (t > (1125899906842624 : Int)) then true else false) = false → True)⟩ := by kernel_rfl
theorem vcheck_meets {t : Int} (h : vcheck_p t) : Meets P 67 (vcheck_a t) (vcheck_r t) :=
  meets_ask (E := envL P [] [] true) (gs := gsOf []) envL_among (en_ok (l := []) trivial) 400 (Has.of hn Tryz.func67 rfl) (vcheck_ask t) (by
    have h0 := h
    simp only [vcheck_p, pT, pW] at h0 ⊢
    clear h
    all_goals (repeat' (first | apply And.intro | intro _))
    all_goals first
      | rfl
      | trivial
      | assumption
      | omega
      | (rename_i hh; simp at hh; omega)
      | (simp; omega))
noncomputable def f_vcheck : Fam := { ps := [[0, 0]], fam := fun l => vcheck_a (l.getD 0 0), pre := fun l => vcheck_p (l.getD 0 0), res := fun l => vcheck_r (l.getD 0 0) }
theorem f_vcheck_ok : f_vcheck.Ok P 67 := fun l h => vcheck_meets h
noncomputable def c_vcheck : Con := famCon 67 [f_vcheck]
theorem c_vcheck_ok : c_vcheck.Ok P := famCon_ok ⟨f_vcheck_ok, trivial⟩
end Go.Proofs.YtdgjneondmmgdaaGreatDoor
namespace Go.Proofs.YtdgjneondmmgdaaGreatDoor
open Go.Fw
set_option maxRecDepth 100000
set_option linter.unusedVariables false
set_option linter.unusedSimpArgs false
/- who sleeps -/
noncomputable def sleeps_a (t o : Int) : V := (.cons (.agg (.cons (.int false .i64 t) (.cons .nilsl (.cons .nilsl .nil)))) (.cons (.int false .i64 o) .nil))
noncomputable def sleeps_r (t o : Int) : V := (.tup (.cons (.int true .i64 0) (.cons (.bool true false) .nil)))
def sleeps_p (t o : Int) : Prop := pT t ∧ 1 ≤ o ∧ o ≤ 16

theorem sleeps_ask (t o : Int) : askK (sleeps_r t o) (evFnS (envL P [c_vcheck] [] true) (gsOf [c_vcheck]) 400 80 (sleeps_a t o)) Bx.mk = ⟨
    (t = t ∧ vcheck_p t) ∧ ((bif !bif decide (o ≥ (1 : Int)) then decide (o ≤ (16 : Int)) else false then true else false) = true → True) ∧ ((bif !bif decide (o ≥ (1 : Int)) then
    decide (o ≤ (16 : Int)) else false then true else false) = false → True)⟩ := by kernel_rfl
theorem sleeps_meets {t o : Int} (h : sleeps_p t o) : Meets P 80 (sleeps_a t o) (sleeps_r t o) :=
  meets_ask (E := envL P [c_vcheck] [] true) (gs := gsOf [c_vcheck]) envL_among (en_ok (l := [c_vcheck]) ⟨c_vcheck_ok, trivial⟩) 400 (Has.of hn Tryz.func80 rfl) (sleeps_ask t o) (by
    have h0 := h
    simp only [sleeps_p, pT, pW, vcheck_p, may_p, weight_p, time_p] at h0 ⊢
    clear h
    all_goals (repeat' (first | apply And.intro | intro _))
    all_goals first
      | rfl
      | trivial
      | assumption
      | omega
      | (rename_i hh; simp at hh; omega)
      | (simp; omega))
noncomputable def f_sleeps : Fam := { ps := [[0, 0], [1]], fam := fun l => sleeps_a (l.getD 0 0) (l.getD 1 0), pre := fun l => sleeps_p (l.getD 0 0) (l.getD 1 0), res := fun l => sleeps_r (l.getD 0 0) (l.getD 1 0) }
theorem f_sleeps_ok : f_sleeps.Ok P 80 := fun l h => sleeps_meets h
noncomputable def c_sleeps : Con := famCon 80 [f_sleeps]
theorem c_sleeps_ok : c_sleeps.Ok P := famCon_ok ⟨f_sleeps_ok, trivial⟩
/- alarms go on -/
noncomputable def vpass_a (t n : Int) : V := (.cons (.agg (.cons (.int false .i64 t) (.cons .nilsl (.cons .nilsl .nil)))) (.cons (.int false .i64 n) .nil))
noncomputable def vpass_r (t n : Int) : V := (.tup (.cons (.agg (.cons (.int false .i64 n) (.cons .nilsl (.cons .nilsl .nil)))) (.cons .nilsl (.cons (.int true .i64 0) .nil))))
def vpass_p (t n : Int) : Prop := pT t ∧ pT n ∧ t ≤ n

theorem vpass_ask (t n : Int) : askK (vpass_r t n) (evFnS (envL P [c_vcheck] [] true) (gsOf [c_vcheck]) 400 119 (vpass_a t n)) Bx.mk = ⟨
    (t = t ∧ vcheck_p t) ∧ ((bif bif decide (t < (0 : Int)) then true else decide (t > (1125899906842624 : Int)) then true else false) = true → False) ∧ ((bif bif decide (t < (0 :
    Int)) then true else decide (t > (1125899906842624 : Int)) then true else false) = false → ((bif bif decide (n < t) then true else decide (n > (1125899906842624 : Int)) then
    true else false) = true → False) ∧ ((bif bif decide (n < t) then true else decide (n > (1125899906842624 : Int)) then true else false) = false → n = n ∧ True))⟩ := by kernel_rfl
theorem vpass_meets {t n : Int} (h : vpass_p t n) : Meets P 119 (vpass_a t n) (vpass_r t n) :=
  meets_ask (E := envL P [c_vcheck] [] true) (gs := gsOf [c_vcheck]) envL_among (en_ok (l := [c_vcheck]) ⟨c_vcheck_ok, trivial⟩) 400 (Has.of hn Tryz.func119 rfl) (vpass_ask t n) (by
    have h0 := h
    simp only [vpass_p, pT, pW, vcheck_p, may_p, weight_p, time_p] at h0 ⊢
    clear h
    all_goals (repeat' (first | apply And.intro | intro _))
    all_goals first
      | rfl
      | trivial
      | assumption
      | omega
      | (rename_i hh; simp at hh; omega)
      | (simp; omega))
noncomputable def f_vpass : Fam := { ps := [[0, 0], [1]], fam := fun l => vpass_a (l.getD 0 0) (l.getD 1 0), pre := fun l => vpass_p (l.getD 0 0) (l.getD 1 0), res := fun l => vpass_r (l.getD 0 0) (l.getD 1 0) }
theorem f_vpass_ok : f_vpass.Ok P 119 := fun l h => vpass_meets h
noncomputable def c_vpass : Con := famCon 119 [f_vpass]
theorem c_vpass_ok : c_vpass.Ok P := famCon_ok ⟨f_vpass_ok, trivial⟩
/- guests -/
noncomputable def dcheck0_a  : V := (.cons (.agg (.cons .nilsl (.cons .nilsl .nil))) .nil)
noncomputable def dcheck0_r  : V := (.int true .i64 0)
def dcheck0_p  : Prop := True

theorem dcheck0_ask  : askK (dcheck0_r ) (evFnS (envL P [c_may] [] true) (gsOf [c_may]) 400 64 (dcheck0_a )) Bx.mk = ⟨
    True⟩ := by kernel_rfl
theorem dcheck0_meets (h : dcheck0_p ) : Meets P 64 (dcheck0_a ) (dcheck0_r ) :=
  meets_ask (E := envL P [c_may] [] true) (gs := gsOf [c_may]) envL_among (en_ok (l := [c_may]) ⟨c_may_ok, trivial⟩) 400 (Has.of hn Tryz.func64 rfl) (dcheck0_ask ) (by
    trivial)
noncomputable def f_dcheck0 : Fam := { ps := [], fam := fun l => dcheck0_a , pre := fun l => dcheck0_p , res := fun l => dcheck0_r  }
theorem f_dcheck0_ok : f_dcheck0.Ok P 64 := fun l h => dcheck0_meets h
/- guests -/
noncomputable def dcheck1_a (w : Int) : V := (.cons (.agg (.cons (domsV w) (.cons (.esl true 4) .nil))) .nil)
noncomputable def dcheck1_r (w : Int) : V := (.int true .i64 0)
def dcheck1_p (w : Int) : Prop := pW w

theorem dcheck1_ask (w : Int) : askK (dcheck1_r w) (evFnS (envL P [c_may] [] true) (gsOf [c_may]) 400 64 (dcheck1_a w)) Bx.mk = ⟨
    (w = w ∧ may_p w) ∧ True⟩ := by kernel_rfl
theorem dcheck1_meets {w : Int} (h : dcheck1_p w) : Meets P 64 (dcheck1_a w) (dcheck1_r w) :=
  meets_ask (E := envL P [c_may] [] true) (gs := gsOf [c_may]) envL_among (en_ok (l := [c_may]) ⟨c_may_ok, trivial⟩) 400 (Has.of hn Tryz.func64 rfl) (dcheck1_ask w) (by
    have h0 := h
    simp only [dcheck1_p, pT, pW, vcheck_p, may_p, weight_p, time_p] at h0 ⊢
    clear h
    all_goals (repeat' (first | apply And.intro | intro _))
    all_goals first
      | rfl
      | trivial
      | assumption
      | omega
      | (rename_i hh; simp at hh; omega)
      | (simp; omega))
noncomputable def f_dcheck1 : Fam := { ps := [[0, 0, 0, 1]], fam := fun l => dcheck1_a (l.getD 0 0), pre := fun l => dcheck1_p (l.getD 0 0), res := fun l => dcheck1_r (l.getD 0 0) }
theorem f_dcheck1_ok : f_dcheck1.Ok P 64 := fun l h => dcheck1_meets h
/- guests -/
noncomputable def dcheck2_a (w : Int) : V := (.cons (.agg (.cons (domsV w) (.cons vcpusV .nil))) .nil)
noncomputable def dcheck2_r (w : Int) : V := (.int true .i64 0)
def dcheck2_p (w : Int) : Prop := pW w

theorem dcheck2_ask (w : Int) : askK (dcheck2_r w) (evFnS (envL P [c_may] [] true) (gsOf [c_may]) 400 64 (dcheck2_a w)) Bx.mk = ⟨
    (w = w ∧ may_p w) ∧ True⟩ := by kernel_rfl
theorem dcheck2_meets {w : Int} (h : dcheck2_p w) : Meets P 64 (dcheck2_a w) (dcheck2_r w) :=
  meets_ask (E := envL P [c_may] [] true) (gs := gsOf [c_may]) envL_among (en_ok (l := [c_may]) ⟨c_may_ok, trivial⟩) 400 (Has.of hn Tryz.func64 rfl) (dcheck2_ask w) (by
    have h0 := h
    simp only [dcheck2_p, pT, pW, vcheck_p, may_p, weight_p, time_p] at h0 ⊢
    clear h
    all_goals (repeat' (first | apply And.intro | intro _))
    all_goals first
      | rfl
      | trivial
      | assumption
      | omega
      | (rename_i hh; simp at hh; omega)
      | (simp; omega))
noncomputable def f_dcheck2 : Fam := { ps := [[0, 0, 0, 1]], fam := fun l => dcheck2_a (l.getD 0 0), pre := fun l => dcheck2_p (l.getD 0 0), res := fun l => dcheck2_r (l.getD 0 0) }
theorem f_dcheck2_ok : f_dcheck2.Ok P 64 := fun l h => dcheck2_meets h
noncomputable def c_dcheck : Con := famCon 64 [f_dcheck0, f_dcheck1, f_dcheck2]
theorem c_dcheck_ok : c_dcheck.Ok P := famCon_ok ⟨f_dcheck0_ok, f_dcheck1_ok, f_dcheck2_ok, trivial⟩
end Go.Proofs.YtdgjneondmmgdaaGreatDoor
namespace Go.Proofs.YtdgjneondmmgdaaGreatDoor
open Go.Fw
set_option maxRecDepth 100000
set_option linter.unusedVariables false
set_option linter.unusedSimpArgs false
/- no cap is not dry -/
noncomputable def dry_a  : V := (.cons (.agg (.cons (.int true .i64 0) (.cons (.int true .i64 0) .nil))) .nil)
noncomputable def dry_r  : V := (.bool true false)
def dry_p  : Prop := True
noncomputable def dry_q  : V := (.bool false false)

theorem dry_ask  : askK (dry_q ) (evFnS (envL P [] [] true) (gsOf []) 400 158 (dry_a )) Bx.mk = ⟨
    false = false ∧ True⟩ := by kernel_rfl
theorem dry_meets (h : dry_p ) : Meets P 158 (dry_a ) (dry_r ) :=
  Meets.res (v := dry_q ) (meets_ask (E := envL P [] [] true) (gs := gsOf []) envL_among (en_ok (l := []) trivial) 400 (Has.of hn Tryz.func158 rfl) (dry_ask ) (by
    trivial)) rfl
noncomputable def f_dry : Fam := { ps := [], fam := fun l => dry_a , pre := fun l => dry_p , res := fun l => dry_r  }
theorem f_dry_ok : f_dry.Ok P 158 := fun l h => dry_meets h
noncomputable def c_dry : Con := famCon 158 [f_dry]
theorem c_dry_ok : c_dry.Ok P := famCon_ok ⟨f_dry_ok, trivial⟩
/- the vCPU -/
noncomputable def vcpu_a (w : Int) : V := (.cons (.agg (.cons (domsV w) (.cons vcpusV .nil))) (.cons (.int true .i64 1) .nil))
noncomputable def vcpu_r (w : Int) : V := (.tup (.cons (.agg (.cons (.int true .i64 1) (.cons (.int true .i64 1) (.cons (.int true .u32 255) (.cons (.int true .u32 0) .nil))))) (.cons (.bool true true) .nil)))
def vcpu_p (w : Int) : Prop := pW w

theorem vcpu_ask (w : Int) : askK (vcpu_r w) (evFnS (envL P [c_dcheck] [] true) (gsOf [c_dcheck]) 400 148 (vcpu_a w)) Bx.mk = ⟨
    (w = w ∧ dcheck2_p w) ∧ True⟩ := by kernel_rfl
theorem vcpu_meets {w : Int} (h : vcpu_p w) : Meets P 148 (vcpu_a w) (vcpu_r w) :=
  meets_ask (E := envL P [c_dcheck] [] true) (gs := gsOf [c_dcheck]) envL_among (en_ok (l := [c_dcheck]) ⟨c_dcheck_ok, trivial⟩) 400 (Has.of hn Tryz.func148 rfl) (vcpu_ask w) (by
    have h0 := h
    simp only [vcpu_p, pT, pW, vcheck_p, may_p, weight_p, time_p, sleeps_p, vpass_p, dcheck0_p, dcheck1_p, dcheck2_p] at h0 ⊢
    clear h
    all_goals try simp only [beq_self_eq_true, bne_self_eq_false, cond_true, cond_false, Bool.not_true, Bool.not_false, true_and, and_true, implies_true, reduceCtorEq, false_implies, true_implies]
    all_goals (repeat' (first | apply And.intro | intro _))
    all_goals first
      | rfl
      | trivial
      | assumption
      | omega
      | (rename_i hh; simp at hh <;> omega)
      | (simp <;> omega))
noncomputable def f_vcpu : Fam := { ps := [[0, 0, 0, 1]], fam := fun l => vcpu_a (l.getD 0 0), pre := fun l => vcpu_p (l.getD 0 0), res := fun l => vcpu_r (l.getD 0 0) }
theorem f_vcpu_ok : f_vcpu.Ok P 148 := fun l h => vcpu_meets h
noncomputable def c_vcpu : Con := famCon 148 [f_vcpu]
theorem c_vcpu_ok : c_vcpu.Ok P := famCon_ok ⟨f_vcpu_ok, trivial⟩
def own4z (w : Int) : V := .rsl true 11 1 fun _ => (.cons (.int true .i64 1) (.cons (.int true .i64 1) (.cons (.int true .i64 0) (.cons (.int true .u32 0) (.cons (.int true .i64 0) (.cons (.int true .u64 0) (.cons (.int true .u64 0) (.cons (.int false .u64 w) (.cons (.int true .u64 2) (.cons (.int true .i64 1000000) (.cons (.int true .i64 0) .nil)))))))))))
def stZ (c : Nat) (w : Int) : V := (.cons (.int true .i64 0) (.cons (seatsV c) (.cons (setsV c) (.cons (domsV w) (.cons vcpusV (.cons .nilsl (.cons (own4z w) (.cons bucksV (.cons .nilsl (.cons (.int true .i64 0) (.cons .nilsl (.cons .nilsl (.cons putsV (.cons (.int true .u64 2) .nil))))))))))))))
/-- Tests at which one way alone is looked at. -/
def wayI : FuncId → Nat → Option Bool := fun f t => bif Nat.beq f 457 && Nat.beq t 40 then some false else none
noncomputable abbrev envW (l : List Con) : Env := { envL P l [] true with way := wayI }
theorem envW_ok {l : List Con} (h : AllOk P l) : (envW l).Ok :=
  have h0 : (envL P l [] true).Ok := en_ok h
  ⟨h0.mixed, h0.named, h0.sure, h0.where_, h0.fork, h0.lp⟩
theorem envW_among {l : List Con} : Among (envW l) (gsOf l) := fun g args h => among_look l g args h
end Go.Proofs.YtdgjneondmmgdaaGreatDoor
namespace Go.Proofs.YtdgjneondmmgdaaGreatDoor
open Go.Fw
set_option maxRecDepth 100000
set_option linter.unusedVariables false
set_option linter.unusedSimpArgs false
/- events that may be -/
noncomputable def code0_a (w : Int) : V := (.cons (.agg (.cons (.int true .i64 1) (.cons (.int true .i64 1) (.cons (.int true .i64 0) (.cons (.int true .i64 0) (.cons (.int true .i64 0) (.cons (.bool true false) (.cons .nilsl (.cons (.int true .i64 0) (.cons (.int true .i64 0) (.cons (.int true .i64 1) (.cons (.int false .i64 w) (.cons (.int true .i64 0) (.cons (.int true .i64 0) (.cons (.int true .u32 0) (.cons (.int true .u32 0) (.cons (.int true .i64 0) (.cons (.int true .i64 0) (.cons (.int true .i64 0) (.cons (.int true .i64 0) (.cons (.int true .i64 0) (.cons (.int true .i64 0) (.cons (.int true .i64 0) (.cons (.int true .i64 0) (.cons (.int true .i64 0) (.cons (.int true .u32 0) (.cons (.int true .u32 0) (.cons (.int true .u32 0) (.cons .nilsl (.cons (.int true .i64 0) .nil)))))))))))))))))))))))))))))) .nil)
noncomputable def code0_r (w : Int) : V := (.int true .i64 0)
def code0_p (w : Int) : Prop := pW w
noncomputable def code0_q (w : Int) : V := (.int false .i64 0)

theorem code0_ask (w : Int) : askK (code0_q w) (evFnS (envL P [] [] true) (gsOf []) 400 16 (code0_a w)) Bx.mk = ⟨
    ((bif Int.fdiv (IntKind.wrap IntKind.u64 w) ((2 : Int) ^ min ((16 : Nat)) (IntKind.bits IntKind.u64)) != (0 : Int) then true else false) = true → (360 : Int) = (0 : Int) ∧
    True) ∧ ((bif Int.fdiv (IntKind.wrap IntKind.u64 w) ((2 : Int) ^ min ((16 : Nat)) (IntKind.bits IntKind.u64)) != (0 : Int) then true else false) = false → ((bif !((1 : Int) ==
    (1 : Int) && (IntKind.wrap IntKind.i64 (IntKind.wrap IntKind.u64 (IntKind.wrap IntKind.u16 (IntKind.wrap IntKind.u64 (IntKind.wrap IntKind.u64 (IntKind.wrap IntKind.u64
    (Int.ofNat (0 : Nat) + IntKind.wrap IntKind.u64 (IntKind.wrap IntKind.u8 (Int.fdiv (IntKind.wrap IntKind.u64 w) ((2 : Int) ^ min ((8 : Nat)) (IntKind.bits IntKind.u64))))) *
    (256 : Int)) + IntKind.wrap IntKind.u64 (IntKind.wrap IntKind.u8 (Int.fdiv (IntKind.wrap IntKind.u64 w) ((2 : Int) ^ min (0 : Nat) (IntKind.bits IntKind.u64)))))))) == w &&
    (Int.ofNat (0 : Nat) == (0 : Int) && (Int.ofNat (0 : Nat) == (0 : Int) && true)))) then true else false) = true → (360 : Int) = (0 : Int) ∧ True) ∧ ((bif !((1 : Int) == (1 :
    Int) && (IntKind.wrap IntKind.i64 (IntKind.wrap IntKind.u64 (IntKind.wrap IntKind.u16 (IntKind.wrap IntKind.u64 (IntKind.wrap IntKind.u64 (IntKind.wrap IntKind.u64 (Int.ofNat
    (0 : Nat) + IntKind.wrap IntKind.u64 (IntKind.wrap IntKind.u8 (Int.fdiv (IntKind.wrap IntKind.u64 w) ((2 : Int) ^ min ((8 : Nat)) (IntKind.bits IntKind.u64))))) * (256 : Int))
    + IntKind.wrap IntKind.u64 (IntKind.wrap IntKind.u8 (Int.fdiv (IntKind.wrap IntKind.u64 w) ((2 : Int) ^ min (0 : Nat) (IntKind.bits IntKind.u64)))))))) == w && (Int.ofNat (0 :
    Nat) == (0 : Int) && (Int.ofNat (0 : Nat) == (0 : Int) && true)))) then true else false) = false → (0 : Int) = (0 : Int) ∧ True))⟩ := by kernel_rfl
theorem code0_meets {w : Int} (h : code0_p w) : Meets P 16 (code0_a w) (code0_r w) :=
  Meets.res (v := code0_q w) (meets_ask (E := envL P [] [] true) (gs := gsOf []) envL_among (en_ok (l := []) trivial) 400 (Has.of hn Tryz.func16 rfl) (code0_ask w) (by
    unfold code0_p pW at h
    have ex : IntKind.wrap IntKind.u64 w = w := wu64 (by omega)
    have q16 : Int.fdiv (IntKind.wrap IntKind.u64 w) ((2 : Int) ^ min (16 : Nat) (IntKind.bits IntKind.u64)) = 0 := by
      rw [ex, show ((2 : Int) ^ min (16 : Nat) (IntKind.bits IntKind.u64)) = 65536 by decide, Int.fdiv_eq_ediv_of_nonneg _ (by decide)] <;> omega
    have q8 : Int.fdiv (IntKind.wrap IntKind.u64 w) ((2 : Int) ^ min (8 : Nat) (IntKind.bits IntKind.u64)) = w / 256 := by
      rw [ex, show ((2 : Int) ^ min (8 : Nat) (IntKind.bits IntKind.u64)) = 256 by decide, Int.fdiv_eq_ediv_of_nonneg _ (by decide)] <;> omega
    have q0 : Int.fdiv (IntKind.wrap IntKind.u64 w) ((2 : Int) ^ min (0 : Nat) (IntKind.bits IntKind.u64)) = w := by
      rw [ex, show ((2 : Int) ^ min (0 : Nat) (IntKind.bits IntKind.u64)) = 1 by decide, Int.fdiv_eq_ediv_of_nonneg _ (by decide)] <;> omega
    have b8 : IntKind.wrap IntKind.u8 (w / 256) = w / 256 := by rw [IntKind.wrap_u8] <;> omega
    have b0 : IntKind.wrap IntKind.u8 (w) = w % 256 := by rw [IntKind.wrap_u8] <;> omega
    have e0 : Int.ofNat 0 = 0 := rfl
    have w16 : ∀ x : Int, 0 ≤ x ∧ x ≤ 65535 → IntKind.wrap IntKind.u16 x = x := fun x hx => IntWalk.u16_in x hx
    simp only [q16, q8, q0, b8, b0, e0]
    simp (disch := omega) only [wu64, wi64, w16]
    refine ⟨fun hh => by simp at hh, fun _ => ⟨fun hh => ?_, fun _ => ?_⟩⟩
    · exfalso; simp at hh; omega
    · simp)) rfl
noncomputable def f_code0 : Fam := { ps := [[0, 10]], fam := fun l => code0_a (l.getD 0 0), pre := fun l => code0_p (l.getD 0 0), res := fun l => code0_r (l.getD 0 0) }
theorem f_code0_ok : f_code0.Ok P 16 := fun l h => code0_meets h
/- events that may be -/
noncomputable def code1_a  : V := (.cons (.agg (.cons (.int true .i64 1) (.cons (.int true .i64 3) (.cons (.int true .i64 0) (.cons (.int true .i64 0) (.cons (.int true .i64 0) (.cons (.bool true false) (.cons .nilsl (.cons (.int true .i64 0) (.cons (.int true .i64 0) (.cons (.int true .i64 1) (.cons (.int true .i64 0) (.cons (.int true .i64 0) (.cons (.int true .i64 0) (.cons (.int true .u32 255) (.cons (.int true .u32 0) (.cons (.int true .i64 0) (.cons (.int true .i64 0) (.cons (.int true .i64 0) (.cons (.int true .i64 0) (.cons (.int true .i64 0) (.cons (.int true .i64 0) (.cons (.int true .i64 0) (.cons (.int true .i64 0) (.cons (.int true .i64 0) (.cons (.int true .u32 0) (.cons (.int true .u32 0) (.cons (.int true .u32 0) (.cons .nilsl (.cons (.int true .i64 0) .nil)))))))))))))))))))))))))))))) .nil)
noncomputable def code1_r  : V := (.int true .i64 0)
def code1_p  : Prop := True
noncomputable def code1_q  : V := (.int false .i64 0)

theorem code1_ask  : askK (code1_q ) (evFnS (envL P [] [] true) (gsOf []) 400 16 (code1_a )) Bx.mk = ⟨
    (0 : Int) = (0 : Int) ∧ True⟩ := by kernel_rfl
theorem code1_meets (h : code1_p ) : Meets P 16 (code1_a ) (code1_r ) :=
  Meets.res (v := code1_q ) (meets_ask (E := envL P [] [] true) (gs := gsOf []) envL_among (en_ok (l := []) trivial) 400 (Has.of hn Tryz.func16 rfl) (code1_ask ) (by
    trivial)) rfl
noncomputable def f_code1 : Fam := { ps := [], fam := fun l => code1_a , pre := fun l => code1_p , res := fun l => code1_r  }
theorem f_code1_ok : f_code1.Ok P 16 := fun l h => code1_meets h
/- events that may be -/
noncomputable def code2_a  : V := (.cons (.agg (.cons (.int true .i64 1) (.cons (.int true .i64 5) (.cons (.int true .i64 1) (.cons (.int true .i64 0) (.cons (.int true .i64 0) (.cons (.bool true false) (.cons .nilsl (.cons (.int true .i64 0) (.cons (.int true .i64 0) (.cons (.int true .i64 0) (.cons (.int true .i64 0) (.cons (.int true .i64 0) (.cons (.int true .i64 0) (.cons (.int true .u32 0) (.cons (.int true .u32 0) (.cons (.int true .i64 0) (.cons (.int true .i64 0) (.cons (.int true .i64 0) (.cons (.int true .i64 0) (.cons (.int true .i64 0) (.cons (.int true .i64 0) (.cons (.int true .i64 0) (.cons (.int true .i64 0) (.cons (.int true .i64 0) (.cons (.int true .u32 0) (.cons (.int true .u32 0) (.cons (.int true .u32 0) (.cons .nilsl (.cons (.int true .i64 0) .nil)))))))))))))))))))))))))))))) .nil)
noncomputable def code2_r  : V := (.int true .i64 0)
def code2_p  : Prop := True
noncomputable def code2_q  : V := (.int false .i64 0)

theorem code2_ask  : askK (code2_q ) (evFnS (envL P [] [] true) (gsOf []) 400 16 (code2_a )) Bx.mk = ⟨
    (0 : Int) = (0 : Int) ∧ True⟩ := by kernel_rfl
theorem code2_meets (h : code2_p ) : Meets P 16 (code2_a ) (code2_r ) :=
  Meets.res (v := code2_q ) (meets_ask (E := envL P [] [] true) (gs := gsOf []) envL_among (en_ok (l := []) trivial) 400 (Has.of hn Tryz.func16 rfl) (code2_ask ) (by
    trivial)) rfl
noncomputable def f_code2 : Fam := { ps := [], fam := fun l => code2_a , pre := fun l => code2_p , res := fun l => code2_r  }
theorem f_code2_ok : f_code2.Ok P 16 := fun l h => code2_meets h
/- events that may be -/
noncomputable def code4_a (d : Int) : V := (.cons (.agg (.cons (.int true .i64 3) (.cons (.int true .i64 0) (.cons (.int true .i64 0) (.cons (.int true .i64 0) (.cons (.int true .i64 0) (.cons (.bool true false) (.cons .nilsl (.cons (.int true .i64 0) (.cons (.int true .i64 0) (.cons (.int true .i64 0) (.cons (.int true .i64 0) (.cons (.int true .i64 0) (.cons (.int true .i64 0) (.cons (.int true .u32 0) (.cons (.int true .u32 0) (.cons (.int true .i64 0) (.cons (.int true .i64 0) (.cons (.int true .i64 0) (.cons (.int true .i64 0) (.cons (.int true .i64 0) (.cons (.int true .i64 0) (.cons (.int true .i64 0) (.cons (.int true .i64 0) (.cons (.int true .i64 0) (.cons (.int true .u32 0) (.cons (.int true .u32 0) (.cons (.int true .u32 0) (.cons .nilsl (.cons (.int false .i64 d) .nil)))))))))))))))))))))))))))))) .nil)
noncomputable def code4_r (d : Int) : V := (.int true .i64 0)
def code4_p (d : Int) : Prop := 1 ≤ d ∧ d ≤ 10000000
noncomputable def code4_q (d : Int) : V := (.int false .i64 0)

theorem code4_ask (d : Int) : askK (code4_q d) (evFnS (envL P [] [] true) (gsOf []) 400 16 (code4_a d)) Bx.mk = ⟨
    ((bif !IntKind.wrap IntKind.i64 (IntKind.wrap IntKind.u64 (IntKind.wrap IntKind.u64 (IntKind.wrap IntKind.u64 (IntKind.wrap IntKind.u64 (IntKind.wrap IntKind.u64 (IntKind.wrap
    IntKind.u64 (IntKind.wrap IntKind.u64 (IntKind.wrap IntKind.u64 (IntKind.wrap IntKind.u64 (IntKind.wrap IntKind.u64 (IntKind.wrap IntKind.u64 (IntKind.wrap IntKind.u64
    (IntKind.wrap IntKind.u64 (IntKind.wrap IntKind.u64 (IntKind.wrap IntKind.u64 (Int.ofNat (0 : Nat) + IntKind.wrap IntKind.u64 (IntKind.wrap IntKind.u8 (Int.fdiv (IntKind.wrap
    IntKind.u64 d) ((2 : Int) ^ min ((56 : Nat)) (IntKind.bits IntKind.u64))))) * (256 : Int)) + IntKind.wrap IntKind.u64 (IntKind.wrap IntKind.u8 (Int.fdiv (IntKind.wrap
    IntKind.u64 d) ((2 : Int) ^ min ((48 : Nat)) (IntKind.bits IntKind.u64))))) * (256 : Int)) + IntKind.wrap IntKind.u64 (IntKind.wrap IntKind.u8 (Int.fdiv (IntKind.wrap
    IntKind.u64 d) ((2 : Int) ^ min ((40 : Nat)) (IntKind.bits IntKind.u64))))) * (256 : Int)) + IntKind.wrap IntKind.u64 (IntKind.wrap IntKind.u8 (Int.fdiv (IntKind.wrap
    IntKind.u64 d) ((2 : Int) ^ min ((32 : Nat)) (IntKind.bits IntKind.u64))))) * (256 : Int)) + IntKind.wrap IntKind.u64 (IntKind.wrap IntKind.u8 (Int.fdiv (IntKind.wrap
    IntKind.u64 d) ((2 : Int) ^ min ((24 : Nat)) (IntKind.bits IntKind.u64))))) * (256 : Int)) + IntKind.wrap IntKind.u64 (IntKind.wrap IntKind.u8 (Int.fdiv (IntKind.wrap
    IntKind.u64 d) ((2 : Int) ^ min ((16 : Nat)) (IntKind.bits IntKind.u64))))) * (256 : Int)) + IntKind.wrap IntKind.u64 (IntKind.wrap IntKind.u8 (Int.fdiv (IntKind.wrap
    IntKind.u64 d) ((2 : Int) ^ min ((8 : Nat)) (IntKind.bits IntKind.u64))))) * (256 : Int)) + IntKind.wrap IntKind.u64 (IntKind.wrap IntKind.u8 (Int.fdiv (IntKind.wrap
    IntKind.u64 d) ((2 : Int) ^ min (0 : Nat) (IntKind.bits IntKind.u64)))))) == d then true else false) = true → (360 : Int) = (0 : Int) ∧ True) ∧ ((bif !IntKind.wrap IntKind.i64
    (IntKind.wrap IntKind.u64 (IntKind.wrap IntKind.u64 (IntKind.wrap IntKind.u64 (IntKind.wrap IntKind.u64 (IntKind.wrap IntKind.u64 (IntKind.wrap IntKind.u64 (IntKind.wrap
    IntKind.u64 (IntKind.wrap IntKind.u64 (IntKind.wrap IntKind.u64 (IntKind.wrap IntKind.u64 (IntKind.wrap IntKind.u64 (IntKind.wrap IntKind.u64 (IntKind.wrap IntKind.u64
    (IntKind.wrap IntKind.u64 (IntKind.wrap IntKind.u64 (Int.ofNat (0 : Nat) + IntKind.wrap IntKind.u64 (IntKind.wrap IntKind.u8 (Int.fdiv (IntKind.wrap IntKind.u64 d) ((2 : Int) ^
    min ((56 : Nat)) (IntKind.bits IntKind.u64))))) * (256 : Int)) + IntKind.wrap IntKind.u64 (IntKind.wrap IntKind.u8 (Int.fdiv (IntKind.wrap IntKind.u64 d) ((2 : Int) ^ min ((48
    : Nat)) (IntKind.bits IntKind.u64))))) * (256 : Int)) + IntKind.wrap IntKind.u64 (IntKind.wrap IntKind.u8 (Int.fdiv (IntKind.wrap IntKind.u64 d) ((2 : Int) ^ min ((40 : Nat))
    (IntKind.bits IntKind.u64))))) * (256 : Int)) + IntKind.wrap IntKind.u64 (IntKind.wrap IntKind.u8 (Int.fdiv (IntKind.wrap IntKind.u64 d) ((2 : Int) ^ min ((32 : Nat))
    (IntKind.bits IntKind.u64))))) * (256 : Int)) + IntKind.wrap IntKind.u64 (IntKind.wrap IntKind.u8 (Int.fdiv (IntKind.wrap IntKind.u64 d) ((2 : Int) ^ min ((24 : Nat))
    (IntKind.bits IntKind.u64))))) * (256 : Int)) + IntKind.wrap IntKind.u64 (IntKind.wrap IntKind.u8 (Int.fdiv (IntKind.wrap IntKind.u64 d) ((2 : Int) ^ min ((16 : Nat))
    (IntKind.bits IntKind.u64))))) * (256 : Int)) + IntKind.wrap IntKind.u64 (IntKind.wrap IntKind.u8 (Int.fdiv (IntKind.wrap IntKind.u64 d) ((2 : Int) ^ min ((8 : Nat))
    (IntKind.bits IntKind.u64))))) * (256 : Int)) + IntKind.wrap IntKind.u64 (IntKind.wrap IntKind.u8 (Int.fdiv (IntKind.wrap IntKind.u64 d) ((2 : Int) ^ min (0 : Nat)
    (IntKind.bits IntKind.u64)))))) == d then true else false) = false → (0 : Int) = (0 : Int) ∧ True)⟩ := by kernel_rfl
theorem code4_meets {d : Int} (h : code4_p d) : Meets P 16 (code4_a d) (code4_r d) :=
  Meets.res (v := code4_q d) (meets_ask (E := envL P [] [] true) (gs := gsOf []) envL_among (en_ok (l := []) trivial) 400 (Has.of hn Tryz.func16 rfl) (code4_ask d) (by
    unfold code4_p at h
    have ex : IntKind.wrap IntKind.u64 d = d := wu64 (by omega)
    have q56 : Int.fdiv (IntKind.wrap IntKind.u64 d) ((2 : Int) ^ min (56 : Nat) (IntKind.bits IntKind.u64)) = 0 := by
      rw [ex, show ((2 : Int) ^ min (56 : Nat) (IntKind.bits IntKind.u64)) = 72057594037927936 by decide, Int.fdiv_eq_ediv_of_nonneg _ (by decide)] <;> omega
    have q48 : Int.fdiv (IntKind.wrap IntKind.u64 d) ((2 : Int) ^ min (48 : Nat) (IntKind.bits IntKind.u64)) = 0 := by
      rw [ex, show ((2 : Int) ^ min (48 : Nat) (IntKind.bits IntKind.u64)) = 281474976710656 by decide, Int.fdiv_eq_ediv_of_nonneg _ (by decide)] <;> omega
    have q40 : Int.fdiv (IntKind.wrap IntKind.u64 d) ((2 : Int) ^ min (40 : Nat) (IntKind.bits IntKind.u64)) = 0 := by
      rw [ex, show ((2 : Int) ^ min (40 : Nat) (IntKind.bits IntKind.u64)) = 1099511627776 by decide, Int.fdiv_eq_ediv_of_nonneg _ (by decide)] <;> omega
    have q32 : Int.fdiv (IntKind.wrap IntKind.u64 d) ((2 : Int) ^ min (32 : Nat) (IntKind.bits IntKind.u64)) = 0 := by
      rw [ex, show ((2 : Int) ^ min (32 : Nat) (IntKind.bits IntKind.u64)) = 4294967296 by decide, Int.fdiv_eq_ediv_of_nonneg _ (by decide)] <;> omega
    have q24 : Int.fdiv (IntKind.wrap IntKind.u64 d) ((2 : Int) ^ min (24 : Nat) (IntKind.bits IntKind.u64)) = 0 := by
      rw [ex, show ((2 : Int) ^ min (24 : Nat) (IntKind.bits IntKind.u64)) = 16777216 by decide, Int.fdiv_eq_ediv_of_nonneg _ (by decide)] <;> omega
    have q16 : Int.fdiv (IntKind.wrap IntKind.u64 d) ((2 : Int) ^ min (16 : Nat) (IntKind.bits IntKind.u64)) = d / 65536 := by
      rw [ex, show ((2 : Int) ^ min (16 : Nat) (IntKind.bits IntKind.u64)) = 65536 by decide, Int.fdiv_eq_ediv_of_nonneg _ (by decide)] <;> omega
    have q8 : Int.fdiv (IntKind.wrap IntKind.u64 d) ((2 : Int) ^ min (8 : Nat) (IntKind.bits IntKind.u64)) = d / 256 := by
      rw [ex, show ((2 : Int) ^ min (8 : Nat) (IntKind.bits IntKind.u64)) = 256 by decide, Int.fdiv_eq_ediv_of_nonneg _ (by decide)] <;> omega
    have q0 : Int.fdiv (IntKind.wrap IntKind.u64 d) ((2 : Int) ^ min (0 : Nat) (IntKind.bits IntKind.u64)) = d := by
      rw [ex, show ((2 : Int) ^ min (0 : Nat) (IntKind.bits IntKind.u64)) = 1 by decide, Int.fdiv_eq_ediv_of_nonneg _ (by decide)] <;> omega
    have b16 : IntKind.wrap IntKind.u8 (d / 65536) = d / 65536 := by rw [IntKind.wrap_u8] <;> omega
    have b8 : IntKind.wrap IntKind.u8 (d / 256) = d / 256 % 256 := by rw [IntKind.wrap_u8] <;> omega
    have b0 : IntKind.wrap IntKind.u8 (d) = d % 256 := by rw [IntKind.wrap_u8] <;> omega
    have bz : IntKind.wrap IntKind.u8 (0) = 0 := by rw [IntKind.wrap_u8] <;> omega
    have e0 : Int.ofNat 0 = 0 := rfl
    simp only [q56, q48, q40, q32, q24, q16, q8, q0, b16, b8, b0, bz, e0]
    simp (disch := omega) only [wu64, wi64]
    refine ⟨fun hh => ?_, fun _ => ?_⟩
    · exfalso; simp at hh; omega
    · simp)) rfl
noncomputable def f_code4 : Fam := { ps := [[0, 28]], fam := fun l => code4_a (l.getD 0 0), pre := fun l => code4_p (l.getD 0 0), res := fun l => code4_r (l.getD 0 0) }
theorem f_code4_ok : f_code4.Ok P 16 := fun l h => code4_meets h
noncomputable def c_code : Con := famCon 16 [f_code0, f_code1, f_code2, f_code4]
theorem c_code_ok : c_code.Ok P := famCon_ok ⟨f_code0_ok, f_code1_ok, f_code2_ok, f_code4_ok, trivial⟩
end Go.Proofs.YtdgjneondmmgdaaGreatDoor
namespace Go.Proofs.YtdgjneondmmgdaaGreatDoor
open Go.Fw
set_option maxRecDepth 100000
set_option linter.unusedVariables false
set_option linter.unusedSimpArgs false
/- traces go on -/
noncomputable def tr0_a  : V := (.cons (.agg (.cons frame0 (.cons (.int true .i64 0) .nil))) (.cons (.int true .i64 0) (.cons .nilsl .nil)))
noncomputable def tr0_r  : V := (.tup (.cons (.agg (.cons frame0 (.cons (.int true .i64 0) .nil))) (.cons (.int true .i64 0) .nil)))
def tr0_p  : Prop := True

theorem tr0_ask  : askK (tr0_r ) (evFnS (envL P [c_time] [] true) (gsOf [c_time]) 400 15 (tr0_a )) Bx.mk = ⟨
    (((0 : Int) = (0 : Int) ∧ time_p (0 : Int)) ∧ ((0 : Int) = (0 : Int) ∧ time_p (0 : Int)) ∧ (0 : Int) = (0 : Int) ∧ time_p (0 : Int)) ∧ True⟩ := by kernel_rfl
theorem tr0_meets (h : tr0_p ) : Meets P 15 (tr0_a ) (tr0_r ) :=
  meets_ask (E := envL P [c_time] [] true) (gs := gsOf [c_time]) envL_among (en_ok (l := [c_time]) ⟨c_time_ok, trivial⟩) 400 (Has.of hn Tryz.func15 rfl) (tr0_ask ) (by
    have h0 := h
    simp only [tr0_p, pT, pW, vcheck_p, may_p, weight_p, time_p] at h0 ⊢
    clear h
    all_goals try simp only [beq_self_eq_true, bne_self_eq_false, cond_true, cond_false, Bool.not_true, Bool.not_false, true_and, and_true, implies_true, reduceCtorEq, false_implies, true_implies]
    all_goals (repeat' (first | apply And.intro | intro _))
    all_goals first
      | rfl
      | trivial
      | assumption
      | omega
      | (rename_i hh; simp at hh <;> omega)
      | (simp <;> omega))
noncomputable def f_tr0 : Fam := { ps := [], fam := fun l => tr0_a , pre := fun l => tr0_p , res := fun l => tr0_r  }
theorem f_tr0_ok : f_tr0.Ok P 15 := fun l h => tr0_meets h
/- traces go on -/
noncomputable def tr3_a  : V := (.cons (.agg (.cons frame0 (.cons (.int true .i64 0) .nil))) (.cons (.int true .i64 0) (.cons putsV .nil)))
noncomputable def tr3_r  : V := (.tup (.cons (.agg (.cons frame4 (.cons (.int true .i64 0) .nil))) (.cons (.int true .i64 0) .nil)))
def tr3_p  : Prop := True

theorem tr3_ask  : askK (tr3_r ) (evFnS (envL P [c_time] [] true) (gsOf [c_time]) 400 15 (tr3_a )) Bx.mk = ⟨
    (((0 : Int) = (0 : Int) ∧ time_p (0 : Int)) ∧ ((0 : Int) = (0 : Int) ∧ time_p (0 : Int)) ∧ (0 : Int) = (0 : Int) ∧ time_p (0 : Int)) ∧ True⟩ := by kernel_rfl
theorem tr3_meets (h : tr3_p ) : Meets P 15 (tr3_a ) (tr3_r ) :=
  meets_ask (E := envL P [c_time] [] true) (gs := gsOf [c_time]) envL_among (en_ok (l := [c_time]) ⟨c_time_ok, trivial⟩) 400 (Has.of hn Tryz.func15 rfl) (tr3_ask ) (by
    have h0 := h
    simp only [tr3_p, pT, pW, vcheck_p, may_p, weight_p, time_p] at h0 ⊢
    clear h
    all_goals try simp only [beq_self_eq_true, bne_self_eq_false, cond_true, cond_false, Bool.not_true, Bool.not_false, true_and, and_true, implies_true, reduceCtorEq, false_implies, true_implies]
    all_goals (repeat' (first | apply And.intro | intro _))
    all_goals first
      | rfl
      | trivial
      | assumption
      | omega
      | (rename_i hh; simp at hh <;> omega)
      | (simp <;> omega))
noncomputable def f_tr3 : Fam := { ps := [], fam := fun l => tr3_a , pre := fun l => tr3_p , res := fun l => tr3_r  }
theorem f_tr3_ok : f_tr3.Ok P 15 := fun l h => tr3_meets h
/- traces go on -/
noncomputable def tr4_a (t n : Int) : V := (.cons (.agg (.cons frame4 (.cons (.int false .i64 t) .nil))) (.cons (.int false .i64 n) (.cons putsV .nil)))
noncomputable def tr4_r (t n : Int) : V := (.tup (.cons (.agg (.cons frame4 (.cons (.int false .i64 n) .nil))) (.cons (.int true .i64 0) .nil)))
def tr4_p (t n : Int) : Prop := pT t ∧ pT n ∧ t < n

theorem tr4_ask (t n : Int) : askK (tr4_r t n) (evFnS (envL P [c_time] [] true) (gsOf [c_time]) 400 15 (tr4_a t n)) Bx.mk = ⟨
    ((t = t ∧ time_p t) ∧ ((0 : Int) = (0 : Int) ∧ time_p (0 : Int)) ∧ ((bif bif bif decide ((0 : Int) > t) then true else false then true else false then true else false) = false
    → n = n ∧ time_p n)) ∧ ((bif bif bif bif decide ((0 : Int) > t) then true else false then true else false then true else false then true else bif bif decide (n < t) then true
    else false then true else false) = true → False) ∧ ((bif bif bif bif decide ((0 : Int) > t) then true else false then true else false then true else false then true else bif
    bif decide (n < t) then true else false then true else false) = false → (((0 : Int) == n) = true → False) ∧ (((0 : Int) == n) = false → n = n ∧ True))⟩ := by kernel_rfl
theorem tr4_meets {t n : Int} (h : tr4_p t n) : Meets P 15 (tr4_a t n) (tr4_r t n) :=
  meets_ask (E := envL P [c_time] [] true) (gs := gsOf [c_time]) envL_among (en_ok (l := [c_time]) ⟨c_time_ok, trivial⟩) 400 (Has.of hn Tryz.func15 rfl) (tr4_ask t n) (by
    have h0 := h
    simp only [tr4_p, pT, pW, vcheck_p, may_p, weight_p, time_p] at h0 ⊢
    clear h
    all_goals try simp only [beq_self_eq_true, bne_self_eq_false, cond_true, cond_false, Bool.not_true, Bool.not_false, true_and, and_true, implies_true, reduceCtorEq, false_implies, true_implies]
    all_goals (repeat' (first | apply And.intro | intro _))
    all_goals first
      | rfl
      | trivial
      | assumption
      | omega
      | (rename_i hh; simp at hh <;> omega)
      | (simp <;> omega))
noncomputable def f_tr4 : Fam := { ps := [[0, 1], [1]], fam := fun l => tr4_a (l.getD 0 0) (l.getD 1 0), pre := fun l => tr4_p (l.getD 0 0) (l.getD 1 0), res := fun l => tr4_r (l.getD 0 0) (l.getD 1 0) }
theorem f_tr4_ok : f_tr4.Ok P 15 := fun l h => tr4_meets h
noncomputable def c_tr : Con := famCon 15 [f_tr0, f_tr3, f_tr4]
theorem c_tr_ok : c_tr.Ok P := famCon_ok ⟨f_tr0_ok, f_tr3_ok, f_tr4_ok, trivial⟩
end Go.Proofs.YtdgjneondmmgdaaGreatDoor
