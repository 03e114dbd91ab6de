/- What is told of states, calls, picks, steps, events: at every number of pCPUs. -/
import Derived.Test.YtdgjneondmmgdaaGreatDoorJb
import Derived.Test.YtdgjneondmmgdaaGreatDoorJa
set_option linter.unusedSimpArgs false
set_option linter.unusedVariables false
namespace Go.Proofs.YtdgjneondmmgdaaGreatDoor
open Go.Fw
set_option maxRecDepth 100000
set_option linter.unusedVariables false
set_option linter.unusedSimpArgs false
noncomputable def chk0_a (c : Nat)  : V := (.cons (.agg (stC0 c)) .nil)
noncomputable def chk0_r (c : Nat)  : V := (.int true .i64 0)
def chk0_p  : Prop := True
def chk0_q  : Prop :=
    ((dcheck0_p ∧ (0 : Int) = (0 : Int) ∧ vcheck_p (0 : Int)) ∧ ((0 : Int) = (0 : Int) ∧ (1 : Int) = (1 : Int) ∧ sleeps_p (0 : Int) (1 : Int)) ∧ ((0 : Int) = (0 : Int) ∧ (2 : Int)
    = (2 : Int) ∧ sleeps_p (0 : Int) ((2 : Int))) ∧ ((0 : Int) = (0 : Int) ∧ (3 : Int) = (3 : Int) ∧ sleeps_p (0 : Int) ((3 : Int))) ∧ ((0 : Int) = (0 : Int) ∧ (4 : Int) = (4 :
    Int) ∧ sleeps_p (0 : Int) ((4 : Int))) ∧ ((0 : Int) = (0 : Int) ∧ (5 : Int) = (5 : Int) ∧ sleeps_p (0 : Int) ((5 : Int))) ∧ ((0 : Int) = (0 : Int) ∧ (6 : Int) = (6 : Int) ∧
    sleeps_p (0 : Int) ((6 : Int))) ∧ ((0 : Int) = (0 : Int) ∧ (7 : Int) = (7 : Int) ∧ sleeps_p (0 : Int) ((7 : Int))) ∧ ((0 : Int) = (0 : Int) ∧ (8 : Int) = (8 : Int) ∧ sleeps_p
    (0 : Int) ((8 : Int))) ∧ ((0 : Int) = (0 : Int) ∧ (9 : Int) = (9 : Int) ∧ sleeps_p (0 : Int) ((9 : Int))) ∧ ((0 : Int) = (0 : Int) ∧ (10 : Int) = (10 : Int) ∧ sleeps_p (0 :
    Int) ((10 : Int))) ∧ ((0 : Int) = (0 : Int) ∧ (11 : Int) = (11 : Int) ∧ sleeps_p (0 : Int) ((11 : Int))) ∧ ((0 : Int) = (0 : Int) ∧ (12 : Int) = (12 : Int) ∧ sleeps_p (0 : Int)
    ((12 : Int))) ∧ ((0 : Int) = (0 : Int) ∧ (13 : Int) = (13 : Int) ∧ sleeps_p (0 : Int) ((13 : Int))) ∧ ((0 : Int) = (0 : Int) ∧ (14 : Int) = (14 : Int) ∧ sleeps_p (0 : Int) ((14
    : Int))) ∧ ((0 : Int) = (0 : Int) ∧ (15 : Int) = (15 : Int) ∧ sleeps_p (0 : Int) ((15 : Int))) ∧ (0 : Int) = (0 : Int) ∧ (16 : Int) = (16 : Int) ∧ sleeps_p (0 : Int) ((16 :
    Int))) ∧ True
theorem chk0_ok (h : chk0_p) : chk0_q := by
  have h0 := h
  simp only [chk0_p, chk0_q, pT, pW, vcheck_p, may_p, weight_p, time_p, sleeps_p, vpass_p, dcheck0_p, dcheck1_p, dcheck2_p] at h0 ⊢
  clear h
  all_goals try simp only [beq_self_eq_true, bne_self_eq_false, cond_true, cond_false, Bool.not_true, Bool.not_false, true_and, and_true, implies_true, reduceCtorEq, false_implies, true_implies]
  all_goals (repeat' (first | apply And.intro | intro _))
  all_goals first
    | rfl
    | trivial
    | assumption
    | omega
    | (rename_i hh; simp at hh <;> omega)
    | (simp <;> omega)
noncomputable def f_chk0 (c : Nat) : Fam := { ps := [], fam := fun l => chk0_a c , pre := fun l => chk0_p , res := fun l => chk0_r c  }
noncomputable def chk1_a (c : Nat) (w : Int) : V := (.cons (.agg (stC1 c w)) .nil)
noncomputable def chk1_r (c : Nat) (w : Int) : V := (.int true .i64 0)
def chk1_p (w : Int) : Prop := pW w
def chk1_q (w : Int) : Prop :=
    (((w = w ∧ dcheck1_p w) ∧ (0 : Int) = (0 : Int) ∧ vcheck_p (0 : Int)) ∧ ((0 : Int) = (0 : Int) ∧ (1 : Int) = (1 : Int) ∧ sleeps_p (0 : Int) (1 : Int)) ∧ ((0 : Int) = (0 : Int)
    ∧ (2 : Int) = (2 : Int) ∧ sleeps_p (0 : Int) ((2 : Int))) ∧ ((0 : Int) = (0 : Int) ∧ (3 : Int) = (3 : Int) ∧ sleeps_p (0 : Int) ((3 : Int))) ∧ ((0 : Int) = (0 : Int) ∧ (4 :
    Int) = (4 : Int) ∧ sleeps_p (0 : Int) ((4 : Int))) ∧ ((0 : Int) = (0 : Int) ∧ (5 : Int) = (5 : Int) ∧ sleeps_p (0 : Int) ((5 : Int))) ∧ ((0 : Int) = (0 : Int) ∧ (6 : Int) = (6
    : Int) ∧ sleeps_p (0 : Int) ((6 : Int))) ∧ ((0 : Int) = (0 : Int) ∧ (7 : Int) = (7 : Int) ∧ sleeps_p (0 : Int) ((7 : Int))) ∧ ((0 : Int) = (0 : Int) ∧ (8 : Int) = (8 : Int) ∧
    sleeps_p (0 : Int) ((8 : Int))) ∧ ((0 : Int) = (0 : Int) ∧ (9 : Int) = (9 : Int) ∧ sleeps_p (0 : Int) ((9 : Int))) ∧ ((0 : Int) = (0 : Int) ∧ (10 : Int) = (10 : Int) ∧ sleeps_p
    (0 : Int) ((10 : Int))) ∧ ((0 : Int) = (0 : Int) ∧ (11 : Int) = (11 : Int) ∧ sleeps_p (0 : Int) ((11 : Int))) ∧ ((0 : Int) = (0 : Int) ∧ (12 : Int) = (12 : Int) ∧ sleeps_p (0 :
    Int) ((12 : Int))) ∧ ((0 : Int) = (0 : Int) ∧ (13 : Int) = (13 : Int) ∧ sleeps_p (0 : Int) ((13 : Int))) ∧ ((0 : Int) = (0 : Int) ∧ (14 : Int) = (14 : Int) ∧ sleeps_p (0 : Int)
    ((14 : Int))) ∧ ((0 : Int) = (0 : Int) ∧ (15 : Int) = (15 : Int) ∧ sleeps_p (0 : Int) ((15 : Int))) ∧ (0 : Int) = (0 : Int) ∧ (16 : Int) = (16 : Int) ∧ sleeps_p (0 : Int) ((16
    : Int))) ∧ True
theorem chk1_ok {w : Int} (h : chk1_p w) : chk1_q w := by
  have h0 := h
  simp only [chk1_p, chk1_q, pT, pW, vcheck_p, may_p, weight_p, time_p, sleeps_p, vpass_p, dcheck0_p, dcheck1_p, dcheck2_p] at h0 ⊢
  clear h
  all_goals try simp only [beq_self_eq_true, bne_self_eq_false, cond_true, cond_false, Bool.not_true, Bool.not_false, true_and, and_true, implies_true, reduceCtorEq, false_implies, true_implies]
  all_goals (repeat' (first | apply And.intro | intro _))
  all_goals first
    | rfl
    | trivial
    | assumption
    | omega
    | (rename_i hh; simp at hh <;> omega)
    | (simp <;> omega)
noncomputable def f_chk1 (c : Nat) : Fam := { ps := [[0, 3, 0, 1]], fam := fun l => chk1_a c (l.getD 0 0), pre := fun l => chk1_p (l.getD 0 0), res := fun l => chk1_r c (l.getD 0 0) }
noncomputable def chk2_a (c : Nat) (w : Int) : V := (.cons (.agg (stC2 c w)) .nil)
noncomputable def chk2_r (c : Nat) (w : Int) : V := (.int true .i64 0)
def chk2_p (w : Int) : Prop := pW w
def chk2_q (w : Int) : Prop :=
    (((w = w ∧ dcheck2_p w) ∧ (0 : Int) = (0 : Int) ∧ vcheck_p (0 : Int)) ∧ (w = w ∧ dcheck2_p w) ∧ (w = w ∧ weight_p w) ∧ ((bif bif bif w == IntKind.wrap IntKind.u64 w then false
    else true then true else false then true else false) = false → ((0 : Int) = (0 : Int) ∧ (1 : Int) = (1 : Int) ∧ sleeps_p (0 : Int) (1 : Int)) ∧ ((0 : Int) = (0 : Int) ∧ (2 :
    Int) = (2 : Int) ∧ sleeps_p (0 : Int) ((2 : Int))) ∧ ((0 : Int) = (0 : Int) ∧ (3 : Int) = (3 : Int) ∧ sleeps_p (0 : Int) ((3 : Int))) ∧ ((0 : Int) = (0 : Int) ∧ (4 : Int) = (4
    : Int) ∧ sleeps_p (0 : Int) ((4 : Int))) ∧ ((0 : Int) = (0 : Int) ∧ (5 : Int) = (5 : Int) ∧ sleeps_p (0 : Int) ((5 : Int))) ∧ ((0 : Int) = (0 : Int) ∧ (6 : Int) = (6 : Int) ∧
    sleeps_p (0 : Int) ((6 : Int))) ∧ ((0 : Int) = (0 : Int) ∧ (7 : Int) = (7 : Int) ∧ sleeps_p (0 : Int) ((7 : Int))) ∧ ((0 : Int) = (0 : Int) ∧ (8 : Int) = (8 : Int) ∧ sleeps_p
    (0 : Int) ((8 : Int))) ∧ ((0 : Int) = (0 : Int) ∧ (9 : Int) = (9 : Int) ∧ sleeps_p (0 : Int) ((9 : Int))) ∧ ((0 : Int) = (0 : Int) ∧ (10 : Int) = (10 : Int) ∧ sleeps_p (0 :
    Int) ((10 : Int))) ∧ ((0 : Int) = (0 : Int) ∧ (11 : Int) = (11 : Int) ∧ sleeps_p (0 : Int) ((11 : Int))) ∧ ((0 : Int) = (0 : Int) ∧ (12 : Int) = (12 : Int) ∧ sleeps_p (0 : Int)
    ((12 : Int))) ∧ ((0 : Int) = (0 : Int) ∧ (13 : Int) = (13 : Int) ∧ sleeps_p (0 : Int) ((13 : Int))) ∧ ((0 : Int) = (0 : Int) ∧ (14 : Int) = (14 : Int) ∧ sleeps_p (0 : Int) ((14
    : Int))) ∧ ((0 : Int) = (0 : Int) ∧ (15 : Int) = (15 : Int) ∧ sleeps_p (0 : Int) ((15 : Int))) ∧ (0 : Int) = (0 : Int) ∧ (16 : Int) = (16 : Int) ∧ sleeps_p (0 : Int) ((16 :
    Int)))) ∧ ((bif bif bif bif w == IntKind.wrap IntKind.u64 w then false else true then true else false then true else false then true else false) = true → False) ∧ ((bif bif bif
    bif w == IntKind.wrap IntKind.u64 w then false else true then true else false then true else false then true else false) = false → True)
theorem chk2_ok {w : Int} (h : chk2_p w) : chk2_q w := by
  have h0 := h
  simp only [chk2_p, chk2_q, pT, pW, vcheck_p, may_p, weight_p, time_p, sleeps_p, vpass_p, dcheck0_p, dcheck1_p, dcheck2_p] at h0 ⊢
  clear h
  have e1 : IntKind.wrap IntKind.u64 w = w := wu64 (by omega)
  all_goals try simp only [e1, beq_self_eq_true, bne_self_eq_false, cond_true, cond_false, Bool.not_true, Bool.not_false, true_and, and_true, implies_true, reduceCtorEq, false_implies, true_implies]
  all_goals (repeat' (first | apply And.intro | intro _))
  all_goals first
    | rfl
    | trivial
    | assumption
    | omega
    | (rename_i hh; simp at hh <;> omega)
    | (simp <;> omega)
noncomputable def f_chk2 (c : Nat) : Fam := { ps := [[0, 3, 0, 1]], fam := fun l => chk2_a c (l.getD 0 0), pre := fun l => chk2_p (l.getD 0 0), res := fun l => chk2_r c (l.getD 0 0) }
noncomputable def chk3_a (c : Nat) (w : Int) : V := (.cons (.agg (stC3 c w)) .nil)
noncomputable def chk3_r (c : Nat) (w : Int) : V := (.int true .i64 0)
def chk3_p (w : Int) : Prop := pW w
def chk3_q (w : Int) : Prop :=
    (((w = w ∧ dcheck2_p w) ∧ (0 : Int) = (0 : Int) ∧ vcheck_p (0 : Int)) ∧ (w = w ∧ dcheck2_p w) ∧ (w = w ∧ weight_p w) ∧ ((bif bif bif w == IntKind.wrap IntKind.u64 w then false
    else true then true else false then true else false) = false → ((0 : Int) = (0 : Int) ∧ (1 : Int) = (1 : Int) ∧ sleeps_p (0 : Int) (1 : Int)) ∧ ((0 : Int) = (0 : Int) ∧ (2 :
    Int) = (2 : Int) ∧ sleeps_p (0 : Int) ((2 : Int))) ∧ ((0 : Int) = (0 : Int) ∧ (3 : Int) = (3 : Int) ∧ sleeps_p (0 : Int) ((3 : Int))) ∧ ((0 : Int) = (0 : Int) ∧ (4 : Int) = (4
    : Int) ∧ sleeps_p (0 : Int) ((4 : Int))) ∧ ((0 : Int) = (0 : Int) ∧ (5 : Int) = (5 : Int) ∧ sleeps_p (0 : Int) ((5 : Int))) ∧ ((0 : Int) = (0 : Int) ∧ (6 : Int) = (6 : Int) ∧
    sleeps_p (0 : Int) ((6 : Int))) ∧ ((0 : Int) = (0 : Int) ∧ (7 : Int) = (7 : Int) ∧ sleeps_p (0 : Int) ((7 : Int))) ∧ ((0 : Int) = (0 : Int) ∧ (8 : Int) = (8 : Int) ∧ sleeps_p
    (0 : Int) ((8 : Int))) ∧ ((0 : Int) = (0 : Int) ∧ (9 : Int) = (9 : Int) ∧ sleeps_p (0 : Int) ((9 : Int))) ∧ ((0 : Int) = (0 : Int) ∧ (10 : Int) = (10 : Int) ∧ sleeps_p (0 :
    Int) ((10 : Int))) ∧ ((0 : Int) = (0 : Int) ∧ (11 : Int) = (11 : Int) ∧ sleeps_p (0 : Int) ((11 : Int))) ∧ ((0 : Int) = (0 : Int) ∧ (12 : Int) = (12 : Int) ∧ sleeps_p (0 : Int)
    ((12 : Int))) ∧ ((0 : Int) = (0 : Int) ∧ (13 : Int) = (13 : Int) ∧ sleeps_p (0 : Int) ((13 : Int))) ∧ ((0 : Int) = (0 : Int) ∧ (14 : Int) = (14 : Int) ∧ sleeps_p (0 : Int) ((14
    : Int))) ∧ ((0 : Int) = (0 : Int) ∧ (15 : Int) = (15 : Int) ∧ sleeps_p (0 : Int) ((15 : Int))) ∧ (0 : Int) = (0 : Int) ∧ (16 : Int) = (16 : Int) ∧ sleeps_p (0 : Int) ((16 :
    Int)))) ∧ ((bif bif bif bif w == IntKind.wrap IntKind.u64 w then false else true then true else false then true else false then true else false) = true → False) ∧ ((bif bif bif
    bif w == IntKind.wrap IntKind.u64 w then false else true then true else false then true else false then true else false) = false → True)
theorem chk3_ok {w : Int} (h : chk3_p w) : chk3_q w := by
  have h0 := h
  simp only [chk3_p, chk3_q, pT, pW, vcheck_p, may_p, weight_p, time_p, sleeps_p, vpass_p, dcheck0_p, dcheck1_p, dcheck2_p] at h0 ⊢
  clear h
  have e1 : IntKind.wrap IntKind.u64 w = w := wu64 (by omega)
  all_goals try simp only [e1, beq_self_eq_true, bne_self_eq_false, cond_true, cond_false, Bool.not_true, Bool.not_false, true_and, and_true, implies_true, reduceCtorEq, false_implies, true_implies]
  all_goals (repeat' (first | apply And.intro | intro _))
  all_goals first
    | rfl
    | trivial
    | assumption
    | omega
    | (rename_i hh; simp at hh <;> omega)
    | (simp <;> omega)
noncomputable def f_chk3 (c : Nat) : Fam := { ps := [[0, 3, 0, 1]], fam := fun l => chk3_a c (l.getD 0 0), pre := fun l => chk3_p (l.getD 0 0), res := fun l => chk3_r c (l.getD 0 0) }
noncomputable def chk4_a (c : Nat) (t w : Int) : V := (.cons (.agg (stC4 c t w)) .nil)
noncomputable def chk4_r (c : Nat) (t w : Int) : V := (.int true .i64 0)
def chk4_p (t w : Int) : Prop := pT t ∧ pW w
def chk4_q (t w : Int) : Prop :=
    (((bif decide (t ≥ (0 : Int)) then decide (t ≤ (1125899906842624 : Int)) else false) = true → w = w ∧ dcheck2_p w) ∧ ((bif decide (t ≥ (0 : Int)) then decide (t ≤
    (1125899906842624 : Int)) else false) = true → t = t ∧ vcheck_p t)) ∧ ((bif bif !bif decide (t ≥ (0 : Int)) then decide (t ≤ (1125899906842624 : Int)) else false then true else
    false then true else false) = true → False) ∧ ((bif bif !bif decide (t ≥ (0 : Int)) then decide (t ≤ (1125899906842624 : Int)) else false then true else false then true else
    false) = false → (w = w ∧ dcheck2_p w) ∧ (w = w ∧ weight_p w) ∧ ((w == IntKind.wrap IntKind.u64 w) = true → ((bif !bif decide (Int.ofNat (0 : Nat) ≤ t) then bif decide (t ≥ (0
    : Int)) then decide (t ≤ t) else false else false then true else false) = true → False) ∧ ((bif !bif decide (Int.ofNat (0 : Nat) ≤ t) then bif decide (t ≥ (0 : Int)) then
    decide (t ≤ t) else false else false then true else false) = false → ((bif t != t then true else false) = false → (t = t ∧ (1 : Int) = (1 : Int) ∧ sleeps_p t (1 : Int)) ∧ (t =
    t ∧ (2 : Int) = (2 : Int) ∧ sleeps_p t ((2 : Int))) ∧ (t = t ∧ (3 : Int) = (3 : Int) ∧ sleeps_p t ((3 : Int))) ∧ (t = t ∧ (4 : Int) = (4 : Int) ∧ sleeps_p t ((4 : Int))) ∧ (t =
    t ∧ (5 : Int) = (5 : Int) ∧ sleeps_p t ((5 : Int))) ∧ (t = t ∧ (6 : Int) = (6 : Int) ∧ sleeps_p t ((6 : Int))) ∧ (t = t ∧ (7 : Int) = (7 : Int) ∧ sleeps_p t ((7 : Int))) ∧ (t =
    t ∧ (8 : Int) = (8 : Int) ∧ sleeps_p t ((8 : Int))) ∧ (t = t ∧ (9 : Int) = (9 : Int) ∧ sleeps_p t ((9 : Int))) ∧ (t = t ∧ (10 : Int) = (10 : Int) ∧ sleeps_p t ((10 : Int))) ∧
    (t = t ∧ (11 : Int) = (11 : Int) ∧ sleeps_p t ((11 : Int))) ∧ (t = t ∧ (12 : Int) = (12 : Int) ∧ sleeps_p t ((12 : Int))) ∧ (t = t ∧ (13 : Int) = (13 : Int) ∧ sleeps_p t ((13 :
    Int))) ∧ (t = t ∧ (14 : Int) = (14 : Int) ∧ sleeps_p t ((14 : Int))) ∧ (t = t ∧ (15 : Int) = (15 : Int) ∧ sleeps_p t ((15 : Int))) ∧ t = t ∧ (16 : Int) = (16 : Int) ∧ sleeps_p
    t ((16 : Int))) ∧ ((bif bif t != t then true else false then true else false) = true → False) ∧ ((bif bif t != t then true else false then true else false) = false → (w = w ∧
    dcheck2_p w) ∧ True))) ∧ ((w == IntKind.wrap IntKind.u64 w) = false → False))
theorem chk4_ok {t w : Int} (h : chk4_p t w) : chk4_q t w := by
  have h0 := h
  simp only [chk4_p, chk4_q, pT, pW, vcheck_p, may_p, weight_p, time_p, sleeps_p, vpass_p, dcheck0_p, dcheck1_p, dcheck2_p] at h0 ⊢
  clear h
  have e1 : IntKind.wrap IntKind.u64 w = w := wu64 (by omega)
  all_goals try simp only [e1, beq_self_eq_true, bne_self_eq_false, cond_true, cond_false, Bool.not_true, Bool.not_false, true_and, and_true, implies_true, reduceCtorEq, false_implies, true_implies]
  all_goals (repeat' (first | apply And.intro | intro _))
  all_goals first
    | rfl
    | trivial
    | assumption
    | omega
    | (rename_i hh; simp at hh <;> omega)
    | (simp <;> omega)
noncomputable def f_chk4 (c : Nat) : Fam := { ps := [[0, 0], [0, 3, 0, 1]], fam := fun l => chk4_a c (l.getD 0 0) (l.getD 1 0), pre := fun l => chk4_p (l.getD 0 0) (l.getD 1 0), res := fun l => chk4_r c (l.getD 0 0) (l.getD 1 0) }
noncomputable def bestm_a (c : Nat)  : V := (.cons (.agg (.cons (.int true .u32 (Int.ofNat (2 ^ c - 1))) (.cons (.int true .u32 0) .nil))) (.cons (.int true .u32 (Int.ofNat (2 ^ c - 1))) (.cons (.int true .i64 (Int.negSucc 0)) .nil)))
noncomputable def bestm_r (c : Nat)  : V := (.tup (.cons (.int true .i64 0) (.cons (.bool true true) .nil)))
def bestm_p  : Prop := True
noncomputable def bestm_x (c : Nat)  : V := (.tup (.cons (.int false .i64 0) (.cons (.bool false true) .nil)))
def bestm_q  : Prop :=
    (0 : Int) = (0 : Int) ∧ true = true ∧ True
theorem bestm_ok (h : bestm_p) : bestm_q := by
  unfold bestm_q
  exact ⟨rfl, rfl, trivial⟩
noncomputable def f_bestm (c : Nat) : Fam := { ps := [], fam := fun l => bestm_a c , pre := fun l => bestm_p , res := fun l => bestm_r c  }
noncomputable def bestz_a (c : Nat)  : V := (.cons (.agg (.cons (.int true .u32 (Int.ofNat (2 ^ c - 1))) (.cons (.int true .u32 0) .nil))) (.cons (.int true .u32 (Int.ofNat (2 ^ c - 1))) (.cons (.int true .i64 0) .nil)))
noncomputable def bestz_r (c : Nat)  : V := (.tup (.cons (.int true .i64 0) (.cons (.bool true true) .nil)))
def bestz_p  : Prop := True
noncomputable def bestz_x (c : Nat)  : V := (.tup (.cons (.int false .i64 0) (.cons (.bool false true) .nil)))
def bestz_q  : Prop :=
    (0 : Int) = (0 : Int) ∧ true = true ∧ True
theorem bestz_ok (h : bestz_p) : bestz_q := by
  unfold bestz_q
  exact ⟨rfl, rfl, trivial⟩
noncomputable def f_bestz (c : Nat) : Fam := { ps := [], fam := fun l => bestz_a c , pre := fun l => bestz_p , res := fun l => bestz_r c  }
noncomputable def call0_a (c : Nat) (w : Int) : V := (.cons (.agg (stC0 c)) (.cons (.agg (.cons (.int true .i64 1) (.cons (.int true .i64 0) (.cons (.int true .i64 0) (.cons (.int true .i64 0) (.cons (.bool true false) (.cons .nilsl (.cons (.int true .i64 0) (.cons (.int true .i64 0) (.cons (.int true .i64 1) (.cons (.int false .i64 w) (.cons (.int true .i64 0) (.cons (.int true .i64 0) (.cons (.int true .u32 0) (.cons (.int true .u32 0) .nil))))))))))))))) .nil))
noncomputable def call0_r (c : Nat) (w : Int) : V := (.tup (.cons (.agg (stC1 c w)) (.cons (.int true .i64 0) (.cons (.int true .i64 0) .nil))))
def call0_p (w : Int) : Prop := pW w
noncomputable def call0_x (c : Nat) (w : Int) : V := (.tup (.cons (.agg (stC1 c w)) (.cons (.int true .i64 0) (.cons (.int true .i64 0) .nil))))
def call0_q (w : Int) : Prop :=
    chk0_p ∧ dcheck0_p ∧ (w = w ∧ may_p w) ∧ w = w ∧ True
theorem call0_ok {w : Int} (h : call0_p w) : call0_q w := by
  have h0 := h
  simp only [call0_p, call0_q, pT, pW, vcheck_p, may_p, weight_p, time_p, sleeps_p, vpass_p, dcheck0_p, dcheck1_p, dcheck2_p, raise_p, fcmp0_p, chk0_p, chk1_p, chk2_p, chk3_p, chk4_p] at h0 ⊢
  clear h
  have e1 : IntKind.wrap IntKind.u64 w = w := wu64 (by omega)
  all_goals try simp only [e1, beq_self_eq_true, bne_self_eq_false, cond_true, cond_false, Bool.not_true, Bool.not_false, true_and, and_true, implies_true, reduceCtorEq, false_implies, true_implies]
  all_goals (repeat' (first | apply And.intro | intro _))
  all_goals first
    | rfl
    | trivial
    | assumption
    | omega
    | (rename_i hh; simp at hh <;> omega)
    | (simp <;> omega)
noncomputable def f_call0 (c : Nat) : Fam := { ps := [[1, 9]], fam := fun l => call0_a c (l.getD 0 0), pre := fun l => call0_p (l.getD 0 0), res := fun l => call0_r c (l.getD 0 0) }
noncomputable def call1_a (c : Nat) (w : Int) : V := (.cons (.agg (stC1 c w)) (.cons (.agg (.cons (.int true .i64 3) (.cons (.int true .i64 0) (.cons (.int true .i64 0) (.cons (.int true .i64 0) (.cons (.bool true false) (.cons .nilsl (.cons (.int true .i64 0) (.cons (.int true .i64 0) (.cons (.int true .i64 1) (.cons (.int true .i64 0) (.cons (.int true .i64 0) (.cons (.int true .i64 0) (.cons (.int true .u32 255) (.cons (.int true .u32 0) .nil))))))))))))))) .nil))
noncomputable def call1_r (c : Nat) (w : Int) : V := (.tup (.cons (.agg (stC2 c w)) (.cons (.int true .i64 1) (.cons (.int true .i64 0) .nil))))
def call1_p (w : Int) : Prop := pW w
noncomputable def call1_x (c : Nat) (w : Int) : V := (.tup (.cons (.agg (stC2 c w)) (.cons (.int true .i64 1) (.cons (.int true .i64 0) .nil))))
def call1_q (w : Int) : Prop :=
    (w = w ∧ chk1_p w) ∧ (w = w ∧ dcheck1_p w) ∧ (w = w ∧ dcheck2_p w) ∧ (IntKind.wrap IntKind.u64 w = IntKind.wrap IntKind.u64 w ∧ weight_p (IntKind.wrap IntKind.u64 w)) ∧ w = w ∧
    IntKind.wrap IntKind.u64 w = w ∧ True
theorem call1_ok {w : Int} (h : call1_p w) : call1_q w := by
  have h0 := h
  simp only [call1_p, call1_q, pT, pW, vcheck_p, may_p, weight_p, time_p, sleeps_p, vpass_p, dcheck0_p, dcheck1_p, dcheck2_p, raise_p, fcmp0_p, chk0_p, chk1_p, chk2_p, chk3_p, chk4_p] at h0 ⊢
  clear h
  have e1 : IntKind.wrap IntKind.u64 w = w := wu64 (by omega)
  all_goals try simp only [e1, beq_self_eq_true, bne_self_eq_false, cond_true, cond_false, Bool.not_true, Bool.not_false, true_and, and_true, implies_true, reduceCtorEq, false_implies, true_implies]
  all_goals (repeat' (first | apply And.intro | intro _))
  all_goals first
    | rfl
    | trivial
    | assumption
    | omega
    | (rename_i hh; simp at hh <;> omega)
    | (simp <;> omega)
noncomputable def f_call1 (c : Nat) : Fam := { ps := [[0, 3, 0, 1]], fam := fun l => call1_a c (l.getD 0 0), pre := fun l => call1_p (l.getD 0 0), res := fun l => call1_r c (l.getD 0 0) }
noncomputable def call2_a (c : Nat) (w : Int) : V := (.cons (.agg (stC2 c w)) (.cons (.agg (.cons (.int true .i64 5) (.cons (.int true .i64 1) (.cons (.int true .i64 0) (.cons (.int true .i64 0) (.cons (.bool true false) (.cons .nilsl (.cons (.int true .i64 0) (.cons (.int true .i64 0) (.cons (.int true .i64 0) (.cons (.int true .i64 0) (.cons (.int true .i64 0) (.cons (.int true .i64 0) (.cons (.int true .u32 0) (.cons (.int true .u32 0) .nil))))))))))))))) .nil))
noncomputable def call2_r (c : Nat) (w : Int) : V := (.tup (.cons (.agg (stC3 c w)) (.cons (.int true .i64 0) (.cons (.int true .i64 0) .nil))))
def call2_p (w : Int) : Prop := pW w
noncomputable def call2_x (c : Nat) (w : Int) : V := (.tup (.cons (.agg (stC3 c w)) (.cons (.int true .i64 0) (.cons (.int true .i64 0) .nil))))
def call2_q (w : Int) : Prop :=
    (w = w ∧ w = w ∧ chk2_p w) ∧ (w = w ∧ w = w ∧ chk2_p w) ∧ (w = w ∧ w = w ∧ chk2_p w) ∧ (w = w ∧ w = w ∧ chk2_p w) ∧ ((0 : Int) = (0 : Int) ∧ vcheck_p (0 : Int)) ∧ (w = w ∧
    dcheck2_p w) ∧ (w = w ∧ weight_p w) ∧ (w = w ∧ weight_p w) ∧ (w = w ∧ weight_p w) ∧ w = w ∧ w = w ∧ True
theorem call2_ok {w : Int} (h : call2_p w) : call2_q w := by
  have h0 := h
  simp only [call2_p, call2_q, pT, pW, vcheck_p, may_p, weight_p, time_p, sleeps_p, vpass_p, dcheck0_p, dcheck1_p, dcheck2_p, raise_p, fcmp0_p, chk0_p, chk1_p, chk2_p, chk3_p, chk4_p] at h0 ⊢
  clear h
  have e1 : IntKind.wrap IntKind.u64 w = w := wu64 (by omega)
  all_goals try simp only [e1, beq_self_eq_true, bne_self_eq_false, cond_true, cond_false, Bool.not_true, Bool.not_false, true_and, and_true, implies_true, reduceCtorEq, false_implies, true_implies]
  all_goals (repeat' (first | apply And.intro | intro _))
  all_goals first
    | rfl
    | trivial
    | assumption
    | omega
    | (rename_i hh; simp at hh <;> omega)
    | (simp <;> omega)
noncomputable def f_call2 (c : Nat) : Fam := { ps := [[0, 3, 0, 1]], fam := fun l => call2_a c (l.getD 0 0), pre := fun l => call2_p (l.getD 0 0), res := fun l => call2_r c (l.getD 0 0) }
noncomputable def pk1_a (c : Nat) (w : Int) : V := (.cons (.agg (stC1 c w)) .nil)
noncomputable def pk1_r (c : Nat) (w : Int) : V := (.tup (.cons (.agg (stC1 c w)) (.cons (.int true .i64 0) .nil)))
def pk1_p (w : Int) : Prop := pW w
def pk1_q (w : Int) : Prop :=
    (w = w ∧ chk1_p w) ∧ ((w = w ∧ chk1_p w) ∧ (w = w ∧ chk1_p w) ∧ (w = w ∧ chk1_p w) ∧ w = w ∧ chk1_p w) ∧ w = w ∧ True
theorem pk1_ok {w : Int} (h : pk1_p w) : pk1_q w := by
  have h0 := h
  simp only [pk1_p, pk1_q, pT, pW, vcheck_p, may_p, weight_p, time_p, sleeps_p, vpass_p, dcheck0_p, dcheck1_p, dcheck2_p, u64, dry_p, vcpu_p, bestm_p, bestz_p, raise_p, fcmp0_p, chk0_p, chk1_p, chk2_p, chk3_p, chk4_p] at h0 ⊢
  clear h
  have e1 : IntKind.wrap IntKind.u64 w = w := wu64 (by omega)
  all_goals try simp only [e1, beq_self_eq_true, bne_self_eq_false, cond_true, cond_false, Bool.not_true, Bool.not_false, true_and, and_true, implies_true, reduceCtorEq, false_implies, true_implies]
  all_goals (repeat' (first | apply And.intro | intro _))
  all_goals first
    | rfl
    | trivial
    | assumption
    | omega
    | (rename_i hh; simp at hh <;> omega)
    | (simp <;> omega)
noncomputable def f_pk1 (c : Nat) : Fam := { ps := [[0, 3, 0, 1]], fam := fun l => pk1_a c (l.getD 0 0), pre := fun l => pk1_p (l.getD 0 0), res := fun l => pk1_r c (l.getD 0 0) }
noncomputable def pk2_a (c : Nat) (w : Int) : V := (.cons (.agg (stC2 c w)) .nil)
noncomputable def pk2_r (c : Nat) (w : Int) : V := (.tup (.cons (.agg (stC2 c w)) (.cons (.int true .i64 0) .nil)))
def pk2_p (w : Int) : Prop := pW w
def pk2_q (w : Int) : Prop :=
    (w = w ∧ w = w ∧ chk2_p w) ∧ ((w = w ∧ w = w ∧ chk2_p w) ∧ (w = w ∧ w = w ∧ chk2_p w) ∧ (w = w ∧ w = w ∧ chk2_p w) ∧ w = w ∧ w = w ∧ chk2_p w) ∧ w = w ∧ w = w ∧ True
theorem pk2_ok {w : Int} (h : pk2_p w) : pk2_q w := by
  have h0 := h
  simp only [pk2_p, pk2_q, pT, pW, vcheck_p, may_p, weight_p, time_p, sleeps_p, vpass_p, dcheck0_p, dcheck1_p, dcheck2_p, u64, dry_p, vcpu_p, bestm_p, bestz_p, raise_p, fcmp0_p, chk0_p, chk1_p, chk2_p, chk3_p, chk4_p] at h0 ⊢
  clear h
  have e1 : IntKind.wrap IntKind.u64 w = w := wu64 (by omega)
  all_goals try simp only [e1, beq_self_eq_true, bne_self_eq_false, cond_true, cond_false, Bool.not_true, Bool.not_false, true_and, and_true, implies_true, reduceCtorEq, false_implies, true_implies]
  all_goals (repeat' (first | apply And.intro | intro _))
  all_goals first
    | rfl
    | trivial
    | assumption
    | omega
    | (rename_i hh; simp at hh <;> omega)
    | (simp <;> omega)
noncomputable def f_pk2 (c : Nat) : Fam := { ps := [[0, 3, 0, 1]], fam := fun l => pk2_a c (l.getD 0 0), pre := fun l => pk2_p (l.getD 0 0), res := fun l => pk2_r c (l.getD 0 0) }
noncomputable def pk3_a (c : Nat) (w : Int) : V := (.cons (.agg (stC3 c w)) .nil)
noncomputable def pk3_r (c : Nat) (w : Int) : V := (.tup (.cons (.agg (stZ c w)) (.cons (.int true .i64 0) .nil)))
def pk3_p (w : Int) : Prop := pW w
def pk3_q (w : Int) : Prop :=
    (w = w ∧ w = w ∧ chk3_p w) ∧ ((w = w ∧ w = w ∧ chk3_p w) ∧ (w = w ∧ dcheck2_p w) ∧ (w = w ∧ weight_p w) ∧ (((0 : Int) = (0 : Int) ∧ w = w ∧ (0 : Int) = (0 : Int) ∧ w = w ∧
    raise_p (0 : Int) w) ∧ (!((0 : Int) == (0 : Int) && ((0 : Int) == (0 : Int) && true) && (w == w && true))) = false) ∧ (w = w ∧ w = w ∧ chk3_p w) ∧ (dry_p ∧ w = w ∧ dcheck2_p w)
    ∧ (w = w ∧ w = w ∧ chk3_p w) ∧ dry_p ∧ (w = w ∧ weight_p w) ∧ ((0 : Int) = (0 : Int) ∧ w = w ∧ (0 : Int) = (0 : Int) ∧ w = w ∧ fcmp0_p (0 : Int) w) ∧ (w = w ∧ w = w ∧ chk3_p w)
    ∧ (dry_p ∧ (w = w ∧ vcpu_p w) ∧ w = w ∧ vcpu_p w) ∧ bestm_p) ∧ w = w ∧ w = w ∧ True
theorem pk3_ok {w : Int} (h : pk3_p w) : pk3_q w := by
  have h0 := h
  simp only [pk3_p, pk3_q, pT, pW, vcheck_p, may_p, weight_p, time_p, sleeps_p, vpass_p, dcheck0_p, dcheck1_p, dcheck2_p, u64, dry_p, vcpu_p, bestm_p, bestz_p, raise_p, fcmp0_p, chk0_p, chk1_p, chk2_p, chk3_p, chk4_p] at h0 ⊢
  clear h
  have e1 : IntKind.wrap IntKind.u64 w = w := wu64 (by omega)
  all_goals try simp only [e1, beq_self_eq_true, bne_self_eq_false, cond_true, cond_false, Bool.not_true, Bool.not_false, true_and, and_true, implies_true, reduceCtorEq, false_implies, true_implies]
  all_goals (repeat' (first | apply And.intro | intro _))
  all_goals first
    | rfl
    | trivial
    | assumption
    | omega
    | (rename_i hh; simp at hh <;> omega)
    | (simp <;> omega)
noncomputable def f_pk3 (c : Nat) : Fam := { ps := [[0, 3, 0, 1]], fam := fun l => pk3_a c (l.getD 0 0), pre := fun l => pk3_p (l.getD 0 0), res := fun l => pk3_r c (l.getD 0 0) }
noncomputable def adv_a (c : Nat) (t w d : Int) : V := (.cons (.agg (stC4 c t w)) (.cons (.int false .i64 d) .nil))
noncomputable def adv_r (c : Nat) (t w d : Int) : V := (.tup (.cons (.agg (stC4 c (t + d) w)) (.cons (.int true .i64 0) .nil)))
def adv_p (t w d : Int) : Prop := 0 ≤ t ∧ t ≤ 1000000000 ∧ pW w ∧ 1 ≤ d ∧ d ≤ 10000000
def adv_q (t w d : Int) : Prop :=
    (t = t ∧ w = w ∧ t = t ∧ w = w ∧ t = t ∧ t = t ∧ chk4_p t w) ∧ ((bif bif decide (d < (1 : Int)) then true else bif decide (d > (10000000 : Int)) then true else decide (t >
    IntKind.wrap IntKind.i64 ((1125899906842624 : Int) - d)) then true else false) = true → False) ∧ ((bif bif decide (d < (1 : Int)) then true else bif decide (d > (10000000 :
    Int)) then true else decide (t > IntKind.wrap IntKind.i64 ((1125899906842624 : Int) - d)) then true else false) = false → (t = t ∧ IntKind.wrap IntKind.i64 (t + d) =
    IntKind.wrap IntKind.i64 (t + d) ∧ vpass_p t (IntKind.wrap IntKind.i64 (t + d))) ∧ (t = t ∧ w = w ∧ t = t ∧ w = w ∧ t = t ∧ t = t ∧ chk4_p t w) ∧ (w = w ∧ dcheck2_p w) ∧
    (decide (d ≥ (0 : Int)) = true → (w = w ∧ weight_p w) ∧ ((bif !decide (d ≤ (10000000 : Int)) then true else false) = true → False) ∧ ((bif !decide (d ≤ (10000000 : Int)) then
    true else false) = false → (t = t ∧ w = w ∧ IntKind.wrap IntKind.u64 ((1 : Int) * IntKind.wrap IntKind.u64 d) = IntKind.wrap IntKind.u64 ((1 : Int) * IntKind.wrap IntKind.u64
    d) ∧ fadd_p t w (IntKind.wrap IntKind.u64 ((1 : Int) * IntKind.wrap IntKind.u64 d))) ∧ ((w = w ∧ dcheck2_p w) ∧ ((bif bif bif bif decide (d < (0 : Int)) then true else decide
    (d > (10000000 : Int)) then true else false then true else false then true else false) = false → dry_p) ∧ ((bif (bif bif bif bif bif decide (d < (0 : Int)) then true else
    decide (d > (10000000 : Int)) then true else false then true else false then true else false then (2 : Int) else (0 : Int)) != (0 : Int) then true else false) = false → dry_p))
    ∧ ((bif bif bif (bif bif bif bif bif decide (d < (0 : Int)) then true else decide (d > (10000000 : Int)) then true else false then true else false then true else false then (2
    : Int) else (0 : Int)) != (0 : Int) then true else false then true else false then true else false) = true → ((bif (bif bif bif bif bif decide (d < (0 : Int)) then true else
    decide (d > (10000000 : Int)) then true else false then true else false then true else false then (2 : Int) else (0 : Int)) != (0 : Int) then true else false) = true → ((bif
    (bif bif bif bif bif decide (d < (0 : Int)) then true else decide (d > (10000000 : Int)) then true else false then true else false then true else false then (2 : Int) else (0 :
    Int)) != (0 : Int) then true else false) = true → False) ∧ ((bif (bif bif bif bif bif decide (d < (0 : Int)) then true else decide (d > (10000000 : Int)) then true else false
    then true else false then true else false then (2 : Int) else (0 : Int)) != (0 : Int) then true else false) = false → t = t + d ∧ w = w ∧ t + IntKind.wrap IntKind.u64 ((1 :
    Int) * IntKind.wrap IntKind.u64 d) = t + d ∧ w = w ∧ t = t + d ∧ t = t + d ∧ True)) ∧ ((bif (bif bif bif bif bif decide (d < (0 : Int)) then true else decide (d > (10000000 :
    Int)) then true else false then true else false then true else false then (2 : Int) else (0 : Int)) != (0 : Int) then true else false) = false → (t = t ∧ IntKind.wrap
    IntKind.i64 (t + d) = IntKind.wrap IntKind.i64 (t + d) ∧ vpass_p t (IntKind.wrap IntKind.i64 (t + d))) ∧ ((IntKind.wrap IntKind.i64 (t + d) = IntKind.wrap IntKind.i64 (t + d) ∧
    w = w ∧ t + IntKind.wrap IntKind.u64 ((1 : Int) * IntKind.wrap IntKind.u64 d) = IntKind.wrap IntKind.i64 (t + d) ∧ w = w ∧ IntKind.wrap IntKind.i64 (t + d) = IntKind.wrap
    IntKind.i64 (t + d) ∧ IntKind.wrap IntKind.i64 (t + d) = IntKind.wrap IntKind.i64 (t + d) ∧ chk4_p (IntKind.wrap IntKind.i64 (t + d)) w) ∧ (w = w ∧ dcheck2_p w) ∧ (w = w ∧
    weight_p w) ∧ ((t + IntKind.wrap IntKind.u64 ((1 : Int) * IntKind.wrap IntKind.u64 d) = t + IntKind.wrap IntKind.u64 ((1 : Int) * IntKind.wrap IntKind.u64 d) ∧ w = w ∧ t +
    IntKind.wrap IntKind.u64 ((1 : Int) * IntKind.wrap IntKind.u64 d) = t + IntKind.wrap IntKind.u64 ((1 : Int) * IntKind.wrap IntKind.u64 d) ∧ w = w ∧ raise_p (t + IntKind.wrap
    IntKind.u64 ((1 : Int) * IntKind.wrap IntKind.u64 d)) w) ∧ (!((0 : Int) == (0 : Int) && (t + IntKind.wrap IntKind.u64 ((1 : Int) * IntKind.wrap IntKind.u64 d) == t +
    IntKind.wrap IntKind.u64 ((1 : Int) * IntKind.wrap IntKind.u64 d) && true) && (w == w && true))) = false) ∧ (IntKind.wrap IntKind.i64 (t + d) = IntKind.wrap IntKind.i64 (t + d)
    ∧ w = w ∧ t + IntKind.wrap IntKind.u64 ((1 : Int) * IntKind.wrap IntKind.u64 d) = IntKind.wrap IntKind.i64 (t + d) ∧ w = w ∧ IntKind.wrap IntKind.i64 (t + d) = IntKind.wrap
    IntKind.i64 (t + d) ∧ IntKind.wrap IntKind.i64 (t + d) = IntKind.wrap IntKind.i64 (t + d) ∧ chk4_p (IntKind.wrap IntKind.i64 (t + d)) w) ∧ (dry_p ∧ w = w ∧ dcheck2_p w) ∧
    (IntKind.wrap IntKind.i64 (t + d) = IntKind.wrap IntKind.i64 (t + d) ∧ w = w ∧ t + IntKind.wrap IntKind.u64 ((1 : Int) * IntKind.wrap IntKind.u64 d) = IntKind.wrap IntKind.i64
    (t + d) ∧ w = w ∧ IntKind.wrap IntKind.i64 (t + d) = IntKind.wrap IntKind.i64 (t + d) ∧ IntKind.wrap IntKind.i64 (t + d) = IntKind.wrap IntKind.i64 (t + d) ∧ chk4_p
    (IntKind.wrap IntKind.i64 (t + d)) w) ∧ dry_p ∧ (w = w ∧ weight_p w) ∧ (t + IntKind.wrap IntKind.u64 ((1 : Int) * IntKind.wrap IntKind.u64 d) = t + IntKind.wrap IntKind.u64 ((1
    : Int) * IntKind.wrap IntKind.u64 d) ∧ w = w ∧ t + IntKind.wrap IntKind.u64 ((1 : Int) * IntKind.wrap IntKind.u64 d) = t + IntKind.wrap IntKind.u64 ((1 : Int) * IntKind.wrap
    IntKind.u64 d) ∧ w = w ∧ fcmp0_p (t + IntKind.wrap IntKind.u64 ((1 : Int) * IntKind.wrap IntKind.u64 d)) w) ∧ (IntKind.wrap IntKind.i64 (t + d) = IntKind.wrap IntKind.i64 (t +
    d) ∧ w = w ∧ t + IntKind.wrap IntKind.u64 ((1 : Int) * IntKind.wrap IntKind.u64 d) = IntKind.wrap IntKind.i64 (t + d) ∧ w = w ∧ IntKind.wrap IntKind.i64 (t + d) = IntKind.wrap
    IntKind.i64 (t + d) ∧ IntKind.wrap IntKind.i64 (t + d) = IntKind.wrap IntKind.i64 (t + d) ∧ chk4_p (IntKind.wrap IntKind.i64 (t + d)) w) ∧ (dry_p ∧ (w = w ∧ vcpu_p w) ∧ w = w ∧
    vcpu_p w) ∧ bestz_p) ∧ IntKind.wrap IntKind.i64 (t + d) = t + d ∧ w = w ∧ t + IntKind.wrap IntKind.u64 ((1 : Int) * IntKind.wrap IntKind.u64 d) = t + d ∧ w = w ∧ IntKind.wrap
    IntKind.i64 (t + d) = t + d ∧ IntKind.wrap IntKind.i64 (t + d) = t + d ∧ True)) ∧ ((bif bif bif (bif bif bif bif bif decide (d < (0 : Int)) then true else decide (d > (10000000
    : Int)) then true else false then true else false then true else false then (2 : Int) else (0 : Int)) != (0 : Int) then true else false then true else false then true else
    false) = false → (t = t ∧ IntKind.wrap IntKind.i64 (t + d) = IntKind.wrap IntKind.i64 (t + d) ∧ vpass_p t (IntKind.wrap IntKind.i64 (t + d))) ∧ ((IntKind.wrap IntKind.i64 (t +
    d) = IntKind.wrap IntKind.i64 (t + d) ∧ w = w ∧ t + IntKind.wrap IntKind.u64 ((1 : Int) * IntKind.wrap IntKind.u64 d) = IntKind.wrap IntKind.i64 (t + d) ∧ w = w ∧ IntKind.wrap
    IntKind.i64 (t + d) = IntKind.wrap IntKind.i64 (t + d) ∧ IntKind.wrap IntKind.i64 (t + d) = IntKind.wrap IntKind.i64 (t + d) ∧ chk4_p (IntKind.wrap IntKind.i64 (t + d)) w) ∧ (w
    = w ∧ dcheck2_p w) ∧ (w = w ∧ weight_p w) ∧ ((t + IntKind.wrap IntKind.u64 ((1 : Int) * IntKind.wrap IntKind.u64 d) = t + IntKind.wrap IntKind.u64 ((1 : Int) * IntKind.wrap
    IntKind.u64 d) ∧ w = w ∧ t + IntKind.wrap IntKind.u64 ((1 : Int) * IntKind.wrap IntKind.u64 d) = t + IntKind.wrap IntKind.u64 ((1 : Int) * IntKind.wrap IntKind.u64 d) ∧ w = w ∧
    raise_p (t + IntKind.wrap IntKind.u64 ((1 : Int) * IntKind.wrap IntKind.u64 d)) w) ∧ (!((0 : Int) == (0 : Int) && (t + IntKind.wrap IntKind.u64 ((1 : Int) * IntKind.wrap
    IntKind.u64 d) == t + IntKind.wrap IntKind.u64 ((1 : Int) * IntKind.wrap IntKind.u64 d) && true) && (w == w && true))) = false) ∧ (IntKind.wrap IntKind.i64 (t + d) =
    IntKind.wrap IntKind.i64 (t + d) ∧ w = w ∧ t + IntKind.wrap IntKind.u64 ((1 : Int) * IntKind.wrap IntKind.u64 d) = IntKind.wrap IntKind.i64 (t + d) ∧ w = w ∧ IntKind.wrap
    IntKind.i64 (t + d) = IntKind.wrap IntKind.i64 (t + d) ∧ IntKind.wrap IntKind.i64 (t + d) = IntKind.wrap IntKind.i64 (t + d) ∧ chk4_p (IntKind.wrap IntKind.i64 (t + d)) w) ∧
    (dry_p ∧ w = w ∧ dcheck2_p w) ∧ (IntKind.wrap IntKind.i64 (t + d) = IntKind.wrap IntKind.i64 (t + d) ∧ w = w ∧ t + IntKind.wrap IntKind.u64 ((1 : Int) * IntKind.wrap
    IntKind.u64 d) = IntKind.wrap IntKind.i64 (t + d) ∧ w = w ∧ IntKind.wrap IntKind.i64 (t + d) = IntKind.wrap IntKind.i64 (t + d) ∧ IntKind.wrap IntKind.i64 (t + d) =
    IntKind.wrap IntKind.i64 (t + d) ∧ chk4_p (IntKind.wrap IntKind.i64 (t + d)) w) ∧ dry_p ∧ (w = w ∧ weight_p w) ∧ (t + IntKind.wrap IntKind.u64 ((1 : Int) * IntKind.wrap
    IntKind.u64 d) = t + IntKind.wrap IntKind.u64 ((1 : Int) * IntKind.wrap IntKind.u64 d) ∧ w = w ∧ t + IntKind.wrap IntKind.u64 ((1 : Int) * IntKind.wrap IntKind.u64 d) = t +
    IntKind.wrap IntKind.u64 ((1 : Int) * IntKind.wrap IntKind.u64 d) ∧ w = w ∧ fcmp0_p (t + IntKind.wrap IntKind.u64 ((1 : Int) * IntKind.wrap IntKind.u64 d)) w) ∧ (IntKind.wrap
    IntKind.i64 (t + d) = IntKind.wrap IntKind.i64 (t + d) ∧ w = w ∧ t + IntKind.wrap IntKind.u64 ((1 : Int) * IntKind.wrap IntKind.u64 d) = IntKind.wrap IntKind.i64 (t + d) ∧ w =
    w ∧ IntKind.wrap IntKind.i64 (t + d) = IntKind.wrap IntKind.i64 (t + d) ∧ IntKind.wrap IntKind.i64 (t + d) = IntKind.wrap IntKind.i64 (t + d) ∧ chk4_p (IntKind.wrap IntKind.i64
    (t + d)) w) ∧ (dry_p ∧ (w = w ∧ vcpu_p w) ∧ w = w ∧ vcpu_p w) ∧ bestz_p) ∧ IntKind.wrap IntKind.i64 (t + d) = t + d ∧ w = w ∧ t + IntKind.wrap IntKind.u64 ((1 : Int) *
    IntKind.wrap IntKind.u64 d) = t + d ∧ w = w ∧ IntKind.wrap IntKind.i64 (t + d) = t + d ∧ IntKind.wrap IntKind.i64 (t + d) = t + d ∧ True))) ∧ (decide (d ≥ (0 : Int)) = false →
    (w = w ∧ weight_p w) ∧ False))
theorem adv_ok {t w d : Int} (h : adv_p t w d) : adv_q t w d := by
  have h0 := h
  simp only [adv_p, adv_q, pT, pW, vcheck_p, may_p, weight_p, time_p, sleeps_p, vpass_p, dcheck0_p, dcheck1_p, dcheck2_p, u64, dry_p, vcpu_p, bestm_p, bestz_p, raise_p, fcmp0_p, fadd_p, chk0_p, chk1_p, chk2_p, chk3_p, chk4_p] at h0 ⊢
  clear h
  have e1 : IntKind.wrap IntKind.u64 w = w := wu64 (by omega)
  have e2 : IntKind.wrap IntKind.i64 (t + d) = t + d := wi64 (by omega)
  have e3 : IntKind.wrap IntKind.u64 d = d := wu64 (by omega)
  have e4 : (1 : Int) * d = d := Int.one_mul d
  have e5 : IntKind.wrap IntKind.i64 ((1125899906842624 : Int) - d) = 1125899906842624 - d := wi64 (by omega)
  have d1 : decide (d < (1 : Int)) = false := decide_eq_false (by omega)
  have d2 : decide (d > (10000000 : Int)) = false := decide_eq_false (by omega)
  have d3 : decide (t > (1125899906842624 : Int) - d) = false := decide_eq_false (by omega)
  have d4 : decide (d ≥ (0 : Int)) = true := decide_eq_true (by omega)
  have d5 : decide (d ≤ (10000000 : Int)) = true := decide_eq_true (by omega)
  have d6 : decide (d < (0 : Int)) = false := decide_eq_false (by omega)
  all_goals try simp only [e1, e2, e3, e4, e5, d1, d2, d3, d4, d5, d6, beq_self_eq_true, bne_self_eq_false, cond_true, cond_false, Bool.not_true, Bool.not_false, true_and, and_true, implies_true, reduceCtorEq, false_implies, true_implies]
  all_goals (repeat' (first | apply And.intro | intro _))
  all_goals first
    | rfl
    | trivial
    | assumption
    | omega
    | (rename_i hh; simp at hh <;> omega)
    | (simp <;> omega)
noncomputable def f_adv (c : Nat) : Fam := { ps := [[0, 0], [0, 3, 0, 1], [1]], fam := fun l => adv_a c (l.getD 0 0) (l.getD 1 0) (l.getD 2 0), pre := fun l => adv_p (l.getD 0 0) (l.getD 1 0) (l.getD 2 0), res := fun l => adv_r c (l.getD 0 0) (l.getD 1 0) (l.getD 2 0) }
noncomputable def do0_a (c : Nat) (w : Int) : V := (.cons (.agg (maC0 c)) (.cons (.agg (.cons (.int true .i64 1) (.cons (.int true .i64 1) (.cons (.int true .i64 0) (.cons (.int true .i64 0) (.cons (.int true .i64 0) (.cons (.bool true false) (.cons .nilsl (.cons (.int true .i64 0) (.cons (.int true .i64 0) (.cons (.int true .i64 1) (.cons (.int false .i64 w) (.cons (.int true .i64 0) (.cons (.int true .i64 0) (.cons (.int true .u32 0) (.cons (.int true .u32 0) (.cons (.int true .i64 0) (.cons (.int true .i64 0) (.cons (.int true .i64 0) (.cons (.int true .i64 0) (.cons (.int true .i64 0) (.cons (.int true .i64 0) (.cons (.int true .i64 0) (.cons (.int true .i64 0) (.cons (.int true .i64 0) (.cons (.int true .u32 0) (.cons (.int true .u32 0) (.cons (.int true .u32 0) (.cons .nilsl (.cons (.int true .i64 0) .nil)))))))))))))))))))))))))))))) .nil))
noncomputable def do0_r (c : Nat) (w : Int) : V := (.tup (.cons (.agg (maC1 c w)) (.cons (.agg (.cons (.int true .i64 0) (.cons (.int true .i64 0) .nil))) .nil)))
def do0_p (w : Int) : Prop := pW w
def do0_q (w : Int) : Prop :=
    (chk0_p ∧ ((0 : Int) = (0 : Int) ∧ time_p (0 : Int)) ∧ (0 : Int) = (0 : Int) ∧ time_p (0 : Int)) ∧ (w = w ∧ code0_p w) ∧ (w = w ∧ call0_p w) ∧ (w = w ∧ pk1_p w) ∧ tr0_p ∧ w = w
    ∧ True
theorem do0_ok {w : Int} (h : do0_p w) : do0_q w := by
  have h0 := h
  simp only [do0_p, do0_q, pT, pW, chk0_p, chk1_p, chk2_p, chk3_p, chk4_p, call0_p, call1_p, call2_p, pk1_p, pk2_p, pk3_p, adv_p, code0_p, code1_p, code2_p, code4_p, tr0_p, tr3_p, tr4_p, time_p] at h0 ⊢
  clear h
  all_goals try simp only [beq_self_eq_true, bne_self_eq_false, cond_true, cond_false, Bool.not_true, Bool.not_false, true_and, and_true, implies_true, reduceCtorEq, false_implies, true_implies]
  all_goals (repeat' (first | apply And.intro | intro _))
  all_goals first
    | rfl
    | trivial
    | assumption
    | omega
    | (rename_i hh; simp at hh <;> omega)
    | (simp <;> omega)
noncomputable def f_do0 (c : Nat) : Fam := { ps := [[1, 10]], fam := fun l => do0_a c (l.getD 0 0), pre := fun l => do0_p (l.getD 0 0), res := fun l => do0_r c (l.getD 0 0) }
noncomputable def do1_a (c : Nat) (w : Int) : V := (.cons (.agg (maC1 c w)) (.cons (.agg (.cons (.int true .i64 1) (.cons (.int true .i64 3) (.cons (.int true .i64 0) (.cons (.int true .i64 0) (.cons (.int true .i64 0) (.cons (.bool true false) (.cons .nilsl (.cons (.int true .i64 0) (.cons (.int true .i64 0) (.cons (.int true .i64 1) (.cons (.int true .i64 0) (.cons (.int true .i64 0) (.cons (.int true .i64 0) (.cons (.int true .u32 255) (.cons (.int true .u32 0) (.cons (.int true .i64 0) (.cons (.int true .i64 0) (.cons (.int true .i64 0) (.cons (.int true .i64 0) (.cons (.int true .i64 0) (.cons (.int true .i64 0) (.cons (.int true .i64 0) (.cons (.int true .i64 0) (.cons (.int true .i64 0) (.cons (.int true .u32 0) (.cons (.int true .u32 0) (.cons (.int true .u32 0) (.cons .nilsl (.cons (.int true .i64 0) .nil)))))))))))))))))))))))))))))) .nil))
noncomputable def do1_r (c : Nat) (w : Int) : V := (.tup (.cons (.agg (maC2 c w)) (.cons (.agg (.cons (.int true .i64 0) (.cons (.int true .i64 1) .nil))) .nil)))
def do1_p (w : Int) : Prop := pW w
def do1_q (w : Int) : Prop :=
    ((w = w ∧ chk1_p w) ∧ ((0 : Int) = (0 : Int) ∧ time_p (0 : Int)) ∧ (0 : Int) = (0 : Int) ∧ time_p (0 : Int)) ∧ code1_p ∧ (w = w ∧ call1_p w) ∧ (w = w ∧ w = w ∧ pk2_p w) ∧ tr0_p
    ∧ w = w ∧ w = w ∧ True
theorem do1_ok {w : Int} (h : do1_p w) : do1_q w := by
  have h0 := h
  simp only [do1_p, do1_q, pT, pW, chk0_p, chk1_p, chk2_p, chk3_p, chk4_p, call0_p, call1_p, call2_p, pk1_p, pk2_p, pk3_p, adv_p, code0_p, code1_p, code2_p, code4_p, tr0_p, tr3_p, tr4_p, time_p] at h0 ⊢
  clear h
  all_goals try simp only [beq_self_eq_true, bne_self_eq_false, cond_true, cond_false, Bool.not_true, Bool.not_false, true_and, and_true, implies_true, reduceCtorEq, false_implies, true_implies]
  all_goals (repeat' (first | apply And.intro | intro _))
  all_goals first
    | rfl
    | trivial
    | assumption
    | omega
    | (rename_i hh; simp at hh <;> omega)
    | (simp <;> omega)
noncomputable def f_do1 (c : Nat) : Fam := { ps := [[0, 3, 0, 1]], fam := fun l => do1_a c (l.getD 0 0), pre := fun l => do1_p (l.getD 0 0), res := fun l => do1_r c (l.getD 0 0) }
noncomputable def do2_a (c : Nat) (w : Int) : V := (.cons (.agg (maC2 c w)) (.cons (.agg (.cons (.int true .i64 1) (.cons (.int true .i64 5) (.cons (.int true .i64 1) (.cons (.int true .i64 0) (.cons (.int true .i64 0) (.cons (.bool true false) (.cons .nilsl (.cons (.int true .i64 0) (.cons (.int true .i64 0) (.cons (.int true .i64 0) (.cons (.int true .i64 0) (.cons (.int true .i64 0) (.cons (.int true .i64 0) (.cons (.int true .u32 0) (.cons (.int true .u32 0) (.cons (.int true .i64 0) (.cons (.int true .i64 0) (.cons (.int true .i64 0) (.cons (.int true .i64 0) (.cons (.int true .i64 0) (.cons (.int true .i64 0) (.cons (.int true .i64 0) (.cons (.int true .i64 0) (.cons (.int true .i64 0) (.cons (.int true .u32 0) (.cons (.int true .u32 0) (.cons (.int true .u32 0) (.cons .nilsl (.cons (.int true .i64 0) .nil)))))))))))))))))))))))))))))) .nil))
noncomputable def do2_r (c : Nat) (w : Int) : V := (.tup (.cons (.agg (maC4 c 0 w)) (.cons (.agg (.cons (.int true .i64 0) (.cons (.int true .i64 0) .nil))) .nil)))
def do2_p (w : Int) : Prop := pW w
def do2_q (w : Int) : Prop :=
    ((w = w ∧ w = w ∧ chk2_p w) ∧ ((0 : Int) = (0 : Int) ∧ time_p (0 : Int)) ∧ (0 : Int) = (0 : Int) ∧ time_p (0 : Int)) ∧ code2_p ∧ (w = w ∧ w = w ∧ call2_p w) ∧ (w = w ∧ w = w ∧
    pk3_p w) ∧ tr3_p ∧ (0 : Int) = (0 : Int) ∧ w = w ∧ (0 : Int) = (0 : Int) ∧ w = w ∧ (0 : Int) = (0 : Int) ∧ (0 : Int) = (0 : Int) ∧ (0 : Int) = (0 : Int) ∧ True
theorem do2_ok {w : Int} (h : do2_p w) : do2_q w := by
  have h0 := h
  simp only [do2_p, do2_q, pT, pW, chk0_p, chk1_p, chk2_p, chk3_p, chk4_p, call0_p, call1_p, call2_p, pk1_p, pk2_p, pk3_p, adv_p, code0_p, code1_p, code2_p, code4_p, tr0_p, tr3_p, tr4_p, time_p] at h0 ⊢
  clear h
  all_goals try simp only [beq_self_eq_true, bne_self_eq_false, cond_true, cond_false, Bool.not_true, Bool.not_false, true_and, and_true, implies_true, reduceCtorEq, false_implies, true_implies]
  all_goals (repeat' (first | apply And.intro | intro _))
  all_goals first
    | rfl
    | trivial
    | assumption
    | omega
    | (rename_i hh; simp at hh <;> omega)
    | (simp <;> omega)
noncomputable def f_do2 (c : Nat) : Fam := { ps := [[0, 3, 0, 1]], fam := fun l => do2_a c (l.getD 0 0), pre := fun l => do2_p (l.getD 0 0), res := fun l => do2_r c (l.getD 0 0) }
noncomputable def do4_a (c : Nat) (t w d : Int) : V := (.cons (.agg (maC4 c t w)) (.cons (.agg (.cons (.int true .i64 3) (.cons (.int true .i64 0) (.cons (.int true .i64 0) (.cons (.int true .i64 0) (.cons (.int true .i64 0) (.cons (.bool true false) (.cons .nilsl (.cons (.int true .i64 0) (.cons (.int true .i64 0) (.cons (.int true .i64 0) (.cons (.int true .i64 0) (.cons (.int true .i64 0) (.cons (.int true .i64 0) (.cons (.int true .u32 0) (.cons (.int true .u32 0) (.cons (.int true .i64 0) (.cons (.int true .i64 0) (.cons (.int true .i64 0) (.cons (.int true .i64 0) (.cons (.int true .i64 0) (.cons (.int true .i64 0) (.cons (.int true .i64 0) (.cons (.int true .i64 0) (.cons (.int true .i64 0) (.cons (.int true .u32 0) (.cons (.int true .u32 0) (.cons (.int true .u32 0) (.cons .nilsl (.cons (.int false .i64 d) .nil)))))))))))))))))))))))))))))) .nil))
noncomputable def do4_r (c : Nat) (t w d : Int) : V := (.tup (.cons (.agg (maC4 c (t + d) w)) (.cons (.agg (.cons (.int true .i64 0) (.cons (.int true .i64 0) .nil))) .nil)))
def do4_p (t w d : Int) : Prop := 0 ≤ t ∧ t ≤ 1000000000 ∧ pW w ∧ 1 ≤ d ∧ d ≤ 10000000
def do4_q (t w d : Int) : Prop :=
    ((t = t ∧ w = w ∧ t = t ∧ w = w ∧ t = t ∧ t = t ∧ chk4_p t w) ∧ (t = t ∧ time_p t) ∧ (0 : Int) = (0 : Int) ∧ time_p (0 : Int)) ∧ ((bif bif bif bif bif decide ((0 : Int) > t)
    then true else false then true else false then true else false then true else t != t then true else false) = true → False) ∧ ((bif bif bif bif bif decide ((0 : Int) > t) then
    true else false then true else false then true else false then true else t != t then true else false) = false → (d = d ∧ code4_p d) ∧ (t = t ∧ w = w ∧ t = t ∧ w = w ∧ t = t ∧ t
    = t ∧ d = d ∧ adv_p t w d) ∧ (t = t ∧ t + d = t + d ∧ tr4_p t (t + d)) ∧ t + d = t + d ∧ w = w ∧ t + d = t + d ∧ w = w ∧ t + d = t + d ∧ t + d = t + d ∧ t + d = t + d ∧ True)
theorem do4_ok {t w d : Int} (h : do4_p t w d) : do4_q t w d := by
  have h0 := h
  simp only [do4_p, do4_q, pT, pW, chk0_p, chk1_p, chk2_p, chk3_p, chk4_p, call0_p, call1_p, call2_p, pk1_p, pk2_p, pk3_p, adv_p, code0_p, code1_p, code2_p, code4_p, tr0_p, tr3_p, tr4_p, time_p] at h0 ⊢
  clear h
  all_goals try simp only [beq_self_eq_true, bne_self_eq_false, cond_true, cond_false, Bool.not_true, Bool.not_false, true_and, and_true, implies_true, reduceCtorEq, false_implies, true_implies]
  all_goals (repeat' (first | apply And.intro | intro _))
  all_goals first
    | rfl
    | trivial
    | assumption
    | omega
    | (rename_i hh; simp at hh <;> omega)
    | (simp <;> omega)
noncomputable def f_do4 (c : Nat) : Fam := { ps := [[0, 0], [0, 3, 0, 1], [1, 28]], fam := fun l => do4_a c (l.getD 0 0) (l.getD 1 0) (l.getD 2 0), pre := fun l => do4_p (l.getD 0 0) (l.getD 1 0) (l.getD 2 0), res := fun l => do4_r c (l.getD 0 0) (l.getD 1 0) (l.getD 2 0) }
noncomputable def flat1_a (c : Nat)  : V := (.cons (.int true .i64 (c : Int)) .nil)
noncomputable def flat1_r (c : Nat)  : V := (.agg (.cons (seatsV c) .nil))
def flat1_p  : Prop := True
def flat1_q  : Prop :=
    True
theorem flat1_ok (h : flat1_p) : flat1_q := trivial
noncomputable def f_flat1 (c : Nat) : Fam := { ps := [], fam := fun l => flat1_a c , pre := fun l => flat1_p , res := fun l => flat1_r c  }
noncomputable def new_a (c : Nat)  : V := (.cons (.agg (.cons (seatsV c) .nil)) .nil)
noncomputable def new_r (c : Nat)  : V := (.tup (.cons (.agg (maC0 c)) (.cons (.int true .i64 0) .nil)))
def new_p  : Prop := True
def new_q  : Prop :=
    (((0 : Int) = (0 : Int) ∧ time_p (0 : Int)) ∧ (0 : Int) = (0 : Int) ∧ time_p (0 : Int)) ∧ True
theorem new_ok (h : new_p) : new_q := by
  have h0 := h
  simp only [new_p, new_q, pT, pW, time_p, pT] at h0 ⊢
  clear h
  all_goals try simp only [beq_self_eq_true, bne_self_eq_false, cond_true, cond_false, Bool.not_true, Bool.not_false, true_and, and_true, implies_true, reduceCtorEq, false_implies, true_implies]
  all_goals (repeat' (first | apply And.intro | intro _))
  all_goals first
    | rfl
    | trivial
    | assumption
    | omega
    | (rename_i hh; simp at hh <;> omega)
    | (simp <;> omega)
noncomputable def f_new (c : Nat) : Fam := { ps := [], fam := fun l => new_a c , pre := fun l => new_p , res := fun l => new_r c  }
noncomputable def ran_a (c : Nat) (t w : Int) : V := (.cons (.agg (maC4 c t w)) (.cons (.int true .i64 1) .nil))
noncomputable def ran_r (c : Nat) (t w : Int) : V := (.tup (.cons (.int false .i64 t) (.cons (.int true .i64 0) .nil)))
def ran_p (t w : Int) : Prop := 0 ≤ t ∧ t ≤ 1000000000 ∧ pW w
def ran_q (t w : Int) : Prop :=
    ((t = t ∧ w = w ∧ t = t ∧ w = w ∧ t = t ∧ t = t ∧ chk4_p t w) ∧ (t = t ∧ time_p t) ∧ (0 : Int) = (0 : Int) ∧ time_p (0 : Int)) ∧ ((bif bif bif bif bif decide ((0 : Int) > t)
    then true else false then true else false then true else false then true else t != t then true else false) = true → False) ∧ ((bif bif bif bif bif decide ((0 : Int) > t) then
    true else false then true else false then true else false then true else t != t then true else false) = false → (t = t ∧ w = w ∧ t = t ∧ w = w ∧ t = t ∧ t = t ∧ chk4_p t w) ∧ t
    = t ∧ True)
theorem ran_ok {t w : Int} (h : ran_p t w) : ran_q t w := by
  have h0 := h
  simp only [ran_p, ran_q, pT, pW, time_p, chk0_p, chk1_p, chk2_p, chk3_p, chk4_p] at h0 ⊢
  clear h
  all_goals try simp only [beq_self_eq_true, bne_self_eq_false, cond_true, cond_false, Bool.not_true, Bool.not_false, true_and, and_true, implies_true, reduceCtorEq, false_implies, true_implies]
  all_goals (repeat' (first | apply And.intro | intro _))
  all_goals first
    | rfl
    | trivial
    | assumption
    | omega
    | (rename_i hh; simp at hh <;> omega)
    | (simp <;> omega)
noncomputable def f_ran (c : Nat) : Fam := { ps := [[0, 0], [0, 3, 0, 1]], fam := fun l => ran_a c (l.getD 0 0) (l.getD 1 0), pre := fun l => ran_p (l.getD 0 0) (l.getD 1 0), res := fun l => ran_r c (l.getD 0 0) (l.getD 1 0) }
noncomputable def c_chk (c : Nat) : Con := famCon 18 [f_chk0 c, f_chk1 c, f_chk2 c, f_chk3 c, f_chk4 c]
noncomputable def c_best (c : Nat) : Con := famCon 599 [f_bestm c, f_bestz c]
noncomputable def c_call (c : Nat) : Con := famCon 59 [f_call0 c, f_call1 c, f_call2 c]
noncomputable def c_pk (c : Nat) : Con := famCon 95 [f_pk1 c, f_pk2 c, f_pk3 c]
noncomputable def c_adv (c : Nat) : Con := famCon 62 [f_adv c]
noncomputable def c_do (c : Nat) : Con := famCon 10 [f_do0 c, f_do1 c, f_do2 c, f_do4 c]
noncomputable def c_flat (c : Nat) : Con := famCon 7 [f_flat1 c]
noncomputable def c_new (c : Nat) : Con := famCon 9 [f_new c]
noncomputable def c_ran (c : Nat) : Con := famCon 8 [f_ran c]
end Go.Proofs.YtdgjneondmmgdaaGreatDoor
