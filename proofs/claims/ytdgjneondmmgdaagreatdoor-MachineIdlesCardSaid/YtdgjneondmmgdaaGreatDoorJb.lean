/- Facts on fractions. Products of fractions' numbers. Fractions over one weight. Who is not behind. Who is raised. -/
import Derived.Test.YtdgjneondmmgdaaGreatDoorWa
import Derived.Test.YtdgjneondmmgdaaGreatDoorJa
set_option linter.unusedSimpArgs false
set_option linter.unusedVariables false
namespace Go.Proofs.YtdgjneondmmgdaaGreatDoor
open Go.Fw
set_option maxRecDepth 100000
set_option linter.unusedVariables false
set_option linter.unusedSimpArgs false
open Go.Fw.Wd
noncomputable def mulN (x y : Int) : Nat := seal_ (x.toNat * y.toNat)
theorem mulN_eq (x y : Int) : mulN x y = x.toNat * y.toNat := seal_eq _
theorem scaled_one {N m : Nat} : scaledZ N m 1 true = N * m := by
  rw [scaledZ_eq, Nat.mod_one, Nat.div_one]; rfl
theorem mulN_lt {x y : Int} (h : u64 x ∧ u64 y) : mulN x y < 340282366920938463463374607431768211456 := by
  unfold u64 at h
  rw [mulN_eq]
  have h1 : x.toNat < 18446744073709551616 := by omega
  have h2 : y.toNat < 18446744073709551616 := by omega
  have h3 := Nat.mul_lt_mul'' h1 h2
  omega
end Go.Proofs.YtdgjneondmmgdaaGreatDoor
namespace Go.Proofs.YtdgjneondmmgdaaGreatDoor
open Go.Fw
set_option maxRecDepth 100000
set_option linter.unusedVariables false
set_option linter.unusedSimpArgs false
open Go.Fw.Wd
/- a number times a weight -/
noncomputable def ft_a (x w : Int) : V := (.cons (.agg (.cons (.int true .u64 0) (.cons (.int false .u64 x) .nil))) (.cons (.int false .u64 w) .nil))
noncomputable def ft_r (x w : Int) : V := (.agg (.cons (.int false .u64 (hiN (mulN x w))) (.cons (.int false .u64 (loN (mulN x w))) .nil)))
def ft_p (x w : Int) : Prop := u64 x ∧ pW w

theorem ft_ask (x w : Int) : askK (ft_r x w) (evFnS (envL P [c_scaled] [] true) (gsOf [c_scaled]) 400 582 (ft_a x w)) Bx.mk = ⟨
    ((u64 (0 : Int) ∧ u64 x) ∧ u64 w ∧ (0 : Int) < (1 : Int) ∧ (1 : Int) < (18446744073709551616 : Int)) ∧ (bif fitsW (scaledZ (w128 (0 : Int) x) (Int.toNat w) (Int.toNat (1 :
    Int)) true) then hiN (scaledZ (w128 (0 : Int) x) (Int.toNat w) (Int.toNat (1 : Int)) true) else (0 : Int)) = hiN (mulN x w) ∧ (bif fitsW (scaledZ (w128 (0 : Int) x) (Int.toNat
    w) (Int.toNat (1 : Int)) true) then loN (scaledZ (w128 (0 : Int) x) (Int.toNat w) (Int.toNat (1 : Int)) true) else (0 : Int)) = loN (mulN x w) ∧ True⟩ := by kernel_rfl
theorem ft_meets {x w : Int} (h : ft_p x w) : Meets P 582 (ft_a x w) (ft_r x w) :=
  meets_ask (E := envL P [c_scaled] [] true) (gs := gsOf [c_scaled]) envL_among (en_ok (l := [c_scaled]) ⟨c_scaled_ok, trivial⟩) 400 (Has.of hn Tryz.func582 rfl) (ft_ask x w) (by
    unfold ft_p pW at h
    obtain ⟨h1, h2⟩ := h
    have h3 : u64 w := by unfold u64; omega
    have e0 : w128 0 x = x.toNat := by rw [w128_eq]; simp
    have e1 : scaledZ (w128 0 x) w.toNat (1 : Int).toNat true = mulN x w := by rw [e0, mulN_eq]; exact scaled_one
    have e2 : fitsW (mulN x w) = true := by rw [fitsW_eq]; exact decide_eq_true (mulN_lt ⟨h1, h3⟩)
    simp only [e1, e2]
    refine ⟨⟨⟨by decide, h1⟩, h3, by decide, by decide⟩, ?_⟩
    exact ⟨rfl, rfl, trivial⟩)
noncomputable def f_ft : Fam := { ps := [[0, 1], [1]], fam := fun l => ft_a (l.getD 0 0) (l.getD 1 0), pre := fun l => ft_p (l.getD 0 0) (l.getD 1 0), res := fun l => ft_r (l.getD 0 0) (l.getD 1 0) }
theorem f_ft_ok : f_ft.Ok P 582 := fun l h => ft_meets h
noncomputable def c_ft : Con := famCon 582 [f_ft]
theorem c_ft_ok : c_ft.Ok P := famCon_ok ⟨f_ft_ok, trivial⟩
/- a product -/
theorem ml_ask (x y : Int) (N Y : Nat) : askK ((.agg (.cons (.int false .u64 (Y / 18446744073709551616 % 18446744073709551616 : Nat)) (.cons (.int false .u64 (Y % 18446744073709551616 : Nat)) .nil)))) (evFnS (envL P [k_of 0 x N, k_times N y Y 0 1, k_wide Y] [] true) (gsOf [k_of 0 x N, k_times N y Y 0 1, k_wide Y]) 400 584 ((.cons (.int false .u64 x) (.cons (.int false .u64 y) .nil)))) Bx.mk = ⟨
    ((0 : Int) = (0 : Int) ∧ x = x) ∧ ([((dig (0 : Nat) N : Nat) : Int), ((dig (1 : Nat) N : Nat) : Int), ((dig (2 : Nat) N : Nat) : Int), ((dig (3 : Nat) N : Nat) : Int), ((dig (4
    : Nat) N : Nat) : Int), ((dig (5 : Nat) N : Nat) : Int), ((dig (6 : Nat) N : Nat) : Int)] = parts N ∧ y = y ∧ (0 : Int) = (0 : Int)) ∧ [((dig (0 : Nat) Y : Nat) : Int), ((dig
    (1 : Nat) Y : Nat) : Int), ((dig (2 : Nat) Y : Nat) : Int), ((dig (3 : Nat) Y : Nat) : Int), ((dig (4 : Nat) Y : Nat) : Int), ((dig (5 : Nat) Y : Nat) : Int), ((dig (6 : Nat) Y
    : Nat) : Int)] = parts Y ∧ ((Y / (18446744073709551616 : Nat) % (18446744073709551616 : Nat) : Nat) : Int) = ((Y / (18446744073709551616 : Nat) % (18446744073709551616 : Nat) :
    Nat) : Int) ∧ ((Y % (18446744073709551616 : Nat) : Nat) : Int) = ((Y % (18446744073709551616 : Nat) : Nat) : Int) ∧ True⟩ := by kernel_rfl
noncomputable def ml_a (x y : Int) : V := (.cons (.int false .u64 x) (.cons (.int false .u64 y) .nil))
noncomputable def ml_r (x y : Int) : V := (.agg (.cons (.int false .u64 (hiN (mulN x y))) (.cons (.int false .u64 (loN (mulN x y))) .nil)))
def ml_p (x y : Int) : Prop := u64 x ∧ u64 y
theorem ml_meets {x y : Int} (h : ml_p x y) : Meets P 584 (ml_a x y) (ml_r x y) := by
  obtain ⟨h1, h2⟩ := h
  have hN : w128 0 x = x.toNat := by rw [w128_eq]; simp
  have hY := mulN_lt ⟨h1, h2⟩
  have e7 : B ^ 7 = 26959946667150639794667015087019630673637144422540572481103610249216 := by decide
  have hx : x.toNat < 18446744073709551616 := by unfold u64 at h1; omega
  have := meets_ask (E := envL P [k_of 0 x (w128 0 x), k_times (w128 0 x) y (mulN x y) 0 1, k_wide (mulN x y)] [] true) (gs := gsOf [k_of 0 x (w128 0 x), k_times (w128 0 x) y (mulN x y) 0 1, k_wide (mulN x y)]) envL_among
    (en_ok (l := [k_of 0 x (w128 0 x), k_times (w128 0 x) y (mulN x y) 0 1, k_wide (mulN x y)]) ⟨k_of_ok ⟨by decide, h1⟩ rfl, k_times_ok h2 (by rw [hN, e7]; omega) (by rw [e7]; decide) (by rw [hN, mulN_eq]; rfl) rfl, k_wide_ok (by rw [e7]; omega), trivial⟩)
    400 (Has.of hn Tryz.func584 rfl) (ml_ask x y (w128 0 x) (mulN x y)) ⟨⟨rfl, rfl⟩, ⟨rfl, rfl, rfl⟩, rfl, rfl, rfl, trivial⟩
  have e1 : mulN x y / 18446744073709551616 % 18446744073709551616 = mulN x y / 18446744073709551616 := Nat.mod_eq_of_lt (Nat.div_lt_of_lt_mul (by omega))
  rw [e1] at this
  unfold ml_r
  rw [hiN_eq, loN_eq]
  exact this
noncomputable def f_ml : Fam := { ps := [[0], [1]], fam := fun l => ml_a (l.getD 0 0) (l.getD 1 0), pre := fun l => ml_p (l.getD 0 0) (l.getD 1 0), res := fun l => ml_r (l.getD 0 0) (l.getD 1 0) }
theorem f_ml_ok : f_ml.Ok P 584 := fun l h => ml_meets h
noncomputable def c_ml : Con := famCon 584 [f_ml]
theorem c_ml_ok : c_ml.Ok P := famCon_ok ⟨f_ml_ok, trivial⟩
end Go.Proofs.YtdgjneondmmgdaaGreatDoor
namespace Go.Proofs.YtdgjneondmmgdaaGreatDoor
open Go.Fw
set_option maxRecDepth 100000
set_option linter.unusedVariables false
set_option linter.unusedSimpArgs false
open Go.Fw.Wd
theorem hl_eq (Z : Nat) (h : Z < 340282366920938463463374607431768211456) : w128 (hiN Z) (loN Z) = Z := by
  rw [w128_eq, hiN_eq, loN_eq]; omega
theorem hl_u64 {Z : Nat} (h : Z < 340282366920938463463374607431768211456) : u64 (hiN Z) ∧ u64 (loN Z) := by
  unfold u64; rw [hiN_eq, loN_eq]; omega
theorem cmpN_nn {x y : Nat} (h : y ≤ x) : ¬ cmpN x y < 0 := by
  unfold cmpN; rw [seal_eq]; unfold cmpI
  repeat' split
  all_goals omega
theorem cmpN_self (x : Nat) : cmpN x x = 0 := by
  unfold cmpN; rw [seal_eq]; unfold cmpI
  repeat' split
  all_goals omega
noncomputable def floorI (x w : Int) : Int := seal_ (if x < 268435456 * w then 0 else x - 268435456 * w)
theorem floorI_eq (x w : Int) : floorI x w = if x < 268435456 * w then 0 else x - 268435456 * w := seal_eq _
/- how fractions stand -/
noncomputable def fcmp_a (x w y : Int) : V := (.cons (.agg (.cons (.int true .u64 0) (.cons (.int false .u64 x) (.cons (.int false .u64 w) .nil)))) (.cons (.agg (.cons (.int true .u64 0) (.cons (.int false .u64 y) (.cons (.int false .u64 w) .nil)))) .nil))
noncomputable def fcmp_r (x w y : Int) : V := (.int false .i64 (cmpN (mulN x w) (mulN y w)))
def fcmp_p (x w y : Int) : Prop := u64 x ∧ u64 y ∧ pW w

theorem fcmp_ask (x w y : Int) : askK (fcmp_r x w y) (evFnS (envL P [c_weight, c_ft, c_wcmp] [] true) (gsOf [c_weight, c_ft, c_wcmp]) 400 534 (fcmp_a x w y)) Bx.mk = ⟨
    ((w = w ∧ weight_p w) ∧ w = w ∧ weight_p w) ∧ (x = x ∧ w = w ∧ ft_p x w) ∧ (y = y ∧ w = w ∧ ft_p y w) ∧ ((u64 (hiN (mulN x w)) ∧ u64 (loN (mulN x w))) ∧ u64 (hiN (mulN y w)) ∧
    u64 (loN (mulN y w))) ∧ cmpN (w128 (hiN (mulN x w)) (loN (mulN x w))) (w128 (hiN (mulN y w)) (loN (mulN y w))) = cmpN (mulN x w) (mulN y w) ∧ True⟩ := by kernel_rfl
theorem fcmp_meets {x w y : Int} (h : fcmp_p x w y) : Meets P 534 (fcmp_a x w y) (fcmp_r x w y) :=
  meets_ask (E := envL P [c_weight, c_ft, c_wcmp] [] true) (gs := gsOf [c_weight, c_ft, c_wcmp]) envL_among (en_ok (l := [c_weight, c_ft, c_wcmp]) ⟨c_weight_ok, c_ft_ok, c_wcmp_ok, trivial⟩) 400 (Has.of hn Tryz.func534 rfl) (fcmp_ask x w y) (by
    unfold fcmp_p at h
    obtain ⟨h1, h2, h3⟩ := h
    have h4 : u64 w := by unfold pW at h3; unfold u64; omega
    have l1 := mulN_lt ⟨h1, h4⟩
    have l2 := mulN_lt ⟨h2, h4⟩
    rw [hl_eq _ l1, hl_eq _ l2]
    exact ⟨⟨⟨rfl, h3⟩, rfl, h3⟩, ⟨rfl, rfl, h1, h3⟩, ⟨rfl, rfl, h2, h3⟩, ⟨hl_u64 l1, hl_u64 l2⟩, rfl, trivial⟩)
noncomputable def f_fcmp : Fam := { ps := [[0, 1], [0, 2], [1, 1]], fam := fun l => fcmp_a (l.getD 0 0) (l.getD 1 0) (l.getD 2 0), pre := fun l => fcmp_p (l.getD 0 0) (l.getD 1 0) (l.getD 2 0), res := fun l => fcmp_r (l.getD 0 0) (l.getD 1 0) (l.getD 2 0) }
theorem f_fcmp_ok : f_fcmp.Ok P 534 := fun l h => fcmp_meets h
noncomputable def c_fcmp : Con := famCon 534 [f_fcmp]
theorem c_fcmp_ok : c_fcmp.Ok P := famCon_ok ⟨f_fcmp_ok, trivial⟩
/- so much below -/
noncomputable def floor_a (x w : Int) : V := (.cons (.agg (.cons (.int true .u64 0) (.cons (.int false .u64 x) (.cons (.int false .u64 w) .nil)))) (.cons (.int true .u64 268435456) .nil))
noncomputable def floor_r (x w : Int) : V := (.agg (.cons (.int true .u64 0) (.cons (.int false .u64 (floorI x w)) (.cons (.int false .u64 w) .nil))))
def floor_p (x w : Int) : Prop := u64 x ∧ pW w
noncomputable def floor_q (x w : Int) : V := (.agg (.cons (.int false .u64 0) (.cons (.int false .u64 (floorI x w)) (.cons (.int false .u64 w) .nil))))

theorem floor_ask (x w : Int) : askK (floor_q x w) (evFnS (envL P [c_ml, c_wcmp] [] true) (gsOf [c_ml, c_wcmp]) 400 536 (floor_a x w)) Bx.mk = ⟨
    ((268435456 : Int) = (268435456 : Int) ∧ w = w ∧ ml_p (268435456 : Int) w) ∧ ((u64 (0 : Int) ∧ u64 x) ∧ u64 (hiN (mulN (268435456 : Int) w)) ∧ u64 (loN (mulN (268435456 : Int)
    w))) ∧ ((bif decide (cmpN (w128 (0 : Int) x) (w128 (hiN (mulN (268435456 : Int) w)) (loN (mulN (268435456 : Int) w))) < (0 : Int)) then true else false) = true → (0 : Int) = (0
    : Int) ∧ (0 : Int) = floorI x w ∧ w = w ∧ True) ∧ ((bif decide (cmpN (w128 (0 : Int) x) (w128 (hiN (mulN (268435456 : Int) w)) (loN (mulN (268435456 : Int) w))) < (0 : Int))
    then true else false) = false → (bif decide (x < loN (mulN (268435456 : Int) w)) then IntKind.wrap IntKind.u64 (IntKind.wrap IntKind.u64 ((0 : Int) - hiN (mulN (268435456 :
    Int) w)) - (1 : Int)) else IntKind.wrap IntKind.u64 ((0 : Int) - hiN (mulN (268435456 : Int) w))) = (0 : Int) ∧ (bif decide (x < loN (mulN (268435456 : Int) w)) then
    IntKind.wrap IntKind.u64 (x - loN (mulN (268435456 : Int) w)) else IntKind.wrap IntKind.u64 (x - loN (mulN (268435456 : Int) w))) = floorI x w ∧ w = w ∧ True)⟩ := by kernel_rfl
theorem floor_meets {x w : Int} (h : floor_p x w) : Meets P 536 (floor_a x w) (floor_r x w) :=
  Meets.res (v := floor_q x w) (meets_ask (E := envL P [c_ml, c_wcmp] [] true) (gs := gsOf [c_ml, c_wcmp]) envL_among (en_ok (l := [c_ml, c_wcmp]) ⟨c_ml_ok, c_wcmp_ok, trivial⟩) 400 (Has.of hn Tryz.func536 rfl) (floor_ask x w) (by
    unfold floor_p at h
    obtain ⟨h1, h3⟩ := h
    have h4 : u64 w := by unfold pW at h3; unfold u64; omega
    have hs : u64 (268435456 : Int) := by unfold u64; omega
    have em : mulN (268435456 : Int) w = 268435456 * w.toNat := mulN_eq _ _
    unfold pW at h3
    have h1' := h1
    unfold u64 at h1'
    have hlo : loN (mulN 268435456 w) = 268435456 * w := by rw [loN_eq, em]; omega
    have hhi : hiN (mulN 268435456 w) = 0 := by rw [hiN_eq, em]; omega
    have hm : u64 (268435456 * w) := by unfold u64; omega
    have h0 : u64 0 := by unfold u64; omega
    have hc : cmpN (w128 0 x) (w128 0 (268435456 * w)) < 0 ↔ x < 268435456 * w := by
      rw [w128_eq, w128_eq]; unfold cmpN; rw [seal_eq]; unfold cmpI
      repeat' split
      all_goals omega
    rw [hlo, hhi]
    refine ⟨⟨rfl, rfl, hs, h4⟩, ⟨⟨h0, h1⟩, h0, hm⟩, fun hh => ?_, fun hh => ?_⟩
    · have hx : x < 268435456 * w := hc.1 (by simpa using hh)
      exact ⟨rfl, by rw [floorI_eq, if_pos hx], rfl, trivial⟩
    · have hx : ¬ x < 268435456 * w := fun k => by have := hc.2 k; simp [this] at hh
      have d : decide (x < 268435456 * w) = false := decide_eq_false hx
      rw [d]
      refine ⟨by decide, ?_, rfl, trivial⟩
      show IntKind.wrap IntKind.u64 (x - 268435456 * w) = _
      rw [floorI_eq, if_neg hx]
      exact wu64 (by omega))) rfl
noncomputable def f_floor : Fam := { ps := [[0, 1], [0, 2]], fam := fun l => floor_a (l.getD 0 0) (l.getD 1 0), pre := fun l => floor_p (l.getD 0 0) (l.getD 1 0), res := fun l => floor_r (l.getD 0 0) (l.getD 1 0) }
theorem f_floor_ok : f_floor.Ok P 536 := fun l h => floor_meets h
noncomputable def c_floor : Con := famCon 536 [f_floor]
theorem c_floor_ok : c_floor.Ok P := famCon_ok ⟨f_floor_ok, trivial⟩
/- more of it -/
noncomputable def fadd_a (x w n : Int) : V := (.cons (.agg (.cons (.int true .u64 0) (.cons (.int false .u64 x) (.cons (.int false .u64 w) .nil)))) (.cons (.int false .u64 n) .nil))
noncomputable def fadd_r (x w n : Int) : V := (.tup (.cons (.agg (.cons (.int true .u64 0) (.cons (.int false .u64 (x + n)) (.cons (.int false .u64 w) .nil)))) (.cons (.int true .i64 0) .nil)))
def fadd_p (x w n : Int) : Prop := 0 ≤ x ∧ 0 ≤ n ∧ x + n < 4611686018427387904 ∧ pW w
noncomputable def fadd_q (x w n : Int) : V := (.tup (.cons (.agg (.cons (.int false .u64 0) (.cons (.int false .u64 (x + n)) (.cons (.int false .u64 w) .nil)))) (.cons (.int true .i64 0) .nil)))

theorem fadd_ask (x w n : Int) : askK (fadd_q x w n) (evFnS (envL P [c_weight, c_wcmp] [] true) (gsOf [c_weight, c_wcmp]) 400 356 (fadd_a x w n)) Bx.mk = ⟨
    (w = w ∧ weight_p w) ∧ ((u64 (bif decide (IntKind.wrap IntKind.u64 (x + n) < x) then (1 : Int) else Int.ofNat (0 : Nat)) ∧ u64 (bif decide (IntKind.wrap IntKind.u64 (x + n) <
    x) then IntKind.wrap IntKind.u64 (x + n) else IntKind.wrap IntKind.u64 (x + n))) ∧ u64 (0 : Int) ∧ u64 x) ∧ ((bif bif decide (cmpN (w128 (bif decide (IntKind.wrap IntKind.u64
    (x + n) < x) then (1 : Int) else Int.ofNat (0 : Nat)) (bif decide (IntKind.wrap IntKind.u64 (x + n) < x) then IntKind.wrap IntKind.u64 (x + n) else IntKind.wrap IntKind.u64 (x
    + n))) (w128 (0 : Int) x) < (0 : Int)) then true else decide ((bif decide (IntKind.wrap IntKind.u64 (x + n) < x) then (1 : Int) else Int.ofNat (0 : Nat)) < (0 : Int)) then true
    else false) = true → False) ∧ ((bif bif decide (cmpN (w128 (bif decide (IntKind.wrap IntKind.u64 (x + n) < x) then (1 : Int) else Int.ofNat (0 : Nat)) (bif decide (IntKind.wrap
    IntKind.u64 (x + n) < x) then IntKind.wrap IntKind.u64 (x + n) else IntKind.wrap IntKind.u64 (x + n))) (w128 (0 : Int) x) < (0 : Int)) then true else decide ((bif decide
    (IntKind.wrap IntKind.u64 (x + n) < x) then (1 : Int) else Int.ofNat (0 : Nat)) < (0 : Int)) then true else false) = false → ((bif decide ((bif decide (IntKind.wrap IntKind.u64
    (x + n) < x) then (1 : Int) else Int.ofNat (0 : Nat)) ≥ (68719476736 : Int)) then true else false) = true → False) ∧ ((bif decide ((bif decide (IntKind.wrap IntKind.u64 (x + n)
    < x) then (1 : Int) else Int.ofNat (0 : Nat)) ≥ (68719476736 : Int)) then true else false) = false → (bif decide (IntKind.wrap IntKind.u64 (x + n) < x) then (1 : Int) else
    Int.ofNat (0 : Nat)) = (0 : Int) ∧ (bif decide (IntKind.wrap IntKind.u64 (x + n) < x) then IntKind.wrap IntKind.u64 (x + n) else IntKind.wrap IntKind.u64 (x + n)) = x + n ∧ w =
    w ∧ True))⟩ := by kernel_rfl
theorem fadd_meets {x w n : Int} (h : fadd_p x w n) : Meets P 356 (fadd_a x w n) (fadd_r x w n) :=
  Meets.res (v := fadd_q x w n) (meets_ask (E := envL P [c_weight, c_wcmp] [] true) (gs := gsOf [c_weight, c_wcmp]) envL_among (en_ok (l := [c_weight, c_wcmp]) ⟨c_weight_ok, c_wcmp_ok, trivial⟩) 400 (Has.of hn Tryz.func356 rfl) (fadd_ask x w n) (by
    unfold fadd_p at h
    obtain ⟨h1, h2, h3, h5⟩ := h
    have e1 : IntKind.wrap IntKind.u64 (x + n) = x + n := wu64 (by omega)
    have d1 : decide (x + n < x) = false := decide_eq_false (by omega)
    have e2 : (Int.ofNat 0 : Int) = 0 := rfl
    have c1 : decide (cmpN (w128 0 (x + n)) (w128 0 x) < 0) = false := decide_eq_false (cmpN_nn (by rw [w128_eq, w128_eq]; omega))
    have u0 : u64 0 := by unfold u64; omega
    have u1 : u64 x := by unfold u64; omega
    have u2 : u64 (x + n) := by unfold u64; omega
    simp only [e1, d1, e2, cond_false, c1]
    refine ⟨⟨by trivial, h5⟩, ⟨⟨u0, u2⟩, u0, u1⟩, fun hh => by simp at hh, fun _ => ⟨fun hh => by simp at hh, fun _ => by simp⟩⟩)) rfl
noncomputable def f_fadd : Fam := { ps := [[0, 1], [0, 2], [1]], fam := fun l => fadd_a (l.getD 0 0) (l.getD 1 0) (l.getD 2 0), pre := fun l => fadd_p (l.getD 0 0) (l.getD 1 0) (l.getD 2 0), res := fun l => fadd_r (l.getD 0 0) (l.getD 1 0) (l.getD 2 0) }
theorem f_fadd_ok : f_fadd.Ok P 356 := fun l h => fadd_meets h
noncomputable def c_fadd : Con := famCon 356 [f_fadd]
theorem c_fadd_ok : c_fadd.Ok P := famCon_ok ⟨f_fadd_ok, trivial⟩
/- a fraction against itself -/
noncomputable def fcmp0_a (x w : Int) : V := (.cons (.agg (.cons (.int true .u64 0) (.cons (.int false .u64 x) (.cons (.int false .u64 w) .nil)))) (.cons (.agg (.cons (.int true .u64 0) (.cons (.int false .u64 x) (.cons (.int false .u64 w) .nil)))) .nil))
noncomputable def fcmp0_r (x w : Int) : V := (.int true .i64 0)
def fcmp0_p (x w : Int) : Prop := u64 x ∧ pW w
noncomputable def fcmp0_q (x w : Int) : V := (.int false .i64 0)

theorem fcmp0_ask (x w : Int) : askK (fcmp0_q x w) (evFnS (envL P [c_weight, c_ft, c_wcmp] [] true) (gsOf [c_weight, c_ft, c_wcmp]) 400 534 (fcmp0_a x w)) Bx.mk = ⟨
    ((w = w ∧ weight_p w) ∧ w = w ∧ weight_p w) ∧ (x = x ∧ w = w ∧ ft_p x w) ∧ (x = x ∧ w = w ∧ ft_p x w) ∧ ((u64 (hiN (mulN x w)) ∧ u64 (loN (mulN x w))) ∧ u64 (hiN (mulN x w)) ∧
    u64 (loN (mulN x w))) ∧ cmpN (w128 (hiN (mulN x w)) (loN (mulN x w))) (w128 (hiN (mulN x w)) (loN (mulN x w))) = (0 : Int) ∧ True⟩ := by kernel_rfl
theorem fcmp0_meets {x w : Int} (h : fcmp0_p x w) : Meets P 534 (fcmp0_a x w) (fcmp0_r x w) :=
  Meets.res (v := fcmp0_q x w) (meets_ask (E := envL P [c_weight, c_ft, c_wcmp] [] true) (gs := gsOf [c_weight, c_ft, c_wcmp]) envL_among (en_ok (l := [c_weight, c_ft, c_wcmp]) ⟨c_weight_ok, c_ft_ok, c_wcmp_ok, trivial⟩) 400 (Has.of hn Tryz.func534 rfl) (fcmp0_ask x w) (by
    unfold fcmp0_p at h
    obtain ⟨h1, h3⟩ := h
    have h4 : u64 w := by unfold pW at h3; unfold u64; omega
    have l1 := mulN_lt ⟨h1, h4⟩
    rw [hl_eq _ l1, cmpN_self]
    exact ⟨⟨⟨rfl, h3⟩, rfl, h3⟩, ⟨rfl, rfl, h1, h3⟩, ⟨rfl, rfl, h1, h3⟩, ⟨hl_u64 l1, hl_u64 l1⟩, rfl, trivial⟩)) rfl
noncomputable def f_fcmp0 : Fam := { ps := [[0, 1], [0, 2]], fam := fun l => fcmp0_a (l.getD 0 0) (l.getD 1 0), pre := fun l => fcmp0_p (l.getD 0 0) (l.getD 1 0), res := fun l => fcmp0_r (l.getD 0 0) (l.getD 1 0) }
theorem f_fcmp0_ok : f_fcmp0.Ok P 534 := fun l h => fcmp0_meets h
noncomputable def c_fcmp0 : Con := famCon 534 [f_fcmp0]
theorem c_fcmp0_ok : c_fcmp0.Ok P := famCon_ok ⟨f_fcmp0_ok, trivial⟩
end Go.Proofs.YtdgjneondmmgdaaGreatDoor
namespace Go.Proofs.YtdgjneondmmgdaaGreatDoor
open Go.Fw
set_option maxRecDepth 100000
set_option linter.unusedVariables false
set_option linter.unusedSimpArgs false
open Go.Fw.Wd
/- none is behind itself -/
noncomputable def behind_a (x w : Int) : V := (.cons (.agg (.cons (.int true .u64 0) (.cons (.int false .u64 x) (.cons (.int false .u64 w) .nil)))) (.cons (.agg (.cons (.int true .u64 0) (.cons (.int false .u64 x) (.cons (.int false .u64 w) .nil)))) (.cons (.int true .u64 268435456) .nil)))
noncomputable def behind_r (x w : Int) : V := (.bool true false)
def behind_p (x w : Int) : Prop := u64 x ∧ pW w
noncomputable def behind_q (x w : Int) : V := (.bool false false)

theorem behind_ask (x w : Int) : askK (behind_q x w) (evFnS (envL P [c_weight, c_floor, c_fcmp] [] true) (gsOf [c_weight, c_floor, c_fcmp]) 400 535 (behind_a x w)) Bx.mk = ⟨
    (((w = w ∧ weight_p w) ∧ w = w ∧ weight_p w) ∧ (x = x ∧ w = w ∧ floor_p x w) ∧ x = x ∧ w = w ∧ floorI x w = floorI x w ∧ w = w ∧ fcmp_p x w (floorI x w)) ∧ decide (cmpN (mulN x
    w) (mulN (floorI x w) w) < (0 : Int)) = false ∧ True⟩ := by kernel_rfl
theorem behind_meets {x w : Int} (h : behind_p x w) : Meets P 535 (behind_a x w) (behind_r x w) :=
  Meets.res (v := behind_q x w) (meets_ask (E := envL P [c_weight, c_floor, c_fcmp] [] true) (gs := gsOf [c_weight, c_floor, c_fcmp]) envL_among (en_ok (l := [c_weight, c_floor, c_fcmp]) ⟨c_weight_ok, c_floor_ok, c_fcmp_ok, trivial⟩) 400 (Has.of hn Tryz.func535 rfl) (behind_ask x w) (by
    unfold behind_p at h
    obtain ⟨h1, h3⟩ := h
    have h1' := h1
    have h3' := h3
    unfold u64 at h1'
    unfold pW at h3'
    have hf : 0 ≤ floorI x w ∧ floorI x w ≤ x := by rw [floorI_eq]; split <;> omega
    have h5 : u64 (floorI x w) := by unfold u64; omega
    refine ⟨⟨⟨⟨rfl, h3⟩, rfl, h3⟩, ⟨rfl, rfl, h1, h3⟩, rfl, rfl, rfl, rfl, h1, h5, h3⟩, ?_, trivial⟩
    exact decide_eq_false (cmpN_nn (by rw [mulN_eq, mulN_eq]; exact Nat.mul_le_mul_right _ (by omega))))) rfl
noncomputable def f_behind : Fam := { ps := [[0, 1], [0, 2]], fam := fun l => behind_a (l.getD 0 0) (l.getD 1 0), pre := fun l => behind_p (l.getD 0 0) (l.getD 1 0), res := fun l => behind_r (l.getD 0 0) (l.getD 1 0) }
theorem f_behind_ok : f_behind.Ok P 535 := fun l h => behind_meets h
noncomputable def c_behind : Con := famCon 535 [f_behind]
theorem c_behind_ok : c_behind.Ok P := famCon_ok ⟨f_behind_ok, trivial⟩
end Go.Proofs.YtdgjneondmmgdaaGreatDoor
namespace Go.Proofs.YtdgjneondmmgdaaGreatDoor
open Go.Fw
set_option maxRecDepth 100000
set_option linter.unusedVariables false
set_option linter.unusedSimpArgs false
open Go.Fw.Wd
/- raised to itself -/
noncomputable def raise_a (x w : Int) : V := (.cons (.agg (.cons (.int true .u64 0) (.cons (.int false .u64 x) (.cons (.int false .u64 w) .nil)))) (.cons (.agg (.cons (.int true .u64 0) (.cons (.int false .u64 x) (.cons (.int false .u64 w) .nil)))) (.cons (.int true .u64 268435456) .nil)))
noncomputable def raise_r (x w : Int) : V := (.tup (.cons (.agg (.cons (.int true .u64 0) (.cons (.int false .u64 x) (.cons (.int false .u64 w) .nil)))) (.cons (.int true .i64 0) .nil)))
def raise_p (x w : Int) : Prop := u64 x ∧ pW w

theorem raise_ask (x w : Int) : askK (raise_r x w) (evFnS (envL P [c_weight, c_behind] [] true) (gsOf [c_weight, c_behind]) 400 459 (raise_a x w)) Bx.mk = ⟨
    (((w = w ∧ weight_p w) ∧ w = w ∧ weight_p w) ∧ x = x ∧ w = w ∧ x = x ∧ w = w ∧ behind_p x w) ∧ x = x ∧ w = w ∧ True⟩ := by kernel_rfl
theorem raise_meets {x w : Int} (h : raise_p x w) : Meets P 459 (raise_a x w) (raise_r x w) :=
  meets_ask (E := envL P [c_weight, c_behind] [] true) (gs := gsOf [c_weight, c_behind]) envL_among (en_ok (l := [c_weight, c_behind]) ⟨c_weight_ok, c_behind_ok, trivial⟩) 400 (Has.of hn Tryz.func459 rfl) (raise_ask x w) (by
    unfold raise_p at h
    obtain ⟨h1, h3⟩ := h
    exact ⟨⟨⟨⟨rfl, h3⟩, rfl, h3⟩, rfl, rfl, rfl, rfl, h1, h3⟩, rfl, rfl, trivial⟩)
noncomputable def f_raise : Fam := { ps := [[0, 1], [0, 2]], fam := fun l => raise_a (l.getD 0 0) (l.getD 1 0), pre := fun l => raise_p (l.getD 0 0) (l.getD 1 0), res := fun l => raise_r (l.getD 0 0) (l.getD 1 0) }
theorem f_raise_ok : f_raise.Ok P 459 := fun l h => raise_meets h
noncomputable def c_raise : Con := famCon 459 [f_raise]
theorem c_raise_ok : c_raise.Ok P := famCon_ok ⟨f_raise_ok, trivial⟩
end Go.Proofs.YtdgjneondmmgdaaGreatDoor
