/- MachineIdles answers true, at every two numbers and row. -/
import Derived.Test.YtdgjneondmmgdaaGreatDoorSc
import Derived.Test.YtdgjneondmmgdaaGreatDoorWk
import Derived.Test.YtdgjneondmmgdaaGreatDoorXa
import Derived.Test.YtdgjneondmmgdaaGreatDoorXb
import Derived.Test.YtdgjneondmmgdaaGreatDoorXc
import Derived.Test.YtdgjneondmmgdaaGreatDoorXm
set_option linter.unusedSimpArgs false
set_option linter.unusedVariables false
namespace Go.Proofs.YtdgjneondmmgdaaGreatDoor
open Go.Fw
set_option maxRecDepth 100000
set_option linter.unusedVariables false
set_option linter.unusedSimpArgs false
theorem more_all {m j : Nat} (h : j ≤ m) : andL (moreP m j) := andL_of (moreP_ok j h)
noncomputable abbrev lawEnv (c : Nat) : Env := envL P [c_wakes, t_flat c, t_new c, t_do c, t_ran c] [] true
theorem lawEnv_ok {c : Nat} (h : 1 ≤ c ∧ c ≤ 8) : (lawEnv c).Ok := en_ok (l := [c_wakes, t_flat c, t_new c, t_do c, t_ran c]) ⟨c_wakes_ok, t_flat_ok h, t_new_ok h, t_do_ok h, t_ran_ok h, trivial⟩
theorem lawEnvW_ok {c : Nat} (h : 1 ≤ c ∧ c ≤ 8) : (envM [c_wakes, t_flat c, t_new c, t_do c, t_ran c]).Ok :=
  have h0 := lawEnv_ok h
  ⟨h0.mixed, h0.named, h0.sure, h0.where_, h0.fork, h0.lp⟩
theorem among_env {l : List Con} : Among (envM l) (gsOf l) := fun g args h => among_look l g args h
abbrev lawA (n v : Int) (m : Nat) (f : Nat → Int) : V := (.cons (.int false .i64 n) (.cons (.int false .i64 v) (.cons (.rsl false 1 m fun j => .cons (.int false .i64 (f j)) .nil) .nil)))
theorem idle_0 {c : Nat} (h : 1 ≤ c ∧ c ≤ 8) (n v : Int) (f : Nat → Int) (hc : cI n = (c : Int)) : Meets P 3 (lawA n v 0 f) (.bool false true) :=
  Meets.of_soft (meets_ask (E := lawEnv c) (gs := gsOf [c_wakes, t_flat c, t_new c, t_do c, t_ran c]) envL_among (lawEnv_ok h) 400 (Has.of hn Tryz.func3 rfl) (law_0 c n v f) (lawP_ok hc (by omega))).hard
theorem idle_1 {c : Nat} (h : 1 ≤ c ∧ c ≤ 8) (n v : Int) (f : Nat → Int) (hc : cI n = (c : Int)) : Meets P 3 (lawA n v 1 f) (.bool false true) :=
  Meets.of_soft (meets_ask (E := lawEnv c) (gs := gsOf [c_wakes, t_flat c, t_new c, t_do c, t_ran c]) envL_among (lawEnv_ok h) 400 (Has.of hn Tryz.func3 rfl) (law_1 c n v f) (lawP_ok hc (by omega))).hard
theorem idle_2 {c : Nat} (h : 1 ≤ c ∧ c ≤ 8) (n v : Int) (f : Nat → Int) (hc : cI n = (c : Int)) : Meets P 3 (lawA n v 2 f) (.bool false true) :=
  Meets.of_soft (meets_ask (E := lawEnv c) (gs := gsOf [c_wakes, t_flat c, t_new c, t_do c, t_ran c]) envL_among (lawEnv_ok h) 400 (Has.of hn Tryz.func3 rfl) (law_2 c n v f) (lawP_ok hc (by omega))).hard
theorem idle_3 {c : Nat} (h : 1 ≤ c ∧ c ≤ 8) (n v : Int) (f : Nat → Int) (hc : cI n = (c : Int)) : Meets P 3 (lawA n v 3 f) (.bool false true) :=
  Meets.of_soft (meets_ask (E := lawEnv c) (gs := gsOf [c_wakes, t_flat c, t_new c, t_do c, t_ran c]) envL_among (lawEnv_ok h) 400 (Has.of hn Tryz.func3 rfl) (law_3 c n v f) (lawP_ok hc (by omega))).hard
theorem idle_4 {c : Nat} (h : 1 ≤ c ∧ c ≤ 8) (n v : Int) (f : Nat → Int) (hc : cI n = (c : Int)) : Meets P 3 (lawA n v 4 f) (.bool false true) :=
  Meets.of_soft (meets_ask (E := lawEnv c) (gs := gsOf [c_wakes, t_flat c, t_new c, t_do c, t_ran c]) envL_among (lawEnv_ok h) 400 (Has.of hn Tryz.func3 rfl) (law_4 c n v f) (lawP_ok hc (by omega))).hard
theorem idle_5 {c : Nat} (h : 1 ≤ c ∧ c ≤ 8) (n v : Int) (f : Nat → Int) (hc : cI n = (c : Int)) : Meets P 3 (lawA n v 5 f) (.bool false true) :=
  Meets.of_soft (meets_ask (E := lawEnv c) (gs := gsOf [c_wakes, t_flat c, t_new c, t_do c, t_ran c]) envL_among (lawEnv_ok h) 400 (Has.of hn Tryz.func3 rfl) (law_5 c n v f) (lawP_ok hc (by omega))).hard
theorem idle_6 {c : Nat} (h : 1 ≤ c ∧ c ≤ 8) (n v : Int) (f : Nat → Int) (hc : cI n = (c : Int)) : Meets P 3 (lawA n v 6 f) (.bool false true) :=
  Meets.of_soft (meets_ask (E := lawEnv c) (gs := gsOf [c_wakes, t_flat c, t_new c, t_do c, t_ran c]) envL_among (lawEnv_ok h) 400 (Has.of hn Tryz.func3 rfl) (law_6 c n v f) (lawP_ok hc (by omega))).hard
theorem idle_7 {c : Nat} (h : 1 ≤ c ∧ c ≤ 8) (n v : Int) (f : Nat → Int) (hc : cI n = (c : Int)) : Meets P 3 (lawA n v 7 f) (.bool false true) :=
  Meets.of_soft (meets_ask (E := lawEnv c) (gs := gsOf [c_wakes, t_flat c, t_new c, t_do c, t_ran c]) envL_among (lawEnv_ok h) 400 (Has.of hn Tryz.func3 rfl) (law_7 c n v f) (lawP_ok hc (by omega))).hard
theorem idle_8 {c : Nat} (h : 1 ≤ c ∧ c ≤ 8) (n v : Int) (f : Nat → Int) (hc : cI n = (c : Int)) : Meets P 3 (lawA n v 8 f) (.bool false true) :=
  Meets.of_soft (meets_ask (E := lawEnv c) (gs := gsOf [c_wakes, t_flat c, t_new c, t_do c, t_ran c]) envL_among (lawEnv_ok h) 400 (Has.of hn Tryz.func3 rfl) (law_8 c n v f) (lawP_ok hc (by omega))).hard
theorem idle_9 {c : Nat} (h : 1 ≤ c ∧ c ≤ 8) (n v : Int) (f : Nat → Int) (hc : cI n = (c : Int)) : Meets P 3 (lawA n v 9 f) (.bool false true) :=
  Meets.of_soft (meets_ask (E := lawEnv c) (gs := gsOf [c_wakes, t_flat c, t_new c, t_do c, t_ran c]) envL_among (lawEnv_ok h) 400 (Has.of hn Tryz.func3 rfl) (law_9 c n v f) (lawP_ok hc (by omega))).hard
theorem idle_10 {c : Nat} (h : 1 ≤ c ∧ c ≤ 8) (n v : Int) (f : Nat → Int) (hc : cI n = (c : Int)) : Meets P 3 (lawA n v 10 f) (.bool false true) :=
  Meets.of_soft (meets_ask (E := lawEnv c) (gs := gsOf [c_wakes, t_flat c, t_new c, t_do c, t_ran c]) envL_among (lawEnv_ok h) 400 (Has.of hn Tryz.func3 rfl) (law_10 c n v f) (lawP_ok hc (by omega))).hard
theorem idle_11 {c : Nat} (h : 1 ≤ c ∧ c ≤ 8) (n v : Int) (f : Nat → Int) (hc : cI n = (c : Int)) : Meets P 3 (lawA n v 11 f) (.bool false true) :=
  Meets.of_soft (meets_ask (E := lawEnv c) (gs := gsOf [c_wakes, t_flat c, t_new c, t_do c, t_ran c]) envL_among (lawEnv_ok h) 400 (Has.of hn Tryz.func3 rfl) (law_11 c n v f) (lawP_ok hc (by omega))).hard
theorem idle_12 {c : Nat} (h : 1 ≤ c ∧ c ≤ 8) (n v : Int) (f : Nat → Int) (hc : cI n = (c : Int)) : Meets P 3 (lawA n v 12 f) (.bool false true) :=
  Meets.of_soft (meets_ask (E := lawEnv c) (gs := gsOf [c_wakes, t_flat c, t_new c, t_do c, t_ran c]) envL_among (lawEnv_ok h) 400 (Has.of hn Tryz.func3 rfl) (law_12 c n v f) (lawP_ok hc (by omega))).hard
theorem idle_13 {c : Nat} (h : 1 ≤ c ∧ c ≤ 8) (n v : Int) (f : Nat → Int) (hc : cI n = (c : Int)) : Meets P 3 (lawA n v 13 f) (.bool false true) :=
  Meets.of_soft (meets_ask (E := lawEnv c) (gs := gsOf [c_wakes, t_flat c, t_new c, t_do c, t_ran c]) envL_among (lawEnv_ok h) 400 (Has.of hn Tryz.func3 rfl) (law_13 c n v f) (lawP_ok hc (by omega))).hard
theorem idle_14 {c : Nat} (h : 1 ≤ c ∧ c ≤ 8) (n v : Int) (f : Nat → Int) (hc : cI n = (c : Int)) : Meets P 3 (lawA n v 14 f) (.bool false true) :=
  Meets.of_soft (meets_ask (E := lawEnv c) (gs := gsOf [c_wakes, t_flat c, t_new c, t_do c, t_ran c]) envL_among (lawEnv_ok h) 400 (Has.of hn Tryz.func3 rfl) (law_14 c n v f) (lawP_ok hc (by omega))).hard
theorem idle_15 {c : Nat} (h : 1 ≤ c ∧ c ≤ 8) (n v : Int) (f : Nat → Int) (hc : cI n = (c : Int)) : Meets P 3 (lawA n v 15 f) (.bool false true) :=
  Meets.of_soft (meets_ask (E := lawEnv c) (gs := gsOf [c_wakes, t_flat c, t_new c, t_do c, t_ran c]) envL_among (lawEnv_ok h) 400 (Has.of hn Tryz.func3 rfl) (law_15 c n v f) (lawP_ok hc (by omega))).hard
theorem idle_16 {c : Nat} (h : 1 ≤ c ∧ c ≤ 8) (n v : Int) (f : Nat → Int) (hc : cI n = (c : Int)) : Meets P 3 (lawA n v 16 f) (.bool false true) :=
  Meets.of_soft (meets_ask (E := lawEnv c) (gs := gsOf [c_wakes, t_flat c, t_new c, t_do c, t_ran c]) envL_among (lawEnv_ok h) 400 (Has.of hn Tryz.func3 rfl) (law_16 c n v f) (lawP_ok hc (by omega))).hard
theorem idle_17 {c : Nat} (h : 1 ≤ c ∧ c ≤ 8) (n v : Int) (f : Nat → Int) (hc : cI n = (c : Int)) : Meets P 3 (lawA n v 17 f) (.bool false true) :=
  Meets.of_soft (meets_ask (E := lawEnv c) (gs := gsOf [c_wakes, t_flat c, t_new c, t_do c, t_ran c]) envL_among (lawEnv_ok h) 400 (Has.of hn Tryz.func3 rfl) (law_17 c n v f) (lawP_ok hc (by omega))).hard
theorem idle_18 {c : Nat} (h : 1 ≤ c ∧ c ≤ 8) (n v : Int) (f : Nat → Int) (hc : cI n = (c : Int)) : Meets P 3 (lawA n v 18 f) (.bool false true) :=
  Meets.of_soft (meets_ask (E := lawEnv c) (gs := gsOf [c_wakes, t_flat c, t_new c, t_do c, t_ran c]) envL_among (lawEnv_ok h) 400 (Has.of hn Tryz.func3 rfl) (law_18 c n v f) (lawP_ok hc (by omega))).hard
theorem idle_19 {c : Nat} (h : 1 ≤ c ∧ c ≤ 8) (n v : Int) (f : Nat → Int) (hc : cI n = (c : Int)) : Meets P 3 (lawA n v 19 f) (.bool false true) :=
  Meets.of_soft (meets_ask (E := lawEnv c) (gs := gsOf [c_wakes, t_flat c, t_new c, t_do c, t_ran c]) envL_among (lawEnv_ok h) 400 (Has.of hn Tryz.func3 rfl) (law_19 c n v f) (lawP_ok hc (by omega))).hard
theorem idle_20 {c : Nat} (h : 1 ≤ c ∧ c ≤ 8) (n v : Int) (f : Nat → Int) (hc : cI n = (c : Int)) : Meets P 3 (lawA n v 20 f) (.bool false true) :=
  Meets.of_soft (meets_ask (E := lawEnv c) (gs := gsOf [c_wakes, t_flat c, t_new c, t_do c, t_ran c]) envL_among (lawEnv_ok h) 400 (Has.of hn Tryz.func3 rfl) (law_20 c n v f) (lawP_ok hc (by omega))).hard
theorem idle_21 {c : Nat} (h : 1 ≤ c ∧ c ≤ 8) (n v : Int) (f : Nat → Int) (hc : cI n = (c : Int)) : Meets P 3 (lawA n v 21 f) (.bool false true) :=
  Meets.of_soft (meets_ask (E := lawEnv c) (gs := gsOf [c_wakes, t_flat c, t_new c, t_do c, t_ran c]) envL_among (lawEnv_ok h) 400 (Has.of hn Tryz.func3 rfl) (law_21 c n v f) (lawP_ok hc (by omega))).hard
theorem idle_22 {c : Nat} (h : 1 ≤ c ∧ c ≤ 8) (n v : Int) (f : Nat → Int) (hc : cI n = (c : Int)) : Meets P 3 (lawA n v 22 f) (.bool false true) :=
  Meets.of_soft (meets_ask (E := lawEnv c) (gs := gsOf [c_wakes, t_flat c, t_new c, t_do c, t_ran c]) envL_among (lawEnv_ok h) 400 (Has.of hn Tryz.func3 rfl) (law_22 c n v f) (lawP_ok hc (by omega))).hard
theorem idle_23 {c : Nat} (h : 1 ≤ c ∧ c ≤ 8) (n v : Int) (f : Nat → Int) (hc : cI n = (c : Int)) : Meets P 3 (lawA n v 23 f) (.bool false true) :=
  Meets.of_soft (meets_ask (E := lawEnv c) (gs := gsOf [c_wakes, t_flat c, t_new c, t_do c, t_ran c]) envL_among (lawEnv_ok h) 400 (Has.of hn Tryz.func3 rfl) (law_23 c n v f) (lawP_ok hc (by omega))).hard
theorem idle_24 {c : Nat} (h : 1 ≤ c ∧ c ≤ 8) (n v : Int) (f : Nat → Int) (hc : cI n = (c : Int)) : Meets P 3 (lawA n v 24 f) (.bool false true) :=
  Meets.of_soft (meets_ask (E := lawEnv c) (gs := gsOf [c_wakes, t_flat c, t_new c, t_do c, t_ran c]) envL_among (lawEnv_ok h) 400 (Has.of hn Tryz.func3 rfl) (law_24 c n v f) (lawP_ok hc (by omega))).hard
theorem idle_25 {c : Nat} (h : 1 ≤ c ∧ c ≤ 8) (n v : Int) (f : Nat → Int) (hc : cI n = (c : Int)) : Meets P 3 (lawA n v 25 f) (.bool false true) :=
  Meets.of_soft (meets_ask (E := lawEnv c) (gs := gsOf [c_wakes, t_flat c, t_new c, t_do c, t_ran c]) envL_among (lawEnv_ok h) 400 (Has.of hn Tryz.func3 rfl) (law_25 c n v f) (lawP_ok hc (by omega))).hard
theorem idle_26 {c : Nat} (h : 1 ≤ c ∧ c ≤ 8) (n v : Int) (f : Nat → Int) (hc : cI n = (c : Int)) : Meets P 3 (lawA n v 26 f) (.bool false true) :=
  Meets.of_soft (meets_ask (E := lawEnv c) (gs := gsOf [c_wakes, t_flat c, t_new c, t_do c, t_ran c]) envL_among (lawEnv_ok h) 400 (Has.of hn Tryz.func3 rfl) (law_26 c n v f) (lawP_ok hc (by omega))).hard
theorem idle_27 {c : Nat} (h : 1 ≤ c ∧ c ≤ 8) (n v : Int) (f : Nat → Int) (hc : cI n = (c : Int)) : Meets P 3 (lawA n v 27 f) (.bool false true) :=
  Meets.of_soft (meets_ask (E := lawEnv c) (gs := gsOf [c_wakes, t_flat c, t_new c, t_do c, t_ran c]) envL_among (lawEnv_ok h) 400 (Has.of hn Tryz.func3 rfl) (law_27 c n v f) (lawP_ok hc (by omega))).hard
theorem idle_28 {c : Nat} (h : 1 ≤ c ∧ c ≤ 8) (n v : Int) (f : Nat → Int) (hc : cI n = (c : Int)) : Meets P 3 (lawA n v 28 f) (.bool false true) :=
  Meets.of_soft (meets_ask (E := lawEnv c) (gs := gsOf [c_wakes, t_flat c, t_new c, t_do c, t_ran c]) envL_among (lawEnv_ok h) 400 (Has.of hn Tryz.func3 rfl) (law_28 c n v f) (lawP_ok hc (by omega))).hard
theorem idle_29 {c : Nat} (h : 1 ≤ c ∧ c ≤ 8) (n v : Int) (f : Nat → Int) (hc : cI n = (c : Int)) : Meets P 3 (lawA n v 29 f) (.bool false true) :=
  Meets.of_soft (meets_ask (E := lawEnv c) (gs := gsOf [c_wakes, t_flat c, t_new c, t_do c, t_ran c]) envL_among (lawEnv_ok h) 400 (Has.of hn Tryz.func3 rfl) (law_29 c n v f) (lawP_ok hc (by omega))).hard
theorem idle_30 {c : Nat} (h : 1 ≤ c ∧ c ≤ 8) (n v : Int) (f : Nat → Int) (hc : cI n = (c : Int)) : Meets P 3 (lawA n v 30 f) (.bool false true) :=
  Meets.of_soft (meets_ask (E := lawEnv c) (gs := gsOf [c_wakes, t_flat c, t_new c, t_do c, t_ran c]) envL_among (lawEnv_ok h) 400 (Has.of hn Tryz.func3 rfl) (law_30 c n v f) (lawP_ok hc (by omega))).hard
theorem idle_31 {c : Nat} (h : 1 ≤ c ∧ c ≤ 8) (n v : Int) (f : Nat → Int) (hc : cI n = (c : Int)) : Meets P 3 (lawA n v 31 f) (.bool false true) :=
  Meets.of_soft (meets_ask (E := lawEnv c) (gs := gsOf [c_wakes, t_flat c, t_new c, t_do c, t_ran c]) envL_among (lawEnv_ok h) 400 (Has.of hn Tryz.func3 rfl) (law_31 c n v f) (lawP_ok hc (by omega))).hard
theorem idle_32 {c : Nat} (h : 1 ≤ c ∧ c ≤ 8) (n v : Int) (f : Nat → Int) (hc : cI n = (c : Int)) : Meets P 3 (lawA n v 32 f) (.bool false true) :=
  Meets.of_soft (meets_ask (E := lawEnv c) (gs := gsOf [c_wakes, t_flat c, t_new c, t_do c, t_ran c]) envL_among (lawEnv_ok h) 400 (Has.of hn Tryz.func3 rfl) (law_32 c n v f) (lawP_ok hc (by omega))).hard
theorem idle_33 {c : Nat} (h : 1 ≤ c ∧ c ≤ 8) (n v : Int) (f : Nat → Int) (hc : cI n = (c : Int)) : Meets P 3 (lawA n v 33 f) (.bool false true) :=
  Meets.of_soft (meets_ask (E := lawEnv c) (gs := gsOf [c_wakes, t_flat c, t_new c, t_do c, t_ran c]) envL_among (lawEnv_ok h) 400 (Has.of hn Tryz.func3 rfl) (law_33 c n v f) (lawP_ok hc (by omega))).hard
theorem idle_34 {c : Nat} (h : 1 ≤ c ∧ c ≤ 8) (n v : Int) (f : Nat → Int) (hc : cI n = (c : Int)) : Meets P 3 (lawA n v 34 f) (.bool false true) :=
  Meets.of_soft (meets_ask (E := lawEnv c) (gs := gsOf [c_wakes, t_flat c, t_new c, t_do c, t_ran c]) envL_among (lawEnv_ok h) 400 (Has.of hn Tryz.func3 rfl) (law_34 c n v f) (lawP_ok hc (by omega))).hard
theorem idle_35 {c : Nat} (h : 1 ≤ c ∧ c ≤ 8) (n v : Int) (f : Nat → Int) (hc : cI n = (c : Int)) : Meets P 3 (lawA n v 35 f) (.bool false true) :=
  Meets.of_soft (meets_ask (E := lawEnv c) (gs := gsOf [c_wakes, t_flat c, t_new c, t_do c, t_ran c]) envL_among (lawEnv_ok h) 400 (Has.of hn Tryz.func3 rfl) (law_35 c n v f) (lawP_ok hc (by omega))).hard
theorem idle_36 {c : Nat} (h : 1 ≤ c ∧ c ≤ 8) (n v : Int) (f : Nat → Int) (hc : cI n = (c : Int)) : Meets P 3 (lawA n v 36 f) (.bool false true) :=
  Meets.of_soft (meets_ask (E := lawEnv c) (gs := gsOf [c_wakes, t_flat c, t_new c, t_do c, t_ran c]) envL_among (lawEnv_ok h) 400 (Has.of hn Tryz.func3 rfl) (law_36 c n v f) (lawP_ok hc (by omega))).hard
theorem idle_37 {c : Nat} (h : 1 ≤ c ∧ c ≤ 8) (n v : Int) (f : Nat → Int) (hc : cI n = (c : Int)) : Meets P 3 (lawA n v 37 f) (.bool false true) :=
  Meets.of_soft (meets_ask (E := lawEnv c) (gs := gsOf [c_wakes, t_flat c, t_new c, t_do c, t_ran c]) envL_among (lawEnv_ok h) 400 (Has.of hn Tryz.func3 rfl) (law_37 c n v f) (lawP_ok hc (by omega))).hard
theorem idle_38 {c : Nat} (h : 1 ≤ c ∧ c ≤ 8) (n v : Int) (f : Nat → Int) (hc : cI n = (c : Int)) : Meets P 3 (lawA n v 38 f) (.bool false true) :=
  Meets.of_soft (meets_ask (E := lawEnv c) (gs := gsOf [c_wakes, t_flat c, t_new c, t_do c, t_ran c]) envL_among (lawEnv_ok h) 400 (Has.of hn Tryz.func3 rfl) (law_38 c n v f) (lawP_ok hc (by omega))).hard
theorem idle_39 {c : Nat} (h : 1 ≤ c ∧ c ≤ 8) (n v : Int) (f : Nat → Int) (hc : cI n = (c : Int)) : Meets P 3 (lawA n v 39 f) (.bool false true) :=
  Meets.of_soft (meets_ask (E := lawEnv c) (gs := gsOf [c_wakes, t_flat c, t_new c, t_do c, t_ran c]) envL_among (lawEnv_ok h) 400 (Has.of hn Tryz.func3 rfl) (law_39 c n v f) (lawP_ok hc (by omega))).hard
theorem idle_40 {c : Nat} (h : 1 ≤ c ∧ c ≤ 8) (n v : Int) (f : Nat → Int) (hc : cI n = (c : Int)) : Meets P 3 (lawA n v 40 f) (.bool false true) :=
  Meets.of_soft (meets_ask (E := lawEnv c) (gs := gsOf [c_wakes, t_flat c, t_new c, t_do c, t_ran c]) envL_among (lawEnv_ok h) 400 (Has.of hn Tryz.func3 rfl) (law_40 c n v f) (lawP_ok hc (by omega))).hard
theorem idle_gen {c : Nat} (h : 1 ≤ c ∧ c ≤ 8) {a : V} {p1 p2 : Prop} (h1 : p1) (h2 : p2) (h3 : askK (.bool false true) (evFnS (envM [c_wakes, t_flat c, t_new c, t_do c, t_ran c]) (gsOf [c_wakes, t_flat c, t_new c, t_do c, t_ran c]) 400 3 a) Bx.mk = ⟨p1 ∧ p2⟩) : Meets P 3 a (.bool false true) :=
  meets_ask (E := envM [c_wakes, t_flat c, t_new c, t_do c, t_ran c]) (gs := gsOf [c_wakes, t_flat c, t_new c, t_do c, t_ran c]) among_env (lawEnvW_ok h) 400 (Has.of hn Tryz.func3 rfl) h3 ⟨h1, h2⟩
theorem idle_gen2 {c : Nat} (h : 1 ≤ c ∧ c ≤ 8) {a : V} {p2 : Prop} {m j : Nat} (hm : j ≤ m) (h2 : p2) (h3 : askK (.bool false true) (evFnS (envM [c_wakes, t_flat c, t_new c, t_do c, t_ran c]) (gsOf [c_wakes, t_flat c, t_new c, t_do c, t_ran c]) 400 3 a) Bx.mk = ⟨andL (moreP m j) ∧ p2⟩) : Meets P 3 a (.bool false true) :=
  idle_gen h (more_all hm) h2 h3
theorem idle_m {c : Nat} (h : 1 ≤ c ∧ c ≤ 8) (n v : Int) (f : Nat → Int) (m : Nat) (hm : 41 ≤ m) (hc : cI n = (c : Int)) : Meets P 3 ((.cons (.int false .i64 n) (.cons (.int false .i64 v) (.cons (.rsl false 1 m fun j => .cons (.int false .i64 (f j)) .nil) .nil)))) (.bool false true) :=
  idle_gen2 (j := 41) h hm (lawP_ok hc (Nat.le_refl 40)) (law_m c n v f m)
theorem idles_meets (n v : Int) (m : Nat) (f : Nat → Int) : Meets P 3 (lawA n v m f) (.bool false true) := by
  obtain ⟨c, hc⟩ : ∃ c : Nat, cI n = (c : Int) := ⟨(cI n).toNat, by have := cI_in n; omega⟩
  have h : 1 ≤ c ∧ c ≤ 8 := by have := cI_in n; omega
  rcases (show m = 0 ∨ m = 1 ∨ m = 2 ∨ m = 3 ∨ m = 4 ∨ m = 5 ∨ m = 6 ∨ m = 7 ∨ m = 8 ∨ m = 9 ∨ m = 10 ∨ m = 11 ∨ m = 12 ∨ m = 13 ∨ m = 14 ∨ m = 15 ∨ m = 16 ∨ m = 17 ∨ m = 18 ∨ m = 19 ∨ m = 20 ∨ m = 21 ∨ m = 22 ∨ m = 23 ∨ m = 24 ∨ m = 25 ∨ m = 26 ∨ m = 27 ∨ m = 28 ∨ m = 29 ∨ m = 30 ∨ m = 31 ∨ m = 32 ∨ m = 33 ∨ m = 34 ∨ m = 35 ∨ m = 36 ∨ m = 37 ∨ m = 38 ∨ m = 39 ∨ m = 40 ∨ 41 ≤ m by omega) with rfl | rfl | rfl | rfl | rfl | rfl | rfl | rfl | rfl | rfl | rfl | rfl | rfl | rfl | rfl | rfl | rfl | rfl | rfl | rfl | rfl | rfl | rfl | rfl | rfl | rfl | rfl | rfl | rfl | rfl | rfl | rfl | rfl | rfl | rfl | rfl | rfl | rfl | rfl | rfl | rfl | hm
  · exact idle_0 h n v f hc
  · exact idle_1 h n v f hc
  · exact idle_2 h n v f hc
  · exact idle_3 h n v f hc
  · exact idle_4 h n v f hc
  · exact idle_5 h n v f hc
  · exact idle_6 h n v f hc
  · exact idle_7 h n v f hc
  · exact idle_8 h n v f hc
  · exact idle_9 h n v f hc
  · exact idle_10 h n v f hc
  · exact idle_11 h n v f hc
  · exact idle_12 h n v f hc
  · exact idle_13 h n v f hc
  · exact idle_14 h n v f hc
  · exact idle_15 h n v f hc
  · exact idle_16 h n v f hc
  · exact idle_17 h n v f hc
  · exact idle_18 h n v f hc
  · exact idle_19 h n v f hc
  · exact idle_20 h n v f hc
  · exact idle_21 h n v f hc
  · exact idle_22 h n v f hc
  · exact idle_23 h n v f hc
  · exact idle_24 h n v f hc
  · exact idle_25 h n v f hc
  · exact idle_26 h n v f hc
  · exact idle_27 h n v f hc
  · exact idle_28 h n v f hc
  · exact idle_29 h n v f hc
  · exact idle_30 h n v f hc
  · exact idle_31 h n v f hc
  · exact idle_32 h n v f hc
  · exact idle_33 h n v f hc
  · exact idle_34 h n v f hc
  · exact idle_35 h n v f hc
  · exact idle_36 h n v f hc
  · exact idle_37 h n v f hc
  · exact idle_38 h n v f hc
  · exact idle_39 h n v f hc
  · exact idle_40 h n v f hc
  · exact idle_m h n v f m hm hc
end Go.Proofs.YtdgjneondmmgdaaGreatDoor
