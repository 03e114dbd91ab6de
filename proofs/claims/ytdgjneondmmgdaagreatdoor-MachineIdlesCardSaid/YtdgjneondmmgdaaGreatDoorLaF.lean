/- At 6 pCPUs: states, calls. -/
import Derived.Test.YtdgjneondmmgdaaGreatDoorKa
set_option linter.unusedSimpArgs false
set_option linter.unusedVariables false
namespace Go.Proofs.YtdgjneondmmgdaaGreatDoor
open Go.Fw
set_option maxRecDepth 100000
set_option linter.unusedVariables false
set_option linter.unusedSimpArgs false
theorem chk0_askF  : askK (chk0_r 6) (evFnS (envL P [c_weight, c_vcheck, c_sleeps, c_dcheck] [] true) (gsOf [c_weight, c_vcheck, c_sleeps, c_dcheck]) 400 18 (chk0_a 6)) Bx.mk = ⟨chk0_q⟩ := by kernel_rfl
theorem f_chk0_okF : (f_chk0 6).Ok P 18 := fun l h => by
  revert h
  exact fun h => meets_ask (E := (envL P [c_weight, c_vcheck, c_sleeps, c_dcheck] [] true)) (gs := gsOf [c_weight, c_vcheck, c_sleeps, c_dcheck]) envL_among (en_ok (l := [c_weight, c_vcheck, c_sleeps, c_dcheck]) ⟨c_weight_ok, c_vcheck_ok, c_sleeps_ok, c_dcheck_ok, trivial⟩) 400 (Has.of hn Tryz.func18 rfl) (chk0_askF) (chk0_ok h)
theorem chk1_askF (w : Int) : askK (chk1_r 6 w) (evFnS (envL P [c_weight, c_vcheck, c_sleeps, c_dcheck] [] true) (gsOf [c_weight, c_vcheck, c_sleeps, c_dcheck]) 400 18 (chk1_a 6 w)) Bx.mk = ⟨chk1_q w⟩ := by kernel_rfl
theorem f_chk1_okF : (f_chk1 6).Ok P 18 := fun l h => by
  revert h
  exact fun h => meets_ask (E := (envL P [c_weight, c_vcheck, c_sleeps, c_dcheck] [] true)) (gs := gsOf [c_weight, c_vcheck, c_sleeps, c_dcheck]) envL_among (en_ok (l := [c_weight, c_vcheck, c_sleeps, c_dcheck]) ⟨c_weight_ok, c_vcheck_ok, c_sleeps_ok, c_dcheck_ok, trivial⟩) 400 (Has.of hn Tryz.func18 rfl) (chk1_askF _) (chk1_ok h)
theorem chk2_askF (w : Int) : askK (chk2_r 6 w) (evFnS (envL P [c_weight, c_vcheck, c_sleeps, c_dcheck] [] true) (gsOf [c_weight, c_vcheck, c_sleeps, c_dcheck]) 400 18 (chk2_a 6 w)) Bx.mk = ⟨chk2_q w⟩ := by kernel_rfl
theorem f_chk2_okF : (f_chk2 6).Ok P 18 := fun l h => by
  revert h
  exact fun h => meets_ask (E := (envL P [c_weight, c_vcheck, c_sleeps, c_dcheck] [] true)) (gs := gsOf [c_weight, c_vcheck, c_sleeps, c_dcheck]) envL_among (en_ok (l := [c_weight, c_vcheck, c_sleeps, c_dcheck]) ⟨c_weight_ok, c_vcheck_ok, c_sleeps_ok, c_dcheck_ok, trivial⟩) 400 (Has.of hn Tryz.func18 rfl) (chk2_askF _) (chk2_ok h)
theorem chk3_askF (w : Int) : askK (chk3_r 6 w) (evFnS (envL P [c_weight, c_vcheck, c_sleeps, c_dcheck] [] true) (gsOf [c_weight, c_vcheck, c_sleeps, c_dcheck]) 400 18 (chk3_a 6 w)) Bx.mk = ⟨chk3_q w⟩ := by kernel_rfl
theorem f_chk3_okF : (f_chk3 6).Ok P 18 := fun l h => by
  revert h
  exact fun h => meets_ask (E := (envL P [c_weight, c_vcheck, c_sleeps, c_dcheck] [] true)) (gs := gsOf [c_weight, c_vcheck, c_sleeps, c_dcheck]) envL_among (en_ok (l := [c_weight, c_vcheck, c_sleeps, c_dcheck]) ⟨c_weight_ok, c_vcheck_ok, c_sleeps_ok, c_dcheck_ok, trivial⟩) 400 (Has.of hn Tryz.func18 rfl) (chk3_askF _) (chk3_ok h)
theorem chk4_askF (t w : Int) : askK (chk4_r 6 t w) (evFnS (envL P [c_weight, c_vcheck, c_sleeps, c_dcheck] [] true) (gsOf [c_weight, c_vcheck, c_sleeps, c_dcheck]) 400 18 (chk4_a 6 t w)) Bx.mk = ⟨chk4_q t w⟩ := by kernel_rfl
theorem f_chk4_okF : (f_chk4 6).Ok P 18 := fun l h => by
  revert h
  exact fun h => meets_ask (E := (envL P [c_weight, c_vcheck, c_sleeps, c_dcheck] [] true)) (gs := gsOf [c_weight, c_vcheck, c_sleeps, c_dcheck]) envL_among (en_ok (l := [c_weight, c_vcheck, c_sleeps, c_dcheck]) ⟨c_weight_ok, c_vcheck_ok, c_sleeps_ok, c_dcheck_ok, trivial⟩) 400 (Has.of hn Tryz.func18 rfl) (chk4_askF _ _) (chk4_ok h)
theorem c_chk_okF : (c_chk 6).Ok P := famCon_ok ⟨f_chk0_okF, f_chk1_okF, f_chk2_okF, f_chk3_okF, f_chk4_okF, trivial⟩
theorem bestm_askF  : askK (bestm_x 6) (evFnS (envL P [] [] true) (gsOf []) 400 599 (bestm_a 6)) Bx.mk = ⟨bestm_q⟩ := by kernel_rfl
theorem f_bestm_okF : (f_bestm 6).Ok P 599 := fun l h => by
  revert h
  exact fun h => Meets.res (v := bestm_x 6) (meets_ask (E := (envL P [] [] true)) (gs := gsOf []) envL_among (en_ok (l := []) trivial) 400 (Has.of hn Tryz.func599 rfl) (bestm_askF) (bestm_ok h)) rfl
theorem bestz_askF  : askK (bestz_x 6) (evFnS (envL P [] [] true) (gsOf []) 400 599 (bestz_a 6)) Bx.mk = ⟨bestz_q⟩ := by kernel_rfl
theorem f_bestz_okF : (f_bestz 6).Ok P 599 := fun l h => by
  revert h
  exact fun h => Meets.res (v := bestz_x 6) (meets_ask (E := (envL P [] [] true)) (gs := gsOf []) envL_among (en_ok (l := []) trivial) 400 (Has.of hn Tryz.func599 rfl) (bestz_askF) (bestz_ok h)) rfl
theorem c_best_okF : (c_best 6).Ok P := famCon_ok ⟨f_bestm_okF, f_bestz_okF, trivial⟩
theorem call0_askF (w : Int) : askK (call0_x 6 w) (evFnS (envL P [c_weight, c_may, c_chk 6, c_dcheck, c_raise, c_fcmp0, c_vpass, c_sleeps, c_vcheck] [] true) (gsOf [c_weight, c_may, c_chk 6, c_dcheck, c_raise, c_fcmp0, c_vpass, c_sleeps, c_vcheck]) 400 59 (call0_a 6 w)) Bx.mk = ⟨call0_q w⟩ := by kernel_rfl
theorem f_call0_okF : (f_call0 6).Ok P 59 := fun l h => by
  revert h
  exact fun h => Meets.res (v := call0_x 6 (l.getD 0 0)) (meets_ask (E := (envL P [c_weight, c_may, c_chk 6, c_dcheck, c_raise, c_fcmp0, c_vpass, c_sleeps, c_vcheck] [] true)) (gs := gsOf [c_weight, c_may, c_chk 6, c_dcheck, c_raise, c_fcmp0, c_vpass, c_sleeps, c_vcheck]) envL_among (en_ok (l := [c_weight, c_may, c_chk 6, c_dcheck, c_raise, c_fcmp0, c_vpass, c_sleeps, c_vcheck]) ⟨c_weight_ok, c_may_ok, c_chk_okF, c_dcheck_ok, c_raise_ok, c_fcmp0_ok, c_vpass_ok, c_sleeps_ok, c_vcheck_ok, trivial⟩) 400 (Has.of hn Tryz.func59 rfl) (call0_askF _) (call0_ok h)) rfl
theorem call1_askF (w : Int) : askK (call1_x 6 w) (evFnS (envL P [c_weight, c_may, c_chk 6, c_dcheck, c_raise, c_fcmp0, c_vpass, c_sleeps, c_vcheck] [] true) (gsOf [c_weight, c_may, c_chk 6, c_dcheck, c_raise, c_fcmp0, c_vpass, c_sleeps, c_vcheck]) 400 59 (call1_a 6 w)) Bx.mk = ⟨call1_q w⟩ := by kernel_rfl
theorem f_call1_okF : (f_call1 6).Ok P 59 := fun l h => by
  revert h
  exact fun h => Meets.res (v := call1_x 6 (l.getD 0 0)) (meets_ask (E := (envL P [c_weight, c_may, c_chk 6, c_dcheck, c_raise, c_fcmp0, c_vpass, c_sleeps, c_vcheck] [] true)) (gs := gsOf [c_weight, c_may, c_chk 6, c_dcheck, c_raise, c_fcmp0, c_vpass, c_sleeps, c_vcheck]) envL_among (en_ok (l := [c_weight, c_may, c_chk 6, c_dcheck, c_raise, c_fcmp0, c_vpass, c_sleeps, c_vcheck]) ⟨c_weight_ok, c_may_ok, c_chk_okF, c_dcheck_ok, c_raise_ok, c_fcmp0_ok, c_vpass_ok, c_sleeps_ok, c_vcheck_ok, trivial⟩) 400 (Has.of hn Tryz.func59 rfl) (call1_askF _) (call1_ok h)) rfl
theorem call2_askF (w : Int) : askK (call2_x 6 w) (evFnS (envL P [c_weight, c_may, c_chk 6, c_dcheck, c_raise, c_fcmp0, c_vpass, c_sleeps, c_vcheck] [] true) (gsOf [c_weight, c_may, c_chk 6, c_dcheck, c_raise, c_fcmp0, c_vpass, c_sleeps, c_vcheck]) 400 59 (call2_a 6 w)) Bx.mk = ⟨call2_q w⟩ := by kernel_rfl
theorem f_call2_okF : (f_call2 6).Ok P 59 := fun l h => by
  revert h
  exact fun h => Meets.res (v := call2_x 6 (l.getD 0 0)) (meets_ask (E := (envL P [c_weight, c_may, c_chk 6, c_dcheck, c_raise, c_fcmp0, c_vpass, c_sleeps, c_vcheck] [] true)) (gs := gsOf [c_weight, c_may, c_chk 6, c_dcheck, c_raise, c_fcmp0, c_vpass, c_sleeps, c_vcheck]) envL_among (en_ok (l := [c_weight, c_may, c_chk 6, c_dcheck, c_raise, c_fcmp0, c_vpass, c_sleeps, c_vcheck]) ⟨c_weight_ok, c_may_ok, c_chk_okF, c_dcheck_ok, c_raise_ok, c_fcmp0_ok, c_vpass_ok, c_sleeps_ok, c_vcheck_ok, trivial⟩) 400 (Has.of hn Tryz.func59 rfl) (call2_askF _) (call2_ok h)) rfl
theorem c_call_okF : (c_call 6).Ok P := famCon_ok ⟨f_call0_okF, f_call1_okF, f_call2_okF, trivial⟩
end Go.Proofs.YtdgjneondmmgdaaGreatDoor
