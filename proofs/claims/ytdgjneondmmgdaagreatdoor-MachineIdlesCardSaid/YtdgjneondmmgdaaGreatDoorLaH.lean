/- At 8 pCPUs: states, calls. -/
import Derived.Test.YtdgjneondmmgdaaGreatDoorKa
set_option linter.unusedSimpArgs false
set_option linter.unusedVariables false
namespace Go.Proofs.YtdgjneondmmgdaaGreatDoor
open Go.Fw
set_option maxRecDepth 100000
set_option linter.unusedVariables false
set_option linter.unusedSimpArgs false
theorem chk0_askH  : askK (chk0_r 8) (evFnS (envL P [c_weight, c_vcheck, c_sleeps, c_dcheck] [] true) (gsOf [c_weight, c_vcheck, c_sleeps, c_dcheck]) 400 18 (chk0_a 8)) Bx.mk = ⟨chk0_q⟩ := by kernel_rfl
theorem f_chk0_okH : (f_chk0 8).Ok P 18 := fun l h => by
  revert h
  exact fun h => meets_ask (E := (envL P [c_weight, c_vcheck, c_sleeps, c_dcheck] [] true)) (gs := gsOf [c_weight, c_vcheck, c_sleeps, c_dcheck]) envL_among (en_ok (l := [c_weight, c_vcheck, c_sleeps, c_dcheck]) ⟨c_weight_ok, c_vcheck_ok, c_sleeps_ok, c_dcheck_ok, trivial⟩) 400 (Has.of hn Tryz.func18 rfl) (chk0_askH) (chk0_ok h)
theorem chk1_askH (w : Int) : askK (chk1_r 8 w) (evFnS (envL P [c_weight, c_vcheck, c_sleeps, c_dcheck] [] true) (gsOf [c_weight, c_vcheck, c_sleeps, c_dcheck]) 400 18 (chk1_a 8 w)) Bx.mk = ⟨chk1_q w⟩ := by kernel_rfl
theorem f_chk1_okH : (f_chk1 8).Ok P 18 := fun l h => by
  revert h
  exact fun h => meets_ask (E := (envL P [c_weight, c_vcheck, c_sleeps, c_dcheck] [] true)) (gs := gsOf [c_weight, c_vcheck, c_sleeps, c_dcheck]) envL_among (en_ok (l := [c_weight, c_vcheck, c_sleeps, c_dcheck]) ⟨c_weight_ok, c_vcheck_ok, c_sleeps_ok, c_dcheck_ok, trivial⟩) 400 (Has.of hn Tryz.func18 rfl) (chk1_askH _) (chk1_ok h)
theorem chk2_askH (w : Int) : askK (chk2_r 8 w) (evFnS (envL P [c_weight, c_vcheck, c_sleeps, c_dcheck] [] true) (gsOf [c_weight, c_vcheck, c_sleeps, c_dcheck]) 400 18 (chk2_a 8 w)) Bx.mk = ⟨chk2_q w⟩ := by kernel_rfl
theorem f_chk2_okH : (f_chk2 8).Ok P 18 := fun l h => by
  revert h
  exact fun h => meets_ask (E := (envL P [c_weight, c_vcheck, c_sleeps, c_dcheck] [] true)) (gs := gsOf [c_weight, c_vcheck, c_sleeps, c_dcheck]) envL_among (en_ok (l := [c_weight, c_vcheck, c_sleeps, c_dcheck]) ⟨c_weight_ok, c_vcheck_ok, c_sleeps_ok, c_dcheck_ok, trivial⟩) 400 (Has.of hn Tryz.func18 rfl) (chk2_askH _) (chk2_ok h)
theorem chk3_askH (w : Int) : askK (chk3_r 8 w) (evFnS (envL P [c_weight, c_vcheck, c_sleeps, c_dcheck] [] true) (gsOf [c_weight, c_vcheck, c_sleeps, c_dcheck]) 400 18 (chk3_a 8 w)) Bx.mk = ⟨chk3_q w⟩ := by kernel_rfl
theorem f_chk3_okH : (f_chk3 8).Ok P 18 := fun l h => by
  revert h
  exact fun h => meets_ask (E := (envL P [c_weight, c_vcheck, c_sleeps, c_dcheck] [] true)) (gs := gsOf [c_weight, c_vcheck, c_sleeps, c_dcheck]) envL_among (en_ok (l := [c_weight, c_vcheck, c_sleeps, c_dcheck]) ⟨c_weight_ok, c_vcheck_ok, c_sleeps_ok, c_dcheck_ok, trivial⟩) 400 (Has.of hn Tryz.func18 rfl) (chk3_askH _) (chk3_ok h)
theorem chk4_askH (t w : Int) : askK (chk4_r 8 t w) (evFnS (envL P [c_weight, c_vcheck, c_sleeps, c_dcheck] [] true) (gsOf [c_weight, c_vcheck, c_sleeps, c_dcheck]) 400 18 (chk4_a 8 t w)) Bx.mk = ⟨chk4_q t w⟩ := by kernel_rfl
theorem f_chk4_okH : (f_chk4 8).Ok P 18 := fun l h => by
  revert h
  exact fun h => meets_ask (E := (envL P [c_weight, c_vcheck, c_sleeps, c_dcheck] [] true)) (gs := gsOf [c_weight, c_vcheck, c_sleeps, c_dcheck]) envL_among (en_ok (l := [c_weight, c_vcheck, c_sleeps, c_dcheck]) ⟨c_weight_ok, c_vcheck_ok, c_sleeps_ok, c_dcheck_ok, trivial⟩) 400 (Has.of hn Tryz.func18 rfl) (chk4_askH _ _) (chk4_ok h)
theorem c_chk_okH : (c_chk 8).Ok P := famCon_ok ⟨f_chk0_okH, f_chk1_okH, f_chk2_okH, f_chk3_okH, f_chk4_okH, trivial⟩
theorem bestm_askH  : askK (bestm_x 8) (evFnS (envL P [] [] true) (gsOf []) 400 599 (bestm_a 8)) Bx.mk = ⟨bestm_q⟩ := by kernel_rfl
theorem f_bestm_okH : (f_bestm 8).Ok P 599 := fun l h => by
  revert h
  exact fun h => Meets.res (v := bestm_x 8) (meets_ask (E := (envL P [] [] true)) (gs := gsOf []) envL_among (en_ok (l := []) trivial) 400 (Has.of hn Tryz.func599 rfl) (bestm_askH) (bestm_ok h)) rfl
theorem bestz_askH  : askK (bestz_x 8) (evFnS (envL P [] [] true) (gsOf []) 400 599 (bestz_a 8)) Bx.mk = ⟨bestz_q⟩ := by kernel_rfl
theorem f_bestz_okH : (f_bestz 8).Ok P 599 := fun l h => by
  revert h
  exact fun h => Meets.res (v := bestz_x 8) (meets_ask (E := (envL P [] [] true)) (gs := gsOf []) envL_among (en_ok (l := []) trivial) 400 (Has.of hn Tryz.func599 rfl) (bestz_askH) (bestz_ok h)) rfl
theorem c_best_okH : (c_best 8).Ok P := famCon_ok ⟨f_bestm_okH, f_bestz_okH, trivial⟩
theorem call0_askH (w : Int) : askK (call0_x 8 w) (evFnS (envL P [c_weight, c_may, c_chk 8, c_dcheck, c_raise, c_fcmp0, c_vpass, c_sleeps, c_vcheck] [] true) (gsOf [c_weight, c_may, c_chk 8, c_dcheck, c_raise, c_fcmp0, c_vpass, c_sleeps, c_vcheck]) 400 59 (call0_a 8 w)) Bx.mk = ⟨call0_q w⟩ := by kernel_rfl
theorem f_call0_okH : (f_call0 8).Ok P 59 := fun l h => by
  revert h
  exact fun h => Meets.res (v := call0_x 8 (l.getD 0 0)) (meets_ask (E := (envL P [c_weight, c_may, c_chk 8, c_dcheck, c_raise, c_fcmp0, c_vpass, c_sleeps, c_vcheck] [] true)) (gs := gsOf [c_weight, c_may, c_chk 8, c_dcheck, c_raise, c_fcmp0, c_vpass, c_sleeps, c_vcheck]) envL_among (en_ok (l := [c_weight, c_may, c_chk 8, c_dcheck, c_raise, c_fcmp0, c_vpass, c_sleeps, c_vcheck]) ⟨c_weight_ok, c_may_ok, c_chk_okH, c_dcheck_ok, c_raise_ok, c_fcmp0_ok, c_vpass_ok, c_sleeps_ok, c_vcheck_ok, trivial⟩) 400 (Has.of hn Tryz.func59 rfl) (call0_askH _) (call0_ok h)) rfl
theorem call1_askH (w : Int) : askK (call1_x 8 w) (evFnS (envL P [c_weight, c_may, c_chk 8, c_dcheck, c_raise, c_fcmp0, c_vpass, c_sleeps, c_vcheck] [] true) (gsOf [c_weight, c_may, c_chk 8, c_dcheck, c_raise, c_fcmp0, c_vpass, c_sleeps, c_vcheck]) 400 59 (call1_a 8 w)) Bx.mk = ⟨call1_q w⟩ := by kernel_rfl
theorem f_call1_okH : (f_call1 8).Ok P 59 := fun l h => by
  revert h
  exact fun h => Meets.res (v := call1_x 8 (l.getD 0 0)) (meets_ask (E := (envL P [c_weight, c_may, c_chk 8, c_dcheck, c_raise, c_fcmp0, c_vpass, c_sleeps, c_vcheck] [] true)) (gs := gsOf [c_weight, c_may, c_chk 8, c_dcheck, c_raise, c_fcmp0, c_vpass, c_sleeps, c_vcheck]) envL_among (en_ok (l := [c_weight, c_may, c_chk 8, c_dcheck, c_raise, c_fcmp0, c_vpass, c_sleeps, c_vcheck]) ⟨c_weight_ok, c_may_ok, c_chk_okH, c_dcheck_ok, c_raise_ok, c_fcmp0_ok, c_vpass_ok, c_sleeps_ok, c_vcheck_ok, trivial⟩) 400 (Has.of hn Tryz.func59 rfl) (call1_askH _) (call1_ok h)) rfl
theorem call2_askH (w : Int) : askK (call2_x 8 w) (evFnS (envL P [c_weight, c_may, c_chk 8, c_dcheck, c_raise, c_fcmp0, c_vpass, c_sleeps, c_vcheck] [] true) (gsOf [c_weight, c_may, c_chk 8, c_dcheck, c_raise, c_fcmp0, c_vpass, c_sleeps, c_vcheck]) 400 59 (call2_a 8 w)) Bx.mk = ⟨call2_q w⟩ := by kernel_rfl
theorem f_call2_okH : (f_call2 8).Ok P 59 := fun l h => by
  revert h
  exact fun h => Meets.res (v := call2_x 8 (l.getD 0 0)) (meets_ask (E := (envL P [c_weight, c_may, c_chk 8, c_dcheck, c_raise, c_fcmp0, c_vpass, c_sleeps, c_vcheck] [] true)) (gs := gsOf [c_weight, c_may, c_chk 8, c_dcheck, c_raise, c_fcmp0, c_vpass, c_sleeps, c_vcheck]) envL_among (en_ok (l := [c_weight, c_may, c_chk 8, c_dcheck, c_raise, c_fcmp0, c_vpass, c_sleeps, c_vcheck]) ⟨c_weight_ok, c_may_ok, c_chk_okH, c_dcheck_ok, c_raise_ok, c_fcmp0_ok, c_vpass_ok, c_sleeps_ok, c_vcheck_ok, trivial⟩) 400 (Has.of hn Tryz.func59 rfl) (call2_askH _) (call2_ok h)) rfl
theorem c_call_okH : (c_call 8).Ok P := famCon_ok ⟨f_call0_okH, f_call1_okH, f_call2_okH, trivial⟩
end Go.Proofs.YtdgjneondmmgdaaGreatDoor
