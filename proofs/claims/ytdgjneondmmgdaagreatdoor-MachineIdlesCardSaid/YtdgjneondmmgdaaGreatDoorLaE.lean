/- At 5 pCPUs: states, calls. -/
import Derived.Test.YtdgjneondmmgdaaGreatDoorKa
set_option linter.unusedSimpArgs false
set_option linter.unusedVariables false
namespace Go.Proofs.YtdgjneondmmgdaaGreatDoor
open Go.Fw
set_option maxRecDepth 100000
set_option linter.unusedVariables false
set_option linter.unusedSimpArgs false
theorem chk0_askE  : askK (chk0_r 5) (evFnS (envL P [c_weight, c_vcheck, c_sleeps, c_dcheck] [] true) (gsOf [c_weight, c_vcheck, c_sleeps, c_dcheck]) 400 18 (chk0_a 5)) Bx.mk = ⟨chk0_q⟩ := by kernel_rfl
theorem f_chk0_okE : (f_chk0 5).Ok P 18 := fun l h => by
  revert h
  exact fun h => meets_ask (E := (envL P [c_weight, c_vcheck, c_sleeps, c_dcheck] [] true)) (gs := gsOf [c_weight, c_vcheck, c_sleeps, c_dcheck]) envL_among (en_ok (l := [c_weight, c_vcheck, c_sleeps, c_dcheck]) ⟨c_weight_ok, c_vcheck_ok, c_sleeps_ok, c_dcheck_ok, trivial⟩) 400 (Has.of hn Tryz.func18 rfl) (chk0_askE) (chk0_ok h)
theorem chk1_askE (w : Int) : askK (chk1_r 5 w) (evFnS (envL P [c_weight, c_vcheck, c_sleeps, c_dcheck] [] true) (gsOf [c_weight, c_vcheck, c_sleeps, c_dcheck]) 400 18 (chk1_a 5 w)) Bx.mk = ⟨chk1_q w⟩ := by kernel_rfl
theorem f_chk1_okE : (f_chk1 5).Ok P 18 := fun l h => by
  revert h
  exact fun h => meets_ask (E := (envL P [c_weight, c_vcheck, c_sleeps, c_dcheck] [] true)) (gs := gsOf [c_weight, c_vcheck, c_sleeps, c_dcheck]) envL_among (en_ok (l := [c_weight, c_vcheck, c_sleeps, c_dcheck]) ⟨c_weight_ok, c_vcheck_ok, c_sleeps_ok, c_dcheck_ok, trivial⟩) 400 (Has.of hn Tryz.func18 rfl) (chk1_askE _) (chk1_ok h)
theorem chk2_askE (w : Int) : askK (chk2_r 5 w) (evFnS (envL P [c_weight, c_vcheck, c_sleeps, c_dcheck] [] true) (gsOf [c_weight, c_vcheck, c_sleeps, c_dcheck]) 400 18 (chk2_a 5 w)) Bx.mk = ⟨chk2_q w⟩ := by kernel_rfl
theorem f_chk2_okE : (f_chk2 5).Ok P 18 := fun l h => by
  revert h
  exact fun h => meets_ask (E := (envL P [c_weight, c_vcheck, c_sleeps, c_dcheck] [] true)) (gs := gsOf [c_weight, c_vcheck, c_sleeps, c_dcheck]) envL_among (en_ok (l := [c_weight, c_vcheck, c_sleeps, c_dcheck]) ⟨c_weight_ok, c_vcheck_ok, c_sleeps_ok, c_dcheck_ok, trivial⟩) 400 (Has.of hn Tryz.func18 rfl) (chk2_askE _) (chk2_ok h)
theorem chk3_askE (w : Int) : askK (chk3_r 5 w) (evFnS (envL P [c_weight, c_vcheck, c_sleeps, c_dcheck] [] true) (gsOf [c_weight, c_vcheck, c_sleeps, c_dcheck]) 400 18 (chk3_a 5 w)) Bx.mk = ⟨chk3_q w⟩ := by kernel_rfl
theorem f_chk3_okE : (f_chk3 5).Ok P 18 := fun l h => by
  revert h
  exact fun h => meets_ask (E := (envL P [c_weight, c_vcheck, c_sleeps, c_dcheck] [] true)) (gs := gsOf [c_weight, c_vcheck, c_sleeps, c_dcheck]) envL_among (en_ok (l := [c_weight, c_vcheck, c_sleeps, c_dcheck]) ⟨c_weight_ok, c_vcheck_ok, c_sleeps_ok, c_dcheck_ok, trivial⟩) 400 (Has.of hn Tryz.func18 rfl) (chk3_askE _) (chk3_ok h)
theorem chk4_askE (t w : Int) : askK (chk4_r 5 t w) (evFnS (envL P [c_weight, c_vcheck, c_sleeps, c_dcheck] [] true) (gsOf [c_weight, c_vcheck, c_sleeps, c_dcheck]) 400 18 (chk4_a 5 t w)) Bx.mk = ⟨chk4_q t w⟩ := by kernel_rfl
theorem f_chk4_okE : (f_chk4 5).Ok P 18 := fun l h => by
  revert h
  exact fun h => meets_ask (E := (envL P [c_weight, c_vcheck, c_sleeps, c_dcheck] [] true)) (gs := gsOf [c_weight, c_vcheck, c_sleeps, c_dcheck]) envL_among (en_ok (l := [c_weight, c_vcheck, c_sleeps, c_dcheck]) ⟨c_weight_ok, c_vcheck_ok, c_sleeps_ok, c_dcheck_ok, trivial⟩) 400 (Has.of hn Tryz.func18 rfl) (chk4_askE _ _) (chk4_ok h)
theorem c_chk_okE : (c_chk 5).Ok P := famCon_ok ⟨f_chk0_okE, f_chk1_okE, f_chk2_okE, f_chk3_okE, f_chk4_okE, trivial⟩
theorem bestm_askE  : askK (bestm_x 5) (evFnS (envL P [] [] true) (gsOf []) 400 599 (bestm_a 5)) Bx.mk = ⟨bestm_q⟩ := by kernel_rfl
theorem f_bestm_okE : (f_bestm 5).Ok P 599 := fun l h => by
  revert h
  exact fun h => Meets.res (v := bestm_x 5) (meets_ask (E := (envL P [] [] true)) (gs := gsOf []) envL_among (en_ok (l := []) trivial) 400 (Has.of hn Tryz.func599 rfl) (bestm_askE) (bestm_ok h)) rfl
theorem bestz_askE  : askK (bestz_x 5) (evFnS (envL P [] [] true) (gsOf []) 400 599 (bestz_a 5)) Bx.mk = ⟨bestz_q⟩ := by kernel_rfl
theorem f_bestz_okE : (f_bestz 5).Ok P 599 := fun l h => by
  revert h
  exact fun h => Meets.res (v := bestz_x 5) (meets_ask (E := (envL P [] [] true)) (gs := gsOf []) envL_among (en_ok (l := []) trivial) 400 (Has.of hn Tryz.func599 rfl) (bestz_askE) (bestz_ok h)) rfl
theorem c_best_okE : (c_best 5).Ok P := famCon_ok ⟨f_bestm_okE, f_bestz_okE, trivial⟩
theorem call0_askE (w : Int) : askK (call0_x 5 w) (evFnS (envL P [c_weight, c_may, c_chk 5, c_dcheck, c_raise, c_fcmp0, c_vpass, c_sleeps, c_vcheck] [] true) (gsOf [c_weight, c_may, c_chk 5, c_dcheck, c_raise, c_fcmp0, c_vpass, c_sleeps, c_vcheck]) 400 59 (call0_a 5 w)) Bx.mk = ⟨call0_q w⟩ := by kernel_rfl
theorem f_call0_okE : (f_call0 5).Ok P 59 := fun l h => by
  revert h
  exact fun h => Meets.res (v := call0_x 5 (l.getD 0 0)) (meets_ask (E := (envL P [c_weight, c_may, c_chk 5, c_dcheck, c_raise, c_fcmp0, c_vpass, c_sleeps, c_vcheck] [] true)) (gs := gsOf [c_weight, c_may, c_chk 5, c_dcheck, c_raise, c_fcmp0, c_vpass, c_sleeps, c_vcheck]) envL_among (en_ok (l := [c_weight, c_may, c_chk 5, c_dcheck, c_raise, c_fcmp0, c_vpass, c_sleeps, c_vcheck]) ⟨c_weight_ok, c_may_ok, c_chk_okE, c_dcheck_ok, c_raise_ok, c_fcmp0_ok, c_vpass_ok, c_sleeps_ok, c_vcheck_ok, trivial⟩) 400 (Has.of hn Tryz.func59 rfl) (call0_askE _) (call0_ok h)) rfl
theorem call1_askE (w : Int) : askK (call1_x 5 w) (evFnS (envL P [c_weight, c_may, c_chk 5, c_dcheck, c_raise, c_fcmp0, c_vpass, c_sleeps, c_vcheck] [] true) (gsOf [c_weight, c_may, c_chk 5, c_dcheck, c_raise, c_fcmp0, c_vpass, c_sleeps, c_vcheck]) 400 59 (call1_a 5 w)) Bx.mk = ⟨call1_q w⟩ := by kernel_rfl
theorem f_call1_okE : (f_call1 5).Ok P 59 := fun l h => by
  revert h
  exact fun h => Meets.res (v := call1_x 5 (l.getD 0 0)) (meets_ask (E := (envL P [c_weight, c_may, c_chk 5, c_dcheck, c_raise, c_fcmp0, c_vpass, c_sleeps, c_vcheck] [] true)) (gs := gsOf [c_weight, c_may, c_chk 5, c_dcheck, c_raise, c_fcmp0, c_vpass, c_sleeps, c_vcheck]) envL_among (en_ok (l := [c_weight, c_may, c_chk 5, c_dcheck, c_raise, c_fcmp0, c_vpass, c_sleeps, c_vcheck]) ⟨c_weight_ok, c_may_ok, c_chk_okE, c_dcheck_ok, c_raise_ok, c_fcmp0_ok, c_vpass_ok, c_sleeps_ok, c_vcheck_ok, trivial⟩) 400 (Has.of hn Tryz.func59 rfl) (call1_askE _) (call1_ok h)) rfl
theorem call2_askE (w : Int) : askK (call2_x 5 w) (evFnS (envL P [c_weight, c_may, c_chk 5, c_dcheck, c_raise, c_fcmp0, c_vpass, c_sleeps, c_vcheck] [] true) (gsOf [c_weight, c_may, c_chk 5, c_dcheck, c_raise, c_fcmp0, c_vpass, c_sleeps, c_vcheck]) 400 59 (call2_a 5 w)) Bx.mk = ⟨call2_q w⟩ := by kernel_rfl
theorem f_call2_okE : (f_call2 5).Ok P 59 := fun l h => by
  revert h
  exact fun h => Meets.res (v := call2_x 5 (l.getD 0 0)) (meets_ask (E := (envL P [c_weight, c_may, c_chk 5, c_dcheck, c_raise, c_fcmp0, c_vpass, c_sleeps, c_vcheck] [] true)) (gs := gsOf [c_weight, c_may, c_chk 5, c_dcheck, c_raise, c_fcmp0, c_vpass, c_sleeps, c_vcheck]) envL_among (en_ok (l := [c_weight, c_may, c_chk 5, c_dcheck, c_raise, c_fcmp0, c_vpass, c_sleeps, c_vcheck]) ⟨c_weight_ok, c_may_ok, c_chk_okE, c_dcheck_ok, c_raise_ok, c_fcmp0_ok, c_vpass_ok, c_sleeps_ok, c_vcheck_ok, trivial⟩) 400 (Has.of hn Tryz.func59 rfl) (call2_askE _) (call2_ok h)) rfl
theorem c_call_okE : (c_call 5).Ok P := famCon_ok ⟨f_call0_okE, f_call1_okE, f_call2_okE, trivial⟩
end Go.Proofs.YtdgjneondmmgdaaGreatDoor
