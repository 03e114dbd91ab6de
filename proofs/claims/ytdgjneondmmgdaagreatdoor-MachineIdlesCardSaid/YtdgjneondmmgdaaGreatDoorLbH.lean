/- At 8 pCPUs: picks, steps, events. -/
import Derived.Test.YtdgjneondmmgdaaGreatDoorLaH
set_option linter.unusedSimpArgs false
set_option linter.unusedVariables false
namespace Go.Proofs.YtdgjneondmmgdaaGreatDoor
open Go.Fw
set_option maxRecDepth 100000
set_option linter.unusedVariables false
set_option linter.unusedSimpArgs false
theorem pk1_askH (w : Int) : askK (pk1_r 8 w) (evFnS (envW [c_weight, c_may, c_chk 8, c_dcheck, c_raise, c_fcmp0, c_vpass, c_dry, c_vcpu, c_best 8]) (gsOf [c_weight, c_may, c_chk 8, c_dcheck, c_raise, c_fcmp0, c_vpass, c_dry, c_vcpu, c_best 8]) 400 95 (pk1_a 8 w)) Bx.mk = ⟨pk1_q w⟩ := by kernel_rfl
theorem f_pk1_okH : (f_pk1 8).Ok P 95 := fun l h => by
  revert h
  exact fun h => meets_ask (E := (envW [c_weight, c_may, c_chk 8, c_dcheck, c_raise, c_fcmp0, c_vpass, c_dry, c_vcpu, c_best 8])) (gs := gsOf [c_weight, c_may, c_chk 8, c_dcheck, c_raise, c_fcmp0, c_vpass, c_dry, c_vcpu, c_best 8]) envW_among (envW_ok (l := [c_weight, c_may, c_chk 8, c_dcheck, c_raise, c_fcmp0, c_vpass, c_dry, c_vcpu, c_best 8]) ⟨c_weight_ok, c_may_ok, c_chk_okH, c_dcheck_ok, c_raise_ok, c_fcmp0_ok, c_vpass_ok, c_dry_ok, c_vcpu_ok, c_best_okH, trivial⟩) 400 (Has.of hn Tryz.func95 rfl) (pk1_askH _) (pk1_ok h)
theorem pk2_askH (w : Int) : askK (pk2_r 8 w) (evFnS (envW [c_weight, c_may, c_chk 8, c_dcheck, c_raise, c_fcmp0, c_vpass, c_dry, c_vcpu, c_best 8]) (gsOf [c_weight, c_may, c_chk 8, c_dcheck, c_raise, c_fcmp0, c_vpass, c_dry, c_vcpu, c_best 8]) 400 95 (pk2_a 8 w)) Bx.mk = ⟨pk2_q w⟩ := by kernel_rfl
theorem f_pk2_okH : (f_pk2 8).Ok P 95 := fun l h => by
  revert h
  exact fun h => meets_ask (E := (envW [c_weight, c_may, c_chk 8, c_dcheck, c_raise, c_fcmp0, c_vpass, c_dry, c_vcpu, c_best 8])) (gs := gsOf [c_weight, c_may, c_chk 8, c_dcheck, c_raise, c_fcmp0, c_vpass, c_dry, c_vcpu, c_best 8]) envW_among (envW_ok (l := [c_weight, c_may, c_chk 8, c_dcheck, c_raise, c_fcmp0, c_vpass, c_dry, c_vcpu, c_best 8]) ⟨c_weight_ok, c_may_ok, c_chk_okH, c_dcheck_ok, c_raise_ok, c_fcmp0_ok, c_vpass_ok, c_dry_ok, c_vcpu_ok, c_best_okH, trivial⟩) 400 (Has.of hn Tryz.func95 rfl) (pk2_askH _) (pk2_ok h)
theorem pk3_askH (w : Int) : askK (pk3_r 8 w) (evFnS (envW [c_weight, c_may, c_chk 8, c_dcheck, c_raise, c_fcmp0, c_vpass, c_dry, c_vcpu, c_best 8]) (gsOf [c_weight, c_may, c_chk 8, c_dcheck, c_raise, c_fcmp0, c_vpass, c_dry, c_vcpu, c_best 8]) 400 95 (pk3_a 8 w)) Bx.mk = ⟨pk3_q w⟩ := by kernel_rfl
theorem f_pk3_okH : (f_pk3 8).Ok P 95 := fun l h => by
  revert h
  exact fun h => meets_ask (E := (envW [c_weight, c_may, c_chk 8, c_dcheck, c_raise, c_fcmp0, c_vpass, c_dry, c_vcpu, c_best 8])) (gs := gsOf [c_weight, c_may, c_chk 8, c_dcheck, c_raise, c_fcmp0, c_vpass, c_dry, c_vcpu, c_best 8]) envW_among (envW_ok (l := [c_weight, c_may, c_chk 8, c_dcheck, c_raise, c_fcmp0, c_vpass, c_dry, c_vcpu, c_best 8]) ⟨c_weight_ok, c_may_ok, c_chk_okH, c_dcheck_ok, c_raise_ok, c_fcmp0_ok, c_vpass_ok, c_dry_ok, c_vcpu_ok, c_best_okH, trivial⟩) 400 (Has.of hn Tryz.func95 rfl) (pk3_askH _) (pk3_ok h)
theorem c_pk_okH : (c_pk 8).Ok P := famCon_ok ⟨f_pk1_okH, f_pk2_okH, f_pk3_okH, trivial⟩
theorem adv_askH (t w d : Int) : askK (adv_r 8 t w d) (evFnS (envW [c_weight, c_may, c_chk 8, c_dcheck, c_raise, c_fcmp0, c_vpass, c_dry, c_vcpu, c_best 8, c_fadd]) (gsOf [c_weight, c_may, c_chk 8, c_dcheck, c_raise, c_fcmp0, c_vpass, c_dry, c_vcpu, c_best 8, c_fadd]) 400 62 (adv_a 8 t w d)) Bx.mk = ⟨adv_q t w d⟩ := by kernel_rfl
theorem f_adv_okH : (f_adv 8).Ok P 62 := fun l h => by
  revert h
  exact fun h => meets_ask (E := (envW [c_weight, c_may, c_chk 8, c_dcheck, c_raise, c_fcmp0, c_vpass, c_dry, c_vcpu, c_best 8, c_fadd])) (gs := gsOf [c_weight, c_may, c_chk 8, c_dcheck, c_raise, c_fcmp0, c_vpass, c_dry, c_vcpu, c_best 8, c_fadd]) envW_among (envW_ok (l := [c_weight, c_may, c_chk 8, c_dcheck, c_raise, c_fcmp0, c_vpass, c_dry, c_vcpu, c_best 8, c_fadd]) ⟨c_weight_ok, c_may_ok, c_chk_okH, c_dcheck_ok, c_raise_ok, c_fcmp0_ok, c_vpass_ok, c_dry_ok, c_vcpu_ok, c_best_okH, c_fadd_ok, trivial⟩) 400 (Has.of hn Tryz.func62 rfl) (adv_askH _ _ _) (adv_ok h)
theorem c_adv_okH : (c_adv 8).Ok P := famCon_ok ⟨f_adv_okH, trivial⟩
theorem do0_askH (w : Int) : askK (do0_r 8 w) (evFnS (envL P [c_time, c_chk 8, c_call 8, c_pk 8, c_adv 8, c_code, c_tr] [] true) (gsOf [c_time, c_chk 8, c_call 8, c_pk 8, c_adv 8, c_code, c_tr]) 400 10 (do0_a 8 w)) Bx.mk = ⟨do0_q w⟩ := by kernel_rfl
theorem f_do0_okH : (f_do0 8).Ok P 10 := fun l h => by
  revert h
  exact fun h => meets_ask (E := (envL P [c_time, c_chk 8, c_call 8, c_pk 8, c_adv 8, c_code, c_tr] [] true)) (gs := gsOf [c_time, c_chk 8, c_call 8, c_pk 8, c_adv 8, c_code, c_tr]) envL_among (en_ok (l := [c_time, c_chk 8, c_call 8, c_pk 8, c_adv 8, c_code, c_tr]) ⟨c_time_ok, c_chk_okH, c_call_okH, c_pk_okH, c_adv_okH, c_code_ok, c_tr_ok, trivial⟩) 400 (Has.of hn Tryz.func10 rfl) (do0_askH _) (do0_ok h)
theorem do1_askH (w : Int) : askK (do1_r 8 w) (evFnS (envL P [c_time, c_chk 8, c_call 8, c_pk 8, c_adv 8, c_code, c_tr] [] true) (gsOf [c_time, c_chk 8, c_call 8, c_pk 8, c_adv 8, c_code, c_tr]) 400 10 (do1_a 8 w)) Bx.mk = ⟨do1_q w⟩ := by kernel_rfl
theorem f_do1_okH : (f_do1 8).Ok P 10 := fun l h => by
  revert h
  exact fun h => meets_ask (E := (envL P [c_time, c_chk 8, c_call 8, c_pk 8, c_adv 8, c_code, c_tr] [] true)) (gs := gsOf [c_time, c_chk 8, c_call 8, c_pk 8, c_adv 8, c_code, c_tr]) envL_among (en_ok (l := [c_time, c_chk 8, c_call 8, c_pk 8, c_adv 8, c_code, c_tr]) ⟨c_time_ok, c_chk_okH, c_call_okH, c_pk_okH, c_adv_okH, c_code_ok, c_tr_ok, trivial⟩) 400 (Has.of hn Tryz.func10 rfl) (do1_askH _) (do1_ok h)
theorem do2_askH (w : Int) : askK (do2_r 8 w) (evFnS (envL P [c_time, c_chk 8, c_call 8, c_pk 8, c_adv 8, c_code, c_tr] [] true) (gsOf [c_time, c_chk 8, c_call 8, c_pk 8, c_adv 8, c_code, c_tr]) 400 10 (do2_a 8 w)) Bx.mk = ⟨do2_q w⟩ := by kernel_rfl
theorem f_do2_okH : (f_do2 8).Ok P 10 := fun l h => by
  revert h
  exact fun h => meets_ask (E := (envL P [c_time, c_chk 8, c_call 8, c_pk 8, c_adv 8, c_code, c_tr] [] true)) (gs := gsOf [c_time, c_chk 8, c_call 8, c_pk 8, c_adv 8, c_code, c_tr]) envL_among (en_ok (l := [c_time, c_chk 8, c_call 8, c_pk 8, c_adv 8, c_code, c_tr]) ⟨c_time_ok, c_chk_okH, c_call_okH, c_pk_okH, c_adv_okH, c_code_ok, c_tr_ok, trivial⟩) 400 (Has.of hn Tryz.func10 rfl) (do2_askH _) (do2_ok h)
theorem do4_askH (t w d : Int) : askK (do4_r 8 t w d) (evFnS (envL P [c_time, c_chk 8, c_call 8, c_pk 8, c_adv 8, c_code, c_tr] [] true) (gsOf [c_time, c_chk 8, c_call 8, c_pk 8, c_adv 8, c_code, c_tr]) 400 10 (do4_a 8 t w d)) Bx.mk = ⟨do4_q t w d⟩ := by kernel_rfl
theorem f_do4_okH : (f_do4 8).Ok P 10 := fun l h => by
  revert h
  exact fun h => meets_ask (E := (envL P [c_time, c_chk 8, c_call 8, c_pk 8, c_adv 8, c_code, c_tr] [] true)) (gs := gsOf [c_time, c_chk 8, c_call 8, c_pk 8, c_adv 8, c_code, c_tr]) envL_among (en_ok (l := [c_time, c_chk 8, c_call 8, c_pk 8, c_adv 8, c_code, c_tr]) ⟨c_time_ok, c_chk_okH, c_call_okH, c_pk_okH, c_adv_okH, c_code_ok, c_tr_ok, trivial⟩) 400 (Has.of hn Tryz.func10 rfl) (do4_askH _ _ _) (do4_ok h)
theorem c_do_okH : (c_do 8).Ok P := famCon_ok ⟨f_do0_okH, f_do1_okH, f_do2_okH, f_do4_okH, trivial⟩
theorem new_askH  : askK (new_r 8) (evFnS (envL P [c_time] [] true) (gsOf [c_time]) 400 9 (new_a 8)) Bx.mk = ⟨new_q⟩ := by kernel_rfl
theorem f_new_okH : (f_new 8).Ok P 9 := fun l h => by
  revert h
  exact fun h => meets_ask (E := (envL P [c_time] [] true)) (gs := gsOf [c_time]) envL_among (en_ok (l := [c_time]) ⟨c_time_ok, trivial⟩) 400 (Has.of hn Tryz.func9 rfl) (new_askH) (new_ok h)
theorem c_new_okH : (c_new 8).Ok P := famCon_ok ⟨f_new_okH, trivial⟩
theorem flat1_askH  : askK (flat1_r 8) (evFnS (envL P [] [] true) (gsOf []) 400 7 (flat1_a 8)) Bx.mk = ⟨flat1_q⟩ := by kernel_rfl
theorem f_flat1_okH : (f_flat1 8).Ok P 7 := fun l h => by
  revert h
  exact fun h => meets_ask (E := (envL P [] [] true)) (gs := gsOf []) envL_among (en_ok (l := []) trivial) 400 (Has.of hn Tryz.func7 rfl) (flat1_askH) (flat1_ok h)
theorem c_flat_okH : (c_flat 8).Ok P := famCon_ok ⟨f_flat1_okH, trivial⟩
theorem ran_askH (t w : Int) : askK (ran_r 8 t w) (evFnS (envL P [c_time, c_chk 8] [] true) (gsOf [c_time, c_chk 8]) 400 8 (ran_a 8 t w)) Bx.mk = ⟨ran_q t w⟩ := by kernel_rfl
theorem f_ran_okH : (f_ran 8).Ok P 8 := fun l h => by
  revert h
  exact fun h => meets_ask (E := (envL P [c_time, c_chk 8] [] true)) (gs := gsOf [c_time, c_chk 8]) envL_among (en_ok (l := [c_time, c_chk 8]) ⟨c_time_ok, c_chk_okH, trivial⟩) 400 (Has.of hn Tryz.func8 rfl) (ran_askH _ _) (ran_ok h)
theorem c_ran_okH : (c_ran 8).Ok P := famCon_ok ⟨f_ran_okH, trivial⟩
end Go.Proofs.YtdgjneondmmgdaaGreatDoor
