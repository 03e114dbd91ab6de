/- At 7 pCPUs: picks, steps, events. -/
import Derived.Test.YtdgjneondmmgdaaGreatDoorLaG
set_option linter.unusedSimpArgs false
set_option linter.unusedVariables false
namespace Go.Proofs.YtdgjneondmmgdaaGreatDoor
open Go.Fw
set_option maxRecDepth 100000
set_option linter.unusedVariables false
set_option linter.unusedSimpArgs false
theorem pk1_askG (w : Int) : askK (pk1_r 7 w) (evFnS (envW [c_weight, c_may, c_chk 7, c_dcheck, c_raise, c_fcmp0, c_vpass, c_dry, c_vcpu, c_best 7]) (gsOf [c_weight, c_may, c_chk 7, c_dcheck, c_raise, c_fcmp0, c_vpass, c_dry, c_vcpu, c_best 7]) 400 95 (pk1_a 7 w)) Bx.mk = ⟨pk1_q w⟩ := by kernel_rfl
theorem f_pk1_okG : (f_pk1 7).Ok P 95 := fun l h => by
  revert h
  exact fun h => meets_ask (E := (envW [c_weight, c_may, c_chk 7, c_dcheck, c_raise, c_fcmp0, c_vpass, c_dry, c_vcpu, c_best 7])) (gs := gsOf [c_weight, c_may, c_chk 7, c_dcheck, c_raise, c_fcmp0, c_vpass, c_dry, c_vcpu, c_best 7]) envW_among (envW_ok (l := [c_weight, c_may, c_chk 7, c_dcheck, c_raise, c_fcmp0, c_vpass, c_dry, c_vcpu, c_best 7]) ⟨c_weight_ok, c_may_ok, c_chk_okG, c_dcheck_ok, c_raise_ok, c_fcmp0_ok, c_vpass_ok, c_dry_ok, c_vcpu_ok, c_best_okG, trivial⟩) 400 (Has.of hn Tryz.func95 rfl) (pk1_askG _) (pk1_ok h)
theorem pk2_askG (w : Int) : askK (pk2_r 7 w) (evFnS (envW [c_weight, c_may, c_chk 7, c_dcheck, c_raise, c_fcmp0, c_vpass, c_dry, c_vcpu, c_best 7]) (gsOf [c_weight, c_may, c_chk 7, c_dcheck, c_raise, c_fcmp0, c_vpass, c_dry, c_vcpu, c_best 7]) 400 95 (pk2_a 7 w)) Bx.mk = ⟨pk2_q w⟩ := by kernel_rfl
theorem f_pk2_okG : (f_pk2 7).Ok P 95 := fun l h => by
  revert h
  exact fun h => meets_ask (E := (envW [c_weight, c_may, c_chk 7, c_dcheck, c_raise, c_fcmp0, c_vpass, c_dry, c_vcpu, c_best 7])) (gs := gsOf [c_weight, c_may, c_chk 7, c_dcheck, c_raise, c_fcmp0, c_vpass, c_dry, c_vcpu, c_best 7]) envW_among (envW_ok (l := [c_weight, c_may, c_chk 7, c_dcheck, c_raise, c_fcmp0, c_vpass, c_dry, c_vcpu, c_best 7]) ⟨c_weight_ok, c_may_ok, c_chk_okG, c_dcheck_ok, c_raise_ok, c_fcmp0_ok, c_vpass_ok, c_dry_ok, c_vcpu_ok, c_best_okG, trivial⟩) 400 (Has.of hn Tryz.func95 rfl) (pk2_askG _) (pk2_ok h)
theorem pk3_askG (w : Int) : askK (pk3_r 7 w) (evFnS (envW [c_weight, c_may, c_chk 7, c_dcheck, c_raise, c_fcmp0, c_vpass, c_dry, c_vcpu, c_best 7]) (gsOf [c_weight, c_may, c_chk 7, c_dcheck, c_raise, c_fcmp0, c_vpass, c_dry, c_vcpu, c_best 7]) 400 95 (pk3_a 7 w)) Bx.mk = ⟨pk3_q w⟩ := by kernel_rfl
theorem f_pk3_okG : (f_pk3 7).Ok P 95 := fun l h => by
  revert h
  exact fun h => meets_ask (E := (envW [c_weight, c_may, c_chk 7, c_dcheck, c_raise, c_fcmp0, c_vpass, c_dry, c_vcpu, c_best 7])) (gs := gsOf [c_weight, c_may, c_chk 7, c_dcheck, c_raise, c_fcmp0, c_vpass, c_dry, c_vcpu, c_best 7]) envW_among (envW_ok (l := [c_weight, c_may, c_chk 7, c_dcheck, c_raise, c_fcmp0, c_vpass, c_dry, c_vcpu, c_best 7]) ⟨c_weight_ok, c_may_ok, c_chk_okG, c_dcheck_ok, c_raise_ok, c_fcmp0_ok, c_vpass_ok, c_dry_ok, c_vcpu_ok, c_best_okG, trivial⟩) 400 (Has.of hn Tryz.func95 rfl) (pk3_askG _) (pk3_ok h)
theorem c_pk_okG : (c_pk 7).Ok P := famCon_ok ⟨f_pk1_okG, f_pk2_okG, f_pk3_okG, trivial⟩
theorem adv_askG (t w d : Int) : askK (adv_r 7 t w d) (evFnS (envW [c_weight, c_may, c_chk 7, c_dcheck, c_raise, c_fcmp0, c_vpass, c_dry, c_vcpu, c_best 7, c_fadd]) (gsOf [c_weight, c_may, c_chk 7, c_dcheck, c_raise, c_fcmp0, c_vpass, c_dry, c_vcpu, c_best 7, c_fadd]) 400 62 (adv_a 7 t w d)) Bx.mk = ⟨adv_q t w d⟩ := by kernel_rfl
theorem f_adv_okG : (f_adv 7).Ok P 62 := fun l h => by
  revert h
  exact fun h => meets_ask (E := (envW [c_weight, c_may, c_chk 7, c_dcheck, c_raise, c_fcmp0, c_vpass, c_dry, c_vcpu, c_best 7, c_fadd])) (gs := gsOf [c_weight, c_may, c_chk 7, c_dcheck, c_raise, c_fcmp0, c_vpass, c_dry, c_vcpu, c_best 7, c_fadd]) envW_among (envW_ok (l := [c_weight, c_may, c_chk 7, c_dcheck, c_raise, c_fcmp0, c_vpass, c_dry, c_vcpu, c_best 7, c_fadd]) ⟨c_weight_ok, c_may_ok, c_chk_okG, c_dcheck_ok, c_raise_ok, c_fcmp0_ok, c_vpass_ok, c_dry_ok, c_vcpu_ok, c_best_okG, c_fadd_ok, trivial⟩) 400 (Has.of hn Tryz.func62 rfl) (adv_askG _ _ _) (adv_ok h)
theorem c_adv_okG : (c_adv 7).Ok P := famCon_ok ⟨f_adv_okG, trivial⟩
theorem do0_askG (w : Int) : askK (do0_r 7 w) (evFnS (envL P [c_time, c_chk 7, c_call 7, c_pk 7, c_adv 7, c_code, c_tr] [] true) (gsOf [c_time, c_chk 7, c_call 7, c_pk 7, c_adv 7, c_code, c_tr]) 400 10 (do0_a 7 w)) Bx.mk = ⟨do0_q w⟩ := by kernel_rfl
theorem f_do0_okG : (f_do0 7).Ok P 10 := fun l h => by
  revert h
  exact fun h => meets_ask (E := (envL P [c_time, c_chk 7, c_call 7, c_pk 7, c_adv 7, c_code, c_tr] [] true)) (gs := gsOf [c_time, c_chk 7, c_call 7, c_pk 7, c_adv 7, c_code, c_tr]) envL_among (en_ok (l := [c_time, c_chk 7, c_call 7, c_pk 7, c_adv 7, c_code, c_tr]) ⟨c_time_ok, c_chk_okG, c_call_okG, c_pk_okG, c_adv_okG, c_code_ok, c_tr_ok, trivial⟩) 400 (Has.of hn Tryz.func10 rfl) (do0_askG _) (do0_ok h)
theorem do1_askG (w : Int) : askK (do1_r 7 w) (evFnS (envL P [c_time, c_chk 7, c_call 7, c_pk 7, c_adv 7, c_code, c_tr] [] true) (gsOf [c_time, c_chk 7, c_call 7, c_pk 7, c_adv 7, c_code, c_tr]) 400 10 (do1_a 7 w)) Bx.mk = ⟨do1_q w⟩ := by kernel_rfl
theorem f_do1_okG : (f_do1 7).Ok P 10 := fun l h => by
  revert h
  exact fun h => meets_ask (E := (envL P [c_time, c_chk 7, c_call 7, c_pk 7, c_adv 7, c_code, c_tr] [] true)) (gs := gsOf [c_time, c_chk 7, c_call 7, c_pk 7, c_adv 7, c_code, c_tr]) envL_among (en_ok (l := [c_time, c_chk 7, c_call 7, c_pk 7, c_adv 7, c_code, c_tr]) ⟨c_time_ok, c_chk_okG, c_call_okG, c_pk_okG, c_adv_okG, c_code_ok, c_tr_ok, trivial⟩) 400 (Has.of hn Tryz.func10 rfl) (do1_askG _) (do1_ok h)
theorem do2_askG (w : Int) : askK (do2_r 7 w) (evFnS (envL P [c_time, c_chk 7, c_call 7, c_pk 7, c_adv 7, c_code, c_tr] [] true) (gsOf [c_time, c_chk 7, c_call 7, c_pk 7, c_adv 7, c_code, c_tr]) 400 10 (do2_a 7 w)) Bx.mk = ⟨do2_q w⟩ := by kernel_rfl
theorem f_do2_okG : (f_do2 7).Ok P 10 := fun l h => by
  revert h
  exact fun h => meets_ask (E := (envL P [c_time, c_chk 7, c_call 7, c_pk 7, c_adv 7, c_code, c_tr] [] true)) (gs := gsOf [c_time, c_chk 7, c_call 7, c_pk 7, c_adv 7, c_code, c_tr]) envL_among (en_ok (l := [c_time, c_chk 7, c_call 7, c_pk 7, c_adv 7, c_code, c_tr]) ⟨c_time_ok, c_chk_okG, c_call_okG, c_pk_okG, c_adv_okG, c_code_ok, c_tr_ok, trivial⟩) 400 (Has.of hn Tryz.func10 rfl) (do2_askG _) (do2_ok h)
theorem do4_askG (t w d : Int) : askK (do4_r 7 t w d) (evFnS (envL P [c_time, c_chk 7, c_call 7, c_pk 7, c_adv 7, c_code, c_tr] [] true) (gsOf [c_time, c_chk 7, c_call 7, c_pk 7, c_adv 7, c_code, c_tr]) 400 10 (do4_a 7 t w d)) Bx.mk = ⟨do4_q t w d⟩ := by kernel_rfl
theorem f_do4_okG : (f_do4 7).Ok P 10 := fun l h => by
  revert h
  exact fun h => meets_ask (E := (envL P [c_time, c_chk 7, c_call 7, c_pk 7, c_adv 7, c_code, c_tr] [] true)) (gs := gsOf [c_time, c_chk 7, c_call 7, c_pk 7, c_adv 7, c_code, c_tr]) envL_among (en_ok (l := [c_time, c_chk 7, c_call 7, c_pk 7, c_adv 7, c_code, c_tr]) ⟨c_time_ok, c_chk_okG, c_call_okG, c_pk_okG, c_adv_okG, c_code_ok, c_tr_ok, trivial⟩) 400 (Has.of hn Tryz.func10 rfl) (do4_askG _ _ _) (do4_ok h)
theorem c_do_okG : (c_do 7).Ok P := famCon_ok ⟨f_do0_okG, f_do1_okG, f_do2_okG, f_do4_okG, trivial⟩
theorem new_askG  : askK (new_r 7) (evFnS (envL P [c_time] [] true) (gsOf [c_time]) 400 9 (new_a 7)) Bx.mk = ⟨new_q⟩ := by kernel_rfl
theorem f_new_okG : (f_new 7).Ok P 9 := fun l h => by
  revert h
  exact fun h => meets_ask (E := (envL P [c_time] [] true)) (gs := gsOf [c_time]) envL_among (en_ok (l := [c_time]) ⟨c_time_ok, trivial⟩) 400 (Has.of hn Tryz.func9 rfl) (new_askG) (new_ok h)
theorem c_new_okG : (c_new 7).Ok P := famCon_ok ⟨f_new_okG, trivial⟩
theorem flat1_askG  : askK (flat1_r 7) (evFnS (envL P [] [] true) (gsOf []) 400 7 (flat1_a 7)) Bx.mk = ⟨flat1_q⟩ := by kernel_rfl
theorem f_flat1_okG : (f_flat1 7).Ok P 7 := fun l h => by
  revert h
  exact fun h => meets_ask (E := (envL P [] [] true)) (gs := gsOf []) envL_among (en_ok (l := []) trivial) 400 (Has.of hn Tryz.func7 rfl) (flat1_askG) (flat1_ok h)
theorem c_flat_okG : (c_flat 7).Ok P := famCon_ok ⟨f_flat1_okG, trivial⟩
theorem ran_askG (t w : Int) : askK (ran_r 7 t w) (evFnS (envL P [c_time, c_chk 7] [] true) (gsOf [c_time, c_chk 7]) 400 8 (ran_a 7 t w)) Bx.mk = ⟨ran_q t w⟩ := by kernel_rfl
theorem f_ran_okG : (f_ran 7).Ok P 8 := fun l h => by
  revert h
  exact fun h => meets_ask (E := (envL P [c_time, c_chk 7] [] true)) (gs := gsOf [c_time, c_chk 7]) envL_among (en_ok (l := [c_time, c_chk 7]) ⟨c_time_ok, c_chk_okG, trivial⟩) 400 (Has.of hn Tryz.func8 rfl) (ran_askG _ _) (ran_ok h)
theorem c_ran_okG : (c_ran 7).Ok P := famCon_ok ⟨f_ran_okG, trivial⟩
end Go.Proofs.YtdgjneondmmgdaaGreatDoor
