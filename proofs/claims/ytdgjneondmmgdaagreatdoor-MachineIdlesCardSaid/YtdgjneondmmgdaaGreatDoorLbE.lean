/- At 5 pCPUs: picks, steps, events. -/
import Derived.Test.YtdgjneondmmgdaaGreatDoorLaE
set_option linter.unusedSimpArgs false
set_option linter.unusedVariables false
namespace Go.Proofs.YtdgjneondmmgdaaGreatDoor
open Go.Fw
set_option maxRecDepth 100000
set_option linter.unusedVariables false
set_option linter.unusedSimpArgs false
theorem pk1_askE (w : Int) : askK (pk1_r 5 w) (evFnS (envW [c_weight, c_may, c_chk 5, c_dcheck, c_raise, c_fcmp0, c_vpass, c_dry, c_vcpu, c_best 5]) (gsOf [c_weight, c_may, c_chk 5, c_dcheck, c_raise, c_fcmp0, c_vpass, c_dry, c_vcpu, c_best 5]) 400 95 (pk1_a 5 w)) Bx.mk = ⟨pk1_q w⟩ := by kernel_rfl
theorem f_pk1_okE : (f_pk1 5).Ok P 95 := fun l h => by
  revert h
  exact fun h => meets_ask (E := (envW [c_weight, c_may, c_chk 5, c_dcheck, c_raise, c_fcmp0, c_vpass, c_dry, c_vcpu, c_best 5])) (gs := gsOf [c_weight, c_may, c_chk 5, c_dcheck, c_raise, c_fcmp0, c_vpass, c_dry, c_vcpu, c_best 5]) envW_among (envW_ok (l := [c_weight, c_may, c_chk 5, c_dcheck, c_raise, c_fcmp0, c_vpass, c_dry, c_vcpu, c_best 5]) ⟨c_weight_ok, c_may_ok, c_chk_okE, c_dcheck_ok, c_raise_ok, c_fcmp0_ok, c_vpass_ok, c_dry_ok, c_vcpu_ok, c_best_okE, trivial⟩) 400 (Has.of hn Tryz.func95 rfl) (pk1_askE _) (pk1_ok h)
theorem pk2_askE (w : Int) : askK (pk2_r 5 w) (evFnS (envW [c_weight, c_may, c_chk 5, c_dcheck, c_raise, c_fcmp0, c_vpass, c_dry, c_vcpu, c_best 5]) (gsOf [c_weight, c_may, c_chk 5, c_dcheck, c_raise, c_fcmp0, c_vpass, c_dry, c_vcpu, c_best 5]) 400 95 (pk2_a 5 w)) Bx.mk = ⟨pk2_q w⟩ := by kernel_rfl
theorem f_pk2_okE : (f_pk2 5).Ok P 95 := fun l h => by
  revert h
  exact fun h => meets_ask (E := (envW [c_weight, c_may, c_chk 5, c_dcheck, c_raise, c_fcmp0, c_vpass, c_dry, c_vcpu, c_best 5])) (gs := gsOf [c_weight, c_may, c_chk 5, c_dcheck, c_raise, c_fcmp0, c_vpass, c_dry, c_vcpu, c_best 5]) envW_among (envW_ok (l := [c_weight, c_may, c_chk 5, c_dcheck, c_raise, c_fcmp0, c_vpass, c_dry, c_vcpu, c_best 5]) ⟨c_weight_ok, c_may_ok, c_chk_okE, c_dcheck_ok, c_raise_ok, c_fcmp0_ok, c_vpass_ok, c_dry_ok, c_vcpu_ok, c_best_okE, trivial⟩) 400 (Has.of hn Tryz.func95 rfl) (pk2_askE _) (pk2_ok h)
theorem pk3_askE (w : Int) : askK (pk3_r 5 w) (evFnS (envW [c_weight, c_may, c_chk 5, c_dcheck, c_raise, c_fcmp0, c_vpass, c_dry, c_vcpu, c_best 5]) (gsOf [c_weight, c_may, c_chk 5, c_dcheck, c_raise, c_fcmp0, c_vpass, c_dry, c_vcpu, c_best 5]) 400 95 (pk3_a 5 w)) Bx.mk = ⟨pk3_q w⟩ := by kernel_rfl
theorem f_pk3_okE : (f_pk3 5).Ok P 95 := fun l h => by
  revert h
  exact fun h => meets_ask (E := (envW [c_weight, c_may, c_chk 5, c_dcheck, c_raise, c_fcmp0, c_vpass, c_dry, c_vcpu, c_best 5])) (gs := gsOf [c_weight, c_may, c_chk 5, c_dcheck, c_raise, c_fcmp0, c_vpass, c_dry, c_vcpu, c_best 5]) envW_among (envW_ok (l := [c_weight, c_may, c_chk 5, c_dcheck, c_raise, c_fcmp0, c_vpass, c_dry, c_vcpu, c_best 5]) ⟨c_weight_ok, c_may_ok, c_chk_okE, c_dcheck_ok, c_raise_ok, c_fcmp0_ok, c_vpass_ok, c_dry_ok, c_vcpu_ok, c_best_okE, trivial⟩) 400 (Has.of hn Tryz.func95 rfl) (pk3_askE _) (pk3_ok h)
theorem c_pk_okE : (c_pk 5).Ok P := famCon_ok ⟨f_pk1_okE, f_pk2_okE, f_pk3_okE, trivial⟩
theorem adv_askE (t w d : Int) : askK (adv_r 5 t w d) (evFnS (envW [c_weight, c_may, c_chk 5, c_dcheck, c_raise, c_fcmp0, c_vpass, c_dry, c_vcpu, c_best 5, c_fadd]) (gsOf [c_weight, c_may, c_chk 5, c_dcheck, c_raise, c_fcmp0, c_vpass, c_dry, c_vcpu, c_best 5, c_fadd]) 400 62 (adv_a 5 t w d)) Bx.mk = ⟨adv_q t w d⟩ := by kernel_rfl
theorem f_adv_okE : (f_adv 5).Ok P 62 := fun l h => by
  revert h
  exact fun h => meets_ask (E := (envW [c_weight, c_may, c_chk 5, c_dcheck, c_raise, c_fcmp0, c_vpass, c_dry, c_vcpu, c_best 5, c_fadd])) (gs := gsOf [c_weight, c_may, c_chk 5, c_dcheck, c_raise, c_fcmp0, c_vpass, c_dry, c_vcpu, c_best 5, c_fadd]) envW_among (envW_ok (l := [c_weight, c_may, c_chk 5, c_dcheck, c_raise, c_fcmp0, c_vpass, c_dry, c_vcpu, c_best 5, c_fadd]) ⟨c_weight_ok, c_may_ok, c_chk_okE, c_dcheck_ok, c_raise_ok, c_fcmp0_ok, c_vpass_ok, c_dry_ok, c_vcpu_ok, c_best_okE, c_fadd_ok, trivial⟩) 400 (Has.of hn Tryz.func62 rfl) (adv_askE _ _ _) (adv_ok h)
theorem c_adv_okE : (c_adv 5).Ok P := famCon_ok ⟨f_adv_okE, trivial⟩
theorem do0_askE (w : Int) : askK (do0_r 5 w) (evFnS (envL P [c_time, c_chk 5, c_call 5, c_pk 5, c_adv 5, c_code, c_tr] [] true) (gsOf [c_time, c_chk 5, c_call 5, c_pk 5, c_adv 5, c_code, c_tr]) 400 10 (do0_a 5 w)) Bx.mk = ⟨do0_q w⟩ := by kernel_rfl
theorem f_do0_okE : (f_do0 5).Ok P 10 := fun l h => by
  revert h
  exact fun h => meets_ask (E := (envL P [c_time, c_chk 5, c_call 5, c_pk 5, c_adv 5, c_code, c_tr] [] true)) (gs := gsOf [c_time, c_chk 5, c_call 5, c_pk 5, c_adv 5, c_code, c_tr]) envL_among (en_ok (l := [c_time, c_chk 5, c_call 5, c_pk 5, c_adv 5, c_code, c_tr]) ⟨c_time_ok, c_chk_okE, c_call_okE, c_pk_okE, c_adv_okE, c_code_ok, c_tr_ok, trivial⟩) 400 (Has.of hn Tryz.func10 rfl) (do0_askE _) (do0_ok h)
theorem do1_askE (w : Int) : askK (do1_r 5 w) (evFnS (envL P [c_time, c_chk 5, c_call 5, c_pk 5, c_adv 5, c_code, c_tr] [] true) (gsOf [c_time, c_chk 5, c_call 5, c_pk 5, c_adv 5, c_code, c_tr]) 400 10 (do1_a 5 w)) Bx.mk = ⟨do1_q w⟩ := by kernel_rfl
theorem f_do1_okE : (f_do1 5).Ok P 10 := fun l h => by
  revert h
  exact fun h => meets_ask (E := (envL P [c_time, c_chk 5, c_call 5, c_pk 5, c_adv 5, c_code, c_tr] [] true)) (gs := gsOf [c_time, c_chk 5, c_call 5, c_pk 5, c_adv 5, c_code, c_tr]) envL_among (en_ok (l := [c_time, c_chk 5, c_call 5, c_pk 5, c_adv 5, c_code, c_tr]) ⟨c_time_ok, c_chk_okE, c_call_okE, c_pk_okE, c_adv_okE, c_code_ok, c_tr_ok, trivial⟩) 400 (Has.of hn Tryz.func10 rfl) (do1_askE _) (do1_ok h)
theorem do2_askE (w : Int) : askK (do2_r 5 w) (evFnS (envL P [c_time, c_chk 5, c_call 5, c_pk 5, c_adv 5, c_code, c_tr] [] true) (gsOf [c_time, c_chk 5, c_call 5, c_pk 5, c_adv 5, c_code, c_tr]) 400 10 (do2_a 5 w)) Bx.mk = ⟨do2_q w⟩ := by kernel_rfl
theorem f_do2_okE : (f_do2 5).Ok P 10 := fun l h => by
  revert h
  exact fun h => meets_ask (E := (envL P [c_time, c_chk 5, c_call 5, c_pk 5, c_adv 5, c_code, c_tr] [] true)) (gs := gsOf [c_time, c_chk 5, c_call 5, c_pk 5, c_adv 5, c_code, c_tr]) envL_among (en_ok (l := [c_time, c_chk 5, c_call 5, c_pk 5, c_adv 5, c_code, c_tr]) ⟨c_time_ok, c_chk_okE, c_call_okE, c_pk_okE, c_adv_okE, c_code_ok, c_tr_ok, trivial⟩) 400 (Has.of hn Tryz.func10 rfl) (do2_askE _) (do2_ok h)
theorem do4_askE (t w d : Int) : askK (do4_r 5 t w d) (evFnS (envL P [c_time, c_chk 5, c_call 5, c_pk 5, c_adv 5, c_code, c_tr] [] true) (gsOf [c_time, c_chk 5, c_call 5, c_pk 5, c_adv 5, c_code, c_tr]) 400 10 (do4_a 5 t w d)) Bx.mk = ⟨do4_q t w d⟩ := by kernel_rfl
theorem f_do4_okE : (f_do4 5).Ok P 10 := fun l h => by
  revert h
  exact fun h => meets_ask (E := (envL P [c_time, c_chk 5, c_call 5, c_pk 5, c_adv 5, c_code, c_tr] [] true)) (gs := gsOf [c_time, c_chk 5, c_call 5, c_pk 5, c_adv 5, c_code, c_tr]) envL_among (en_ok (l := [c_time, c_chk 5, c_call 5, c_pk 5, c_adv 5, c_code, c_tr]) ⟨c_time_ok, c_chk_okE, c_call_okE, c_pk_okE, c_adv_okE, c_code_ok, c_tr_ok, trivial⟩) 400 (Has.of hn Tryz.func10 rfl) (do4_askE _ _ _) (do4_ok h)
theorem c_do_okE : (c_do 5).Ok P := famCon_ok ⟨f_do0_okE, f_do1_okE, f_do2_okE, f_do4_okE, trivial⟩
theorem new_askE  : askK (new_r 5) (evFnS (envL P [c_time] [] true) (gsOf [c_time]) 400 9 (new_a 5)) Bx.mk = ⟨new_q⟩ := by kernel_rfl
theorem f_new_okE : (f_new 5).Ok P 9 := fun l h => by
  revert h
  exact fun h => meets_ask (E := (envL P [c_time] [] true)) (gs := gsOf [c_time]) envL_among (en_ok (l := [c_time]) ⟨c_time_ok, trivial⟩) 400 (Has.of hn Tryz.func9 rfl) (new_askE) (new_ok h)
theorem c_new_okE : (c_new 5).Ok P := famCon_ok ⟨f_new_okE, trivial⟩
theorem flat1_askE  : askK (flat1_r 5) (evFnS (envL P [] [] true) (gsOf []) 400 7 (flat1_a 5)) Bx.mk = ⟨flat1_q⟩ := by kernel_rfl
theorem f_flat1_okE : (f_flat1 5).Ok P 7 := fun l h => by
  revert h
  exact fun h => meets_ask (E := (envL P [] [] true)) (gs := gsOf []) envL_among (en_ok (l := []) trivial) 400 (Has.of hn Tryz.func7 rfl) (flat1_askE) (flat1_ok h)
theorem c_flat_okE : (c_flat 5).Ok P := famCon_ok ⟨f_flat1_okE, trivial⟩
theorem ran_askE (t w : Int) : askK (ran_r 5 t w) (evFnS (envL P [c_time, c_chk 5] [] true) (gsOf [c_time, c_chk 5]) 400 8 (ran_a 5 t w)) Bx.mk = ⟨ran_q t w⟩ := by kernel_rfl
theorem f_ran_okE : (f_ran 5).Ok P 8 := fun l h => by
  revert h
  exact fun h => meets_ask (E := (envL P [c_time, c_chk 5] [] true)) (gs := gsOf [c_time, c_chk 5]) envL_among (en_ok (l := [c_time, c_chk 5]) ⟨c_time_ok, c_chk_okE, trivial⟩) 400 (Has.of hn Tryz.func8 rfl) (ran_askE _ _) (ran_ok h)
theorem c_ran_okE : (c_ran 5).Ok P := famCon_ok ⟨f_ran_okE, trivial⟩
end Go.Proofs.YtdgjneondmmgdaaGreatDoor
