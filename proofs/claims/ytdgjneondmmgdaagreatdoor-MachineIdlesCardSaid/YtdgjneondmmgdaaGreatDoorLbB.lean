/- At 2 pCPUs: picks, steps, events. -/
import Derived.Test.YtdgjneondmmgdaaGreatDoorLaB
set_option linter.unusedSimpArgs false
set_option linter.unusedVariables false
namespace Go.Proofs.YtdgjneondmmgdaaGreatDoor
open Go.Fw
set_option maxRecDepth 100000
set_option linter.unusedVariables false
set_option linter.unusedSimpArgs false
theorem pk1_askB (w : Int) : askK (pk1_r 2 w) (evFnS (envW [c_weight, c_may, c_chk 2, c_dcheck, c_raise, c_fcmp0, c_vpass, c_dry, c_vcpu, c_best 2]) (gsOf [c_weight, c_may, c_chk 2, c_dcheck, c_raise, c_fcmp0, c_vpass, c_dry, c_vcpu, c_best 2]) 400 95 (pk1_a 2 w)) Bx.mk = ⟨pk1_q w⟩ := by kernel_rfl
theorem f_pk1_okB : (f_pk1 2).Ok P 95 := fun l h => by
  revert h
  exact fun h => meets_ask (E := (envW [c_weight, c_may, c_chk 2, c_dcheck, c_raise, c_fcmp0, c_vpass, c_dry, c_vcpu, c_best 2])) (gs := gsOf [c_weight, c_may, c_chk 2, c_dcheck, c_raise, c_fcmp0, c_vpass, c_dry, c_vcpu, c_best 2]) envW_among (envW_ok (l := [c_weight, c_may, c_chk 2, c_dcheck, c_raise, c_fcmp0, c_vpass, c_dry, c_vcpu, c_best 2]) ⟨c_weight_ok, c_may_ok, c_chk_okB, c_dcheck_ok, c_raise_ok, c_fcmp0_ok, c_vpass_ok, c_dry_ok, c_vcpu_ok, c_best_okB, trivial⟩) 400 (Has.of hn Tryz.func95 rfl) (pk1_askB _) (pk1_ok h)
theorem pk2_askB (w : Int) : askK (pk2_r 2 w) (evFnS (envW [c_weight, c_may, c_chk 2, c_dcheck, c_raise, c_fcmp0, c_vpass, c_dry, c_vcpu, c_best 2]) (gsOf [c_weight, c_may, c_chk 2, c_dcheck, c_raise, c_fcmp0, c_vpass, c_dry, c_vcpu, c_best 2]) 400 95 (pk2_a 2 w)) Bx.mk = ⟨pk2_q w⟩ := by kernel_rfl
theorem f_pk2_okB : (f_pk2 2).Ok P 95 := fun l h => by
  revert h
  exact fun h => meets_ask (E := (envW [c_weight, c_may, c_chk 2, c_dcheck, c_raise, c_fcmp0, c_vpass, c_dry, c_vcpu, c_best 2])) (gs := gsOf [c_weight, c_may, c_chk 2, c_dcheck, c_raise, c_fcmp0, c_vpass, c_dry, c_vcpu, c_best 2]) envW_among (envW_ok (l := [c_weight, c_may, c_chk 2, c_dcheck, c_raise, c_fcmp0, c_vpass, c_dry, c_vcpu, c_best 2]) ⟨c_weight_ok, c_may_ok, c_chk_okB, c_dcheck_ok, c_raise_ok, c_fcmp0_ok, c_vpass_ok, c_dry_ok, c_vcpu_ok, c_best_okB, trivial⟩) 400 (Has.of hn Tryz.func95 rfl) (pk2_askB _) (pk2_ok h)
theorem pk3_askB (w : Int) : askK (pk3_r 2 w) (evFnS (envW [c_weight, c_may, c_chk 2, c_dcheck, c_raise, c_fcmp0, c_vpass, c_dry, c_vcpu, c_best 2]) (gsOf [c_weight, c_may, c_chk 2, c_dcheck, c_raise, c_fcmp0, c_vpass, c_dry, c_vcpu, c_best 2]) 400 95 (pk3_a 2 w)) Bx.mk = ⟨pk3_q w⟩ := by kernel_rfl
theorem f_pk3_okB : (f_pk3 2).Ok P 95 := fun l h => by
  revert h
  exact fun h => meets_ask (E := (envW [c_weight, c_may, c_chk 2, c_dcheck, c_raise, c_fcmp0, c_vpass, c_dry, c_vcpu, c_best 2])) (gs := gsOf [c_weight, c_may, c_chk 2, c_dcheck, c_raise, c_fcmp0, c_vpass, c_dry, c_vcpu, c_best 2]) envW_among (envW_ok (l := [c_weight, c_may, c_chk 2, c_dcheck, c_raise, c_fcmp0, c_vpass, c_dry, c_vcpu, c_best 2]) ⟨c_weight_ok, c_may_ok, c_chk_okB, c_dcheck_ok, c_raise_ok, c_fcmp0_ok, c_vpass_ok, c_dry_ok, c_vcpu_ok, c_best_okB, trivial⟩) 400 (Has.of hn Tryz.func95 rfl) (pk3_askB _) (pk3_ok h)
theorem c_pk_okB : (c_pk 2).Ok P := famCon_ok ⟨f_pk1_okB, f_pk2_okB, f_pk3_okB, trivial⟩
theorem adv_askB (t w d : Int) : askK (adv_r 2 t w d) (evFnS (envW [c_weight, c_may, c_chk 2, c_dcheck, c_raise, c_fcmp0, c_vpass, c_dry, c_vcpu, c_best 2, c_fadd]) (gsOf [c_weight, c_may, c_chk 2, c_dcheck, c_raise, c_fcmp0, c_vpass, c_dry, c_vcpu, c_best 2, c_fadd]) 400 62 (adv_a 2 t w d)) Bx.mk = ⟨adv_q t w d⟩ := by kernel_rfl
theorem f_adv_okB : (f_adv 2).Ok P 62 := fun l h => by
  revert h
  exact fun h => meets_ask (E := (envW [c_weight, c_may, c_chk 2, c_dcheck, c_raise, c_fcmp0, c_vpass, c_dry, c_vcpu, c_best 2, c_fadd])) (gs := gsOf [c_weight, c_may, c_chk 2, c_dcheck, c_raise, c_fcmp0, c_vpass, c_dry, c_vcpu, c_best 2, c_fadd]) envW_among (envW_ok (l := [c_weight, c_may, c_chk 2, c_dcheck, c_raise, c_fcmp0, c_vpass, c_dry, c_vcpu, c_best 2, c_fadd]) ⟨c_weight_ok, c_may_ok, c_chk_okB, c_dcheck_ok, c_raise_ok, c_fcmp0_ok, c_vpass_ok, c_dry_ok, c_vcpu_ok, c_best_okB, c_fadd_ok, trivial⟩) 400 (Has.of hn Tryz.func62 rfl) (adv_askB _ _ _) (adv_ok h)
theorem c_adv_okB : (c_adv 2).Ok P := famCon_ok ⟨f_adv_okB, trivial⟩
theorem do0_askB (w : Int) : askK (do0_r 2 w) (evFnS (envL P [c_time, c_chk 2, c_call 2, c_pk 2, c_adv 2, c_code, c_tr] [] true) (gsOf [c_time, c_chk 2, c_call 2, c_pk 2, c_adv 2, c_code, c_tr]) 400 10 (do0_a 2 w)) Bx.mk = ⟨do0_q w⟩ := by kernel_rfl
theorem f_do0_okB : (f_do0 2).Ok P 10 := fun l h => by
  revert h
  exact fun h => meets_ask (E := (envL P [c_time, c_chk 2, c_call 2, c_pk 2, c_adv 2, c_code, c_tr] [] true)) (gs := gsOf [c_time, c_chk 2, c_call 2, c_pk 2, c_adv 2, c_code, c_tr]) envL_among (en_ok (l := [c_time, c_chk 2, c_call 2, c_pk 2, c_adv 2, c_code, c_tr]) ⟨c_time_ok, c_chk_okB, c_call_okB, c_pk_okB, c_adv_okB, c_code_ok, c_tr_ok, trivial⟩) 400 (Has.of hn Tryz.func10 rfl) (do0_askB _) (do0_ok h)
theorem do1_askB (w : Int) : askK (do1_r 2 w) (evFnS (envL P [c_time, c_chk 2, c_call 2, c_pk 2, c_adv 2, c_code, c_tr] [] true) (gsOf [c_time, c_chk 2, c_call 2, c_pk 2, c_adv 2, c_code, c_tr]) 400 10 (do1_a 2 w)) Bx.mk = ⟨do1_q w⟩ := by kernel_rfl
theorem f_do1_okB : (f_do1 2).Ok P 10 := fun l h => by
  revert h
  exact fun h => meets_ask (E := (envL P [c_time, c_chk 2, c_call 2, c_pk 2, c_adv 2, c_code, c_tr] [] true)) (gs := gsOf [c_time, c_chk 2, c_call 2, c_pk 2, c_adv 2, c_code, c_tr]) envL_among (en_ok (l := [c_time, c_chk 2, c_call 2, c_pk 2, c_adv 2, c_code, c_tr]) ⟨c_time_ok, c_chk_okB, c_call_okB, c_pk_okB, c_adv_okB, c_code_ok, c_tr_ok, trivial⟩) 400 (Has.of hn Tryz.func10 rfl) (do1_askB _) (do1_ok h)
theorem do2_askB (w : Int) : askK (do2_r 2 w) (evFnS (envL P [c_time, c_chk 2, c_call 2, c_pk 2, c_adv 2, c_code, c_tr] [] true) (gsOf [c_time, c_chk 2, c_call 2, c_pk 2, c_adv 2, c_code, c_tr]) 400 10 (do2_a 2 w)) Bx.mk = ⟨do2_q w⟩ := by kernel_rfl
theorem f_do2_okB : (f_do2 2).Ok P 10 := fun l h => by
  revert h
  exact fun h => meets_ask (E := (envL P [c_time, c_chk 2, c_call 2, c_pk 2, c_adv 2, c_code, c_tr] [] true)) (gs := gsOf [c_time, c_chk 2, c_call 2, c_pk 2, c_adv 2, c_code, c_tr]) envL_among (en_ok (l := [c_time, c_chk 2, c_call 2, c_pk 2, c_adv 2, c_code, c_tr]) ⟨c_time_ok, c_chk_okB, c_call_okB, c_pk_okB, c_adv_okB, c_code_ok, c_tr_ok, trivial⟩) 400 (Has.of hn Tryz.func10 rfl) (do2_askB _) (do2_ok h)
theorem do4_askB (t w d : Int) : askK (do4_r 2 t w d) (evFnS (envL P [c_time, c_chk 2, c_call 2, c_pk 2, c_adv 2, c_code, c_tr] [] true) (gsOf [c_time, c_chk 2, c_call 2, c_pk 2, c_adv 2, c_code, c_tr]) 400 10 (do4_a 2 t w d)) Bx.mk = ⟨do4_q t w d⟩ := by kernel_rfl
theorem f_do4_okB : (f_do4 2).Ok P 10 := fun l h => by
  revert h
  exact fun h => meets_ask (E := (envL P [c_time, c_chk 2, c_call 2, c_pk 2, c_adv 2, c_code, c_tr] [] true)) (gs := gsOf [c_time, c_chk 2, c_call 2, c_pk 2, c_adv 2, c_code, c_tr]) envL_among (en_ok (l := [c_time, c_chk 2, c_call 2, c_pk 2, c_adv 2, c_code, c_tr]) ⟨c_time_ok, c_chk_okB, c_call_okB, c_pk_okB, c_adv_okB, c_code_ok, c_tr_ok, trivial⟩) 400 (Has.of hn Tryz.func10 rfl) (do4_askB _ _ _) (do4_ok h)
theorem c_do_okB : (c_do 2).Ok P := famCon_ok ⟨f_do0_okB, f_do1_okB, f_do2_okB, f_do4_okB, trivial⟩
theorem new_askB  : askK (new_r 2) (evFnS (envL P [c_time] [] true) (gsOf [c_time]) 400 9 (new_a 2)) Bx.mk = ⟨new_q⟩ := by kernel_rfl
theorem f_new_okB : (f_new 2).Ok P 9 := fun l h => by
  revert h
  exact fun h => meets_ask (E := (envL P [c_time] [] true)) (gs := gsOf [c_time]) envL_among (en_ok (l := [c_time]) ⟨c_time_ok, trivial⟩) 400 (Has.of hn Tryz.func9 rfl) (new_askB) (new_ok h)
theorem c_new_okB : (c_new 2).Ok P := famCon_ok ⟨f_new_okB, trivial⟩
theorem flat1_askB  : askK (flat1_r 2) (evFnS (envL P [] [] true) (gsOf []) 400 7 (flat1_a 2)) Bx.mk = ⟨flat1_q⟩ := by kernel_rfl
theorem f_flat1_okB : (f_flat1 2).Ok P 7 := fun l h => by
  revert h
  exact fun h => meets_ask (E := (envL P [] [] true)) (gs := gsOf []) envL_among (en_ok (l := []) trivial) 400 (Has.of hn Tryz.func7 rfl) (flat1_askB) (flat1_ok h)
theorem c_flat_okB : (c_flat 2).Ok P := famCon_ok ⟨f_flat1_okB, trivial⟩
theorem ran_askB (t w : Int) : askK (ran_r 2 t w) (evFnS (envL P [c_time, c_chk 2] [] true) (gsOf [c_time, c_chk 2]) 400 8 (ran_a 2 t w)) Bx.mk = ⟨ran_q t w⟩ := by kernel_rfl
theorem f_ran_okB : (f_ran 2).Ok P 8 := fun l h => by
  revert h
  exact fun h => meets_ask (E := (envL P [c_time, c_chk 2] [] true)) (gs := gsOf [c_time, c_chk 2]) envL_among (en_ok (l := [c_time, c_chk 2]) ⟨c_time_ok, c_chk_okB, trivial⟩) 400 (Has.of hn Tryz.func8 rfl) (ran_askB _ _) (ran_ok h)
theorem c_ran_okB : (c_ran 2).Ok P := famCon_ok ⟨f_ran_okB, trivial⟩
end Go.Proofs.YtdgjneondmmgdaaGreatDoor
