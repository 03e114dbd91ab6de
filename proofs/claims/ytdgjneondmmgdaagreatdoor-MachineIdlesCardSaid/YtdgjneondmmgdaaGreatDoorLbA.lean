/- At 1 pCPUs: picks, steps, events. -/
import Derived.Test.YtdgjneondmmgdaaGreatDoorLaA
set_option linter.unusedSimpArgs false
set_option linter.unusedVariables false
namespace Go.Proofs.YtdgjneondmmgdaaGreatDoor
open Go.Fw
set_option maxRecDepth 100000
set_option linter.unusedVariables false
set_option linter.unusedSimpArgs false
theorem pk1_askA (w : Int) : askK (pk1_r 1 w) (evFnS (envW [c_weight, c_may, c_chk 1, c_dcheck, c_raise, c_fcmp0, c_vpass, c_dry, c_vcpu, c_best 1]) (gsOf [c_weight, c_may, c_chk 1, c_dcheck, c_raise, c_fcmp0, c_vpass, c_dry, c_vcpu, c_best 1]) 400 95 (pk1_a 1 w)) Bx.mk = ⟨pk1_q w⟩ := by kernel_rfl
theorem f_pk1_okA : (f_pk1 1).Ok P 95 := fun l h => by
  revert h
  exact fun h => meets_ask (E := (envW [c_weight, c_may, c_chk 1, c_dcheck, c_raise, c_fcmp0, c_vpass, c_dry, c_vcpu, c_best 1])) (gs := gsOf [c_weight, c_may, c_chk 1, c_dcheck, c_raise, c_fcmp0, c_vpass, c_dry, c_vcpu, c_best 1]) envW_among (envW_ok (l := [c_weight, c_may, c_chk 1, c_dcheck, c_raise, c_fcmp0, c_vpass, c_dry, c_vcpu, c_best 1]) ⟨c_weight_ok, c_may_ok, c_chk_okA, c_dcheck_ok, c_raise_ok, c_fcmp0_ok, c_vpass_ok, c_dry_ok, c_vcpu_ok, c_best_okA, trivial⟩) 400 (Has.of hn Tryz.func95 rfl) (pk1_askA _) (pk1_ok h)
theorem pk2_askA (w : Int) : askK (pk2_r 1 w) (evFnS (envW [c_weight, c_may, c_chk 1, c_dcheck, c_raise, c_fcmp0, c_vpass, c_dry, c_vcpu, c_best 1]) (gsOf [c_weight, c_may, c_chk 1, c_dcheck, c_raise, c_fcmp0, c_vpass, c_dry, c_vcpu, c_best 1]) 400 95 (pk2_a 1 w)) Bx.mk = ⟨pk2_q w⟩ := by kernel_rfl
theorem f_pk2_okA : (f_pk2 1).Ok P 95 := fun l h => by
  revert h
  exact fun h => meets_ask (E := (envW [c_weight, c_may, c_chk 1, c_dcheck, c_raise, c_fcmp0, c_vpass, c_dry, c_vcpu, c_best 1])) (gs := gsOf [c_weight, c_may, c_chk 1, c_dcheck, c_raise, c_fcmp0, c_vpass, c_dry, c_vcpu, c_best 1]) envW_among (envW_ok (l := [c_weight, c_may, c_chk 1, c_dcheck, c_raise, c_fcmp0, c_vpass, c_dry, c_vcpu, c_best 1]) ⟨c_weight_ok, c_may_ok, c_chk_okA, c_dcheck_ok, c_raise_ok, c_fcmp0_ok, c_vpass_ok, c_dry_ok, c_vcpu_ok, c_best_okA, trivial⟩) 400 (Has.of hn Tryz.func95 rfl) (pk2_askA _) (pk2_ok h)
theorem pk3_askA (w : Int) : askK (pk3_r 1 w) (evFnS (envW [c_weight, c_may, c_chk 1, c_dcheck, c_raise, c_fcmp0, c_vpass, c_dry, c_vcpu, c_best 1]) (gsOf [c_weight, c_may, c_chk 1, c_dcheck, c_raise, c_fcmp0, c_vpass, c_dry, c_vcpu, c_best 1]) 400 95 (pk3_a 1 w)) Bx.mk = ⟨pk3_q w⟩ := by kernel_rfl
theorem f_pk3_okA : (f_pk3 1).Ok P 95 := fun l h => by
  revert h
  exact fun h => meets_ask (E := (envW [c_weight, c_may, c_chk 1, c_dcheck, c_raise, c_fcmp0, c_vpass, c_dry, c_vcpu, c_best 1])) (gs := gsOf [c_weight, c_may, c_chk 1, c_dcheck, c_raise, c_fcmp0, c_vpass, c_dry, c_vcpu, c_best 1]) envW_among (envW_ok (l := [c_weight, c_may, c_chk 1, c_dcheck, c_raise, c_fcmp0, c_vpass, c_dry, c_vcpu, c_best 1]) ⟨c_weight_ok, c_may_ok, c_chk_okA, c_dcheck_ok, c_raise_ok, c_fcmp0_ok, c_vpass_ok, c_dry_ok, c_vcpu_ok, c_best_okA, trivial⟩) 400 (Has.of hn Tryz.func95 rfl) (pk3_askA _) (pk3_ok h)
theorem c_pk_okA : (c_pk 1).Ok P := famCon_ok ⟨f_pk1_okA, f_pk2_okA, f_pk3_okA, trivial⟩
theorem adv_askA (t w d : Int) : askK (adv_r 1 t w d) (evFnS (envW [c_weight, c_may, c_chk 1, c_dcheck, c_raise, c_fcmp0, c_vpass, c_dry, c_vcpu, c_best 1, c_fadd]) (gsOf [c_weight, c_may, c_chk 1, c_dcheck, c_raise, c_fcmp0, c_vpass, c_dry, c_vcpu, c_best 1, c_fadd]) 400 62 (adv_a 1 t w d)) Bx.mk = ⟨adv_q t w d⟩ := by kernel_rfl
theorem f_adv_okA : (f_adv 1).Ok P 62 := fun l h => by
  revert h
  exact fun h => meets_ask (E := (envW [c_weight, c_may, c_chk 1, c_dcheck, c_raise, c_fcmp0, c_vpass, c_dry, c_vcpu, c_best 1, c_fadd])) (gs := gsOf [c_weight, c_may, c_chk 1, c_dcheck, c_raise, c_fcmp0, c_vpass, c_dry, c_vcpu, c_best 1, c_fadd]) envW_among (envW_ok (l := [c_weight, c_may, c_chk 1, c_dcheck, c_raise, c_fcmp0, c_vpass, c_dry, c_vcpu, c_best 1, c_fadd]) ⟨c_weight_ok, c_may_ok, c_chk_okA, c_dcheck_ok, c_raise_ok, c_fcmp0_ok, c_vpass_ok, c_dry_ok, c_vcpu_ok, c_best_okA, c_fadd_ok, trivial⟩) 400 (Has.of hn Tryz.func62 rfl) (adv_askA _ _ _) (adv_ok h)
theorem c_adv_okA : (c_adv 1).Ok P := famCon_ok ⟨f_adv_okA, trivial⟩
theorem do0_askA (w : Int) : askK (do0_r 1 w) (evFnS (envL P [c_time, c_chk 1, c_call 1, c_pk 1, c_adv 1, c_code, c_tr] [] true) (gsOf [c_time, c_chk 1, c_call 1, c_pk 1, c_adv 1, c_code, c_tr]) 400 10 (do0_a 1 w)) Bx.mk = ⟨do0_q w⟩ := by kernel_rfl
theorem f_do0_okA : (f_do0 1).Ok P 10 := fun l h => by
  revert h
  exact fun h => meets_ask (E := (envL P [c_time, c_chk 1, c_call 1, c_pk 1, c_adv 1, c_code, c_tr] [] true)) (gs := gsOf [c_time, c_chk 1, c_call 1, c_pk 1, c_adv 1, c_code, c_tr]) envL_among (en_ok (l := [c_time, c_chk 1, c_call 1, c_pk 1, c_adv 1, c_code, c_tr]) ⟨c_time_ok, c_chk_okA, c_call_okA, c_pk_okA, c_adv_okA, c_code_ok, c_tr_ok, trivial⟩) 400 (Has.of hn Tryz.func10 rfl) (do0_askA _) (do0_ok h)
theorem do1_askA (w : Int) : askK (do1_r 1 w) (evFnS (envL P [c_time, c_chk 1, c_call 1, c_pk 1, c_adv 1, c_code, c_tr] [] true) (gsOf [c_time, c_chk 1, c_call 1, c_pk 1, c_adv 1, c_code, c_tr]) 400 10 (do1_a 1 w)) Bx.mk = ⟨do1_q w⟩ := by kernel_rfl
theorem f_do1_okA : (f_do1 1).Ok P 10 := fun l h => by
  revert h
  exact fun h => meets_ask (E := (envL P [c_time, c_chk 1, c_call 1, c_pk 1, c_adv 1, c_code, c_tr] [] true)) (gs := gsOf [c_time, c_chk 1, c_call 1, c_pk 1, c_adv 1, c_code, c_tr]) envL_among (en_ok (l := [c_time, c_chk 1, c_call 1, c_pk 1, c_adv 1, c_code, c_tr]) ⟨c_time_ok, c_chk_okA, c_call_okA, c_pk_okA, c_adv_okA, c_code_ok, c_tr_ok, trivial⟩) 400 (Has.of hn Tryz.func10 rfl) (do1_askA _) (do1_ok h)
theorem do2_askA (w : Int) : askK (do2_r 1 w) (evFnS (envL P [c_time, c_chk 1, c_call 1, c_pk 1, c_adv 1, c_code, c_tr] [] true) (gsOf [c_time, c_chk 1, c_call 1, c_pk 1, c_adv 1, c_code, c_tr]) 400 10 (do2_a 1 w)) Bx.mk = ⟨do2_q w⟩ := by kernel_rfl
theorem f_do2_okA : (f_do2 1).Ok P 10 := fun l h => by
  revert h
  exact fun h => meets_ask (E := (envL P [c_time, c_chk 1, c_call 1, c_pk 1, c_adv 1, c_code, c_tr] [] true)) (gs := gsOf [c_time, c_chk 1, c_call 1, c_pk 1, c_adv 1, c_code, c_tr]) envL_among (en_ok (l := [c_time, c_chk 1, c_call 1, c_pk 1, c_adv 1, c_code, c_tr]) ⟨c_time_ok, c_chk_okA, c_call_okA, c_pk_okA, c_adv_okA, c_code_ok, c_tr_ok, trivial⟩) 400 (Has.of hn Tryz.func10 rfl) (do2_askA _) (do2_ok h)
theorem do4_askA (t w d : Int) : askK (do4_r 1 t w d) (evFnS (envL P [c_time, c_chk 1, c_call 1, c_pk 1, c_adv 1, c_code, c_tr] [] true) (gsOf [c_time, c_chk 1, c_call 1, c_pk 1, c_adv 1, c_code, c_tr]) 400 10 (do4_a 1 t w d)) Bx.mk = ⟨do4_q t w d⟩ := by kernel_rfl
theorem f_do4_okA : (f_do4 1).Ok P 10 := fun l h => by
  revert h
  exact fun h => meets_ask (E := (envL P [c_time, c_chk 1, c_call 1, c_pk 1, c_adv 1, c_code, c_tr] [] true)) (gs := gsOf [c_time, c_chk 1, c_call 1, c_pk 1, c_adv 1, c_code, c_tr]) envL_among (en_ok (l := [c_time, c_chk 1, c_call 1, c_pk 1, c_adv 1, c_code, c_tr]) ⟨c_time_ok, c_chk_okA, c_call_okA, c_pk_okA, c_adv_okA, c_code_ok, c_tr_ok, trivial⟩) 400 (Has.of hn Tryz.func10 rfl) (do4_askA _ _ _) (do4_ok h)
theorem c_do_okA : (c_do 1).Ok P := famCon_ok ⟨f_do0_okA, f_do1_okA, f_do2_okA, f_do4_okA, trivial⟩
theorem new_askA  : askK (new_r 1) (evFnS (envL P [c_time] [] true) (gsOf [c_time]) 400 9 (new_a 1)) Bx.mk = ⟨new_q⟩ := by kernel_rfl
theorem f_new_okA : (f_new 1).Ok P 9 := fun l h => by
  revert h
  exact fun h => meets_ask (E := (envL P [c_time] [] true)) (gs := gsOf [c_time]) envL_among (en_ok (l := [c_time]) ⟨c_time_ok, trivial⟩) 400 (Has.of hn Tryz.func9 rfl) (new_askA) (new_ok h)
theorem c_new_okA : (c_new 1).Ok P := famCon_ok ⟨f_new_okA, trivial⟩
theorem flat1_askA  : askK (flat1_r 1) (evFnS (envL P [] [] true) (gsOf []) 400 7 (flat1_a 1)) Bx.mk = ⟨flat1_q⟩ := by kernel_rfl
theorem f_flat1_okA : (f_flat1 1).Ok P 7 := fun l h => by
  revert h
  exact fun h => meets_ask (E := (envL P [] [] true)) (gs := gsOf []) envL_among (en_ok (l := []) trivial) 400 (Has.of hn Tryz.func7 rfl) (flat1_askA) (flat1_ok h)
theorem c_flat_okA : (c_flat 1).Ok P := famCon_ok ⟨f_flat1_okA, trivial⟩
theorem ran_askA (t w : Int) : askK (ran_r 1 t w) (evFnS (envL P [c_time, c_chk 1] [] true) (gsOf [c_time, c_chk 1]) 400 8 (ran_a 1 t w)) Bx.mk = ⟨ran_q t w⟩ := by kernel_rfl
theorem f_ran_okA : (f_ran 1).Ok P 8 := fun l h => by
  revert h
  exact fun h => meets_ask (E := (envL P [c_time, c_chk 1] [] true)) (gs := gsOf [c_time, c_chk 1]) envL_among (en_ok (l := [c_time, c_chk 1]) ⟨c_time_ok, c_chk_okA, trivial⟩) 400 (Has.of hn Tryz.func8 rfl) (ran_askA _ _) (ran_ok h)
theorem c_ran_okA : (c_ran 1).Ok P := famCon_ok ⟨f_ran_okA, trivial⟩
end Go.Proofs.YtdgjneondmmgdaaGreatDoor
