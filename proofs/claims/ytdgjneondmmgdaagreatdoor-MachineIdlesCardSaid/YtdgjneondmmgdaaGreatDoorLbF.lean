/- At 6 pCPUs: picks, steps, events. -/
import Derived.Test.YtdgjneondmmgdaaGreatDoorLaF
set_option linter.unusedSimpArgs false
set_option linter.unusedVariables false
namespace Go.Proofs.YtdgjneondmmgdaaGreatDoor
open Go.Fw
set_option maxRecDepth 100000
set_option linter.unusedVariables false
set_option linter.unusedSimpArgs false
theorem pk1_askF (w : Int) : askK (pk1_r 6 w) (evFnS (envW [c_weight, c_may, c_chk 6, c_dcheck, c_raise, c_fcmp0, c_vpass, c_dry, c_vcpu, c_best 6]) (gsOf [c_weight, c_may, c_chk 6, c_dcheck, c_raise, c_fcmp0, c_vpass, c_dry, c_vcpu, c_best 6]) 400 95 (pk1_a 6 w)) Bx.mk = ⟨pk1_q w⟩ := by kernel_rfl
theorem f_pk1_okF : (f_pk1 6).Ok P 95 := fun l h => by
  revert h
  exact fun h => meets_ask (E := (envW [c_weight, c_may, c_chk 6, c_dcheck, c_raise, c_fcmp0, c_vpass, c_dry, c_vcpu, c_best 6])) (gs := gsOf [c_weight, c_may, c_chk 6, c_dcheck, c_raise, c_fcmp0, c_vpass, c_dry, c_vcpu, c_best 6]) envW_among (envW_ok (l := [c_weight, c_may, c_chk 6, c_dcheck, c_raise, c_fcmp0, c_vpass, c_dry, c_vcpu, c_best 6]) ⟨c_weight_ok, c_may_ok, c_chk_okF, c_dcheck_ok, c_raise_ok, c_fcmp0_ok, c_vpass_ok, c_dry_ok, c_vcpu_ok, c_best_okF, trivial⟩) 400 (Has.of hn Tryz.func95 rfl) (pk1_askF _) (pk1_ok h)
theorem pk2_askF (w : Int) : askK (pk2_r 6 w) (evFnS (envW [c_weight, c_may, c_chk 6, c_dcheck, c_raise, c_fcmp0, c_vpass, c_dry, c_vcpu, c_best 6]) (gsOf [c_weight, c_may, c_chk 6, c_dcheck, c_raise, c_fcmp0, c_vpass, c_dry, c_vcpu, c_best 6]) 400 95 (pk2_a 6 w)) Bx.mk = ⟨pk2_q w⟩ := by kernel_rfl
theorem f_pk2_okF : (f_pk2 6).Ok P 95 := fun l h => by
  revert h
  exact fun h => meets_ask (E := (envW [c_weight, c_may, c_chk 6, c_dcheck, c_raise, c_fcmp0, c_vpass, c_dry, c_vcpu, c_best 6])) (gs := gsOf [c_weight, c_may, c_chk 6, c_dcheck, c_raise, c_fcmp0, c_vpass, c_dry, c_vcpu, c_best 6]) envW_among (envW_ok (l := [c_weight, c_may, c_chk 6, c_dcheck, c_raise, c_fcmp0, c_vpass, c_dry, c_vcpu, c_best 6]) ⟨c_weight_ok, c_may_ok, c_chk_okF, c_dcheck_ok, c_raise_ok, c_fcmp0_ok, c_vpass_ok, c_dry_ok, c_vcpu_ok, c_best_okF, trivial⟩) 400 (Has.of hn Tryz.func95 rfl) (pk2_askF _) (pk2_ok h)
theorem pk3_askF (w : Int) : askK (pk3_r 6 w) (evFnS (envW [c_weight, c_may, c_chk 6, c_dcheck, c_raise, c_fcmp0, c_vpass, c_dry, c_vcpu, c_best 6]) (gsOf [c_weight, c_may, c_chk 6, c_dcheck, c_raise, c_fcmp0, c_vpass, c_dry, c_vcpu, c_best 6]) 400 95 (pk3_a 6 w)) Bx.mk = ⟨pk3_q w⟩ := by kernel_rfl
theorem f_pk3_okF : (f_pk3 6).Ok P 95 := fun l h => by
  revert h
  exact fun h => meets_ask (E := (envW [c_weight, c_may, c_chk 6, c_dcheck, c_raise, c_fcmp0, c_vpass, c_dry, c_vcpu, c_best 6])) (gs := gsOf [c_weight, c_may, c_chk 6, c_dcheck, c_raise, c_fcmp0, c_vpass, c_dry, c_vcpu, c_best 6]) envW_among (envW_ok (l := [c_weight, c_may, c_chk 6, c_dcheck, c_raise, c_fcmp0, c_vpass, c_dry, c_vcpu, c_best 6]) ⟨c_weight_ok, c_may_ok, c_chk_okF, c_dcheck_ok, c_raise_ok, c_fcmp0_ok, c_vpass_ok, c_dry_ok, c_vcpu_ok, c_best_okF, trivial⟩) 400 (Has.of hn Tryz.func95 rfl) (pk3_askF _) (pk3_ok h)
theorem c_pk_okF : (c_pk 6).Ok P := famCon_ok ⟨f_pk1_okF, f_pk2_okF, f_pk3_okF, trivial⟩
theorem adv_askF (t w d : Int) : askK (adv_r 6 t w d) (evFnS (envW [c_weight, c_may, c_chk 6, c_dcheck, c_raise, c_fcmp0, c_vpass, c_dry, c_vcpu, c_best 6, c_fadd]) (gsOf [c_weight, c_may, c_chk 6, c_dcheck, c_raise, c_fcmp0, c_vpass, c_dry, c_vcpu, c_best 6, c_fadd]) 400 62 (adv_a 6 t w d)) Bx.mk = ⟨adv_q t w d⟩ := by kernel_rfl
theorem f_adv_okF : (f_adv 6).Ok P 62 := fun l h => by
  revert h
  exact fun h => meets_ask (E := (envW [c_weight, c_may, c_chk 6, c_dcheck, c_raise, c_fcmp0, c_vpass, c_dry, c_vcpu, c_best 6, c_fadd])) (gs := gsOf [c_weight, c_may, c_chk 6, c_dcheck, c_raise, c_fcmp0, c_vpass, c_dry, c_vcpu, c_best 6, c_fadd]) envW_among (envW_ok (l := [c_weight, c_may, c_chk 6, c_dcheck, c_raise, c_fcmp0, c_vpass, c_dry, c_vcpu, c_best 6, c_fadd]) ⟨c_weight_ok, c_may_ok, c_chk_okF, c_dcheck_ok, c_raise_ok, c_fcmp0_ok, c_vpass_ok, c_dry_ok, c_vcpu_ok, c_best_okF, c_fadd_ok, trivial⟩) 400 (Has.of hn Tryz.func62 rfl) (adv_askF _ _ _) (adv_ok h)
theorem c_adv_okF : (c_adv 6).Ok P := famCon_ok ⟨f_adv_okF, trivial⟩
theorem do0_askF (w : Int) : askK (do0_r 6 w) (evFnS (envL P [c_time, c_chk 6, c_call 6, c_pk 6, c_adv 6, c_code, c_tr] [] true) (gsOf [c_time, c_chk 6, c_call 6, c_pk 6, c_adv 6, c_code, c_tr]) 400 10 (do0_a 6 w)) Bx.mk = ⟨do0_q w⟩ := by kernel_rfl
theorem f_do0_okF : (f_do0 6).Ok P 10 := fun l h => by
  revert h
  exact fun h => meets_ask (E := (envL P [c_time, c_chk 6, c_call 6, c_pk 6, c_adv 6, c_code, c_tr] [] true)) (gs := gsOf [c_time, c_chk 6, c_call 6, c_pk 6, c_adv 6, c_code, c_tr]) envL_among (en_ok (l := [c_time, c_chk 6, c_call 6, c_pk 6, c_adv 6, c_code, c_tr]) ⟨c_time_ok, c_chk_okF, c_call_okF, c_pk_okF, c_adv_okF, c_code_ok, c_tr_ok, trivial⟩) 400 (Has.of hn Tryz.func10 rfl) (do0_askF _) (do0_ok h)
theorem do1_askF (w : Int) : askK (do1_r 6 w) (evFnS (envL P [c_time, c_chk 6, c_call 6, c_pk 6, c_adv 6, c_code, c_tr] [] true) (gsOf [c_time, c_chk 6, c_call 6, c_pk 6, c_adv 6, c_code, c_tr]) 400 10 (do1_a 6 w)) Bx.mk = ⟨do1_q w⟩ := by kernel_rfl
theorem f_do1_okF : (f_do1 6).Ok P 10 := fun l h => by
  revert h
  exact fun h => meets_ask (E := (envL P [c_time, c_chk 6, c_call 6, c_pk 6, c_adv 6, c_code, c_tr] [] true)) (gs := gsOf [c_time, c_chk 6, c_call 6, c_pk 6, c_adv 6, c_code, c_tr]) envL_among (en_ok (l := [c_time, c_chk 6, c_call 6, c_pk 6, c_adv 6, c_code, c_tr]) ⟨c_time_ok, c_chk_okF, c_call_okF, c_pk_okF, c_adv_okF, c_code_ok, c_tr_ok, trivial⟩) 400 (Has.of hn Tryz.func10 rfl) (do1_askF _) (do1_ok h)
theorem do2_askF (w : Int) : askK (do2_r 6 w) (evFnS (envL P [c_time, c_chk 6, c_call 6, c_pk 6, c_adv 6, c_code, c_tr] [] true) (gsOf [c_time, c_chk 6, c_call 6, c_pk 6, c_adv 6, c_code, c_tr]) 400 10 (do2_a 6 w)) Bx.mk = ⟨do2_q w⟩ := by kernel_rfl
theorem f_do2_okF : (f_do2 6).Ok P 10 := fun l h => by
  revert h
  exact fun h => meets_ask (E := (envL P [c_time, c_chk 6, c_call 6, c_pk 6, c_adv 6, c_code, c_tr] [] true)) (gs := gsOf [c_time, c_chk 6, c_call 6, c_pk 6, c_adv 6, c_code, c_tr]) envL_among (en_ok (l := [c_time, c_chk 6, c_call 6, c_pk 6, c_adv 6, c_code, c_tr]) ⟨c_time_ok, c_chk_okF, c_call_okF, c_pk_okF, c_adv_okF, c_code_ok, c_tr_ok, trivial⟩) 400 (Has.of hn Tryz.func10 rfl) (do2_askF _) (do2_ok h)
theorem do4_askF (t w d : Int) : askK (do4_r 6 t w d) (evFnS (envL P [c_time, c_chk 6, c_call 6, c_pk 6, c_adv 6, c_code, c_tr] [] true) (gsOf [c_time, c_chk 6, c_call 6, c_pk 6, c_adv 6, c_code, c_tr]) 400 10 (do4_a 6 t w d)) Bx.mk = ⟨do4_q t w d⟩ := by kernel_rfl
theorem f_do4_okF : (f_do4 6).Ok P 10 := fun l h => by
  revert h
  exact fun h => meets_ask (E := (envL P [c_time, c_chk 6, c_call 6, c_pk 6, c_adv 6, c_code, c_tr] [] true)) (gs := gsOf [c_time, c_chk 6, c_call 6, c_pk 6, c_adv 6, c_code, c_tr]) envL_among (en_ok (l := [c_time, c_chk 6, c_call 6, c_pk 6, c_adv 6, c_code, c_tr]) ⟨c_time_ok, c_chk_okF, c_call_okF, c_pk_okF, c_adv_okF, c_code_ok, c_tr_ok, trivial⟩) 400 (Has.of hn Tryz.func10 rfl) (do4_askF _ _ _) (do4_ok h)
theorem c_do_okF : (c_do 6).Ok P := famCon_ok ⟨f_do0_okF, f_do1_okF, f_do2_okF, f_do4_okF, trivial⟩
theorem new_askF  : askK (new_r 6) (evFnS (envL P [c_time] [] true) (gsOf [c_time]) 400 9 (new_a 6)) Bx.mk = ⟨new_q⟩ := by kernel_rfl
theorem f_new_okF : (f_new 6).Ok P 9 := fun l h => by
  revert h
  exact fun h => meets_ask (E := (envL P [c_time] [] true)) (gs := gsOf [c_time]) envL_among (en_ok (l := [c_time]) ⟨c_time_ok, trivial⟩) 400 (Has.of hn Tryz.func9 rfl) (new_askF) (new_ok h)
theorem c_new_okF : (c_new 6).Ok P := famCon_ok ⟨f_new_okF, trivial⟩
theorem flat1_askF  : askK (flat1_r 6) (evFnS (envL P [] [] true) (gsOf []) 400 7 (flat1_a 6)) Bx.mk = ⟨flat1_q⟩ := by kernel_rfl
theorem f_flat1_okF : (f_flat1 6).Ok P 7 := fun l h => by
  revert h
  exact fun h => meets_ask (E := (envL P [] [] true)) (gs := gsOf []) envL_among (en_ok (l := []) trivial) 400 (Has.of hn Tryz.func7 rfl) (flat1_askF) (flat1_ok h)
theorem c_flat_okF : (c_flat 6).Ok P := famCon_ok ⟨f_flat1_okF, trivial⟩
theorem ran_askF (t w : Int) : askK (ran_r 6 t w) (evFnS (envL P [c_time, c_chk 6] [] true) (gsOf [c_time, c_chk 6]) 400 8 (ran_a 6 t w)) Bx.mk = ⟨ran_q t w⟩ := by kernel_rfl
theorem f_ran_okF : (f_ran 6).Ok P 8 := fun l h => by
  revert h
  exact fun h => meets_ask (E := (envL P [c_time, c_chk 6] [] true)) (gs := gsOf [c_time, c_chk 6]) envL_among (en_ok (l := [c_time, c_chk 6]) ⟨c_time_ok, c_chk_okF, trivial⟩) 400 (Has.of hn Tryz.func8 rfl) (ran_askF _ _) (ran_ok h)
theorem c_ran_okF : (c_ran 6).Ok P := famCon_ok ⟨f_ran_okF, trivial⟩
end Go.Proofs.YtdgjneondmmgdaaGreatDoor
