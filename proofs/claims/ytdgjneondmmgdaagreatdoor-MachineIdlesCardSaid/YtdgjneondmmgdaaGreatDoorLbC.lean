/- At 3 pCPUs: picks, steps, events. -/
import Derived.Test.YtdgjneondmmgdaaGreatDoorLaC
set_option linter.unusedSimpArgs false
set_option linter.unusedVariables false
namespace Go.Proofs.YtdgjneondmmgdaaGreatDoor
open Go.Fw
set_option maxRecDepth 100000
set_option linter.unusedVariables false
set_option linter.unusedSimpArgs false
theorem pk1_askC (w : Int) : askK (pk1_r 3 w) (evFnS (envW [c_weight, c_may, c_chk 3, c_dcheck, c_raise, c_fcmp0, c_vpass, c_dry, c_vcpu, c_best 3]) (gsOf [c_weight, c_may, c_chk 3, c_dcheck, c_raise, c_fcmp0, c_vpass, c_dry, c_vcpu, c_best 3]) 400 95 (pk1_a 3 w)) Bx.mk = ⟨pk1_q w⟩ := by kernel_rfl
theorem f_pk1_okC : (f_pk1 3).Ok P 95 := fun l h => by
  revert h
  exact fun h => meets_ask (E := (envW [c_weight, c_may, c_chk 3, c_dcheck, c_raise, c_fcmp0, c_vpass, c_dry, c_vcpu, c_best 3])) (gs := gsOf [c_weight, c_may, c_chk 3, c_dcheck, c_raise, c_fcmp0, c_vpass, c_dry, c_vcpu, c_best 3]) envW_among (envW_ok (l := [c_weight, c_may, c_chk 3, c_dcheck, c_raise, c_fcmp0, c_vpass, c_dry, c_vcpu, c_best 3]) ⟨c_weight_ok, c_may_ok, c_chk_okC, c_dcheck_ok, c_raise_ok, c_fcmp0_ok, c_vpass_ok, c_dry_ok, c_vcpu_ok, c_best_okC, trivial⟩) 400 (Has.of hn Tryz.func95 rfl) (pk1_askC _) (pk1_ok h)
theorem pk2_askC (w : Int) : askK (pk2_r 3 w) (evFnS (envW [c_weight, c_may, c_chk 3, c_dcheck, c_raise, c_fcmp0, c_vpass, c_dry, c_vcpu, c_best 3]) (gsOf [c_weight, c_may, c_chk 3, c_dcheck, c_raise, c_fcmp0, c_vpass, c_dry, c_vcpu, c_best 3]) 400 95 (pk2_a 3 w)) Bx.mk = ⟨pk2_q w⟩ := by kernel_rfl
theorem f_pk2_okC : (f_pk2 3).Ok P 95 := fun l h => by
  revert h
  exact fun h => meets_ask (E := (envW [c_weight, c_may, c_chk 3, c_dcheck, c_raise, c_fcmp0, c_vpass, c_dry, c_vcpu, c_best 3])) (gs := gsOf [c_weight, c_may, c_chk 3, c_dcheck, c_raise, c_fcmp0, c_vpass, c_dry, c_vcpu, c_best 3]) envW_among (envW_ok (l := [c_weight, c_may, c_chk 3, c_dcheck, c_raise, c_fcmp0, c_vpass, c_dry, c_vcpu, c_best 3]) ⟨c_weight_ok, c_may_ok, c_chk_okC, c_dcheck_ok, c_raise_ok, c_fcmp0_ok, c_vpass_ok, c_dry_ok, c_vcpu_ok, c_best_okC, trivial⟩) 400 (Has.of hn Tryz.func95 rfl) (pk2_askC _) (pk2_ok h)
theorem pk3_askC (w : Int) : askK (pk3_r 3 w) (evFnS (envW [c_weight, c_may, c_chk 3, c_dcheck, c_raise, c_fcmp0, c_vpass, c_dry, c_vcpu, c_best 3]) (gsOf [c_weight, c_may, c_chk 3, c_dcheck, c_raise, c_fcmp0, c_vpass, c_dry, c_vcpu, c_best 3]) 400 95 (pk3_a 3 w)) Bx.mk = ⟨pk3_q w⟩ := by kernel_rfl
theorem f_pk3_okC : (f_pk3 3).Ok P 95 := fun l h => by
  revert h
  exact fun h => meets_ask (E := (envW [c_weight, c_may, c_chk 3, c_dcheck, c_raise, c_fcmp0, c_vpass, c_dry, c_vcpu, c_best 3])) (gs := gsOf [c_weight, c_may, c_chk 3, c_dcheck, c_raise, c_fcmp0, c_vpass, c_dry, c_vcpu, c_best 3]) envW_among (envW_ok (l := [c_weight, c_may, c_chk 3, c_dcheck, c_raise, c_fcmp0, c_vpass, c_dry, c_vcpu, c_best 3]) ⟨c_weight_ok, c_may_ok, c_chk_okC, c_dcheck_ok, c_raise_ok, c_fcmp0_ok, c_vpass_ok, c_dry_ok, c_vcpu_ok, c_best_okC, trivial⟩) 400 (Has.of hn Tryz.func95 rfl) (pk3_askC _) (pk3_ok h)
theorem c_pk_okC : (c_pk 3).Ok P := famCon_ok ⟨f_pk1_okC, f_pk2_okC, f_pk3_okC, trivial⟩
theorem adv_askC (t w d : Int) : askK (adv_r 3 t w d) (evFnS (envW [c_weight, c_may, c_chk 3, c_dcheck, c_raise, c_fcmp0, c_vpass, c_dry, c_vcpu, c_best 3, c_fadd]) (gsOf [c_weight, c_may, c_chk 3, c_dcheck, c_raise, c_fcmp0, c_vpass, c_dry, c_vcpu, c_best 3, c_fadd]) 400 62 (adv_a 3 t w d)) Bx.mk = ⟨adv_q t w d⟩ := by kernel_rfl
theorem f_adv_okC : (f_adv 3).Ok P 62 := fun l h => by
  revert h
  exact fun h => meets_ask (E := (envW [c_weight, c_may, c_chk 3, c_dcheck, c_raise, c_fcmp0, c_vpass, c_dry, c_vcpu, c_best 3, c_fadd])) (gs := gsOf [c_weight, c_may, c_chk 3, c_dcheck, c_raise, c_fcmp0, c_vpass, c_dry, c_vcpu, c_best 3, c_fadd]) envW_among (envW_ok (l := [c_weight, c_may, c_chk 3, c_dcheck, c_raise, c_fcmp0, c_vpass, c_dry, c_vcpu, c_best 3, c_fadd]) ⟨c_weight_ok, c_may_ok, c_chk_okC, c_dcheck_ok, c_raise_ok, c_fcmp0_ok, c_vpass_ok, c_dry_ok, c_vcpu_ok, c_best_okC, c_fadd_ok, trivial⟩) 400 (Has.of hn Tryz.func62 rfl) (adv_askC _ _ _) (adv_ok h)
theorem c_adv_okC : (c_adv 3).Ok P := famCon_ok ⟨f_adv_okC, trivial⟩
theorem do0_askC (w : Int) : askK (do0_r 3 w) (evFnS (envL P [c_time, c_chk 3, c_call 3, c_pk 3, c_adv 3, c_code, c_tr] [] true) (gsOf [c_time, c_chk 3, c_call 3, c_pk 3, c_adv 3, c_code, c_tr]) 400 10 (do0_a 3 w)) Bx.mk = ⟨do0_q w⟩ := by kernel_rfl
theorem f_do0_okC : (f_do0 3).Ok P 10 := fun l h => by
  revert h
  exact fun h => meets_ask (E := (envL P [c_time, c_chk 3, c_call 3, c_pk 3, c_adv 3, c_code, c_tr] [] true)) (gs := gsOf [c_time, c_chk 3, c_call 3, c_pk 3, c_adv 3, c_code, c_tr]) envL_among (en_ok (l := [c_time, c_chk 3, c_call 3, c_pk 3, c_adv 3, c_code, c_tr]) ⟨c_time_ok, c_chk_okC, c_call_okC, c_pk_okC, c_adv_okC, c_code_ok, c_tr_ok, trivial⟩) 400 (Has.of hn Tryz.func10 rfl) (do0_askC _) (do0_ok h)
theorem do1_askC (w : Int) : askK (do1_r 3 w) (evFnS (envL P [c_time, c_chk 3, c_call 3, c_pk 3, c_adv 3, c_code, c_tr] [] true) (gsOf [c_time, c_chk 3, c_call 3, c_pk 3, c_adv 3, c_code, c_tr]) 400 10 (do1_a 3 w)) Bx.mk = ⟨do1_q w⟩ := by kernel_rfl
theorem f_do1_okC : (f_do1 3).Ok P 10 := fun l h => by
  revert h
  exact fun h => meets_ask (E := (envL P [c_time, c_chk 3, c_call 3, c_pk 3, c_adv 3, c_code, c_tr] [] true)) (gs := gsOf [c_time, c_chk 3, c_call 3, c_pk 3, c_adv 3, c_code, c_tr]) envL_among (en_ok (l := [c_time, c_chk 3, c_call 3, c_pk 3, c_adv 3, c_code, c_tr]) ⟨c_time_ok, c_chk_okC, c_call_okC, c_pk_okC, c_adv_okC, c_code_ok, c_tr_ok, trivial⟩) 400 (Has.of hn Tryz.func10 rfl) (do1_askC _) (do1_ok h)
theorem do2_askC (w : Int) : askK (do2_r 3 w) (evFnS (envL P [c_time, c_chk 3, c_call 3, c_pk 3, c_adv 3, c_code, c_tr] [] true) (gsOf [c_time, c_chk 3, c_call 3, c_pk 3, c_adv 3, c_code, c_tr]) 400 10 (do2_a 3 w)) Bx.mk = ⟨do2_q w⟩ := by kernel_rfl
theorem f_do2_okC : (f_do2 3).Ok P 10 := fun l h => by
  revert h
  exact fun h => meets_ask (E := (envL P [c_time, c_chk 3, c_call 3, c_pk 3, c_adv 3, c_code, c_tr] [] true)) (gs := gsOf [c_time, c_chk 3, c_call 3, c_pk 3, c_adv 3, c_code, c_tr]) envL_among (en_ok (l := [c_time, c_chk 3, c_call 3, c_pk 3, c_adv 3, c_code, c_tr]) ⟨c_time_ok, c_chk_okC, c_call_okC, c_pk_okC, c_adv_okC, c_code_ok, c_tr_ok, trivial⟩) 400 (Has.of hn Tryz.func10 rfl) (do2_askC _) (do2_ok h)
theorem do4_askC (t w d : Int) : askK (do4_r 3 t w d) (evFnS (envL P [c_time, c_chk 3, c_call 3, c_pk 3, c_adv 3, c_code, c_tr] [] true) (gsOf [c_time, c_chk 3, c_call 3, c_pk 3, c_adv 3, c_code, c_tr]) 400 10 (do4_a 3 t w d)) Bx.mk = ⟨do4_q t w d⟩ := by kernel_rfl
theorem f_do4_okC : (f_do4 3).Ok P 10 := fun l h => by
  revert h
  exact fun h => meets_ask (E := (envL P [c_time, c_chk 3, c_call 3, c_pk 3, c_adv 3, c_code, c_tr] [] true)) (gs := gsOf [c_time, c_chk 3, c_call 3, c_pk 3, c_adv 3, c_code, c_tr]) envL_among (en_ok (l := [c_time, c_chk 3, c_call 3, c_pk 3, c_adv 3, c_code, c_tr]) ⟨c_time_ok, c_chk_okC, c_call_okC, c_pk_okC, c_adv_okC, c_code_ok, c_tr_ok, trivial⟩) 400 (Has.of hn Tryz.func10 rfl) (do4_askC _ _ _) (do4_ok h)
theorem c_do_okC : (c_do 3).Ok P := famCon_ok ⟨f_do0_okC, f_do1_okC, f_do2_okC, f_do4_okC, trivial⟩
theorem new_askC  : askK (new_r 3) (evFnS (envL P [c_time] [] true) (gsOf [c_time]) 400 9 (new_a 3)) Bx.mk = ⟨new_q⟩ := by kernel_rfl
theorem f_new_okC : (f_new 3).Ok P 9 := fun l h => by
  revert h
  exact fun h => meets_ask (E := (envL P [c_time] [] true)) (gs := gsOf [c_time]) envL_among (en_ok (l := [c_time]) ⟨c_time_ok, trivial⟩) 400 (Has.of hn Tryz.func9 rfl) (new_askC) (new_ok h)
theorem c_new_okC : (c_new 3).Ok P := famCon_ok ⟨f_new_okC, trivial⟩
theorem flat1_askC  : askK (flat1_r 3) (evFnS (envL P [] [] true) (gsOf []) 400 7 (flat1_a 3)) Bx.mk = ⟨flat1_q⟩ := by kernel_rfl
theorem f_flat1_okC : (f_flat1 3).Ok P 7 := fun l h => by
  revert h
  exact fun h => meets_ask (E := (envL P [] [] true)) (gs := gsOf []) envL_among (en_ok (l := []) trivial) 400 (Has.of hn Tryz.func7 rfl) (flat1_askC) (flat1_ok h)
theorem c_flat_okC : (c_flat 3).Ok P := famCon_ok ⟨f_flat1_okC, trivial⟩
theorem ran_askC (t w : Int) : askK (ran_r 3 t w) (evFnS (envL P [c_time, c_chk 3] [] true) (gsOf [c_time, c_chk 3]) 400 8 (ran_a 3 t w)) Bx.mk = ⟨ran_q t w⟩ := by kernel_rfl
theorem f_ran_okC : (f_ran 3).Ok P 8 := fun l h => by
  revert h
  exact fun h => meets_ask (E := (envL P [c_time, c_chk 3] [] true)) (gs := gsOf [c_time, c_chk 3]) envL_among (en_ok (l := [c_time, c_chk 3]) ⟨c_time_ok, c_chk_okC, trivial⟩) 400 (Has.of hn Tryz.func8 rfl) (ran_askC _ _) (ran_ok h)
theorem c_ran_okC : (c_ran 3).Ok P := famCon_ok ⟨f_ran_okC, trivial⟩
end Go.Proofs.YtdgjneondmmgdaaGreatDoor
