/- At 4 pCPUs: picks, steps, events. -/
import Derived.Test.YtdgjneondmmgdaaGreatDoorLaD
set_option linter.unusedSimpArgs false
set_option linter.unusedVariables false
namespace Go.Proofs.YtdgjneondmmgdaaGreatDoor
open Go.Fw
set_option maxRecDepth 100000
set_option linter.unusedVariables false
set_option linter.unusedSimpArgs false
theorem pk1_askD (w : Int) : askK (pk1_r 4 w) (evFnS (envW [c_weight, c_may, c_chk 4, c_dcheck, c_raise, c_fcmp0, c_vpass, c_dry, c_vcpu, c_best 4]) (gsOf [c_weight, c_may, c_chk 4, c_dcheck, c_raise, c_fcmp0, c_vpass, c_dry, c_vcpu, c_best 4]) 400 95 (pk1_a 4 w)) Bx.mk = ⟨pk1_q w⟩ := by kernel_rfl
theorem f_pk1_okD : (f_pk1 4).Ok P 95 := fun l h => by
  revert h
  exact fun h => meets_ask (E := (envW [c_weight, c_may, c_chk 4, c_dcheck, c_raise, c_fcmp0, c_vpass, c_dry, c_vcpu, c_best 4])) (gs := gsOf [c_weight, c_may, c_chk 4, c_dcheck, c_raise, c_fcmp0, c_vpass, c_dry, c_vcpu, c_best 4]) envW_among (envW_ok (l := [c_weight, c_may, c_chk 4, c_dcheck, c_raise, c_fcmp0, c_vpass, c_dry, c_vcpu, c_best 4]) ⟨c_weight_ok, c_may_ok, c_chk_okD, c_dcheck_ok, c_raise_ok, c_fcmp0_ok, c_vpass_ok, c_dry_ok, c_vcpu_ok, c_best_okD, trivial⟩) 400 (Has.of hn Tryz.func95 rfl) (pk1_askD _) (pk1_ok h)
theorem pk2_askD (w : Int) : askK (pk2_r 4 w) (evFnS (envW [c_weight, c_may, c_chk 4, c_dcheck, c_raise, c_fcmp0, c_vpass, c_dry, c_vcpu, c_best 4]) (gsOf [c_weight, c_may, c_chk 4, c_dcheck, c_raise, c_fcmp0, c_vpass, c_dry, c_vcpu, c_best 4]) 400 95 (pk2_a 4 w)) Bx.mk = ⟨pk2_q w⟩ := by kernel_rfl
theorem f_pk2_okD : (f_pk2 4).Ok P 95 := fun l h => by
  revert h
  exact fun h => meets_ask (E := (envW [c_weight, c_may, c_chk 4, c_dcheck, c_raise, c_fcmp0, c_vpass, c_dry, c_vcpu, c_best 4])) (gs := gsOf [c_weight, c_may, c_chk 4, c_dcheck, c_raise, c_fcmp0, c_vpass, c_dry, c_vcpu, c_best 4]) envW_among (envW_ok (l := [c_weight, c_may, c_chk 4, c_dcheck, c_raise, c_fcmp0, c_vpass, c_dry, c_vcpu, c_best 4]) ⟨c_weight_ok, c_may_ok, c_chk_okD, c_dcheck_ok, c_raise_ok, c_fcmp0_ok, c_vpass_ok, c_dry_ok, c_vcpu_ok, c_best_okD, trivial⟩) 400 (Has.of hn Tryz.func95 rfl) (pk2_askD _) (pk2_ok h)
theorem pk3_askD (w : Int) : askK (pk3_r 4 w) (evFnS (envW [c_weight, c_may, c_chk 4, c_dcheck, c_raise, c_fcmp0, c_vpass, c_dry, c_vcpu, c_best 4]) (gsOf [c_weight, c_may, c_chk 4, c_dcheck, c_raise, c_fcmp0, c_vpass, c_dry, c_vcpu, c_best 4]) 400 95 (pk3_a 4 w)) Bx.mk = ⟨pk3_q w⟩ := by kernel_rfl
theorem f_pk3_okD : (f_pk3 4).Ok P 95 := fun l h => by
  revert h
  exact fun h => meets_ask (E := (envW [c_weight, c_may, c_chk 4, c_dcheck, c_raise, c_fcmp0, c_vpass, c_dry, c_vcpu, c_best 4])) (gs := gsOf [c_weight, c_may, c_chk 4, c_dcheck, c_raise, c_fcmp0, c_vpass, c_dry, c_vcpu, c_best 4]) envW_among (envW_ok (l := [c_weight, c_may, c_chk 4, c_dcheck, c_raise, c_fcmp0, c_vpass, c_dry, c_vcpu, c_best 4]) ⟨c_weight_ok, c_may_ok, c_chk_okD, c_dcheck_ok, c_raise_ok, c_fcmp0_ok, c_vpass_ok, c_dry_ok, c_vcpu_ok, c_best_okD, trivial⟩) 400 (Has.of hn Tryz.func95 rfl) (pk3_askD _) (pk3_ok h)
theorem c_pk_okD : (c_pk 4).Ok P := famCon_ok ⟨f_pk1_okD, f_pk2_okD, f_pk3_okD, trivial⟩
theorem adv_askD (t w d : Int) : askK (adv_r 4 t w d) (evFnS (envW [c_weight, c_may, c_chk 4, c_dcheck, c_raise, c_fcmp0, c_vpass, c_dry, c_vcpu, c_best 4, c_fadd]) (gsOf [c_weight, c_may, c_chk 4, c_dcheck, c_raise, c_fcmp0, c_vpass, c_dry, c_vcpu, c_best 4, c_fadd]) 400 62 (adv_a 4 t w d)) Bx.mk = ⟨adv_q t w d⟩ := by kernel_rfl
theorem f_adv_okD : (f_adv 4).Ok P 62 := fun l h => by
  revert h
  exact fun h => meets_ask (E := (envW [c_weight, c_may, c_chk 4, c_dcheck, c_raise, c_fcmp0, c_vpass, c_dry, c_vcpu, c_best 4, c_fadd])) (gs := gsOf [c_weight, c_may, c_chk 4, c_dcheck, c_raise, c_fcmp0, c_vpass, c_dry, c_vcpu, c_best 4, c_fadd]) envW_among (envW_ok (l := [c_weight, c_may, c_chk 4, c_dcheck, c_raise, c_fcmp0, c_vpass, c_dry, c_vcpu, c_best 4, c_fadd]) ⟨c_weight_ok, c_may_ok, c_chk_okD, c_dcheck_ok, c_raise_ok, c_fcmp0_ok, c_vpass_ok, c_dry_ok, c_vcpu_ok, c_best_okD, c_fadd_ok, trivial⟩) 400 (Has.of hn Tryz.func62 rfl) (adv_askD _ _ _) (adv_ok h)
theorem c_adv_okD : (c_adv 4).Ok P := famCon_ok ⟨f_adv_okD, trivial⟩
theorem do0_askD (w : Int) : askK (do0_r 4 w) (evFnS (envL P [c_time, c_chk 4, c_call 4, c_pk 4, c_adv 4, c_code, c_tr] [] true) (gsOf [c_time, c_chk 4, c_call 4, c_pk 4, c_adv 4, c_code, c_tr]) 400 10 (do0_a 4 w)) Bx.mk = ⟨do0_q w⟩ := by kernel_rfl
theorem f_do0_okD : (f_do0 4).Ok P 10 := fun l h => by
  revert h
  exact fun h => meets_ask (E := (envL P [c_time, c_chk 4, c_call 4, c_pk 4, c_adv 4, c_code, c_tr] [] true)) (gs := gsOf [c_time, c_chk 4, c_call 4, c_pk 4, c_adv 4, c_code, c_tr]) envL_among (en_ok (l := [c_time, c_chk 4, c_call 4, c_pk 4, c_adv 4, c_code, c_tr]) ⟨c_time_ok, c_chk_okD, c_call_okD, c_pk_okD, c_adv_okD, c_code_ok, c_tr_ok, trivial⟩) 400 (Has.of hn Tryz.func10 rfl) (do0_askD _) (do0_ok h)
theorem do1_askD (w : Int) : askK (do1_r 4 w) (evFnS (envL P [c_time, c_chk 4, c_call 4, c_pk 4, c_adv 4, c_code, c_tr] [] true) (gsOf [c_time, c_chk 4, c_call 4, c_pk 4, c_adv 4, c_code, c_tr]) 400 10 (do1_a 4 w)) Bx.mk = ⟨do1_q w⟩ := by kernel_rfl
theorem f_do1_okD : (f_do1 4).Ok P 10 := fun l h => by
  revert h
  exact fun h => meets_ask (E := (envL P [c_time, c_chk 4, c_call 4, c_pk 4, c_adv 4, c_code, c_tr] [] true)) (gs := gsOf [c_time, c_chk 4, c_call 4, c_pk 4, c_adv 4, c_code, c_tr]) envL_among (en_ok (l := [c_time, c_chk 4, c_call 4, c_pk 4, c_adv 4, c_code, c_tr]) ⟨c_time_ok, c_chk_okD, c_call_okD, c_pk_okD, c_adv_okD, c_code_ok, c_tr_ok, trivial⟩) 400 (Has.of hn Tryz.func10 rfl) (do1_askD _) (do1_ok h)
theorem do2_askD (w : Int) : askK (do2_r 4 w) (evFnS (envL P [c_time, c_chk 4, c_call 4, c_pk 4, c_adv 4, c_code, c_tr] [] true) (gsOf [c_time, c_chk 4, c_call 4, c_pk 4, c_adv 4, c_code, c_tr]) 400 10 (do2_a 4 w)) Bx.mk = ⟨do2_q w⟩ := by kernel_rfl
theorem f_do2_okD : (f_do2 4).Ok P 10 := fun l h => by
  revert h
  exact fun h => meets_ask (E := (envL P [c_time, c_chk 4, c_call 4, c_pk 4, c_adv 4, c_code, c_tr] [] true)) (gs := gsOf [c_time, c_chk 4, c_call 4, c_pk 4, c_adv 4, c_code, c_tr]) envL_among (en_ok (l := [c_time, c_chk 4, c_call 4, c_pk 4, c_adv 4, c_code, c_tr]) ⟨c_time_ok, c_chk_okD, c_call_okD, c_pk_okD, c_adv_okD, c_code_ok, c_tr_ok, trivial⟩) 400 (Has.of hn Tryz.func10 rfl) (do2_askD _) (do2_ok h)
theorem do4_askD (t w d : Int) : askK (do4_r 4 t w d) (evFnS (envL P [c_time, c_chk 4, c_call 4, c_pk 4, c_adv 4, c_code, c_tr] [] true) (gsOf [c_time, c_chk 4, c_call 4, c_pk 4, c_adv 4, c_code, c_tr]) 400 10 (do4_a 4 t w d)) Bx.mk = ⟨do4_q t w d⟩ := by kernel_rfl
theorem f_do4_okD : (f_do4 4).Ok P 10 := fun l h => by
  revert h
  exact fun h => meets_ask (E := (envL P [c_time, c_chk 4, c_call 4, c_pk 4, c_adv 4, c_code, c_tr] [] true)) (gs := gsOf [c_time, c_chk 4, c_call 4, c_pk 4, c_adv 4, c_code, c_tr]) envL_among (en_ok (l := [c_time, c_chk 4, c_call 4, c_pk 4, c_adv 4, c_code, c_tr]) ⟨c_time_ok, c_chk_okD, c_call_okD, c_pk_okD, c_adv_okD, c_code_ok, c_tr_ok, trivial⟩) 400 (Has.of hn Tryz.func10 rfl) (do4_askD _ _ _) (do4_ok h)
theorem c_do_okD : (c_do 4).Ok P := famCon_ok ⟨f_do0_okD, f_do1_okD, f_do2_okD, f_do4_okD, trivial⟩
theorem new_askD  : askK (new_r 4) (evFnS (envL P [c_time] [] true) (gsOf [c_time]) 400 9 (new_a 4)) Bx.mk = ⟨new_q⟩ := by kernel_rfl
theorem f_new_okD : (f_new 4).Ok P 9 := fun l h => by
  revert h
  exact fun h => meets_ask (E := (envL P [c_time] [] true)) (gs := gsOf [c_time]) envL_among (en_ok (l := [c_time]) ⟨c_time_ok, trivial⟩) 400 (Has.of hn Tryz.func9 rfl) (new_askD) (new_ok h)
theorem c_new_okD : (c_new 4).Ok P := famCon_ok ⟨f_new_okD, trivial⟩
theorem flat1_askD  : askK (flat1_r 4) (evFnS (envL P [] [] true) (gsOf []) 400 7 (flat1_a 4)) Bx.mk = ⟨flat1_q⟩ := by kernel_rfl
theorem f_flat1_okD : (f_flat1 4).Ok P 7 := fun l h => by
  revert h
  exact fun h => meets_ask (E := (envL P [] [] true)) (gs := gsOf []) envL_among (en_ok (l := []) trivial) 400 (Has.of hn Tryz.func7 rfl) (flat1_askD) (flat1_ok h)
theorem c_flat_okD : (c_flat 4).Ok P := famCon_ok ⟨f_flat1_okD, trivial⟩
theorem ran_askD (t w : Int) : askK (ran_r 4 t w) (evFnS (envL P [c_time, c_chk 4] [] true) (gsOf [c_time, c_chk 4]) 400 8 (ran_a 4 t w)) Bx.mk = ⟨ran_q t w⟩ := by kernel_rfl
theorem f_ran_okD : (f_ran 4).Ok P 8 := fun l h => by
  revert h
  exact fun h => meets_ask (E := (envL P [c_time, c_chk 4] [] true)) (gs := gsOf [c_time, c_chk 4]) envL_among (en_ok (l := [c_time, c_chk 4]) ⟨c_time_ok, c_chk_okD, trivial⟩) 400 (Has.of hn Tryz.func8 rfl) (ran_askD _ _) (ran_ok h)
theorem c_ran_okD : (c_ran 4).Ok P := famCon_ok ⟨f_ran_okD, trivial⟩
end Go.Proofs.YtdgjneondmmgdaaGreatDoor
