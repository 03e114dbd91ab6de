/- Equations of what the evaluator says of functions of the program; printed by a program of ours (wip/tools/Show.lean). -/
import Derived.Test.YtfealfofcjgihaaWcL
namespace Go.Proofs.Ytfealfofcjgihaa
open Go.Fw
set_option maxRecDepth 100000
set_option linter.unusedVariables false

theorem lwOnce_0_eq (a0 : Int) (a1 : Int) (a2 : Int) (a3 : Int) (b0 : Int) (b1 : Int) (b2 : Int) (b3 : Int) (c : Int) : lwOnce_0 a0 a1 a2 a3 b0 b1 b2 b3 c = V.toBool
  (V.bool false
    (bif wEvent_5 a0 a1 a2 a3 c false != 0 then
      wEvent_0 a0 a1 a2 a3 c false == 0 &&
        (wEvent_1 a0 a1 a2 a3 c false == 0 &&
          (wEvent_2 a0 a1 a2 a3 c false == 0 && (wEvent_3 a0 a1 a2 a3 c false == 0 && true)))
    else
      bif
          wEvent_5 (wEvent_0 a0 a1 a2 a3 c false) (wEvent_1 a0 a1 a2 a3 c false)
              (wEvent_2 a0 a1 a2 a3 c false) (wEvent_3 a0 a1 a2 a3 c false) c false !=
            0 then
        false
      else
        bif
            wEvent_4 (wEvent_0 a0 a1 a2 a3 c false) (wEvent_1 a0 a1 a2 a3 c false)
              (wEvent_2 a0 a1 a2 a3 c false) (wEvent_3 a0 a1 a2 a3 c false) c false then
          false
        else
          bif
              !(wEvent_0 (wEvent_0 a0 a1 a2 a3 c false) (wEvent_1 a0 a1 a2 a3 c false)
                      (wEvent_2 a0 a1 a2 a3 c false) (wEvent_3 a0 a1 a2 a3 c false) c false ==
                    wEvent_0 a0 a1 a2 a3 c false &&
                  (wEvent_1 (wEvent_0 a0 a1 a2 a3 c false) (wEvent_1 a0 a1 a2 a3 c false)
                        (wEvent_2 a0 a1 a2 a3 c false) (wEvent_3 a0 a1 a2 a3 c false) c false ==
                      wEvent_1 a0 a1 a2 a3 c false &&
                    (wEvent_2 (wEvent_0 a0 a1 a2 a3 c false) (wEvent_1 a0 a1 a2 a3 c false)
                          (wEvent_2 a0 a1 a2 a3 c false) (wEvent_3 a0 a1 a2 a3 c false) c false ==
                        wEvent_2 a0 a1 a2 a3 c false &&
                      (wEvent_3 (wEvent_0 a0 a1 a2 a3 c false) (wEvent_1 a0 a1 a2 a3 c false)
                            (wEvent_2 a0 a1 a2 a3 c false) (wEvent_3 a0 a1 a2 a3 c false) c false ==
                          wEvent_3 a0 a1 a2 a3 c false &&
                        true)))) then
            false
          else
            bif wTime_5 a0 a1 a2 a3 b3 == 0 then
              bif
                  wTime_5 (wTime_0 a0 a1 a2 a3 b3) (wTime_1 a0 a1 a2 a3 b3) (wTime_2 a0 a1 a2 a3 b3)
                      (wTime_3 a0 a1 a2 a3 b3) b3 ==
                    0 then
                bif
                    !wTime_4 (wTime_0 a0 a1 a2 a3 b3) (wTime_1 a0 a1 a2 a3 b3) (wTime_2 a0 a1 a2 a3 b3)
                        (wTime_3 a0 a1 a2 a3 b3) b3 then
                  wTime_0 (wTime_0 a0 a1 a2 a3 b3) (wTime_1 a0 a1 a2 a3 b3) (wTime_2 a0 a1 a2 a3 b3)
                        (wTime_3 a0 a1 a2 a3 b3) b3 ==
                      wTime_0 a0 a1 a2 a3 b3 &&
                    (wTime_1 (wTime_0 a0 a1 a2 a3 b3) (wTime_1 a0 a1 a2 a3 b3) (wTime_2 a0 a1 a2 a3 b3)
                          (wTime_3 a0 a1 a2 a3 b3) b3 ==
                        wTime_1 a0 a1 a2 a3 b3 &&
                      (wTime_2 (wTime_0 a0 a1 a2 a3 b3) (wTime_1 a0 a1 a2 a3 b3) (wTime_2 a0 a1 a2 a3 b3)
                            (wTime_3 a0 a1 a2 a3 b3) b3 ==
                          wTime_2 a0 a1 a2 a3 b3 &&
                        (wTime_3 (wTime_0 a0 a1 a2 a3 b3) (wTime_1 a0 a1 a2 a3 b3)
                              (wTime_2 a0 a1 a2 a3 b3) (wTime_3 a0 a1 a2 a3 b3) b3 ==
                            wTime_3 a0 a1 a2 a3 b3 &&
                          true)))
                else false
              else false
            else false)) := by kernel_rfl

end Go.Proofs.Ytfealfofcjgihaa
