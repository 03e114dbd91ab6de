/- Equations of what the evaluator says of functions of the program; printed by a program of ours (wip/tools/Show.lean). -/
import Derived.Test.YtfealfofcjgihaaWcK
namespace Go.Proofs.Ytfealfofcjgihaa
open Go.Fw
set_option maxRecDepth 100000
set_option linter.unusedVariables false

theorem lwWakes_0_eq (a0 : Int) (a1 : Int) (a2 : Int) (a3 : Int) (b0 : Int) (b1 : Int) (b2 : Int) (b3 : Int) (c : Int) : lwWakes_0 a0 a1 a2 a3 b0 b1 b2 b3 c = V.toBool
  (V.bool false
    (bif
        !(wEvent_0 a0 a1 a2 a3 c false == qEvent_0 a0 a1 a2 a3 c false &&
            (wEvent_1 a0 a1 a2 a3 c false == qEvent_1 a0 a1 a2 a3 c false &&
              (wEvent_2 a0 a1 a2 a3 c false == qEvent_2 a0 a1 a2 a3 c false &&
                (wEvent_3 a0 a1 a2 a3 c false == qEvent_3 a0 a1 a2 a3 c false && true)))) then
      false
    else
      bif wEvent_5 a0 a1 a2 a3 c false != qEvent_4 a0 a1 a2 a3 c false then false
      else
        bif qEvent_4 a0 a1 a2 a3 c false == 0 then
          bif
              !wEvent_4 a0 a1 a2 a3 c false ==
                  !(qEvent_0 a0 a1 a2 a3 c false == a0 &&
                      (qEvent_1 a0 a1 a2 a3 c false == a1 &&
                        (qEvent_2 a0 a1 a2 a3 c false == a2 &&
                          (qEvent_3 a0 a1 a2 a3 c false == a3 && true)))) then
            false
          else
            bif
                !(wEvent_0 a0 a1 a2 a3 c true == qEvent_0 a0 a1 a2 a3 c true &&
                    (wEvent_1 a0 a1 a2 a3 c true == qEvent_1 a0 a1 a2 a3 c true &&
                      (wEvent_2 a0 a1 a2 a3 c true == qEvent_2 a0 a1 a2 a3 c true &&
                        (wEvent_3 a0 a1 a2 a3 c true == qEvent_3 a0 a1 a2 a3 c true && true)))) then
              false
            else
              bif wEvent_5 a0 a1 a2 a3 c true != qEvent_4 a0 a1 a2 a3 c true then false
              else
                bif qEvent_4 a0 a1 a2 a3 c true == 0 then
                  bif
                      !wEvent_4 a0 a1 a2 a3 c true ==
                          !(qEvent_0 a0 a1 a2 a3 c true == a0 &&
                              (qEvent_1 a0 a1 a2 a3 c true == a1 &&
                                (qEvent_2 a0 a1 a2 a3 c true == a2 &&
                                  (qEvent_3 a0 a1 a2 a3 c true == a3 && true)))) then
                    false
                  else
                    bif !qRight_0 a0 a1 a2 a3 then
                      bif
                          wTime_0 a0 a1 a2 a3 b3 == 0 &&
                            (wTime_1 a0 a1 a2 a3 b3 == 0 &&
                              (wTime_2 a0 a1 a2 a3 b3 == 0 && (wTime_3 a0 a1 a2 a3 b3 == 0 && true))) then
                        bif !wTime_4 a0 a1 a2 a3 b3 then wTime_5 a0 a1 a2 a3 b3 == 270 else false
                      else false
                    else
                      bif
                          wTime_0 a0 a1 a2 a3 b3 == qTime_0 a0 a1 a2 a3 b3 &&
                            (wTime_1 a0 a1 a2 a3 b3 == qTime_1 a0 a1 a2 a3 b3 &&
                              (wTime_2 a0 a1 a2 a3 b3 == qTime_2 a0 a1 a2 a3 b3 &&
                                (wTime_3 a0 a1 a2 a3 b3 == qTime_3 a0 a1 a2 a3 b3 && true))) then
                        bif wTime_5 a0 a1 a2 a3 b3 == 0 then
                          wTime_4 a0 a1 a2 a3 b3 ==
                            !(qTime_0 a0 a1 a2 a3 b3 == a0 &&
                                (qTime_1 a0 a1 a2 a3 b3 == a1 &&
                                  (qTime_2 a0 a1 a2 a3 b3 == a2 && (qTime_3 a0 a1 a2 a3 b3 == a3 && true))))
                        else false
                      else false
                else
                  bif !wEvent_4 a0 a1 a2 a3 c true == false then false
                  else
                    bif !qRight_0 a0 a1 a2 a3 then
                      bif
                          wTime_0 a0 a1 a2 a3 b3 == 0 &&
                            (wTime_1 a0 a1 a2 a3 b3 == 0 &&
                              (wTime_2 a0 a1 a2 a3 b3 == 0 && (wTime_3 a0 a1 a2 a3 b3 == 0 && true))) then
                        bif !wTime_4 a0 a1 a2 a3 b3 then wTime_5 a0 a1 a2 a3 b3 == 270 else false
                      else false
                    else
                      bif
                          wTime_0 a0 a1 a2 a3 b3 == qTime_0 a0 a1 a2 a3 b3 &&
                            (wTime_1 a0 a1 a2 a3 b3 == qTime_1 a0 a1 a2 a3 b3 &&
                              (wTime_2 a0 a1 a2 a3 b3 == qTime_2 a0 a1 a2 a3 b3 &&
                                (wTime_3 a0 a1 a2 a3 b3 == qTime_3 a0 a1 a2 a3 b3 && true))) then
                        bif wTime_5 a0 a1 a2 a3 b3 == 0 then
                          wTime_4 a0 a1 a2 a3 b3 ==
                            !(qTime_0 a0 a1 a2 a3 b3 == a0 &&
                                (qTime_1 a0 a1 a2 a3 b3 == a1 &&
                                  (qTime_2 a0 a1 a2 a3 b3 == a2 && (qTime_3 a0 a1 a2 a3 b3 == a3 && true))))
                        else false
                      else false
        else
          bif !wEvent_4 a0 a1 a2 a3 c false == false then false
          else
            bif
                !(wEvent_0 a0 a1 a2 a3 c true == qEvent_0 a0 a1 a2 a3 c true &&
                    (wEvent_1 a0 a1 a2 a3 c true == qEvent_1 a0 a1 a2 a3 c true &&
                      (wEvent_2 a0 a1 a2 a3 c true == qEvent_2 a0 a1 a2 a3 c true &&
                        (wEvent_3 a0 a1 a2 a3 c true == qEvent_3 a0 a1 a2 a3 c true && true)))) then
              false
            else
              bif wEvent_5 a0 a1 a2 a3 c true != qEvent_4 a0 a1 a2 a3 c true then false
              else
                bif qEvent_4 a0 a1 a2 a3 c true == 0 then
                  bif
                      !wEvent_4 a0 a1 a2 a3 c true ==
                          !(qEvent_0 a0 a1 a2 a3 c true == a0 &&
                              (qEvent_1 a0 a1 a2 a3 c true == a1 &&
                                (qEvent_2 a0 a1 a2 a3 c true == a2 &&
                                  (qEvent_3 a0 a1 a2 a3 c true == a3 && true)))) then
                    false
                  else
                    bif !qRight_0 a0 a1 a2 a3 then
                      bif
                          wTime_0 a0 a1 a2 a3 b3 == 0 &&
                            (wTime_1 a0 a1 a2 a3 b3 == 0 &&
                              (wTime_2 a0 a1 a2 a3 b3 == 0 && (wTime_3 a0 a1 a2 a3 b3 == 0 && true))) then
                        bif !wTime_4 a0 a1 a2 a3 b3 then wTime_5 a0 a1 a2 a3 b3 == 270 else false
                      else false
                    else
                      bif
                          wTime_0 a0 a1 a2 a3 b3 == qTime_0 a0 a1 a2 a3 b3 &&
                            (wTime_1 a0 a1 a2 a3 b3 == qTime_1 a0 a1 a2 a3 b3 &&
                              (wTime_2 a0 a1 a2 a3 b3 == qTime_2 a0 a1 a2 a3 b3 &&
                                (wTime_3 a0 a1 a2 a3 b3 == qTime_3 a0 a1 a2 a3 b3 && true))) then
                        bif wTime_5 a0 a1 a2 a3 b3 == 0 then
                          wTime_4 a0 a1 a2 a3 b3 ==
                            !(qTime_0 a0 a1 a2 a3 b3 == a0 &&
                                (qTime_1 a0 a1 a2 a3 b3 == a1 &&
                                  (qTime_2 a0 a1 a2 a3 b3 == a2 && (qTime_3 a0 a1 a2 a3 b3 == a3 && true))))
                        else false
                      else false
                else
                  bif !wEvent_4 a0 a1 a2 a3 c true == false then false
                  else
                    bif !qRight_0 a0 a1 a2 a3 then
                      bif
                          wTime_0 a0 a1 a2 a3 b3 == 0 &&
                            (wTime_1 a0 a1 a2 a3 b3 == 0 &&
                              (wTime_2 a0 a1 a2 a3 b3 == 0 && (wTime_3 a0 a1 a2 a3 b3 == 0 && true))) then
                        bif !wTime_4 a0 a1 a2 a3 b3 then wTime_5 a0 a1 a2 a3 b3 == 270 else false
                      else false
                    else
                      bif
                          wTime_0 a0 a1 a2 a3 b3 == qTime_0 a0 a1 a2 a3 b3 &&
                            (wTime_1 a0 a1 a2 a3 b3 == qTime_1 a0 a1 a2 a3 b3 &&
                              (wTime_2 a0 a1 a2 a3 b3 == qTime_2 a0 a1 a2 a3 b3 &&
                                (wTime_3 a0 a1 a2 a3 b3 == qTime_3 a0 a1 a2 a3 b3 && true))) then
                        bif wTime_5 a0 a1 a2 a3 b3 == 0 then
                          wTime_4 a0 a1 a2 a3 b3 ==
                            !(qTime_0 a0 a1 a2 a3 b3 == a0 &&
                                (qTime_1 a0 a1 a2 a3 b3 == a1 &&
                                  (qTime_2 a0 a1 a2 a3 b3 == a2 && (qTime_3 a0 a1 a2 a3 b3 == a3 && true))))
                        else false
                      else false)) := by kernel_rfl

end Go.Proofs.Ytfealfofcjgihaa
