/- Equations of what the evaluator says of functions of the program; printed by a program of ours (wip/tools/Show.lean). -/
import Derived.Test.YtfealfofcjgihaaXcB
namespace Go.Proofs.Ytfealfofcjgihaa
open Go.Fw
set_option maxRecDepth 100000
set_option linter.unusedVariables false

theorem lwChanges_0_eq (a0 : Int) (a1 : Int) (a2 : Int) (a3 : Int) : lwChanges_0 a0 a1 a2 a3 = V.toBool
  (V.bool false
    (bif bif !qRight_0 a0 a1 a2 a3 then true else false then
      bif wCheck_0 a0 a1 a2 a3 == (270 : Int) then
        bif
            wUp_0 a0 a1 a2 a3 == (0 : Int) &&
              (wUp_1 a0 a1 a2 a3 == (0 : Int) &&
                (wUp_2 a0 a1 a2 a3 == (0 : Int) && (wUp_3 a0 a1 a2 a3 == (0 : Int) && true))) then
          bif wUp_4 a0 a1 a2 a3 == (270 : Int) then
            bif
                wDown_0 a0 a1 a2 a3 == (0 : Int) &&
                  (wDown_1 a0 a1 a2 a3 == (0 : Int) &&
                    (wDown_2 a0 a1 a2 a3 == (0 : Int) && (wDown_3 a0 a1 a2 a3 == (0 : Int) && true))) then
              bif wDown_4 a0 a1 a2 a3 == (270 : Int) then
                bif
                    wPause_0 a0 a1 a2 a3 == (0 : Int) &&
                      (wPause_1 a0 a1 a2 a3 == (0 : Int) &&
                        (wPause_2 a0 a1 a2 a3 == (0 : Int) && (wPause_3 a0 a1 a2 a3 == (0 : Int) && true))) then
                  bif wPause_4 a0 a1 a2 a3 == (270 : Int) then
                    bif
                        wUnpause_0 a0 a1 a2 a3 == (0 : Int) &&
                          (wUnpause_1 a0 a1 a2 a3 == (0 : Int) &&
                            (wUnpause_2 a0 a1 a2 a3 == (0 : Int) &&
                              (wUnpause_3 a0 a1 a2 a3 == (0 : Int) && true))) then
                      bif !wUnpause_4 a0 a1 a2 a3 then
                        bif wUnpause_5 a0 a1 a2 a3 == (270 : Int) then
                          bif wDue_0 a0 a1 a2 a3 == (0 : Int) then
                            bif !wDue_1 a0 a1 a2 a3 then !wRuns_0 a0 a1 a2 a3 else false
                          else false
                        else false
                      else false
                    else false
                  else false
                else false
              else false
            else false
          else false
        else false
      else false
    else
      bif
          bif
              bif wCheck_0 a0 a1 a2 a3 != (0 : Int) then true
              else
                bif !wRuns_0 a0 a1 a2 a3 == qRuns_0 a0 a1 a2 a3 then true
                else
                  bif wDue_0 a0 a1 a2 a3 != a3 then true
                  else !wDue_1 a0 a1 a2 a3 == decide (a3 > (0 : Int)) then
            true
          else false then
        false
      else
        bif
            bif a0 == (0 : Int) then
              bif
                  bif
                      bif wUp_4 a0 a1 a2 a3 != (0 : Int) then true
                      else
                        bif
                            !(wUp_0 a0 a1 a2 a3 == qReady_0 a0 a1 a2 a3 (1 : Int) &&
                                (wUp_1 a0 a1 a2 a3 == qReady_1 a0 a1 a2 a3 (1 : Int) &&
                                  (wUp_2 a0 a1 a2 a3 == qReady_2 a0 a1 a2 a3 (1 : Int) &&
                                    (wUp_3 a0 a1 a2 a3 == qReady_3 a0 a1 a2 a3 (1 : Int) && true)))) then
                          true
                        else
                          bif wDown_4 a0 a1 a2 a3 != (4 : Int) then true
                          else
                            !(wDown_0 a0 a1 a2 a3 == (0 : Int) &&
                                (wDown_1 a0 a1 a2 a3 == (0 : Int) &&
                                  (wDown_2 a0 a1 a2 a3 == (0 : Int) &&
                                    (wDown_3 a0 a1 a2 a3 == (0 : Int) && true)))) then
                    true
                  else false then
                true
              else false
            else
              bif
                  bif
                      bif wUp_4 a0 a1 a2 a3 != (5 : Int) then true
                      else
                        bif
                            !(wUp_0 a0 a1 a2 a3 == (0 : Int) &&
                                (wUp_1 a0 a1 a2 a3 == (0 : Int) &&
                                  (wUp_2 a0 a1 a2 a3 == (0 : Int) &&
                                    (wUp_3 a0 a1 a2 a3 == (0 : Int) && true)))) then
                          true
                        else
                          bif wDown_4 a0 a1 a2 a3 != (0 : Int) then true
                          else
                            !(wDown_0 a0 a1 a2 a3 == qReady_0 a0 a1 a2 a3 (0 : Int) &&
                                (wDown_1 a0 a1 a2 a3 == qReady_1 a0 a1 a2 a3 (0 : Int) &&
                                  (wDown_2 a0 a1 a2 a3 == qReady_2 a0 a1 a2 a3 (0 : Int) &&
                                    (wDown_3 a0 a1 a2 a3 == qReady_3 a0 a1 a2 a3 (0 : Int) && true)))) then
                    true
                  else false then
                true
              else false then
          false
        else
          bif
              bif
                  bif
                      !((wPause_0 a0 a1 a2 a3 == bif a1 == (15 : Int) then (0 : Int) else a0) &&
                          ((wPause_1 a0 a1 a2 a3 ==
                              bif a1 == (15 : Int) then (0 : Int) else IntKind.wrap IntKind.i64 (a1 + (1 : Int))) &&
                            ((wPause_2 a0 a1 a2 a3 == bif a1 == (15 : Int) then (0 : Int) else a2) &&
                              ((wPause_3 a0 a1 a2 a3 == bif a1 == (15 : Int) then (0 : Int) else a3) &&
                                true)))) then
                    true
                  else
                    bif !(wPause_4 a0 a1 a2 a3 == (0 : Int)) == decide (a1 < (15 : Int)) then true
                    else bif a1 == (15 : Int) then wPause_4 a0 a1 a2 a3 != (6 : Int) else false then
                true
              else false then
            false
          else
            bif bif a1 == (0 : Int) then true else false then
              bif
                  wUnpause_0 a0 a1 a2 a3 == (0 : Int) &&
                    (wUnpause_1 a0 a1 a2 a3 == (0 : Int) &&
                      (wUnpause_2 a0 a1 a2 a3 == (0 : Int) &&
                        (wUnpause_3 a0 a1 a2 a3 == (0 : Int) && true))) then
                bif !wUnpause_4 a0 a1 a2 a3 then wUnpause_5 a0 a1 a2 a3 == (4 : Int) else false
              else false
            else
              bif
                  wUnpause_0 a0 a1 a2 a3 == a0 &&
                    (wUnpause_1 a0 a1 a2 a3 == IntKind.wrap IntKind.i64 (a1 - (1 : Int)) &&
                      (wUnpause_2 a0 a1 a2 a3 == a2 && (wUnpause_3 a0 a1 a2 a3 == a3 && true))) then
                bif wUnpause_5 a0 a1 a2 a3 == (0 : Int) then
                  wUnpause_4 a0 a1 a2 a3 == qRuns_0 a0 (IntKind.wrap IntKind.i64 (a1 - (1 : Int))) a2 a3
                else false
              else false)) := by kernel_rfl

end Go.Proofs.Ytfealfofcjgihaa
