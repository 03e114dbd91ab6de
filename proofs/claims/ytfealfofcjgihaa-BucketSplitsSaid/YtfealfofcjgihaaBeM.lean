/- Equations of what the evaluator says of functions of the program; printed by a program of ours (wip/tools/Show.lean). -/
import Derived.Test.YtfealfofcjgihaaBcM
namespace Go.Proofs.Ytfealfofcjgihaa
open Go.Fw
set_option maxRecDepth 100000
set_option linter.unusedVariables false

theorem lTells_0_eq (a0 : Int) (a1 : Int) : lTells_0 a0 a1 = V.toBool
  (V.bool false
    (bif !rRight_0 a0 a1 then
      bif bCheck_0 a0 a1 == 210 then
        bif bDepth_0 a0 a1 == 0 then
          bif !bDry_0 a0 a1 then bif bWait_0 a0 a1 == 0 then bWait_1 a0 a1 == 210 else false else false
        else false
      else false
    else
      bif bCheck_0 a0 a1 != 0 then false
      else
        bif bDepth_0 a0 a1 != rDepth_0 a0 then false
        else
          bif !bDry_0 a0 a1 == rDry_0 a0 a1 then false
          else
            bif bWait_1 a0 a1 != 0 then false
            else
              bif !rDry_0 a0 a1 then bWait_0 a0 a1 == 0
              else
                bif decide (bWait_0 a0 a1 > 0) then
                  bif
                      decide
                        (IntKind.wrap IntKind.i64 (a1 + IntKind.wrap IntKind.i64 (a0 * bWait_0 a0 a1)) > 0) then
                    decide
                      (IntKind.wrap IntKind.i64
                          (a1 + IntKind.wrap IntKind.i64 (a0 * IntKind.wrap IntKind.i64 (bWait_0 a0 a1 - 1))) ≤
                        0)
                  else false
                else false)) := by kernel_rfl

theorem lChanges_0_eq (a0 : Int) (a1 : Int) (b : Int) (c0 : Int) (c1 : Int) (c2 : Int) : lChanges_0 a0 a1 b c0 c1 c2 = V.toBool
  (V.bool false
    (bif decide (b ≥ 0) then
      bif !decide (b ≤ 800) == (bNew_2 b == 0) then false
      else
        bif decide (b ≤ 800) then
          bif !(bNew_0 b == rChange_0 0 0 b && (bNew_1 b == rChange_1 0 0 b && true)) then false
          else
            bif !decide (b ≤ 800) then
              bif !(bNew_0 b == 0 && (bNew_1 b == 0 && true)) then false
              else
                bif bNew_2 b != 2 then false
                else
                  bif !rRight_0 a0 a1 then
                    bif bChange_2 a0 a1 b != 210 then false
                    else
                      bif !(bChange_0 a0 a1 b == 0 && (bChange_1 a0 a1 b == 0 && true)) then false
                      else
                        bif decide (b < 1) then
                          bif bBound_0 b c0 c1 c2 == 0 then bBound_1 b c0 c1 c2 == 2 else false
                        else
                          bif decide (b > 800) then
                            bif bBound_0 b c0 c1 c2 == 0 then bBound_1 b c0 c1 c2 == 2 else false
                          else
                            bif decide (c0 < 0) then
                              bif bBound_0 b c0 c1 c2 == 0 then bBound_1 b c0 c1 c2 == 2 else false
                            else
                              bif decide (c0 > 1125899906842624) then
                                bif bBound_0 b c0 c1 c2 == 0 then bBound_1 b c0 c1 c2 == 2 else false
                              else
                                bif decide (c1 < 0) then
                                  bif bBound_0 b c0 c1 c2 == 0 then bBound_1 b c0 c1 c2 == 2 else false
                                else
                                  bif decide (c1 > 10000000) then
                                    bif bBound_0 b c0 c1 c2 == 0 then bBound_1 b c0 c1 c2 == 2 else false
                                  else
                                    bif decide (c2 < 0) then
                                      bif bBound_0 b c0 c1 c2 == 0 then bBound_1 b c0 c1 c2 == 2 else false
                                    else
                                      bif decide (c2 > 8) then
                                        bif bBound_0 b c0 c1 c2 == 0 then bBound_1 b c0 c1 c2 == 2 else false
                                      else
                                        bif bBound_1 b c0 c1 c2 == 0 then
                                          bBound_0 b c0 c1 c2 ==
                                            IntKind.wrap IntKind.i64
                                              (IntKind.wrap IntKind.i64
                                                  (IntKind.wrap IntKind.i64 (b * c0) + rDepth_0 b) +
                                                IntKind.wrap IntKind.i64 (IntKind.wrap IntKind.i64 (100 * c2) * c1))
                                        else false
                  else
                    bif !decide (b ≤ 800) then
                      bif bChange_2 a0 a1 b != 2 then false
                      else
                        bif !(bChange_0 a0 a1 b == 0 && (bChange_1 a0 a1 b == 0 && true)) then false
                        else
                          bif decide (b < 1) then
                            bif bBound_0 b c0 c1 c2 == 0 then bBound_1 b c0 c1 c2 == 2 else false
                          else
                            bif decide (b > 800) then
                              bif bBound_0 b c0 c1 c2 == 0 then bBound_1 b c0 c1 c2 == 2 else false
                            else
                              bif decide (c0 < 0) then
                                bif bBound_0 b c0 c1 c2 == 0 then bBound_1 b c0 c1 c2 == 2 else false
                              else
                                bif decide (c0 > 1125899906842624) then
                                  bif bBound_0 b c0 c1 c2 == 0 then bBound_1 b c0 c1 c2 == 2 else false
                                else
                                  bif decide (c1 < 0) then
                                    bif bBound_0 b c0 c1 c2 == 0 then bBound_1 b c0 c1 c2 == 2 else false
                                  else
                                    bif decide (c1 > 10000000) then
                                      bif bBound_0 b c0 c1 c2 == 0 then bBound_1 b c0 c1 c2 == 2 else false
                                    else
                                      bif decide (c2 < 0) then
                                        bif bBound_0 b c0 c1 c2 == 0 then bBound_1 b c0 c1 c2 == 2 else false
                                      else
                                        bif decide (c2 > 8) then
                                          bif bBound_0 b c0 c1 c2 == 0 then bBound_1 b c0 c1 c2 == 2 else false
                                        else
                                          bif bBound_1 b c0 c1 c2 == 0 then
                                            bBound_0 b c0 c1 c2 ==
                                              IntKind.wrap IntKind.i64
                                                (IntKind.wrap IntKind.i64
                                                    (IntKind.wrap IntKind.i64 (b * c0) + rDepth_0 b) +
                                                  IntKind.wrap IntKind.i64 (IntKind.wrap IntKind.i64 (100 * c2) * c1))
                                          else false
                    else
                      bif bChange_2 a0 a1 b != 0 then false
                      else
                        bif
                            !(bChange_0 a0 a1 b == rChange_0 a0 a1 b &&
                                (bChange_1 a0 a1 b == rChange_1 a0 a1 b && true)) then
                          false
                        else
                          bif decide (b < 1) then
                            bif bBound_0 b c0 c1 c2 == 0 then bBound_1 b c0 c1 c2 == 2 else false
                          else
                            bif decide (b > 800) then
                              bif bBound_0 b c0 c1 c2 == 0 then bBound_1 b c0 c1 c2 == 2 else false
                            else
                              bif decide (c0 < 0) then
                                bif bBound_0 b c0 c1 c2 == 0 then bBound_1 b c0 c1 c2 == 2 else false
                              else
                                bif decide (c0 > 1125899906842624) then
                                  bif bBound_0 b c0 c1 c2 == 0 then bBound_1 b c0 c1 c2 == 2 else false
                                else
                                  bif decide (c1 < 0) then
                                    bif bBound_0 b c0 c1 c2 == 0 then bBound_1 b c0 c1 c2 == 2 else false
                                  else
                                    bif decide (c1 > 10000000) then
                                      bif bBound_0 b c0 c1 c2 == 0 then bBound_1 b c0 c1 c2 == 2 else false
                                    else
                                      bif decide (c2 < 0) then
                                        bif bBound_0 b c0 c1 c2 == 0 then bBound_1 b c0 c1 c2 == 2 else false
                                      else
                                        bif decide (c2 > 8) then
                                          bif bBound_0 b c0 c1 c2 == 0 then bBound_1 b c0 c1 c2 == 2 else false
                                        else
                                          bif bBound_1 b c0 c1 c2 == 0 then
                                            bBound_0 b c0 c1 c2 ==
                                              IntKind.wrap IntKind.i64
                                                (IntKind.wrap IntKind.i64
                                                    (IntKind.wrap IntKind.i64 (b * c0) + rDepth_0 b) +
                                                  IntKind.wrap IntKind.i64 (IntKind.wrap IntKind.i64 (100 * c2) * c1))
                                          else false
            else
              bif !rRight_0 a0 a1 then
                bif bChange_2 a0 a1 b != 210 then false
                else
                  bif !(bChange_0 a0 a1 b == 0 && (bChange_1 a0 a1 b == 0 && true)) then false
                  else
                    bif decide (b < 1) then
                      bif bBound_0 b c0 c1 c2 == 0 then bBound_1 b c0 c1 c2 == 2 else false
                    else
                      bif decide (b > 800) then
                        bif bBound_0 b c0 c1 c2 == 0 then bBound_1 b c0 c1 c2 == 2 else false
                      else
                        bif decide (c0 < 0) then
                          bif bBound_0 b c0 c1 c2 == 0 then bBound_1 b c0 c1 c2 == 2 else false
                        else
                          bif decide (c0 > 1125899906842624) then
                            bif bBound_0 b c0 c1 c2 == 0 then bBound_1 b c0 c1 c2 == 2 else false
                          else
                            bif decide (c1 < 0) then
                              bif bBound_0 b c0 c1 c2 == 0 then bBound_1 b c0 c1 c2 == 2 else false
                            else
                              bif decide (c1 > 10000000) then
                                bif bBound_0 b c0 c1 c2 == 0 then bBound_1 b c0 c1 c2 == 2 else false
                              else
                                bif decide (c2 < 0) then
                                  bif bBound_0 b c0 c1 c2 == 0 then bBound_1 b c0 c1 c2 == 2 else false
                                else
                                  bif decide (c2 > 8) then
                                    bif bBound_0 b c0 c1 c2 == 0 then bBound_1 b c0 c1 c2 == 2 else false
                                  else
                                    bif bBound_1 b c0 c1 c2 == 0 then
                                      bBound_0 b c0 c1 c2 ==
                                        IntKind.wrap IntKind.i64
                                          (IntKind.wrap IntKind.i64
                                              (IntKind.wrap IntKind.i64 (b * c0) + rDepth_0 b) +
                                            IntKind.wrap IntKind.i64 (IntKind.wrap IntKind.i64 (100 * c2) * c1))
                                    else false
              else
                bif !decide (b ≤ 800) then
                  bif bChange_2 a0 a1 b != 2 then false
                  else
                    bif !(bChange_0 a0 a1 b == 0 && (bChange_1 a0 a1 b == 0 && true)) then false
                    else
                      bif decide (b < 1) then
                        bif bBound_0 b c0 c1 c2 == 0 then bBound_1 b c0 c1 c2 == 2 else false
                      else
                        bif decide (b > 800) then
                          bif bBound_0 b c0 c1 c2 == 0 then bBound_1 b c0 c1 c2 == 2 else false
                        else
                          bif decide (c0 < 0) then
                            bif bBound_0 b c0 c1 c2 == 0 then bBound_1 b c0 c1 c2 == 2 else false
                          else
                            bif decide (c0 > 1125899906842624) then
                              bif bBound_0 b c0 c1 c2 == 0 then bBound_1 b c0 c1 c2 == 2 else false
                            else
                              bif decide (c1 < 0) then
                                bif bBound_0 b c0 c1 c2 == 0 then bBound_1 b c0 c1 c2 == 2 else false
                              else
                                bif decide (c1 > 10000000) then
                                  bif bBound_0 b c0 c1 c2 == 0 then bBound_1 b c0 c1 c2 == 2 else false
                                else
                                  bif decide (c2 < 0) then
                                    bif bBound_0 b c0 c1 c2 == 0 then bBound_1 b c0 c1 c2 == 2 else false
                                  else
                                    bif decide (c2 > 8) then
                                      bif bBound_0 b c0 c1 c2 == 0 then bBound_1 b c0 c1 c2 == 2 else false
                                    else
                                      bif bBound_1 b c0 c1 c2 == 0 then
                                        bBound_0 b c0 c1 c2 ==
                                          IntKind.wrap IntKind.i64
                                            (IntKind.wrap IntKind.i64
                                                (IntKind.wrap IntKind.i64 (b * c0) + rDepth_0 b) +
                                              IntKind.wrap IntKind.i64 (IntKind.wrap IntKind.i64 (100 * c2) * c1))
                                      else false
                else
                  bif bChange_2 a0 a1 b != 0 then false
                  else
                    bif
                        !(bChange_0 a0 a1 b == rChange_0 a0 a1 b &&
                            (bChange_1 a0 a1 b == rChange_1 a0 a1 b && true)) then
                      false
                    else
                      bif decide (b < 1) then
                        bif bBound_0 b c0 c1 c2 == 0 then bBound_1 b c0 c1 c2 == 2 else false
                      else
                        bif decide (b > 800) then
                          bif bBound_0 b c0 c1 c2 == 0 then bBound_1 b c0 c1 c2 == 2 else false
                        else
                          bif decide (c0 < 0) then
                            bif bBound_0 b c0 c1 c2 == 0 then bBound_1 b c0 c1 c2 == 2 else false
                          else
                            bif decide (c0 > 1125899906842624) then
                              bif bBound_0 b c0 c1 c2 == 0 then bBound_1 b c0 c1 c2 == 2 else false
                            else
                              bif decide (c1 < 0) then
                                bif bBound_0 b c0 c1 c2 == 0 then bBound_1 b c0 c1 c2 == 2 else false
                              else
                                bif decide (c1 > 10000000) then
                                  bif bBound_0 b c0 c1 c2 == 0 then bBound_1 b c0 c1 c2 == 2 else false
                                else
                                  bif decide (c2 < 0) then
                                    bif bBound_0 b c0 c1 c2 == 0 then bBound_1 b c0 c1 c2 == 2 else false
                                  else
                                    bif decide (c2 > 8) then
                                      bif bBound_0 b c0 c1 c2 == 0 then bBound_1 b c0 c1 c2 == 2 else false
                                    else
                                      bif bBound_1 b c0 c1 c2 == 0 then
                                        bBound_0 b c0 c1 c2 ==
                                          IntKind.wrap IntKind.i64
                                            (IntKind.wrap IntKind.i64
                                                (IntKind.wrap IntKind.i64 (b * c0) + rDepth_0 b) +
                                              IntKind.wrap IntKind.i64 (IntKind.wrap IntKind.i64 (100 * c2) * c1))
                                      else false
        else
          bif !decide (b ≤ 800) then
            bif !(bNew_0 b == 0 && (bNew_1 b == 0 && true)) then false
            else
              bif bNew_2 b != 2 then false
              else
                bif !rRight_0 a0 a1 then
                  bif bChange_2 a0 a1 b != 210 then false
                  else
                    bif !(bChange_0 a0 a1 b == 0 && (bChange_1 a0 a1 b == 0 && true)) then false
                    else
                      bif decide (b < 1) then
                        bif bBound_0 b c0 c1 c2 == 0 then bBound_1 b c0 c1 c2 == 2 else false
                      else
                        bif decide (b > 800) then
                          bif bBound_0 b c0 c1 c2 == 0 then bBound_1 b c0 c1 c2 == 2 else false
                        else
                          bif decide (c0 < 0) then
                            bif bBound_0 b c0 c1 c2 == 0 then bBound_1 b c0 c1 c2 == 2 else false
                          else
                            bif decide (c0 > 1125899906842624) then
                              bif bBound_0 b c0 c1 c2 == 0 then bBound_1 b c0 c1 c2 == 2 else false
                            else
                              bif decide (c1 < 0) then
                                bif bBound_0 b c0 c1 c2 == 0 then bBound_1 b c0 c1 c2 == 2 else false
                              else
                                bif decide (c1 > 10000000) then
                                  bif bBound_0 b c0 c1 c2 == 0 then bBound_1 b c0 c1 c2 == 2 else false
                                else
                                  bif decide (c2 < 0) then
                                    bif bBound_0 b c0 c1 c2 == 0 then bBound_1 b c0 c1 c2 == 2 else false
                                  else
                                    bif decide (c2 > 8) then
                                      bif bBound_0 b c0 c1 c2 == 0 then bBound_1 b c0 c1 c2 == 2 else false
                                    else
                                      bif bBound_1 b c0 c1 c2 == 0 then
                                        bBound_0 b c0 c1 c2 ==
                                          IntKind.wrap IntKind.i64
                                            (IntKind.wrap IntKind.i64
                                                (IntKind.wrap IntKind.i64 (b * c0) + rDepth_0 b) +
                                              IntKind.wrap IntKind.i64 (IntKind.wrap IntKind.i64 (100 * c2) * c1))
                                      else false
                else
                  bif !decide (b ≤ 800) then
                    bif bChange_2 a0 a1 b != 2 then false
                    else
                      bif !(bChange_0 a0 a1 b == 0 && (bChange_1 a0 a1 b == 0 && true)) then false
                      else
                        bif decide (b < 1) then
                          bif bBound_0 b c0 c1 c2 == 0 then bBound_1 b c0 c1 c2 == 2 else false
                        else
                          bif decide (b > 800) then
                            bif bBound_0 b c0 c1 c2 == 0 then bBound_1 b c0 c1 c2 == 2 else false
                          else
                            bif decide (c0 < 0) then
                              bif bBound_0 b c0 c1 c2 == 0 then bBound_1 b c0 c1 c2 == 2 else false
                            else
                              bif decide (c0 > 1125899906842624) then
                                bif bBound_0 b c0 c1 c2 == 0 then bBound_1 b c0 c1 c2 == 2 else false
                              else
                                bif decide (c1 < 0) then
                                  bif bBound_0 b c0 c1 c2 == 0 then bBound_1 b c0 c1 c2 == 2 else false
                                else
                                  bif decide (c1 > 10000000) then
                                    bif bBound_0 b c0 c1 c2 == 0 then bBound_1 b c0 c1 c2 == 2 else false
                                  else
                                    bif decide (c2 < 0) then
                                      bif bBound_0 b c0 c1 c2 == 0 then bBound_1 b c0 c1 c2 == 2 else false
                                    else
                                      bif decide (c2 > 8) then
                                        bif bBound_0 b c0 c1 c2 == 0 then bBound_1 b c0 c1 c2 == 2 else false
                                      else
                                        bif bBound_1 b c0 c1 c2 == 0 then
                                          bBound_0 b c0 c1 c2 ==
                                            IntKind.wrap IntKind.i64
                                              (IntKind.wrap IntKind.i64
                                                  (IntKind.wrap IntKind.i64 (b * c0) + rDepth_0 b) +
                                                IntKind.wrap IntKind.i64 (IntKind.wrap IntKind.i64 (100 * c2) * c1))
                                        else false
                  else
                    bif bChange_2 a0 a1 b != 0 then false
                    else
                      bif
                          !(bChange_0 a0 a1 b == rChange_0 a0 a1 b &&
                              (bChange_1 a0 a1 b == rChange_1 a0 a1 b && true)) then
                        false
                      else
                        bif decide (b < 1) then
                          bif bBound_0 b c0 c1 c2 == 0 then bBound_1 b c0 c1 c2 == 2 else false
                        else
                          bif decide (b > 800) then
                            bif bBound_0 b c0 c1 c2 == 0 then bBound_1 b c0 c1 c2 == 2 else false
                          else
                            bif decide (c0 < 0) then
                              bif bBound_0 b c0 c1 c2 == 0 then bBound_1 b c0 c1 c2 == 2 else false
                            else
                              bif decide (c0 > 1125899906842624) then
                                bif bBound_0 b c0 c1 c2 == 0 then bBound_1 b c0 c1 c2 == 2 else false
                              else
                                bif decide (c1 < 0) then
                                  bif bBound_0 b c0 c1 c2 == 0 then bBound_1 b c0 c1 c2 == 2 else false
                                else
                                  bif decide (c1 > 10000000) then
                                    bif bBound_0 b c0 c1 c2 == 0 then bBound_1 b c0 c1 c2 == 2 else false
                                  else
                                    bif decide (c2 < 0) then
                                      bif bBound_0 b c0 c1 c2 == 0 then bBound_1 b c0 c1 c2 == 2 else false
                                    else
                                      bif decide (c2 > 8) then
                                        bif bBound_0 b c0 c1 c2 == 0 then bBound_1 b c0 c1 c2 == 2 else false
                                      else
                                        bif bBound_1 b c0 c1 c2 == 0 then
                                          bBound_0 b c0 c1 c2 ==
                                            IntKind.wrap IntKind.i64
                                              (IntKind.wrap IntKind.i64
                                                  (IntKind.wrap IntKind.i64 (b * c0) + rDepth_0 b) +
                                                IntKind.wrap IntKind.i64 (IntKind.wrap IntKind.i64 (100 * c2) * c1))
                                        else false
          else
            bif !rRight_0 a0 a1 then
              bif bChange_2 a0 a1 b != 210 then false
              else
                bif !(bChange_0 a0 a1 b == 0 && (bChange_1 a0 a1 b == 0 && true)) then false
                else
                  bif decide (b < 1) then bif bBound_0 b c0 c1 c2 == 0 then bBound_1 b c0 c1 c2 == 2 else false
                  else
                    bif decide (b > 800) then
                      bif bBound_0 b c0 c1 c2 == 0 then bBound_1 b c0 c1 c2 == 2 else false
                    else
                      bif decide (c0 < 0) then
                        bif bBound_0 b c0 c1 c2 == 0 then bBound_1 b c0 c1 c2 == 2 else false
                      else
                        bif decide (c0 > 1125899906842624) then
                          bif bBound_0 b c0 c1 c2 == 0 then bBound_1 b c0 c1 c2 == 2 else false
                        else
                          bif decide (c1 < 0) then
                            bif bBound_0 b c0 c1 c2 == 0 then bBound_1 b c0 c1 c2 == 2 else false
                          else
                            bif decide (c1 > 10000000) then
                              bif bBound_0 b c0 c1 c2 == 0 then bBound_1 b c0 c1 c2 == 2 else false
                            else
                              bif decide (c2 < 0) then
                                bif bBound_0 b c0 c1 c2 == 0 then bBound_1 b c0 c1 c2 == 2 else false
                              else
                                bif decide (c2 > 8) then
                                  bif bBound_0 b c0 c1 c2 == 0 then bBound_1 b c0 c1 c2 == 2 else false
                                else
                                  bif bBound_1 b c0 c1 c2 == 0 then
                                    bBound_0 b c0 c1 c2 ==
                                      IntKind.wrap IntKind.i64
                                        (IntKind.wrap IntKind.i64 (IntKind.wrap IntKind.i64 (b * c0) + rDepth_0 b) +
                                          IntKind.wrap IntKind.i64 (IntKind.wrap IntKind.i64 (100 * c2) * c1))
                                  else false
            else
              bif !decide (b ≤ 800) then
                bif bChange_2 a0 a1 b != 2 then false
                else
                  bif !(bChange_0 a0 a1 b == 0 && (bChange_1 a0 a1 b == 0 && true)) then false
                  else
                    bif decide (b < 1) then
                      bif bBound_0 b c0 c1 c2 == 0 then bBound_1 b c0 c1 c2 == 2 else false
                    else
                      bif decide (b > 800) then
                        bif bBound_0 b c0 c1 c2 == 0 then bBound_1 b c0 c1 c2 == 2 else false
                      else
                        bif decide (c0 < 0) then
                          bif bBound_0 b c0 c1 c2 == 0 then bBound_1 b c0 c1 c2 == 2 else false
                        else
                          bif decide (c0 > 1125899906842624) then
                            bif bBound_0 b c0 c1 c2 == 0 then bBound_1 b c0 c1 c2 == 2 else false
                          else
                            bif decide (c1 < 0) then
                              bif bBound_0 b c0 c1 c2 == 0 then bBound_1 b c0 c1 c2 == 2 else false
                            else
                              bif decide (c1 > 10000000) then
                                bif bBound_0 b c0 c1 c2 == 0 then bBound_1 b c0 c1 c2 == 2 else false
                              else
                                bif decide (c2 < 0) then
                                  bif bBound_0 b c0 c1 c2 == 0 then bBound_1 b c0 c1 c2 == 2 else false
                                else
                                  bif decide (c2 > 8) then
                                    bif bBound_0 b c0 c1 c2 == 0 then bBound_1 b c0 c1 c2 == 2 else false
                                  else
                                    bif bBound_1 b c0 c1 c2 == 0 then
                                      bBound_0 b c0 c1 c2 ==
                                        IntKind.wrap IntKind.i64
                                          (IntKind.wrap IntKind.i64
                                              (IntKind.wrap IntKind.i64 (b * c0) + rDepth_0 b) +
                                            IntKind.wrap IntKind.i64 (IntKind.wrap IntKind.i64 (100 * c2) * c1))
                                    else false
              else
                bif bChange_2 a0 a1 b != 0 then false
                else
                  bif
                      !(bChange_0 a0 a1 b == rChange_0 a0 a1 b &&
                          (bChange_1 a0 a1 b == rChange_1 a0 a1 b && true)) then
                    false
                  else
                    bif decide (b < 1) then
                      bif bBound_0 b c0 c1 c2 == 0 then bBound_1 b c0 c1 c2 == 2 else false
                    else
                      bif decide (b > 800) then
                        bif bBound_0 b c0 c1 c2 == 0 then bBound_1 b c0 c1 c2 == 2 else false
                      else
                        bif decide (c0 < 0) then
                          bif bBound_0 b c0 c1 c2 == 0 then bBound_1 b c0 c1 c2 == 2 else false
                        else
                          bif decide (c0 > 1125899906842624) then
                            bif bBound_0 b c0 c1 c2 == 0 then bBound_1 b c0 c1 c2 == 2 else false
                          else
                            bif decide (c1 < 0) then
                              bif bBound_0 b c0 c1 c2 == 0 then bBound_1 b c0 c1 c2 == 2 else false
                            else
                              bif decide (c1 > 10000000) then
                                bif bBound_0 b c0 c1 c2 == 0 then bBound_1 b c0 c1 c2 == 2 else false
                              else
                                bif decide (c2 < 0) then
                                  bif bBound_0 b c0 c1 c2 == 0 then bBound_1 b c0 c1 c2 == 2 else false
                                else
                                  bif decide (c2 > 8) then
                                    bif bBound_0 b c0 c1 c2 == 0 then bBound_1 b c0 c1 c2 == 2 else false
                                  else
                                    bif bBound_1 b c0 c1 c2 == 0 then
                                      bBound_0 b c0 c1 c2 ==
                                        IntKind.wrap IntKind.i64
                                          (IntKind.wrap IntKind.i64
                                              (IntKind.wrap IntKind.i64 (b * c0) + rDepth_0 b) +
                                            IntKind.wrap IntKind.i64 (IntKind.wrap IntKind.i64 (100 * c2) * c1))
                                    else false
    else
      bif !false == (bNew_2 b == 0) then false
      else
        bif !(bNew_0 b == 0 && (bNew_1 b == 0 && true)) then false
        else
          bif bNew_2 b != 2 then false
          else
            bif !rRight_0 a0 a1 then
              bif bChange_2 a0 a1 b != 210 then false
              else
                bif !(bChange_0 a0 a1 b == 0 && (bChange_1 a0 a1 b == 0 && true)) then false
                else
                  bif decide (b < 1) then bif bBound_0 b c0 c1 c2 == 0 then bBound_1 b c0 c1 c2 == 2 else false
                  else
                    bif decide (b > 800) then
                      bif bBound_0 b c0 c1 c2 == 0 then bBound_1 b c0 c1 c2 == 2 else false
                    else
                      bif decide (c0 < 0) then
                        bif bBound_0 b c0 c1 c2 == 0 then bBound_1 b c0 c1 c2 == 2 else false
                      else
                        bif decide (c0 > 1125899906842624) then
                          bif bBound_0 b c0 c1 c2 == 0 then bBound_1 b c0 c1 c2 == 2 else false
                        else
                          bif decide (c1 < 0) then
                            bif bBound_0 b c0 c1 c2 == 0 then bBound_1 b c0 c1 c2 == 2 else false
                          else
                            bif decide (c1 > 10000000) then
                              bif bBound_0 b c0 c1 c2 == 0 then bBound_1 b c0 c1 c2 == 2 else false
                            else
                              bif decide (c2 < 0) then
                                bif bBound_0 b c0 c1 c2 == 0 then bBound_1 b c0 c1 c2 == 2 else false
                              else
                                bif decide (c2 > 8) then
                                  bif bBound_0 b c0 c1 c2 == 0 then bBound_1 b c0 c1 c2 == 2 else false
                                else
                                  bif bBound_1 b c0 c1 c2 == 0 then
                                    bBound_0 b c0 c1 c2 ==
                                      IntKind.wrap IntKind.i64
                                        (IntKind.wrap IntKind.i64 (IntKind.wrap IntKind.i64 (b * c0) + rDepth_0 b) +
                                          IntKind.wrap IntKind.i64 (IntKind.wrap IntKind.i64 (100 * c2) * c1))
                                  else false
            else
              bif bChange_2 a0 a1 b != 2 then false
              else
                bif !(bChange_0 a0 a1 b == 0 && (bChange_1 a0 a1 b == 0 && true)) then false
                else
                  bif decide (b < 1) then bif bBound_0 b c0 c1 c2 == 0 then bBound_1 b c0 c1 c2 == 2 else false
                  else
                    bif decide (b > 800) then
                      bif bBound_0 b c0 c1 c2 == 0 then bBound_1 b c0 c1 c2 == 2 else false
                    else
                      bif decide (c0 < 0) then
                        bif bBound_0 b c0 c1 c2 == 0 then bBound_1 b c0 c1 c2 == 2 else false
                      else
                        bif decide (c0 > 1125899906842624) then
                          bif bBound_0 b c0 c1 c2 == 0 then bBound_1 b c0 c1 c2 == 2 else false
                        else
                          bif decide (c1 < 0) then
                            bif bBound_0 b c0 c1 c2 == 0 then bBound_1 b c0 c1 c2 == 2 else false
                          else
                            bif decide (c1 > 10000000) then
                              bif bBound_0 b c0 c1 c2 == 0 then bBound_1 b c0 c1 c2 == 2 else false
                            else
                              bif decide (c2 < 0) then
                                bif bBound_0 b c0 c1 c2 == 0 then bBound_1 b c0 c1 c2 == 2 else false
                              else
                                bif decide (c2 > 8) then
                                  bif bBound_0 b c0 c1 c2 == 0 then bBound_1 b c0 c1 c2 == 2 else false
                                else
                                  bif bBound_1 b c0 c1 c2 == 0 then
                                    bBound_0 b c0 c1 c2 ==
                                      IntKind.wrap IntKind.i64
                                        (IntKind.wrap IntKind.i64 (IntKind.wrap IntKind.i64 (b * c0) + rDepth_0 b) +
                                          IntKind.wrap IntKind.i64 (IntKind.wrap IntKind.i64 (100 * c2) * c1))
                                  else false)) := by kernel_rfl

theorem lSplits_0_eq (a0 : Int) (a1 : Int) (b0 : Int) (b1 : Int) (b2 : Int) (c : Int) : lSplits_0 a0 a1 b0 b1 b2 c = V.toBool
  (V.bool false
    (bif bPass_2 a0 a1 b0 b2 != 0 then bPass_0 a0 a1 b0 b2 == 0 && (bPass_1 a0 a1 b0 b2 == 0 && true)
    else
      bif bPass_2 (bPass_0 a0 a1 b0 b2) (bPass_1 a0 a1 b0 b2) b1 b2 == 0 then
        bif decide (a0 ≤ IntKind.wrap IntKind.i64 (100 * b2)) then
          bif decide (IntKind.wrap IntKind.i64 (b0 + b1) ≤ 10000000) then
            bif bPass_2 a0 a1 (IntKind.wrap IntKind.i64 (b0 + b1)) b2 != 0 then false
            else
              bif
                  !(bPass_0 (bPass_0 a0 a1 b0 b2) (bPass_1 a0 a1 b0 b2) b1 b2 ==
                        bPass_0 a0 a1 (IntKind.wrap IntKind.i64 (b0 + b1)) b2 &&
                      (bPass_1 (bPass_0 a0 a1 b0 b2) (bPass_1 a0 a1 b0 b2) b1 b2 ==
                          bPass_1 a0 a1 (IntKind.wrap IntKind.i64 (b0 + b1)) b2 &&
                        true)) then
                false
              else
                bif bChange_2 a0 a1 c != 0 then true
                else
                  bif c == 0 then true
                  else
                    bif a0 == 0 then true
                    else
                      bif bChange_2 (bChange_0 a0 a1 c) (bChange_1 a0 a1 c) a0 == 0 then
                        bif bChange_0 (bChange_0 a0 a1 c) (bChange_1 a0 a1 c) a0 == a0 then
                          bif decide (bChange_1 (bChange_0 a0 a1 c) (bChange_1 a0 a1 c) a0 ≤ a1) then
                            bif decide (c < a0) then true
                            else
                              bChange_0 (bChange_0 a0 a1 c) (bChange_1 a0 a1 c) a0 == a0 &&
                                (bChange_1 (bChange_0 a0 a1 c) (bChange_1 a0 a1 c) a0 == a1 && true)
                          else false
                        else false
                      else false
          else
            bif bChange_2 a0 a1 c != 0 then true
            else
              bif c == 0 then true
              else
                bif a0 == 0 then true
                else
                  bif bChange_2 (bChange_0 a0 a1 c) (bChange_1 a0 a1 c) a0 == 0 then
                    bif bChange_0 (bChange_0 a0 a1 c) (bChange_1 a0 a1 c) a0 == a0 then
                      bif decide (bChange_1 (bChange_0 a0 a1 c) (bChange_1 a0 a1 c) a0 ≤ a1) then
                        bif decide (c < a0) then true
                        else
                          bChange_0 (bChange_0 a0 a1 c) (bChange_1 a0 a1 c) a0 == a0 &&
                            (bChange_1 (bChange_0 a0 a1 c) (bChange_1 a0 a1 c) a0 == a1 && true)
                      else false
                    else false
                  else false
        else
          bif bChange_2 a0 a1 c != 0 then true
          else
            bif c == 0 then true
            else
              bif a0 == 0 then true
              else
                bif bChange_2 (bChange_0 a0 a1 c) (bChange_1 a0 a1 c) a0 == 0 then
                  bif bChange_0 (bChange_0 a0 a1 c) (bChange_1 a0 a1 c) a0 == a0 then
                    bif decide (bChange_1 (bChange_0 a0 a1 c) (bChange_1 a0 a1 c) a0 ≤ a1) then
                      bif decide (c < a0) then true
                      else
                        bChange_0 (bChange_0 a0 a1 c) (bChange_1 a0 a1 c) a0 == a0 &&
                          (bChange_1 (bChange_0 a0 a1 c) (bChange_1 a0 a1 c) a0 == a1 && true)
                    else false
                  else false
                else false
      else
        bif bChange_2 a0 a1 c != 0 then true
        else
          bif c == 0 then true
          else
            bif a0 == 0 then true
            else
              bif bChange_2 (bChange_0 a0 a1 c) (bChange_1 a0 a1 c) a0 == 0 then
                bif bChange_0 (bChange_0 a0 a1 c) (bChange_1 a0 a1 c) a0 == a0 then
                  bif decide (bChange_1 (bChange_0 a0 a1 c) (bChange_1 a0 a1 c) a0 ≤ a1) then
                    bif decide (c < a0) then true
                    else
                      bChange_0 (bChange_0 a0 a1 c) (bChange_1 a0 a1 c) a0 == a0 &&
                        (bChange_1 (bChange_0 a0 a1 c) (bChange_1 a0 a1 c) a0 == a1 && true)
                  else false
                else false
              else false)) := by kernel_rfl

end Go.Proofs.Ytfealfofcjgihaa
