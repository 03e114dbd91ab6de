/- Equations of what the evaluator says of functions of the program; printed by a program of ours (wip/tools/Show.lean). -/
import Derived.Test.YtfealfofcjgihaaXcA
namespace Go.Proofs.Ytfealfofcjgihaa
open Go.Fw
set_option maxRecDepth 100000
set_option linter.unusedVariables false

theorem wCheck_0_eq (a0 : Int) (a1 : Int) (a2 : Int) (a3 : Int) : wCheck_0 a0 a1 a2 a3 = V.toInt
  (V.int false IntKind.i64
    (bif
        bif
            bif
                !bif decide (a0 ≥ (0 : Int)) then
                    bif decide (a0 ≤ (3 : Int)) then
                      bif decide (a1 ≥ (0 : Int)) then
                        bif decide (a1 ≤ (15 : Int)) then
                          bif decide (a3 ≥ (0 : Int)) then decide (a3 ≤ (1125899906842624 : Int)) else false
                        else false
                      else false
                    else false
                  else false then
              true
            else !(bif a2 != (0 : Int) then true else a3 != (0 : Int)) == (a0 == (3 : Int)) then
          true
        else false then
      (270 : Int)
    else (0 : Int))) := by kernel_rfl

theorem wRuns_0_eq (a0 : Int) (a1 : Int) (a2 : Int) (a3 : Int) : wRuns_0 a0 a1 a2 a3 = V.toBool
  (V.bool false
    (bif wCheck_0 a0 a1 a2 a3 == (0 : Int) then
      a0 == (1 : Int) && (a1 == (0 : Int) && (a2 == (0 : Int) && (a3 == (0 : Int) && true)))
    else false)) := by kernel_rfl

theorem wDue_0_eq (a0 : Int) (a1 : Int) (a2 : Int) (a3 : Int) : wDue_0 a0 a1 a2 a3 = V.toInt
  (V.int false IntKind.i64
    (bif bif bif wCheck_0 a0 a1 a2 a3 != (0 : Int) then true else a3 == (0 : Int) then true else false then
      (0 : Int)
    else a3)) := by kernel_rfl

theorem wDue_1_eq (a0 : Int) (a1 : Int) (a2 : Int) (a3 : Int) : wDue_1 a0 a1 a2 a3 = V.toBool
  (V.bool false
    (bif bif bif wCheck_0 a0 a1 a2 a3 != (0 : Int) then true else a3 == (0 : Int) then true else false then false
    else true)) := by kernel_rfl

theorem wUp_0_eq (a0 : Int) (a1 : Int) (a2 : Int) (a3 : Int) : wUp_0 a0 a1 a2 a3 = V.toInt
  (V.int false IntKind.i64
    (bif bif wCheck_0 a0 a1 a2 a3 != (0 : Int) then true else false then (0 : Int)
    else bif bif a0 != (0 : Int) then true else false then (0 : Int) else (1 : Int))) := by kernel_rfl

theorem wUp_1_eq (a0 : Int) (a1 : Int) (a2 : Int) (a3 : Int) : wUp_1 a0 a1 a2 a3 = V.toInt
  (V.int false IntKind.i64
    (bif bif wCheck_0 a0 a1 a2 a3 != (0 : Int) then true else false then (0 : Int)
    else bif bif a0 != (0 : Int) then true else false then (0 : Int) else a1)) := by kernel_rfl

theorem wUp_2_eq (a0 : Int) (a1 : Int) (a2 : Int) (a3 : Int) : wUp_2 a0 a1 a2 a3 = V.toInt
  (V.int false IntKind.u32
    (bif bif wCheck_0 a0 a1 a2 a3 != (0 : Int) then true else false then (0 : Int)
    else bif bif a0 != (0 : Int) then true else false then (0 : Int) else (0 : Int))) := by kernel_rfl

theorem wUp_3_eq (a0 : Int) (a1 : Int) (a2 : Int) (a3 : Int) : wUp_3 a0 a1 a2 a3 = V.toInt
  (V.int false IntKind.i64
    (bif bif wCheck_0 a0 a1 a2 a3 != (0 : Int) then true else false then (0 : Int)
    else bif bif a0 != (0 : Int) then true else false then (0 : Int) else (0 : Int))) := by kernel_rfl

theorem wUp_4_eq (a0 : Int) (a1 : Int) (a2 : Int) (a3 : Int) : wUp_4 a0 a1 a2 a3 = V.toInt
  (V.int false IntKind.i64
    (bif bif wCheck_0 a0 a1 a2 a3 != (0 : Int) then true else false then wCheck_0 a0 a1 a2 a3
    else bif bif a0 != (0 : Int) then true else false then (5 : Int) else (0 : Int))) := by kernel_rfl

theorem wDown_0_eq (a0 : Int) (a1 : Int) (a2 : Int) (a3 : Int) : wDown_0 a0 a1 a2 a3 = V.toInt
  (V.int false IntKind.i64
    (bif bif wCheck_0 a0 a1 a2 a3 != (0 : Int) then true else false then (0 : Int)
    else bif bif a0 == (0 : Int) then true else false then (0 : Int) else (0 : Int))) := by kernel_rfl

theorem wDown_1_eq (a0 : Int) (a1 : Int) (a2 : Int) (a3 : Int) : wDown_1 a0 a1 a2 a3 = V.toInt
  (V.int false IntKind.i64
    (bif bif wCheck_0 a0 a1 a2 a3 != (0 : Int) then true else false then (0 : Int)
    else bif bif a0 == (0 : Int) then true else false then (0 : Int) else a1)) := by kernel_rfl

theorem wDown_2_eq (a0 : Int) (a1 : Int) (a2 : Int) (a3 : Int) : wDown_2 a0 a1 a2 a3 = V.toInt
  (V.int false IntKind.u32
    (bif bif wCheck_0 a0 a1 a2 a3 != (0 : Int) then true else false then (0 : Int)
    else bif bif a0 == (0 : Int) then true else false then (0 : Int) else (0 : Int))) := by kernel_rfl

theorem wDown_3_eq (a0 : Int) (a1 : Int) (a2 : Int) (a3 : Int) : wDown_3 a0 a1 a2 a3 = V.toInt
  (V.int false IntKind.i64
    (bif bif wCheck_0 a0 a1 a2 a3 != (0 : Int) then true else false then (0 : Int)
    else bif bif a0 == (0 : Int) then true else false then (0 : Int) else (0 : Int))) := by kernel_rfl

theorem wDown_4_eq (a0 : Int) (a1 : Int) (a2 : Int) (a3 : Int) : wDown_4 a0 a1 a2 a3 = V.toInt
  (V.int false IntKind.i64
    (bif bif wCheck_0 a0 a1 a2 a3 != (0 : Int) then true else false then wCheck_0 a0 a1 a2 a3
    else bif bif a0 == (0 : Int) then true else false then (4 : Int) else (0 : Int))) := by kernel_rfl

theorem wPause_0_eq (a0 : Int) (a1 : Int) (a2 : Int) (a3 : Int) : wPause_0 a0 a1 a2 a3 = V.toInt
  (V.int false IntKind.i64
    (bif bif wCheck_0 a0 a1 a2 a3 != (0 : Int) then true else false then (0 : Int)
    else bif bif a1 == (15 : Int) then true else false then (0 : Int) else a0)) := by kernel_rfl

theorem wPause_1_eq (a0 : Int) (a1 : Int) (a2 : Int) (a3 : Int) : wPause_1 a0 a1 a2 a3 = V.toInt
  (V.int false IntKind.i64
    (bif bif wCheck_0 a0 a1 a2 a3 != (0 : Int) then true else false then (0 : Int)
    else bif bif a1 == (15 : Int) then true else false then (0 : Int) else IntKind.wrap IntKind.i64 (a1 + (1 : Int)))) := by kernel_rfl

theorem wPause_2_eq (a0 : Int) (a1 : Int) (a2 : Int) (a3 : Int) : wPause_2 a0 a1 a2 a3 = V.toInt
  (V.int false IntKind.u32
    (bif bif wCheck_0 a0 a1 a2 a3 != (0 : Int) then true else false then (0 : Int)
    else bif bif a1 == (15 : Int) then true else false then (0 : Int) else a2)) := by kernel_rfl

theorem wPause_3_eq (a0 : Int) (a1 : Int) (a2 : Int) (a3 : Int) : wPause_3 a0 a1 a2 a3 = V.toInt
  (V.int false IntKind.i64
    (bif bif wCheck_0 a0 a1 a2 a3 != (0 : Int) then true else false then (0 : Int)
    else bif bif a1 == (15 : Int) then true else false then (0 : Int) else a3)) := by kernel_rfl

theorem wPause_4_eq (a0 : Int) (a1 : Int) (a2 : Int) (a3 : Int) : wPause_4 a0 a1 a2 a3 = V.toInt
  (V.int false IntKind.i64
    (bif bif wCheck_0 a0 a1 a2 a3 != (0 : Int) then true else false then wCheck_0 a0 a1 a2 a3
    else bif bif a1 == (15 : Int) then true else false then (6 : Int) else (0 : Int))) := by kernel_rfl

theorem wUnpause_0_eq (a0 : Int) (a1 : Int) (a2 : Int) (a3 : Int) : wUnpause_0 a0 a1 a2 a3 = V.toInt
  (V.int false IntKind.i64
    (bif bif wCheck_0 a0 a1 a2 a3 != (0 : Int) then true else false then (0 : Int)
    else bif bif a1 == (0 : Int) then true else false then (0 : Int) else a0)) := by kernel_rfl

theorem wUnpause_1_eq (a0 : Int) (a1 : Int) (a2 : Int) (a3 : Int) : wUnpause_1 a0 a1 a2 a3 = V.toInt
  (V.int false IntKind.i64
    (bif bif wCheck_0 a0 a1 a2 a3 != (0 : Int) then true else false then (0 : Int)
    else bif bif a1 == (0 : Int) then true else false then (0 : Int) else IntKind.wrap IntKind.i64 (a1 - (1 : Int)))) := by kernel_rfl

theorem wUnpause_2_eq (a0 : Int) (a1 : Int) (a2 : Int) (a3 : Int) : wUnpause_2 a0 a1 a2 a3 = V.toInt
  (V.int false IntKind.u32
    (bif bif wCheck_0 a0 a1 a2 a3 != (0 : Int) then true else false then (0 : Int)
    else bif bif a1 == (0 : Int) then true else false then (0 : Int) else a2)) := by kernel_rfl

theorem wUnpause_3_eq (a0 : Int) (a1 : Int) (a2 : Int) (a3 : Int) : wUnpause_3 a0 a1 a2 a3 = V.toInt
  (V.int false IntKind.i64
    (bif bif wCheck_0 a0 a1 a2 a3 != (0 : Int) then true else false then (0 : Int)
    else bif bif a1 == (0 : Int) then true else false then (0 : Int) else a3)) := by kernel_rfl

theorem wUnpause_4_eq (a0 : Int) (a1 : Int) (a2 : Int) (a3 : Int) : wUnpause_4 a0 a1 a2 a3 = V.toBool
  (V.bool false
    (bif bif wCheck_0 a0 a1 a2 a3 != (0 : Int) then true else false then false
    else
      bif bif a1 == (0 : Int) then true else false then false
      else wRuns_0 a0 (IntKind.wrap IntKind.i64 (a1 - (1 : Int))) a2 a3)) := by kernel_rfl

theorem wUnpause_5_eq (a0 : Int) (a1 : Int) (a2 : Int) (a3 : Int) : wUnpause_5 a0 a1 a2 a3 = V.toInt
  (V.int false IntKind.i64
    (bif bif wCheck_0 a0 a1 a2 a3 != (0 : Int) then true else false then wCheck_0 a0 a1 a2 a3
    else bif bif a1 == (0 : Int) then true else false then (4 : Int) else (0 : Int))) := by kernel_rfl

theorem wBlock_0_eq (a0 : Int) (a1 : Int) (a2 : Int) (a3 : Int) (b : Bool) : wBlock_0 a0 a1 a2 a3 b = V.toInt
  (V.int false IntKind.i64
    (bif bif wCheck_0 a0 a1 a2 a3 != (0 : Int) then true else false then (0 : Int)
    else bif bif !wRuns_0 a0 a1 a2 a3 then true else false then (0 : Int) else bif !b then (2 : Int) else a0)) := by kernel_rfl

theorem wBlock_1_eq (a0 : Int) (a1 : Int) (a2 : Int) (a3 : Int) (b : Bool) : wBlock_1 a0 a1 a2 a3 b = V.toInt
  (V.int false IntKind.i64
    (bif bif wCheck_0 a0 a1 a2 a3 != (0 : Int) then true else false then (0 : Int)
    else bif bif !wRuns_0 a0 a1 a2 a3 then true else false then (0 : Int) else bif !b then a1 else a1)) := by kernel_rfl

theorem wBlock_2_eq (a0 : Int) (a1 : Int) (a2 : Int) (a3 : Int) (b : Bool) : wBlock_2 a0 a1 a2 a3 b = V.toInt
  (V.int false IntKind.u32
    (bif bif wCheck_0 a0 a1 a2 a3 != (0 : Int) then true else false then (0 : Int)
    else bif bif !wRuns_0 a0 a1 a2 a3 then true else false then (0 : Int) else bif !b then (0 : Int) else a2)) := by kernel_rfl

theorem wBlock_3_eq (a0 : Int) (a1 : Int) (a2 : Int) (a3 : Int) (b : Bool) : wBlock_3 a0 a1 a2 a3 b = V.toInt
  (V.int false IntKind.i64
    (bif bif wCheck_0 a0 a1 a2 a3 != (0 : Int) then true else false then (0 : Int)
    else bif bif !wRuns_0 a0 a1 a2 a3 then true else false then (0 : Int) else bif !b then (0 : Int) else a3)) := by kernel_rfl

theorem wBlock_4_eq (a0 : Int) (a1 : Int) (a2 : Int) (a3 : Int) (b : Bool) : wBlock_4 a0 a1 a2 a3 b = V.toBool
  (V.bool false
    (bif bif wCheck_0 a0 a1 a2 a3 != (0 : Int) then true else false then false
    else
      bif bif !wRuns_0 a0 a1 a2 a3 then true else false then false
      else
        !((bif !b then (2 : Int) else a0) == a0 &&
            ((bif !b then a1 else a1) == a1 &&
              ((bif !b then (0 : Int) else a2) == a2 && ((bif !b then (0 : Int) else a3) == a3 && true)))))) := by kernel_rfl

theorem wBlock_5_eq (a0 : Int) (a1 : Int) (a2 : Int) (a3 : Int) (b : Bool) : wBlock_5 a0 a1 a2 a3 b = V.toInt
  (V.int false IntKind.i64
    (bif bif wCheck_0 a0 a1 a2 a3 != (0 : Int) then true else false then wCheck_0 a0 a1 a2 a3
    else bif bif !wRuns_0 a0 a1 a2 a3 then true else false then (271 : Int) else (0 : Int))) := by kernel_rfl

theorem wPoll_0_eq (a0 : Int) (a1 : Int) (a2 : Int) (a3 : Int) (b : Int) (c : Int) (d : Int) (e : Int) : wPoll_0 a0 a1 a2 a3 b c d e = V.toInt
  (V.int false IntKind.i64
    (bif bif wCheck_0 a0 a1 a2 a3 != (0 : Int) then true else false then (0 : Int)
    else
      bif
          bif
              bif !wRuns_0 a0 a1 a2 a3 then true
              else
                bif
                    bif
                        bif b == (0 : Int) then
                          bif c == (0 : Int) then true
                          else bif decide (c < (0 : Int)) then true else decide (c > (1125899906842624 : Int))
                        else bif decide (c < (0 : Int)) then true else decide (c > (1125899906842624 : Int)) then
                      true
                    else
                      bif
                          bif
                              bif
                                  IntKind.wrap IntKind.u32
                                      ↑(BitVec.toNat
                                          (BitVec.ofInt (IntKind.bits IntKind.u32) b &&&
                                            BitVec.ofInt (IntKind.bits IntKind.u32) e)) !=
                                    (0 : Int) then
                                true
                              else bif c != (0 : Int) then decide (c ≤ d) else false then
                            true
                          else false then
                        true
                      else false then
                  true
                else false then
            true
          else false then
        bif
            bif
                (bif !wRuns_0 a0 a1 a2 a3 then (271 : Int)
                  else
                    bif
                        bif b == (0 : Int) then
                          bif c == (0 : Int) then true
                          else bif decide (c < (0 : Int)) then true else decide (c > (1125899906842624 : Int))
                        else bif decide (c < (0 : Int)) then true else decide (c > (1125899906842624 : Int)) then
                      (2 : Int)
                    else (0 : Int)) !=
                  (0 : Int) then
              true
            else false then
          (0 : Int)
        else a0
      else (3 : Int))) := by kernel_rfl

theorem wPoll_1_eq (a0 : Int) (a1 : Int) (a2 : Int) (a3 : Int) (b : Int) (c : Int) (d : Int) (e : Int) : wPoll_1 a0 a1 a2 a3 b c d e = V.toInt
  (V.int false IntKind.i64
    (bif bif wCheck_0 a0 a1 a2 a3 != (0 : Int) then true else false then (0 : Int)
    else
      bif
          bif
              bif !wRuns_0 a0 a1 a2 a3 then true
              else
                bif
                    bif
                        bif b == (0 : Int) then
                          bif c == (0 : Int) then true
                          else bif decide (c < (0 : Int)) then true else decide (c > (1125899906842624 : Int))
                        else bif decide (c < (0 : Int)) then true else decide (c > (1125899906842624 : Int)) then
                      true
                    else
                      bif
                          bif
                              bif
                                  IntKind.wrap IntKind.u32
                                      ↑(BitVec.toNat
                                          (BitVec.ofInt (IntKind.bits IntKind.u32) b &&&
                                            BitVec.ofInt (IntKind.bits IntKind.u32) e)) !=
                                    (0 : Int) then
                                true
                              else bif c != (0 : Int) then decide (c ≤ d) else false then
                            true
                          else false then
                        true
                      else false then
                  true
                else false then
            true
          else false then
        bif
            bif
                (bif !wRuns_0 a0 a1 a2 a3 then (271 : Int)
                  else
                    bif
                        bif b == (0 : Int) then
                          bif c == (0 : Int) then true
                          else bif decide (c < (0 : Int)) then true else decide (c > (1125899906842624 : Int))
                        else bif decide (c < (0 : Int)) then true else decide (c > (1125899906842624 : Int)) then
                      (2 : Int)
                    else (0 : Int)) !=
                  (0 : Int) then
              true
            else false then
          (0 : Int)
        else a1
      else a1)) := by kernel_rfl

theorem wPoll_2_eq (a0 : Int) (a1 : Int) (a2 : Int) (a3 : Int) (b : Int) (c : Int) (d : Int) (e : Int) : wPoll_2 a0 a1 a2 a3 b c d e = V.toInt
  (V.int false IntKind.u32
    (bif bif wCheck_0 a0 a1 a2 a3 != (0 : Int) then true else false then (0 : Int)
    else
      bif
          bif
              bif !wRuns_0 a0 a1 a2 a3 then true
              else
                bif
                    bif
                        bif b == (0 : Int) then
                          bif c == (0 : Int) then true
                          else bif decide (c < (0 : Int)) then true else decide (c > (1125899906842624 : Int))
                        else bif decide (c < (0 : Int)) then true else decide (c > (1125899906842624 : Int)) then
                      true
                    else
                      bif
                          bif
                              bif
                                  IntKind.wrap IntKind.u32
                                      ↑(BitVec.toNat
                                          (BitVec.ofInt (IntKind.bits IntKind.u32) b &&&
                                            BitVec.ofInt (IntKind.bits IntKind.u32) e)) !=
                                    (0 : Int) then
                                true
                              else bif c != (0 : Int) then decide (c ≤ d) else false then
                            true
                          else false then
                        true
                      else false then
                  true
                else false then
            true
          else false then
        bif
            bif
                (bif !wRuns_0 a0 a1 a2 a3 then (271 : Int)
                  else
                    bif
                        bif b == (0 : Int) then
                          bif c == (0 : Int) then true
                          else bif decide (c < (0 : Int)) then true else decide (c > (1125899906842624 : Int))
                        else bif decide (c < (0 : Int)) then true else decide (c > (1125899906842624 : Int)) then
                      (2 : Int)
                    else (0 : Int)) !=
                  (0 : Int) then
              true
            else false then
          (0 : Int)
        else a2
      else b)) := by kernel_rfl

theorem wPoll_3_eq (a0 : Int) (a1 : Int) (a2 : Int) (a3 : Int) (b : Int) (c : Int) (d : Int) (e : Int) : wPoll_3 a0 a1 a2 a3 b c d e = V.toInt
  (V.int false IntKind.i64
    (bif bif wCheck_0 a0 a1 a2 a3 != (0 : Int) then true else false then (0 : Int)
    else
      bif
          bif
              bif !wRuns_0 a0 a1 a2 a3 then true
              else
                bif
                    bif
                        bif b == (0 : Int) then
                          bif c == (0 : Int) then true
                          else bif decide (c < (0 : Int)) then true else decide (c > (1125899906842624 : Int))
                        else bif decide (c < (0 : Int)) then true else decide (c > (1125899906842624 : Int)) then
                      true
                    else
                      bif
                          bif
                              bif
                                  IntKind.wrap IntKind.u32
                                      ↑(BitVec.toNat
                                          (BitVec.ofInt (IntKind.bits IntKind.u32) b &&&
                                            BitVec.ofInt (IntKind.bits IntKind.u32) e)) !=
                                    (0 : Int) then
                                true
                              else bif c != (0 : Int) then decide (c ≤ d) else false then
                            true
                          else false then
                        true
                      else false then
                  true
                else false then
            true
          else false then
        bif
            bif
                (bif !wRuns_0 a0 a1 a2 a3 then (271 : Int)
                  else
                    bif
                        bif b == (0 : Int) then
                          bif c == (0 : Int) then true
                          else bif decide (c < (0 : Int)) then true else decide (c > (1125899906842624 : Int))
                        else bif decide (c < (0 : Int)) then true else decide (c > (1125899906842624 : Int)) then
                      (2 : Int)
                    else (0 : Int)) !=
                  (0 : Int) then
              true
            else false then
          (0 : Int)
        else a3
      else c)) := by kernel_rfl

theorem wPoll_4_eq (a0 : Int) (a1 : Int) (a2 : Int) (a3 : Int) (b : Int) (c : Int) (d : Int) (e : Int) : wPoll_4 a0 a1 a2 a3 b c d e = V.toBool
  (V.bool false
    (bif bif wCheck_0 a0 a1 a2 a3 != (0 : Int) then true else false then false
    else
      bif
          bif
              bif !wRuns_0 a0 a1 a2 a3 then true
              else
                bif
                    bif
                        bif b == (0 : Int) then
                          bif c == (0 : Int) then true
                          else bif decide (c < (0 : Int)) then true else decide (c > (1125899906842624 : Int))
                        else bif decide (c < (0 : Int)) then true else decide (c > (1125899906842624 : Int)) then
                      true
                    else
                      bif
                          bif
                              bif
                                  IntKind.wrap IntKind.u32
                                      ↑(BitVec.toNat
                                          (BitVec.ofInt (IntKind.bits IntKind.u32) b &&&
                                            BitVec.ofInt (IntKind.bits IntKind.u32) e)) !=
                                    (0 : Int) then
                                true
                              else bif c != (0 : Int) then decide (c ≤ d) else false then
                            true
                          else false then
                        true
                      else false then
                  true
                else false then
            true
          else false then
        bif
            bif
                (bif !wRuns_0 a0 a1 a2 a3 then (271 : Int)
                  else
                    bif
                        bif b == (0 : Int) then
                          bif c == (0 : Int) then true
                          else bif decide (c < (0 : Int)) then true else decide (c > (1125899906842624 : Int))
                        else bif decide (c < (0 : Int)) then true else decide (c > (1125899906842624 : Int)) then
                      (2 : Int)
                    else (0 : Int)) !=
                  (0 : Int) then
              true
            else false then
          false
        else !(a0 == a0 && (a1 == a1 && (a2 == a2 && (a3 == a3 && true))))
      else !((3 : Int) == a0 && (a1 == a1 && (b == a2 && (c == a3 && true)))))) := by kernel_rfl

theorem wPoll_5_eq (a0 : Int) (a1 : Int) (a2 : Int) (a3 : Int) (b : Int) (c : Int) (d : Int) (e : Int) : wPoll_5 a0 a1 a2 a3 b c d e = V.toInt
  (V.int false IntKind.i64
    (bif bif wCheck_0 a0 a1 a2 a3 != (0 : Int) then true else false then wCheck_0 a0 a1 a2 a3
    else
      bif
          bif
              bif !wRuns_0 a0 a1 a2 a3 then true
              else
                bif
                    bif
                        bif b == (0 : Int) then
                          bif c == (0 : Int) then true
                          else bif decide (c < (0 : Int)) then true else decide (c > (1125899906842624 : Int))
                        else bif decide (c < (0 : Int)) then true else decide (c > (1125899906842624 : Int)) then
                      true
                    else
                      bif
                          bif
                              bif
                                  IntKind.wrap IntKind.u32
                                      ↑(BitVec.toNat
                                          (BitVec.ofInt (IntKind.bits IntKind.u32) b &&&
                                            BitVec.ofInt (IntKind.bits IntKind.u32) e)) !=
                                    (0 : Int) then
                                true
                              else bif c != (0 : Int) then decide (c ≤ d) else false then
                            true
                          else false then
                        true
                      else false then
                  true
                else false then
            true
          else false then
        bif
            bif
                (bif !wRuns_0 a0 a1 a2 a3 then (271 : Int)
                  else
                    bif
                        bif b == (0 : Int) then
                          bif c == (0 : Int) then true
                          else bif decide (c < (0 : Int)) then true else decide (c > (1125899906842624 : Int))
                        else bif decide (c < (0 : Int)) then true else decide (c > (1125899906842624 : Int)) then
                      (2 : Int)
                    else (0 : Int)) !=
                  (0 : Int) then
              true
            else false then
          bif !wRuns_0 a0 a1 a2 a3 then (271 : Int)
          else
            bif
                bif b == (0 : Int) then
                  bif c == (0 : Int) then true
                  else bif decide (c < (0 : Int)) then true else decide (c > (1125899906842624 : Int))
                else bif decide (c < (0 : Int)) then true else decide (c > (1125899906842624 : Int)) then
              (2 : Int)
            else (0 : Int)
        else (0 : Int)
      else (0 : Int))) := by kernel_rfl

theorem wTime_0_eq (a0 : Int) (a1 : Int) (a2 : Int) (a3 : Int) (b : Int) : wTime_0 a0 a1 a2 a3 b = V.toInt
  (V.int false IntKind.i64
    (bif bif wCheck_0 a0 a1 a2 a3 != (0 : Int) then true else false then (0 : Int)
    else bif bif decide (a3 > (0 : Int)) then decide (b ≥ a3) else false then (1 : Int) else a0)) := by kernel_rfl

theorem wTime_1_eq (a0 : Int) (a1 : Int) (a2 : Int) (a3 : Int) (b : Int) : wTime_1 a0 a1 a2 a3 b = V.toInt
  (V.int false IntKind.i64
    (bif bif wCheck_0 a0 a1 a2 a3 != (0 : Int) then true else false then (0 : Int)
    else bif bif decide (a3 > (0 : Int)) then decide (b ≥ a3) else false then a1 else a1)) := by kernel_rfl

theorem wTime_2_eq (a0 : Int) (a1 : Int) (a2 : Int) (a3 : Int) (b : Int) : wTime_2 a0 a1 a2 a3 b = V.toInt
  (V.int false IntKind.u32
    (bif bif wCheck_0 a0 a1 a2 a3 != (0 : Int) then true else false then (0 : Int)
    else bif bif decide (a3 > (0 : Int)) then decide (b ≥ a3) else false then (0 : Int) else a2)) := by kernel_rfl

theorem wTime_3_eq (a0 : Int) (a1 : Int) (a2 : Int) (a3 : Int) (b : Int) : wTime_3 a0 a1 a2 a3 b = V.toInt
  (V.int false IntKind.i64
    (bif bif wCheck_0 a0 a1 a2 a3 != (0 : Int) then true else false then (0 : Int)
    else bif bif decide (a3 > (0 : Int)) then decide (b ≥ a3) else false then (0 : Int) else a3)) := by kernel_rfl

theorem wTime_4_eq (a0 : Int) (a1 : Int) (a2 : Int) (a3 : Int) (b : Int) : wTime_4 a0 a1 a2 a3 b = V.toBool
  (V.bool false
    (bif bif wCheck_0 a0 a1 a2 a3 != (0 : Int) then true else false then false
    else
      !((bif bif decide (a3 > (0 : Int)) then decide (b ≥ a3) else false then (1 : Int) else a0) == a0 &&
          ((bif bif decide (a3 > (0 : Int)) then decide (b ≥ a3) else false then a1 else a1) == a1 &&
            ((bif bif decide (a3 > (0 : Int)) then decide (b ≥ a3) else false then (0 : Int) else a2) == a2 &&
              ((bif bif decide (a3 > (0 : Int)) then decide (b ≥ a3) else false then (0 : Int) else a3) == a3 &&
                true)))))) := by kernel_rfl

theorem wTime_5_eq (a0 : Int) (a1 : Int) (a2 : Int) (a3 : Int) (b : Int) : wTime_5 a0 a1 a2 a3 b = V.toInt
  (V.int false IntKind.i64
    (bif bif wCheck_0 a0 a1 a2 a3 != (0 : Int) then true else false then wCheck_0 a0 a1 a2 a3 else (0 : Int))) := by kernel_rfl

theorem qRight_0_eq (a0 : Int) (a1 : Int) (a2 : Int) (a3 : Int) : qRight_0 a0 a1 a2 a3 = V.toBool
  (V.bool false
    (bif
        bif
            bif decide (a0 < (0 : Int)) then true
            else
              bif decide (a0 > (3 : Int)) then true
              else
                bif decide (a1 < (0 : Int)) then true
                else
                  bif decide (a1 > (15 : Int)) then true
                  else bif decide (a3 < (0 : Int)) then true else decide (a3 > (1125899906842624 : Int)) then
          true
        else false then
      false
    else
      bif bif a0 == (3 : Int) then true else false then
        bif decide (a2 > (0 : Int)) then true else decide (a3 > (0 : Int))
      else bif a2 == (0 : Int) then a3 == (0 : Int) else false)) := by kernel_rfl

theorem qRuns_0_eq (a0 : Int) (a1 : Int) (a2 : Int) (a3 : Int) : qRuns_0 a0 a1 a2 a3 = V.toBool (V.bool false (bif a0 == (1 : Int) then a1 == (0 : Int) else false)) := by kernel_rfl

theorem qReady_0_eq (a0 : Int) (a1 : Int) (a2 : Int) (a3 : Int) (b : Int) : qReady_0 a0 a1 a2 a3 b = V.toInt (V.int false IntKind.i64 b) := by kernel_rfl

theorem qReady_1_eq (a0 : Int) (a1 : Int) (a2 : Int) (a3 : Int) (b : Int) : qReady_1 a0 a1 a2 a3 b = V.toInt (V.int false IntKind.i64 a1) := by kernel_rfl

theorem qReady_2_eq (a0 : Int) (a1 : Int) (a2 : Int) (a3 : Int) (b : Int) : qReady_2 a0 a1 a2 a3 b = V.toInt (V.int false IntKind.u32 (0 : Int)) := by kernel_rfl

theorem qReady_3_eq (a0 : Int) (a1 : Int) (a2 : Int) (a3 : Int) (b : Int) : qReady_3 a0 a1 a2 a3 b = V.toInt (V.int false IntKind.i64 (0 : Int)) := by kernel_rfl

theorem qTime_0_eq (a0 : Int) (a1 : Int) (a2 : Int) (a3 : Int) (b : Int) : qTime_0 a0 a1 a2 a3 b = V.toInt
  (V.int false IntKind.i64
    (bif
        bif bif a0 == (3 : Int) then bif decide (a3 > (0 : Int)) then decide (b ≥ a3) else false else false then
          true
        else false then
      qReady_0 a0 a1 a2 a3 (1 : Int)
    else a0)) := by kernel_rfl

theorem qTime_1_eq (a0 : Int) (a1 : Int) (a2 : Int) (a3 : Int) (b : Int) : qTime_1 a0 a1 a2 a3 b = V.toInt
  (V.int false IntKind.i64
    (bif
        bif bif a0 == (3 : Int) then bif decide (a3 > (0 : Int)) then decide (b ≥ a3) else false else false then
          true
        else false then
      qReady_1 a0 a1 a2 a3 (1 : Int)
    else a1)) := by kernel_rfl

theorem qTime_2_eq (a0 : Int) (a1 : Int) (a2 : Int) (a3 : Int) (b : Int) : qTime_2 a0 a1 a2 a3 b = V.toInt
  (V.int false IntKind.u32
    (bif
        bif bif a0 == (3 : Int) then bif decide (a3 > (0 : Int)) then decide (b ≥ a3) else false else false then
          true
        else false then
      qReady_2 a0 a1 a2 a3 (1 : Int)
    else a2)) := by kernel_rfl

theorem qTime_3_eq (a0 : Int) (a1 : Int) (a2 : Int) (a3 : Int) (b : Int) : qTime_3 a0 a1 a2 a3 b = V.toInt
  (V.int false IntKind.i64
    (bif
        bif bif a0 == (3 : Int) then bif decide (a3 > (0 : Int)) then decide (b ≥ a3) else false else false then
          true
        else false then
      qReady_3 a0 a1 a2 a3 (1 : Int)
    else a3)) := by kernel_rfl

end Go.Proofs.Ytfealfofcjgihaa
