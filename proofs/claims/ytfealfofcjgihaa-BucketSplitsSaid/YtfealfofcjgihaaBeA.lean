/- Equations of what the evaluator says of functions of the program; printed by a program of ours (wip/tools/Show.lean). -/
import Derived.Test.YtfealfofcjgihaaBcA
namespace Go.Proofs.Ytfealfofcjgihaa
open Go.Fw
set_option maxRecDepth 100000
set_option linter.unusedVariables false

theorem bCheck_0_eq (a0 : Int) (a1 : Int) : bCheck_0 a0 a1 = V.toInt
  (V.int false IntKind.i64
    (bif decide (a0 < 0) then 210
    else
      bif decide (a0 > 800) then 210
      else
        bif decide (a1 < -8000000000) then 210
        else
          bif decide (a1 > IntKind.wrap IntKind.i64 (a0 * 100000000)) then 210
          else bif a0 == 0 then bif !(a0 == 0 && (a1 == 0 && true)) then 210 else 0 else 0)) := by kernel_rfl

theorem bDry_0_eq (a0 : Int) (a1 : Int) : bDry_0 a0 a1 = V.toBool
  (V.bool false (bif bCheck_0 a0 a1 == 0 then bif decide (a0 > 0) then decide (a1 ≤ 0) else false else false)) := by kernel_rfl

theorem bNew_0_eq (a : Int) : bNew_0 a = V.toInt (V.int false IntKind.i64 (bif decide (a < 0) then 0 else bif decide (a > 800) then 0 else a)) := by kernel_rfl

theorem bNew_1_eq (a : Int) : bNew_1 a = V.toInt
  (V.int false IntKind.i64
    (bif decide (a < 0) then 0 else bif decide (a > 800) then 0 else IntKind.wrap IntKind.i64 (a * 100000000))) := by kernel_rfl

theorem bNew_2_eq (a : Int) : bNew_2 a = V.toInt (V.int false IntKind.i64 (bif decide (a < 0) then 2 else bif decide (a > 800) then 2 else 0)) := by kernel_rfl

theorem bDepth_0_eq (a0 : Int) (a1 : Int) : bDepth_0 a0 a1 = V.toInt (V.int false IntKind.i64 (bif bCheck_0 a0 a1 != 0 then 0 else IntKind.wrap IntKind.i64 (a0 * 100000000))) := by kernel_rfl

theorem bPass_0_eq (a0 : Int) (a1 : Int) (b : Int) (c : Int) : bPass_0 a0 a1 b c = V.toInt
  (V.int false IntKind.i64
    (bif bCheck_0 a0 a1 != 0 then 0
    else
      bif decide (b < 0) then 0
      else
        bif decide (b > 10000000) then 0
        else
          bif decide (c < 0) then 0
          else
            bif decide (c > 8) then 0
            else
              bif bDry_0 a0 a1 then
                bif decide (c > 0) then bif decide (b > 0) then 0 else bif a0 == 0 then a0 else a0
                else bif a0 == 0 then a0 else a0
              else bif a0 == 0 then a0 else a0)) := by kernel_rfl

theorem bPass_1_eq (a0 : Int) (a1 : Int) (b : Int) (c : Int) : bPass_1 a0 a1 b c = V.toInt
  (V.int false IntKind.i64
    (bif bCheck_0 a0 a1 != 0 then 0
    else
      bif decide (b < 0) then 0
      else
        bif decide (b > 10000000) then 0
        else
          bif decide (c < 0) then 0
          else
            bif decide (c > 8) then 0
            else
              bif bDry_0 a0 a1 then
                bif decide (c > 0) then
                  bif decide (b > 0) then 0
                  else
                    bif a0 == 0 then a1
                    else
                      if
                          IntKind.wrap IntKind.i64 (a0 * 100000000) <
                            IntKind.wrap IntKind.i64
                              (a1 +
                                IntKind.wrap IntKind.i64
                                  (IntKind.wrap IntKind.i64 (a0 - IntKind.wrap IntKind.i64 (100 * c)) * b)) then
                        IntKind.wrap IntKind.i64 (a0 * 100000000)
                      else
                        IntKind.wrap IntKind.i64
                          (a1 +
                            IntKind.wrap IntKind.i64
                              (IntKind.wrap IntKind.i64 (a0 - IntKind.wrap IntKind.i64 (100 * c)) * b))
                else
                  bif a0 == 0 then a1
                  else
                    if
                        IntKind.wrap IntKind.i64 (a0 * 100000000) <
                          IntKind.wrap IntKind.i64
                            (a1 +
                              IntKind.wrap IntKind.i64
                                (IntKind.wrap IntKind.i64 (a0 - IntKind.wrap IntKind.i64 (100 * c)) * b)) then
                      IntKind.wrap IntKind.i64 (a0 * 100000000)
                    else
                      IntKind.wrap IntKind.i64
                        (a1 +
                          IntKind.wrap IntKind.i64
                            (IntKind.wrap IntKind.i64 (a0 - IntKind.wrap IntKind.i64 (100 * c)) * b))
              else
                bif a0 == 0 then a1
                else
                  if
                      IntKind.wrap IntKind.i64 (a0 * 100000000) <
                        IntKind.wrap IntKind.i64
                          (a1 +
                            IntKind.wrap IntKind.i64
                              (IntKind.wrap IntKind.i64 (a0 - IntKind.wrap IntKind.i64 (100 * c)) * b)) then
                    IntKind.wrap IntKind.i64 (a0 * 100000000)
                  else
                    IntKind.wrap IntKind.i64
                      (a1 +
                        IntKind.wrap IntKind.i64
                          (IntKind.wrap IntKind.i64 (a0 - IntKind.wrap IntKind.i64 (100 * c)) * b)))) := by kernel_rfl

theorem bPass_2_eq (a0 : Int) (a1 : Int) (b : Int) (c : Int) : bPass_2 a0 a1 b c = V.toInt
  (V.int false IntKind.i64
    (bif bCheck_0 a0 a1 != 0 then 210
    else
      bif decide (b < 0) then 2
      else
        bif decide (b > 10000000) then 2
        else
          bif decide (c < 0) then 2
          else
            bif decide (c > 8) then 2
            else
              bif bDry_0 a0 a1 then
                bif decide (c > 0) then bif decide (b > 0) then 211 else bif a0 == 0 then 0 else 0
                else bif a0 == 0 then 0 else 0
              else bif a0 == 0 then 0 else 0)) := by kernel_rfl

theorem bChange_0_eq (a0 : Int) (a1 : Int) (b : Int) : bChange_0 a0 a1 b = V.toInt
  (V.int false IntKind.i64
    (bif bCheck_0 a0 a1 != 0 then 0
    else
      bif bNew_2 b == 0 then bif decide (b > 0) then bif decide (a0 > 0) then bNew_0 b else bNew_0 b else bNew_0 b
      else bNew_0 b)) := by kernel_rfl

theorem bChange_1_eq (a0 : Int) (a1 : Int) (b : Int) : bChange_1 a0 a1 b = V.toInt
  (V.int false IntKind.i64
    (bif bCheck_0 a0 a1 != 0 then 0
    else
      bif bNew_2 b == 0 then
        bif decide (b > 0) then
          bif decide (a0 > 0) then
            if IntKind.wrap IntKind.i64 (b * 100000000) < a1 then IntKind.wrap IntKind.i64 (b * 100000000) else a1
          else bNew_1 b
        else bNew_1 b
      else bNew_1 b)) := by kernel_rfl

theorem bChange_2_eq (a0 : Int) (a1 : Int) (b : Int) : bChange_2 a0 a1 b = V.toInt
  (V.int false IntKind.i64
    (bif bCheck_0 a0 a1 != 0 then bCheck_0 a0 a1
    else
      bif bNew_2 b == 0 then bif decide (b > 0) then bif decide (a0 > 0) then bNew_2 b else bNew_2 b else bNew_2 b
      else bNew_2 b)) := by kernel_rfl

theorem bBound_0_eq (a : Int) (b : Int) (c : Int) (d : Int) : bBound_0 a b c d = V.toInt
  (V.int false IntKind.i64
    (bif decide (a < 0) then 0
    else
      bif decide (a > 800) then 0
      else
        bif decide (a < 1) then 0
        else
          bif decide (a > 800) then 0
          else
            bif decide (b < 0) then 0
            else
              bif decide (b > 1125899906842624) then 0
              else
                bif decide (c < 0) then 0
                else
                  bif decide (c > 10000000) then 0
                  else
                    bif decide (d < 0) then 0
                    else
                      bif decide (d > 8) then 0
                      else
                        IntKind.wrap IntKind.i64
                          (IntKind.wrap IntKind.i64
                              (IntKind.wrap IntKind.i64 (a * 100000000) + IntKind.wrap IntKind.i64 (a * b)) +
                            IntKind.wrap IntKind.i64 (IntKind.wrap IntKind.i64 (100 * d) * c)))) := by kernel_rfl

theorem bBound_1_eq (a : Int) (b : Int) (c : Int) (d : Int) : bBound_1 a b c d = V.toInt
  (V.int false IntKind.i64
    (bif decide (a < 0) then 2
    else
      bif decide (a > 800) then 2
      else
        bif decide (a < 1) then 2
        else
          bif decide (a > 800) then 2
          else
            bif decide (b < 0) then 2
            else
              bif decide (b > 1125899906842624) then 2
              else
                bif decide (c < 0) then 2
                else
                  bif decide (c > 10000000) then 2
                  else bif decide (d < 0) then 2 else bif decide (d > 8) then 2 else 0)) := by kernel_rfl

theorem rRight_0_eq (a0 : Int) (a1 : Int) : rRight_0 a0 a1 = V.toBool
  (V.bool false
    (bif decide (a0 < 0) then false
    else
      bif decide (a0 > 800) then false
      else
        bif a0 == 0 then a1 == 0
        else bif decide (a1 ≥ -8000000000) then decide (a1 ≤ IntKind.wrap IntKind.i64 (a0 * 100000000)) else false)) := by kernel_rfl

theorem rDry_0_eq (a0 : Int) (a1 : Int) : rDry_0 a0 a1 = V.toBool (V.bool false (bif decide (a0 > 0) then decide (a1 ≤ 0) else false)) := by kernel_rfl

theorem rPass_0_eq (a0 : Int) (a1 : Int) (b : Int) (c : Int) : rPass_0 a0 a1 b c = V.toInt
  (V.int false IntKind.i64
    (bif !rRight_0 a0 a1 then 0
    else
      bif decide (b < 0) then 0
      else
        bif decide (b > 10000000) then 0
        else
          bif decide (c < 0) then 0
          else
            bif decide (c > 8) then 0
            else
              bif rDry_0 a0 a1 then
                bif decide (c > 0) then
                  bif decide (b > 0) then 0
                  else
                    bif a0 == 0 then a0
                    else
                      bif
                          decide
                            (IntKind.wrap IntKind.i64
                                (IntKind.wrap IntKind.i64 (a1 + IntKind.wrap IntKind.i64 (a0 * b)) -
                                  IntKind.wrap IntKind.i64 (IntKind.wrap IntKind.i64 (100 * c) * b)) >
                              IntKind.wrap IntKind.i64 (a0 * 100000000)) then
                        a0
                      else a0
                else
                  bif a0 == 0 then a0
                  else
                    bif
                        decide
                          (IntKind.wrap IntKind.i64
                              (IntKind.wrap IntKind.i64 (a1 + IntKind.wrap IntKind.i64 (a0 * b)) -
                                IntKind.wrap IntKind.i64 (IntKind.wrap IntKind.i64 (100 * c) * b)) >
                            IntKind.wrap IntKind.i64 (a0 * 100000000)) then
                      a0
                    else a0
              else
                bif a0 == 0 then a0
                else
                  bif
                      decide
                        (IntKind.wrap IntKind.i64
                            (IntKind.wrap IntKind.i64 (a1 + IntKind.wrap IntKind.i64 (a0 * b)) -
                              IntKind.wrap IntKind.i64 (IntKind.wrap IntKind.i64 (100 * c) * b)) >
                          IntKind.wrap IntKind.i64 (a0 * 100000000)) then
                    a0
                  else a0)) := by kernel_rfl

theorem rPass_1_eq (a0 : Int) (a1 : Int) (b : Int) (c : Int) : rPass_1 a0 a1 b c = V.toInt
  (V.int false IntKind.i64
    (bif !rRight_0 a0 a1 then 0
    else
      bif decide (b < 0) then 0
      else
        bif decide (b > 10000000) then 0
        else
          bif decide (c < 0) then 0
          else
            bif decide (c > 8) then 0
            else
              bif rDry_0 a0 a1 then
                bif decide (c > 0) then
                  bif decide (b > 0) then 0
                  else
                    bif a0 == 0 then a1
                    else
                      bif
                          decide
                            (IntKind.wrap IntKind.i64
                                (IntKind.wrap IntKind.i64 (a1 + IntKind.wrap IntKind.i64 (a0 * b)) -
                                  IntKind.wrap IntKind.i64 (IntKind.wrap IntKind.i64 (100 * c) * b)) >
                              IntKind.wrap IntKind.i64 (a0 * 100000000)) then
                        IntKind.wrap IntKind.i64 (a0 * 100000000)
                      else
                        IntKind.wrap IntKind.i64
                          (IntKind.wrap IntKind.i64 (a1 + IntKind.wrap IntKind.i64 (a0 * b)) -
                            IntKind.wrap IntKind.i64 (IntKind.wrap IntKind.i64 (100 * c) * b))
                else
                  bif a0 == 0 then a1
                  else
                    bif
                        decide
                          (IntKind.wrap IntKind.i64
                              (IntKind.wrap IntKind.i64 (a1 + IntKind.wrap IntKind.i64 (a0 * b)) -
                                IntKind.wrap IntKind.i64 (IntKind.wrap IntKind.i64 (100 * c) * b)) >
                            IntKind.wrap IntKind.i64 (a0 * 100000000)) then
                      IntKind.wrap IntKind.i64 (a0 * 100000000)
                    else
                      IntKind.wrap IntKind.i64
                        (IntKind.wrap IntKind.i64 (a1 + IntKind.wrap IntKind.i64 (a0 * b)) -
                          IntKind.wrap IntKind.i64 (IntKind.wrap IntKind.i64 (100 * c) * b))
              else
                bif a0 == 0 then a1
                else
                  bif
                      decide
                        (IntKind.wrap IntKind.i64
                            (IntKind.wrap IntKind.i64 (a1 + IntKind.wrap IntKind.i64 (a0 * b)) -
                              IntKind.wrap IntKind.i64 (IntKind.wrap IntKind.i64 (100 * c) * b)) >
                          IntKind.wrap IntKind.i64 (a0 * 100000000)) then
                    IntKind.wrap IntKind.i64 (a0 * 100000000)
                  else
                    IntKind.wrap IntKind.i64
                      (IntKind.wrap IntKind.i64 (a1 + IntKind.wrap IntKind.i64 (a0 * b)) -
                        IntKind.wrap IntKind.i64 (IntKind.wrap IntKind.i64 (100 * c) * b)))) := by kernel_rfl

theorem rPass_2_eq (a0 : Int) (a1 : Int) (b : Int) (c : Int) : rPass_2 a0 a1 b c = V.toInt
  (V.int false IntKind.i64
    (bif !rRight_0 a0 a1 then 210
    else
      bif decide (b < 0) then 2
      else
        bif decide (b > 10000000) then 2
        else
          bif decide (c < 0) then 2
          else
            bif decide (c > 8) then 2
            else
              bif rDry_0 a0 a1 then
                bif decide (c > 0) then
                  bif decide (b > 0) then 211
                  else
                    bif a0 == 0 then 0
                    else
                      bif
                          decide
                            (IntKind.wrap IntKind.i64
                                (IntKind.wrap IntKind.i64 (a1 + IntKind.wrap IntKind.i64 (a0 * b)) -
                                  IntKind.wrap IntKind.i64 (IntKind.wrap IntKind.i64 (100 * c) * b)) >
                              IntKind.wrap IntKind.i64 (a0 * 100000000)) then
                        0
                      else 0
                else
                  bif a0 == 0 then 0
                  else
                    bif
                        decide
                          (IntKind.wrap IntKind.i64
                              (IntKind.wrap IntKind.i64 (a1 + IntKind.wrap IntKind.i64 (a0 * b)) -
                                IntKind.wrap IntKind.i64 (IntKind.wrap IntKind.i64 (100 * c) * b)) >
                            IntKind.wrap IntKind.i64 (a0 * 100000000)) then
                      0
                    else 0
              else
                bif a0 == 0 then 0
                else
                  bif
                      decide
                        (IntKind.wrap IntKind.i64
                            (IntKind.wrap IntKind.i64 (a1 + IntKind.wrap IntKind.i64 (a0 * b)) -
                              IntKind.wrap IntKind.i64 (IntKind.wrap IntKind.i64 (100 * c) * b)) >
                          IntKind.wrap IntKind.i64 (a0 * 100000000)) then
                    0
                  else 0)) := by kernel_rfl

theorem rChange_0_eq (a0 : Int) (a1 : Int) (b : Int) : rChange_0 a0 a1 b = V.toInt
  (V.int false IntKind.i64
    (bif b == 0 then 0
    else
      bif decide (a0 > 0) then bif decide (a1 < IntKind.wrap IntKind.i64 (b * 100000000)) then b else b else b)) := by kernel_rfl

theorem rChange_1_eq (a0 : Int) (a1 : Int) (b : Int) : rChange_1 a0 a1 b = V.toInt
  (V.int false IntKind.i64
    (bif b == 0 then 0
    else
      bif decide (a0 > 0) then
        bif decide (a1 < IntKind.wrap IntKind.i64 (b * 100000000)) then a1
        else IntKind.wrap IntKind.i64 (b * 100000000)
      else IntKind.wrap IntKind.i64 (b * 100000000))) := by kernel_rfl

theorem rDepth_0_eq (a : Int) : rDepth_0 a = V.toInt (V.int false IntKind.i64 (IntKind.wrap IntKind.i64 (a * 100000000))) := by kernel_rfl

end Go.Proofs.Ytfealfofcjgihaa
