/- Equations of what the evaluator says of functions of the program; printed by a program of ours (wip/tools/Show.lean). -/
import Derived.Test.YtfealfofcjgihaaWcC
namespace Go.Proofs.Ytfealfofcjgihaa
open Go.Fw
set_option maxRecDepth 100000
set_option linter.unusedVariables false

theorem qEvent_0_eq (a0 : Int) (a1 : Int) (a2 : Int) (a3 : Int) (b : Int) (c : Bool) : qEvent_0 a0 a1 a2 a3 b c = V.toInt
  (V.int false IntKind.i64
    (bif !qRight_0 a0 a1 a2 a3 then 0
    else
      bif decide (b < 0) then 0
      else
        bif decide (b > 31) then 0
        else
          bif a0 == 2 then
            bif !c then qReady_0 a0 a1 a2 a3 1
            else
              bif a0 == 3 then
                bif !c then qReady_0 a0 a1 a2 a3 1 else bif hasB a2 b then qReady_0 a0 a1 a2 a3 1 else a0
              else a0
          else
            bif a0 == 3 then
              bif !c then qReady_0 a0 a1 a2 a3 1 else bif hasB a2 b then qReady_0 a0 a1 a2 a3 1 else a0
            else a0)) := by kernel_rfl

theorem qEvent_1_eq (a0 : Int) (a1 : Int) (a2 : Int) (a3 : Int) (b : Int) (c : Bool) : qEvent_1 a0 a1 a2 a3 b c = V.toInt
  (V.int false IntKind.i64
    (bif !qRight_0 a0 a1 a2 a3 then 0
    else
      bif decide (b < 0) then 0
      else
        bif decide (b > 31) then 0
        else
          bif a0 == 2 then
            bif !c then qReady_1 a0 a1 a2 a3 1
            else
              bif a0 == 3 then
                bif !c then qReady_1 a0 a1 a2 a3 1 else bif hasB a2 b then qReady_1 a0 a1 a2 a3 1 else a1
              else a1
          else
            bif a0 == 3 then
              bif !c then qReady_1 a0 a1 a2 a3 1 else bif hasB a2 b then qReady_1 a0 a1 a2 a3 1 else a1
            else a1)) := by kernel_rfl

theorem qEvent_2_eq (a0 : Int) (a1 : Int) (a2 : Int) (a3 : Int) (b : Int) (c : Bool) : qEvent_2 a0 a1 a2 a3 b c = V.toInt
  (V.int false IntKind.u32
    (bif !qRight_0 a0 a1 a2 a3 then 0
    else
      bif decide (b < 0) then 0
      else
        bif decide (b > 31) then 0
        else
          bif a0 == 2 then
            bif !c then qReady_2 a0 a1 a2 a3 1
            else
              bif a0 == 3 then
                bif !c then qReady_2 a0 a1 a2 a3 1 else bif hasB a2 b then qReady_2 a0 a1 a2 a3 1 else a2
              else a2
          else
            bif a0 == 3 then
              bif !c then qReady_2 a0 a1 a2 a3 1 else bif hasB a2 b then qReady_2 a0 a1 a2 a3 1 else a2
            else a2)) := by kernel_rfl

theorem qEvent_3_eq (a0 : Int) (a1 : Int) (a2 : Int) (a3 : Int) (b : Int) (c : Bool) : qEvent_3 a0 a1 a2 a3 b c = V.toInt
  (V.int false IntKind.i64
    (bif !qRight_0 a0 a1 a2 a3 then 0
    else
      bif decide (b < 0) then 0
      else
        bif decide (b > 31) then 0
        else
          bif a0 == 2 then
            bif !c then qReady_3 a0 a1 a2 a3 1
            else
              bif a0 == 3 then
                bif !c then qReady_3 a0 a1 a2 a3 1 else bif hasB a2 b then qReady_3 a0 a1 a2 a3 1 else a3
              else a3
          else
            bif a0 == 3 then
              bif !c then qReady_3 a0 a1 a2 a3 1 else bif hasB a2 b then qReady_3 a0 a1 a2 a3 1 else a3
            else a3)) := by kernel_rfl

theorem qEvent_4_eq (a0 : Int) (a1 : Int) (a2 : Int) (a3 : Int) (b : Int) (c : Bool) : qEvent_4 a0 a1 a2 a3 b c = V.toInt
  (V.int false IntKind.i64
    (bif !qRight_0 a0 a1 a2 a3 then 270
    else
      bif decide (b < 0) then 2
      else
        bif decide (b > 31) then 2
        else
          bif a0 == 2 then
            bif !c then 0 else bif a0 == 3 then bif !c then 0 else bif hasB a2 b then 0 else 0 else 0
          else bif a0 == 3 then bif !c then 0 else bif hasB a2 b then 0 else 0 else 0)) := by kernel_rfl

end Go.Proofs.Ytfealfofcjgihaa
