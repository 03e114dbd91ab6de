/- WaitEnds: the 32 rounds as a recursion. -/
import Derived.Test.YtfealfofcjgihaaWp
import Derived.Test.YtfealfofcjgihaaWcN
namespace Go.Proofs.Ytfealfofcjgihaa
open Go.Fw
set_option maxRecDepth 100000

noncomputable def roundE (q0 q1 q2 q3 a0 i : Int) (K : Bool) : Bool :=
  bif wEvent_5 q0 q1 q2 q3 i true != 0 then false
  else bif !wEvent_4 q0 q1 q2 q3 i true == bit a0 i then false
  else bif !wEvent_4 q0 q1 q2 q3 i true == wRuns_0 (wEvent_0 q0 q1 q2 q3 i true) (wEvent_1 q0 q1 q2 q3 i true) (wEvent_2 q0 q1 q2 q3 i true) (wEvent_3 q0 q1 q2 q3 i true) then false
  else bif wEvent_5 q0 q1 q2 q3 i false != 0 then false
  else bif !wEvent_4 q0 q1 q2 q3 i false then false
  else bif !wRuns_0 (wEvent_0 q0 q1 q2 q3 i false) (wEvent_1 q0 q1 q2 q3 i false) (wEvent_2 q0 q1 q2 q3 i false) (wEvent_3 q0 q1 q2 q3 i false) then false
  else K
noncomputable def roundsE (q0 q1 q2 q3 a0 : Int) (K : Bool) : Nat → Nat → Bool
  | 0, _ => K
  | n + 1, i => roundE q0 q1 q2 q3 a0 (Int.ofNat i) (roundsE q0 q1 q2 q3 a0 K n (i + 1))
noncomputable def tailE (q0 q1 q2 q3 a2 a3 : Int) : Bool :=
  bif !wDue_1 q0 q1 q2 q3 then
    bif wTime_5 q0 q1 q2 q3 1125899906842624 == 0 then
      bif !wTime_4 q0 q1 q2 q3 1125899906842624 then
        bif wTime_0 q0 q1 q2 q3 1125899906842624 == q0 && (wTime_1 q0 q1 q2 q3 1125899906842624 == q1 && (wTime_2 q0 q1 q2 q3 1125899906842624 == q2 && (wTime_3 q0 q1 q2 q3 1125899906842624 == q3 && true))) then a2 == 0 else false
      else false
    else false
  else
    bif wTime_5 q0 q1 q2 q3 (IntKind.wrap IntKind.i64 (wDue_0 q0 q1 q2 q3 - 1)) == 0 then
      bif wTime_5 q0 q1 q2 q3 (wDue_0 q0 q1 q2 q3) == 0 then
        bif !wTime_4 q0 q1 q2 q3 (IntKind.wrap IntKind.i64 (wDue_0 q0 q1 q2 q3 - 1)) then
          bif wTime_0 q0 q1 q2 q3 (IntKind.wrap IntKind.i64 (wDue_0 q0 q1 q2 q3 - 1)) == q0 && (wTime_1 q0 q1 q2 q3 (IntKind.wrap IntKind.i64 (wDue_0 q0 q1 q2 q3 - 1)) == q1 && (wTime_2 q0 q1 q2 q3 (IntKind.wrap IntKind.i64 (wDue_0 q0 q1 q2 q3 - 1)) == q2 && (wTime_3 q0 q1 q2 q3 (IntKind.wrap IntKind.i64 (wDue_0 q0 q1 q2 q3 - 1)) == q3 && true))) then
            bif wTime_4 q0 q1 q2 q3 (wDue_0 q0 q1 q2 q3) then
              bif wRuns_0 (wTime_0 q0 q1 q2 q3 (wDue_0 q0 q1 q2 q3)) (wTime_1 q0 q1 q2 q3 (wDue_0 q0 q1 q2 q3)) (wTime_2 q0 q1 q2 q3 (wDue_0 q0 q1 q2 q3)) (wTime_3 q0 q1 q2 q3 (wDue_0 q0 q1 q2 q3)) then
                bif wDue_0 q0 q1 q2 q3 == a2 then decide (wDue_0 q0 q1 q2 q3 > a3) else false
              else false
            else false
          else false
        else false
      else false
    else false
noncomputable def headE (a0 a1 a2 a3 c : Int) : Bool :=
  bif wEvent_5 2 0 0 0 c false != 0 then false
  else bif !wEvent_4 2 0 0 0 c false then false
  else bif !wRuns_0 (wEvent_0 2 0 0 0 c false) (wEvent_1 2 0 0 0 c false) (wEvent_2 2 0 0 0 c false) (wEvent_3 2 0 0 0 c false) then false
  else bif wEvent_5 2 0 0 0 c true != 0 then false
  else bif wEvent_4 2 0 0 0 c true then false
  else bif !(wEvent_0 2 0 0 0 c true == 2 && (wEvent_1 2 0 0 0 c true == 0 && (wEvent_2 2 0 0 0 c true == 0 && (wEvent_3 2 0 0 0 c true == 0 && true)))) then false
  else bif wPoll_5 1 0 0 0 a0 a2 a3 a1 != 0 then
    wPoll_0 1 0 0 0 a0 a2 a3 a1 == 0 && (wPoll_1 1 0 0 0 a0 a2 a3 a1 == 0 && (wPoll_2 1 0 0 0 a0 a2 a3 a1 == 0 && (wPoll_3 1 0 0 0 a0 a2 a3 a1 == 0 && true)))
  else bif !wPoll_4 1 0 0 0 a0 a2 a3 a1 then
    wPoll_0 1 0 0 0 a0 a2 a3 a1 == 1 && (wPoll_1 1 0 0 0 a0 a2 a3 a1 == 0 && (wPoll_2 1 0 0 0 a0 a2 a3 a1 == 0 && (wPoll_3 1 0 0 0 a0 a2 a3 a1 == 0 && true)))
  else bif wRuns_0 (wPoll_0 1 0 0 0 a0 a2 a3 a1) (wPoll_1 1 0 0 0 a0 a2 a3 a1) (wPoll_2 1 0 0 0 a0 a2 a3 a1) (wPoll_3 1 0 0 0 a0 a2 a3 a1) then false
  else roundsE (wPoll_0 1 0 0 0 a0 a2 a3 a1) (wPoll_1 1 0 0 0 a0 a2 a3 a1) (wPoll_2 1 0 0 0 a0 a2 a3 a1) (wPoll_3 1 0 0 0 a0 a2 a3 a1) a0
    (tailE (wPoll_0 1 0 0 0 a0 a2 a3 a1) (wPoll_1 1 0 0 0 a0 a2 a3 a1) (wPoll_2 1 0 0 0 a0 a2 a3 a1) (wPoll_3 1 0 0 0 a0 a2 a3 a1) a2 a3) 32 0
theorem lwEnds_0_eq (a0 a1 a2 a3 b : Int) : lwEnds_0 a0 a1 a2 a3 b = headE a0 a1 a2 a3 (Int.tmod (if 0 > b then 0 else b) 32) := by kernel_rfl
end Go.Proofs.Ytfealfofcjgihaa
