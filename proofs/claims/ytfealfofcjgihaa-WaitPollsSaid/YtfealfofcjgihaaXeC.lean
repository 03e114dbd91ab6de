/- Equations of what the evaluator says of functions of the program; printed by a program of ours (wip/tools/Show.lean). -/
import Derived.Test.YtfealfofcjgihaaXcC
namespace Go.Proofs.Ytfealfofcjgihaa
open Go.Fw
set_option maxRecDepth 100000
set_option linter.unusedVariables false

theorem qPoll_0_eq (a0 : Int) (a1 : Int) (a2 : Int) (a3 : Int) (b : Int) (c : Int) (d : Int) (e : Int) : qPoll_0 a0 a1 a2 a3 b c d e = V.toInt (V.int false IntKind.i64 (bif bif
  !qRight_0 a0 a1 a2 a3 then true else false then (0 : Int) else bif bif !qRuns_0 a0 a1 a2 a3 then true else false then (0 : Int) else bif bif bif b == (0 : Int) then bif c == (0 :
  Int) then true else bif decide (c < (0 : Int)) then true else decide (c > (1125899906842624 : Int)) else bif decide (c < (0 : Int)) then true else decide (c > (1125899906842624 :
  Int)) then true else false then (0 : Int) else bif bif bif rBoth_0 b e then true else bif decide (c > (0 : Int)) then decide (c ≤ d) else false then true else false then a0 else
  (3 : Int))) := by kernel_rfl
theorem qPoll_1_eq (a0 : Int) (a1 : Int) (a2 : Int) (a3 : Int) (b : Int) (c : Int) (d : Int) (e : Int) : qPoll_1 a0 a1 a2 a3 b c d e = V.toInt (V.int false IntKind.i64 (bif bif
  !qRight_0 a0 a1 a2 a3 then true else false then (0 : Int) else bif bif !qRuns_0 a0 a1 a2 a3 then true else false then (0 : Int) else bif bif bif b == (0 : Int) then bif c == (0 :
  Int) then true else bif decide (c < (0 : Int)) then true else decide (c > (1125899906842624 : Int)) else bif decide (c < (0 : Int)) then true else decide (c > (1125899906842624 :
  Int)) then true else false then (0 : Int) else bif bif bif rBoth_0 b e then true else bif decide (c > (0 : Int)) then decide (c ≤ d) else false then true else false then a1 else
  (0 : Int))) := by kernel_rfl
theorem qPoll_2_eq (a0 : Int) (a1 : Int) (a2 : Int) (a3 : Int) (b : Int) (c : Int) (d : Int) (e : Int) : qPoll_2 a0 a1 a2 a3 b c d e = V.toInt (V.int false IntKind.u32 (bif bif
  !qRight_0 a0 a1 a2 a3 then true else false then (0 : Int) else bif bif !qRuns_0 a0 a1 a2 a3 then true else false then (0 : Int) else bif bif bif b == (0 : Int) then bif c == (0 :
  Int) then true else bif decide (c < (0 : Int)) then true else decide (c > (1125899906842624 : Int)) else bif decide (c < (0 : Int)) then true else decide (c > (1125899906842624 :
  Int)) then true else false then (0 : Int) else bif bif bif rBoth_0 b e then true else bif decide (c > (0 : Int)) then decide (c ≤ d) else false then true else false then a2 else
  b)) := by kernel_rfl
theorem qPoll_3_eq (a0 : Int) (a1 : Int) (a2 : Int) (a3 : Int) (b : Int) (c : Int) (d : Int) (e : Int) : qPoll_3 a0 a1 a2 a3 b c d e = V.toInt (V.int false IntKind.i64 (bif bif
  !qRight_0 a0 a1 a2 a3 then true else false then (0 : Int) else bif bif !qRuns_0 a0 a1 a2 a3 then true else false then (0 : Int) else bif bif bif b == (0 : Int) then bif c == (0 :
  Int) then true else bif decide (c < (0 : Int)) then true else decide (c > (1125899906842624 : Int)) else bif decide (c < (0 : Int)) then true else decide (c > (1125899906842624 :
  Int)) then true else false then (0 : Int) else bif bif bif rBoth_0 b e then true else bif decide (c > (0 : Int)) then decide (c ≤ d) else false then true else false then a3 else
  c)) := by kernel_rfl
theorem qPoll_4_eq (a0 : Int) (a1 : Int) (a2 : Int) (a3 : Int) (b : Int) (c : Int) (d : Int) (e : Int) : qPoll_4 a0 a1 a2 a3 b c d e = V.toInt (V.int false IntKind.i64 (bif bif
  !qRight_0 a0 a1 a2 a3 then true else false then (270 : Int) else bif bif !qRuns_0 a0 a1 a2 a3 then true else false then (271 : Int) else bif bif bif b == (0 : Int) then bif c ==
  (0 : Int) then true else bif decide (c < (0 : Int)) then true else decide (c > (1125899906842624 : Int)) else bif decide (c < (0 : Int)) then true else decide (c >
  (1125899906842624 : Int)) then true else false then (2 : Int) else bif bif bif rBoth_0 b e then true else bif decide (c > (0 : Int)) then decide (c ≤ d) else false then true else
  false then (0 : Int) else (0 : Int))) := by kernel_rfl
theorem lwPolls_0_eq (a0 : Int) (a1 : Int) (a2 : Int) (a3 : Int) (b0 : Int) (b1 : Int) (b2 : Int) (b3 : Int) (c : Bool) : lwPolls_0 a0 a1 a2 a3 b0 b1 b2 b3 c = V.toBool (V.bool
  false (bif bif bif !(wPoll_0 a0 a1 a2 a3 b0 b2 b3 b1 == qPoll_0 a0 a1 a2 a3 b0 b2 b3 b1 && (wPoll_1 a0 a1 a2 a3 b0 b2 b3 b1 == qPoll_1 a0 a1 a2 a3 b0 b2 b3 b1 && (wPoll_2 a0 a1
  a2 a3 b0 b2 b3 b1 == qPoll_2 a0 a1 a2 a3 b0 b2 b3 b1 && (wPoll_3 a0 a1 a2 a3 b0 b2 b3 b1 == qPoll_3 a0 a1 a2 a3 b0 b2 b3 b1 && true)))) then true else bif wPoll_5 a0 a1 a2 a3 b0
  b2 b3 b1 != qPoll_4 a0 a1 a2 a3 b0 b2 b3 b1 then true else bif qPoll_4 a0 a1 a2 a3 b0 b2 b3 b1 == (0 : Int) then !wPoll_4 a0 a1 a2 a3 b0 b2 b3 b1 == !(qPoll_0 a0 a1 a2 a3 b0 b2
  b3 b1 == a0 && (qPoll_1 a0 a1 a2 a3 b0 b2 b3 b1 == a1 && (qPoll_2 a0 a1 a2 a3 b0 b2 b3 b1 == a2 && (qPoll_3 a0 a1 a2 a3 b0 b2 b3 b1 == a3 && true)))) else !wPoll_4 a0 a1 a2 a3 b0
  b2 b3 b1 == false then true else false then false else bif bif bif !qRight_0 a0 a1 a2 a3 then true else bif bif !qRuns_0 a0 a1 a2 a3 then true else bif bif c then true else false
  then true else false then true else false then true else false then bif !qRight_0 a0 a1 a2 a3 then bif wBlock_0 a0 a1 a2 a3 c == (0 : Int) && (wBlock_1 a0 a1 a2 a3 c == (0 : Int)
  && (wBlock_2 a0 a1 a2 a3 c == (0 : Int) && (wBlock_3 a0 a1 a2 a3 c == (0 : Int) && true))) then bif !wBlock_4 a0 a1 a2 a3 c then wBlock_5 a0 a1 a2 a3 c == (270 : Int) else false
  else false else bif !qRuns_0 a0 a1 a2 a3 then bif wBlock_0 a0 a1 a2 a3 c == (0 : Int) && (wBlock_1 a0 a1 a2 a3 c == (0 : Int) && (wBlock_2 a0 a1 a2 a3 c == (0 : Int) && (wBlock_3
  a0 a1 a2 a3 c == (0 : Int) && true))) then bif !wBlock_4 a0 a1 a2 a3 c then wBlock_5 a0 a1 a2 a3 c == (271 : Int) else false else false else bif wBlock_0 a0 a1 a2 a3 c == a0 &&
  (wBlock_1 a0 a1 a2 a3 c == a1 && (wBlock_2 a0 a1 a2 a3 c == a2 && (wBlock_3 a0 a1 a2 a3 c == a3 && true))) then bif !wBlock_4 a0 a1 a2 a3 c then wBlock_5 a0 a1 a2 a3 c == (0 :
  Int) else false else false else bif wBlock_0 a0 a1 a2 a3 c == qReady_0 a0 a1 a2 a3 (2 : Int) && (wBlock_1 a0 a1 a2 a3 c == qReady_1 a0 a1 a2 a3 (2 : Int) && (wBlock_2 a0 a1 a2 a3
  c == qReady_2 a0 a1 a2 a3 (2 : Int) && (wBlock_3 a0 a1 a2 a3 c == qReady_3 a0 a1 a2 a3 (2 : Int) && true))) then bif wBlock_4 a0 a1 a2 a3 c then wBlock_5 a0 a1 a2 a3 c == (0 :
  Int) else false else false)) := by kernel_rfl
end Go.Proofs.Ytfealfofcjgihaa
