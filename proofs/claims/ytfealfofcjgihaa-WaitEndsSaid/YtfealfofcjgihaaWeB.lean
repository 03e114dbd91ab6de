/- Equations of what the evaluator says of functions of the program; printed by a program of ours (wip/tools/Show.lean). -/
import Derived.Test.YtfealfofcjgihaaWcB
namespace Go.Proofs.Ytfealfofcjgihaa
open Go.Fw
set_option maxRecDepth 100000
set_option linter.unusedVariables false

theorem wEvent_0_eq (a0 : Int) (a1 : Int) (a2 : Int) (a3 : Int) (b : Int) (c : Bool) : wEvent_0 a0 a1 a2 a3 b c = V.toInt
  (V.int false IntKind.i64
    (bif wCheck_0 a0 a1 a2 a3 != 0 then 0
    else
      bif decide (b < 0) then 0
      else
        bif decide (b ≥ 32) then 0
        else
          bif a0 == 3 then
            bif
                IntKind.wrap IntKind.u32
                    ↑(BitVec.toNat
                        (BitVec.ofInt (IntKind.bits IntKind.u32)
                            (Int.fdiv a2 (2 ^ min (Int.toNat b) (IntKind.bits IntKind.u32))) &&&
                          BitVec.ofInt (IntKind.bits IntKind.u32) 1)) ==
                  1 then
              1
            else bif !c then 1 else a0
          else bif a0 == 2 then bif !c then 1 else a0 else a0)) := by kernel_rfl

theorem wEvent_1_eq (a0 : Int) (a1 : Int) (a2 : Int) (a3 : Int) (b : Int) (c : Bool) : wEvent_1 a0 a1 a2 a3 b c = V.toInt
  (V.int false IntKind.i64
    (bif wCheck_0 a0 a1 a2 a3 != 0 then 0
    else
      bif decide (b < 0) then 0
      else
        bif decide (b ≥ 32) then 0
        else
          bif a0 == 3 then
            bif
                IntKind.wrap IntKind.u32
                    ↑(BitVec.toNat
                        (BitVec.ofInt (IntKind.bits IntKind.u32)
                            (Int.fdiv a2 (2 ^ min (Int.toNat b) (IntKind.bits IntKind.u32))) &&&
                          BitVec.ofInt (IntKind.bits IntKind.u32) 1)) ==
                  1 then
              a1
            else bif !c then a1 else a1
          else bif a0 == 2 then bif !c then a1 else a1 else a1)) := by kernel_rfl

theorem wEvent_2_eq (a0 : Int) (a1 : Int) (a2 : Int) (a3 : Int) (b : Int) (c : Bool) : wEvent_2 a0 a1 a2 a3 b c = V.toInt
  (V.int false IntKind.u32
    (bif wCheck_0 a0 a1 a2 a3 != 0 then 0
    else
      bif decide (b < 0) then 0
      else
        bif decide (b ≥ 32) then 0
        else
          bif a0 == 3 then
            bif
                IntKind.wrap IntKind.u32
                    ↑(BitVec.toNat
                        (BitVec.ofInt (IntKind.bits IntKind.u32)
                            (Int.fdiv a2 (2 ^ min (Int.toNat b) (IntKind.bits IntKind.u32))) &&&
                          BitVec.ofInt (IntKind.bits IntKind.u32) 1)) ==
                  1 then
              0
            else bif !c then 0 else a2
          else bif a0 == 2 then bif !c then 0 else a2 else a2)) := by kernel_rfl

theorem wEvent_3_eq (a0 : Int) (a1 : Int) (a2 : Int) (a3 : Int) (b : Int) (c : Bool) : wEvent_3 a0 a1 a2 a3 b c = V.toInt
  (V.int false IntKind.i64
    (bif wCheck_0 a0 a1 a2 a3 != 0 then 0
    else
      bif decide (b < 0) then 0
      else
        bif decide (b ≥ 32) then 0
        else
          bif a0 == 3 then
            bif
                IntKind.wrap IntKind.u32
                    ↑(BitVec.toNat
                        (BitVec.ofInt (IntKind.bits IntKind.u32)
                            (Int.fdiv a2 (2 ^ min (Int.toNat b) (IntKind.bits IntKind.u32))) &&&
                          BitVec.ofInt (IntKind.bits IntKind.u32) 1)) ==
                  1 then
              0
            else bif !c then 0 else a3
          else bif a0 == 2 then bif !c then 0 else a3 else a3)) := by kernel_rfl

theorem wEvent_4_eq (a0 : Int) (a1 : Int) (a2 : Int) (a3 : Int) (b : Int) (c : Bool) : wEvent_4 a0 a1 a2 a3 b c = V.toBool
  (V.bool false
    (bif wCheck_0 a0 a1 a2 a3 != 0 then false
    else
      bif decide (b < 0) then false
      else
        bif decide (b ≥ 32) then false
        else
          bif a0 == 3 then
            bif
                IntKind.wrap IntKind.u32
                    ↑(BitVec.toNat
                        (BitVec.ofInt (IntKind.bits IntKind.u32)
                            (Int.fdiv a2 (2 ^ min (Int.toNat b) (IntKind.bits IntKind.u32))) &&&
                          BitVec.ofInt (IntKind.bits IntKind.u32) 1)) ==
                  1 then
              !(1 == a0 && (a1 == a1 && (0 == a2 && (0 == a3 && true))))
            else
              bif !c then !(1 == a0 && (a1 == a1 && (0 == a2 && (0 == a3 && true))))
              else !(a0 == a0 && (a1 == a1 && (a2 == a2 && (a3 == a3 && true))))
          else
            bif a0 == 2 then
              bif !c then !(1 == a0 && (a1 == a1 && (0 == a2 && (0 == a3 && true))))
              else !(a0 == a0 && (a1 == a1 && (a2 == a2 && (a3 == a3 && true))))
            else !(a0 == a0 && (a1 == a1 && (a2 == a2 && (a3 == a3 && true)))))) := by kernel_rfl

theorem wEvent_5_eq (a0 : Int) (a1 : Int) (a2 : Int) (a3 : Int) (b : Int) (c : Bool) : wEvent_5 a0 a1 a2 a3 b c = V.toInt
  (V.int false IntKind.i64
    (bif wCheck_0 a0 a1 a2 a3 != 0 then wCheck_0 a0 a1 a2 a3
    else
      bif decide (b < 0) then 2
      else
        bif decide (b ≥ 32) then 2
        else
          bif a0 == 3 then
            bif
                IntKind.wrap IntKind.u32
                    ↑(BitVec.toNat
                        (BitVec.ofInt (IntKind.bits IntKind.u32)
                            (Int.fdiv a2 (2 ^ min (Int.toNat b) (IntKind.bits IntKind.u32))) &&&
                          BitVec.ofInt (IntKind.bits IntKind.u32) 1)) ==
                  1 then
              0
            else bif !c then 0 else 0
          else bif a0 == 2 then bif !c then 0 else 0 else 0)) := by kernel_rfl

end Go.Proofs.Ytfealfofcjgihaa
