/- Equations of what the evaluator says of functions of the program; printed by a program of ours (wip/tools/Show.lean). -/
import Derived.Test.YtkkojdcchnailaaGreatDoorQNa
namespace Go.Proofs.YtkkojdcchnailaaGreatDoor
open Go.Fw
set_option maxRecDepth 100000
set_option linter.unusedVariables false

theorem cname_0_eq (a : Int) : cname_0 a = V.toStr (V.str false (bif bif bif decide (a < (1 : Int)) then true else decide (a > (20 : Int)) then true else false then [] else bif
  Nat.beq (Int.toNat (IntKind.wrap IntKind.i64 (a - (1 : Int)))) (nat_lit 18 + (1 : Nat)) then [(115 : UInt8), (116 : UInt8), (111 : UInt8), (112 : UInt8)] else bif Nat.beq
  (Int.toNat (IntKind.wrap IntKind.i64 (a - (1 : Int)))) (nat_lit 17 + (1 : Nat)) then [(115 : UInt8), (116 : UInt8), (97 : UInt8), (114 : UInt8), (116 : UInt8)] else bif Nat.beq
  (Int.toNat (IntKind.wrap IntKind.i64 (a - (1 : Int)))) (nat_lit 16 + (1 : Nat)) then [(98 : UInt8), (105 : UInt8), (110 : UInt8), (100 : UInt8)] else bif Nat.beq (Int.toNat
  (IntKind.wrap IntKind.i64 (a - (1 : Int)))) (nat_lit 15 + (1 : Nat)) then [(99 : UInt8), (108 : UInt8), (101 : UInt8), (97 : UInt8), (114 : UInt8)] else bif Nat.beq (Int.toNat
  (IntKind.wrap IntKind.i64 (a - (1 : Int)))) (nat_lit 14 + (1 : Nat)) then [(109 : UInt8), (97 : UInt8), (115 : UInt8), (107 : UInt8)] else bif Nat.beq (Int.toNat (IntKind.wrap
  IntKind.i64 (a - (1 : Int)))) (nat_lit 13 + (1 : Nat)) then [(115 : UInt8), (101 : UInt8), (110 : UInt8), (100 : UInt8)] else bif Nat.beq (Int.toNat (IntKind.wrap IntKind.i64 (a
  - (1 : Int)))) (nat_lit 12 + (1 : Nat)) then [(99 : UInt8), (108 : UInt8), (111 : UInt8), (115 : UInt8), (101 : UInt8)] else bif Nat.beq (Int.toNat (IntKind.wrap IntKind.i64 (a -
  (1 : Int)))) (nat_lit 11 + (1 : Nat)) then [(108 : UInt8), (105 : UInt8), (110 : UInt8), (107 : UInt8)] else bif Nat.beq (Int.toNat (IntKind.wrap IntKind.i64 (a - (1 : Int))))
  (nat_lit 10 + (1 : Nat)) then [(111 : UInt8), (112 : UInt8), (101 : UInt8), (110 : UInt8)] else bif Nat.beq (Int.toNat (IntKind.wrap IntKind.i64 (a - (1 : Int)))) (nat_lit 9 + (1
  : Nat)) then [(121 : UInt8), (105 : UInt8), (101 : UInt8), (108 : UInt8), (100 : UInt8)] else bif Nat.beq (Int.toNat (IntKind.wrap IntKind.i64 (a - (1 : Int)))) (nat_lit 8 + (1 :
  Nat)) then [(112 : UInt8), (111 : UInt8), (108 : UInt8), (108 : UInt8)] else bif Nat.beq (Int.toNat (IntKind.wrap IntKind.i64 (a - (1 : Int)))) (nat_lit 7 + (1 : Nat)) then [(98
  : UInt8), (108 : UInt8), (111 : UInt8), (99 : UInt8), (107 : UInt8)] else bif Nat.beq (Int.toNat (IntKind.wrap IntKind.i64 (a - (1 : Int)))) (nat_lit 6 + (1 : Nat)) then [(117 :
  UInt8), (110 : UInt8), (112 : UInt8), (97 : UInt8), (117 : UInt8), (115 : UInt8), (101 : UInt8)] else bif Nat.beq (Int.toNat (IntKind.wrap IntKind.i64 (a - (1 : Int)))) (nat_lit
  5 + (1 : Nat)) then [(112 : UInt8), (97 : UInt8), (117 : UInt8), (115 : UInt8), (101 : UInt8)] else bif Nat.beq (Int.toNat (IntKind.wrap IntKind.i64 (a - (1 : Int)))) (nat_lit 4
  + (1 : Nat)) then [(100 : UInt8), (111 : UInt8), (119 : UInt8), (110 : UInt8)] else bif Nat.beq (Int.toNat (IntKind.wrap IntKind.i64 (a - (1 : Int)))) (nat_lit 3 + (1 : Nat))
  then [(117 : UInt8), (112 : UInt8)] else bif Nat.beq (Int.toNat (IntKind.wrap IntKind.i64 (a - (1 : Int)))) (nat_lit 2 + (1 : Nat)) then [(100 : UInt8), (114 : UInt8), (111 :
  UInt8), (112 : UInt8)] else bif Nat.beq (Int.toNat (IntKind.wrap IntKind.i64 (a - (1 : Int)))) (nat_lit 1 + (1 : Nat)) then [(97 : UInt8), (100 : UInt8), (100 : UInt8)] else bif
  Nat.beq (Int.toNat (IntKind.wrap IntKind.i64 (a - (1 : Int)))) (nat_lit 0 + (1 : Nat)) then [(100 : UInt8), (101 : UInt8), (115 : UInt8), (116 : UInt8), (114 : UInt8), (111 :
  UInt8), (121 : UInt8)] else [(99 : UInt8), (114 : UInt8), (101 : UInt8), (97 : UInt8), (116 : UInt8), (101 : UInt8)])) := by kernel_rfl
theorem ckind_0_eq (a : List UInt8) : ckind_0 a = V.toInt (V.int false IntKind.i64 (bif bif bif a == [(99 : UInt8), (114 : UInt8), (101 : UInt8), (97 : UInt8), (116 : UInt8), (101
  : UInt8)] then true else false then true else false then Int.ofNat (nat_lit 0 + (1 : Nat)) else bif bif bif a == [(100 : UInt8), (101 : UInt8), (115 : UInt8), (116 : UInt8), (114
  : UInt8), (111 : UInt8), (121 : UInt8)] then true else false then true else false then Int.ofNat (nat_lit 1 + (1 : Nat)) else bif bif bif a == [(97 : UInt8), (100 : UInt8), (100
  : UInt8)] then true else false then true else false then Int.ofNat (nat_lit 2 + (1 : Nat)) else bif bif bif a == [(100 : UInt8), (114 : UInt8), (111 : UInt8), (112 : UInt8)] then
  true else false then true else false then Int.ofNat (nat_lit 3 + (1 : Nat)) else bif bif bif a == [(117 : UInt8), (112 : UInt8)] then true else false then true else false then
  Int.ofNat (nat_lit 4 + (1 : Nat)) else bif bif bif a == [(100 : UInt8), (111 : UInt8), (119 : UInt8), (110 : UInt8)] then true else false then true else false then Int.ofNat
  (nat_lit 5 + (1 : Nat)) else bif bif bif a == [(112 : UInt8), (97 : UInt8), (117 : UInt8), (115 : UInt8), (101 : UInt8)] then true else false then true else false then Int.ofNat
  (nat_lit 6 + (1 : Nat)) else bif bif bif a == [(117 : UInt8), (110 : UInt8), (112 : UInt8), (97 : UInt8), (117 : UInt8), (115 : UInt8), (101 : UInt8)] then true else false then
  true else false then Int.ofNat (nat_lit 7 + (1 : Nat)) else bif bif bif a == [(98 : UInt8), (108 : UInt8), (111 : UInt8), (99 : UInt8), (107 : UInt8)] then true else false then
  true else false then Int.ofNat (nat_lit 8 + (1 : Nat)) else bif bif bif a == [(112 : UInt8), (111 : UInt8), (108 : UInt8), (108 : UInt8)] then true else false then true else
  false then Int.ofNat (nat_lit 9 + (1 : Nat)) else bif bif bif a == [(121 : UInt8), (105 : UInt8), (101 : UInt8), (108 : UInt8), (100 : UInt8)] then true else false then true else
  false then Int.ofNat (nat_lit 10 + (1 : Nat)) else bif bif bif a == [(111 : UInt8), (112 : UInt8), (101 : UInt8), (110 : UInt8)] then true else false then true else false then
  Int.ofNat (nat_lit 11 + (1 : Nat)) else bif bif bif a == [(108 : UInt8), (105 : UInt8), (110 : UInt8), (107 : UInt8)] then true else false then true else false then Int.ofNat
  (nat_lit 12 + (1 : Nat)) else bif bif bif a == [(99 : UInt8), (108 : UInt8), (111 : UInt8), (115 : UInt8), (101 : UInt8)] then true else false then true else false then Int.ofNat
  (nat_lit 13 + (1 : Nat)) else bif bif bif a == [(115 : UInt8), (101 : UInt8), (110 : UInt8), (100 : UInt8)] then true else false then true else false then Int.ofNat (nat_lit 14 +
  (1 : Nat)) else bif bif bif a == [(109 : UInt8), (97 : UInt8), (115 : UInt8), (107 : UInt8)] then true else false then true else false then Int.ofNat (nat_lit 15 + (1 : Nat))
  else bif bif bif a == [(99 : UInt8), (108 : UInt8), (101 : UInt8), (97 : UInt8), (114 : UInt8)] then true else false then true else false then Int.ofNat (nat_lit 16 + (1 : Nat))
  else bif bif bif a == [(98 : UInt8), (105 : UInt8), (110 : UInt8), (100 : UInt8)] then true else false then true else false then Int.ofNat (nat_lit 17 + (1 : Nat)) else bif bif
  bif a == [(115 : UInt8), (116 : UInt8), (97 : UInt8), (114 : UInt8), (116 : UInt8)] then true else false then true else false then Int.ofNat (nat_lit 18 + (1 : Nat)) else bif bif
  bif a == [(115 : UInt8), (116 : UInt8), (111 : UInt8), (112 : UInt8)] then true else false then true else false then Int.ofNat (nat_lit 19 + (1 : Nat)) else Int.ofNat (0 : Nat)))
  := by kernel_rfl
theorem ckind_1_eq (a : List UInt8) : ckind_1 a = V.toBool (V.bool false (bif bif bif a == [(99 : UInt8), (114 : UInt8), (101 : UInt8), (97 : UInt8), (116 : UInt8), (101 : UInt8)]
  then true else false then true else false then true else bif bif bif a == [(100 : UInt8), (101 : UInt8), (115 : UInt8), (116 : UInt8), (114 : UInt8), (111 : UInt8), (121 :
  UInt8)] then true else false then true else false then true else bif bif bif a == [(97 : UInt8), (100 : UInt8), (100 : UInt8)] then true else false then true else false then true
  else bif bif bif a == [(100 : UInt8), (114 : UInt8), (111 : UInt8), (112 : UInt8)] then true else false then true else false then true else bif bif bif a == [(117 : UInt8), (112
  : UInt8)] then true else false then true else false then true else bif bif bif a == [(100 : UInt8), (111 : UInt8), (119 : UInt8), (110 : UInt8)] then true else false then true
  else false then true else bif bif bif a == [(112 : UInt8), (97 : UInt8), (117 : UInt8), (115 : UInt8), (101 : UInt8)] then true else false then true else false then true else bif
  bif bif a == [(117 : UInt8), (110 : UInt8), (112 : UInt8), (97 : UInt8), (117 : UInt8), (115 : UInt8), (101 : UInt8)] then true else false then true else false then true else bif
  bif bif a == [(98 : UInt8), (108 : UInt8), (111 : UInt8), (99 : UInt8), (107 : UInt8)] then true else false then true else false then true else bif bif bif a == [(112 : UInt8),
  (111 : UInt8), (108 : UInt8), (108 : UInt8)] then true else false then true else false then true else bif bif bif a == [(121 : UInt8), (105 : UInt8), (101 : UInt8), (108 :
  UInt8), (100 : UInt8)] then true else false then true else false then true else bif bif bif a == [(111 : UInt8), (112 : UInt8), (101 : UInt8), (110 : UInt8)] then true else false
  then true else false then true else bif bif bif a == [(108 : UInt8), (105 : UInt8), (110 : UInt8), (107 : UInt8)] then true else false then true else false then true else bif bif
  bif a == [(99 : UInt8), (108 : UInt8), (111 : UInt8), (115 : UInt8), (101 : UInt8)] then true else false then true else false then true else bif bif bif a == [(115 : UInt8), (101
  : UInt8), (110 : UInt8), (100 : UInt8)] then true else false then true else false then true else bif bif bif a == [(109 : UInt8), (97 : UInt8), (115 : UInt8), (107 : UInt8)] then
  true else false then true else false then true else bif bif bif a == [(99 : UInt8), (108 : UInt8), (101 : UInt8), (97 : UInt8), (114 : UInt8)] then true else false then true else
  false then true else bif bif bif a == [(98 : UInt8), (105 : UInt8), (110 : UInt8), (100 : UInt8)] then true else false then true else false then true else bif bif bif a == [(115
  : UInt8), (116 : UInt8), (97 : UInt8), (114 : UInt8), (116 : UInt8)] then true else false then true else false then true else bif bif bif a == [(115 : UInt8), (116 : UInt8), (111
  : UInt8), (112 : UInt8)] then true else false then true else false then true else false)) := by kernel_rfl
end Go.Proofs.YtkkojdcchnailaaGreatDoor
