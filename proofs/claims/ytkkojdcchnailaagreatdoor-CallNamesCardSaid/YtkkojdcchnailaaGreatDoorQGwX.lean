/- What is known of the package-level variables of this seat: by number, the value that their address stands for: tables, as the given rows list them. -/
import Derived.Test.YtkkojdcchnailaaGreatDoorQGwA
namespace Go.Fw
def tabRow (k : IntKind) : List Int → V
  | [] => .nil
  | n :: l => .cons (.int true k n) (tabRow k l)
def strRow : List (List UInt8) → V
  | [] => .nil
  | s :: l => .cons (.str true s) (strRow l)
def tab1 : List (List UInt8) := [[99, 114, 101, 97, 116, 101], [100, 101, 115, 116, 114, 111, 121], [97, 100, 100], [100, 114, 111, 112], [117, 112], [100, 111, 119, 110], [112, 97, 117, 115, 101], [117, 110, 112, 97, 117, 115, 101], [98, 108, 111, 99, 107], [112, 111, 108, 108], [121, 105, 101, 108, 100], [111, 112, 101, 110], [108, 105, 110, 107], [99, 108, 111, 115, 101], [115, 101, 110, 100], [109, 97, 115, 107], [99, 108, 101, 97, 114], [98, 105, 110, 100], [115, 116, 97, 114, 116], [115, 116, 111, 112]]
def tab2 : List Int := [0, 1, 28, 2, 29, 14, 24, 3, 30, 22, 20, 15, 25, 17, 4, 8, 31, 27, 13, 23, 21, 19, 16, 7, 26, 12, 18, 6, 11, 5, 10, 9]
def glob : Nat → Option V
  | 1 => some (.rptr true 20 1 (fun _ => strRow tab1) 0 0)
  | 2 => some (.rptr true 32 1 (fun _ => tabRow .u8 tab2) 0 0)
  | _ => none
end Go.Fw
