/- What is known of the package-level variables of this seat: by number, the value that their address stands for: tables, as the given rows list them. -/
import Derived.Test.YtkkojdcchnailaaGreatDoorGwA
namespace Go.Fw
def tabRow (k : IntKind) : List Int → V
  | [] => .nil
  | n :: l => .cons (.int true k n) (tabRow k l)
def strRow : List (List UInt8) → V
  | [] => .nil
  | s :: l => .cons (.str true s) (strRow l)
def tab0 : List (List UInt8) := [[], [119, 101, 105, 103, 104, 116], [99, 97, 112], [112, 111, 111, 108], [114, 101, 109, 97, 115, 107], [102, 111, 114, 109], [112, 97, 114, 116], [108, 101, 97, 118, 101], [115, 112, 108, 105, 116], [106, 111, 105, 110], [109, 111, 118, 101]]
def tab2 : List Int := [0, 1, 28, 2, 29, 14, 24, 3, 30, 22, 20, 15, 25, 17, 4, 8, 31, 27, 13, 23, 21, 19, 16, 7, 26, 12, 18, 6, 11, 5, 10, 9]
def glob : Nat → Option V
  | 0 => some (.rptr true 11 1 (fun _ => strRow tab0) 0 0)
  | 2 => some (.rptr true 32 1 (fun _ => tabRow .u8 tab2) 0 0)
  | _ => none
end Go.Fw
