/- What is known of the package-level variables of this seat: by number, the value that their address stands for: tables of Go's library, as the given rows list them; the two errors of strconv (3, 4): they are not nil. -/
import Derived.Test.YtpeekgekmjldlaaDoorGwA
namespace Go.Fw
def tabRow (k : IntKind) : List Int → V
  | [] => .nil
  | n :: l => .cons (.int true k n) (tabRow k l)
def tab0 : List Int := [0, 1, 28, 2, 29, 14, 24, 3, 30, 22, 20, 15, 25, 17, 4, 8, 31, 27, 13, 23, 21, 19, 16, 7, 26, 12, 18, 6, 11, 5, 10, 9]
def tab1 : List Int := [1, 10, 100, 1000, 10000, 100000, 1000000, 10000000, 100000000, 1000000000, 10000000000, 100000000000, 1000000000000, 10000000000000, 100000000000000, 1000000000000000, 10000000000000000, 100000000000000000, 1000000000000000000, 10000000000000000000]
def tab7 : List Int := [0, 1, 56, 2, 57, 49, 28, 3, 61, 58, 42, 50, 38, 29, 17, 4, 62, 47, 59, 36, 45, 43, 51, 22, 53, 39, 33, 30, 24, 18, 12, 5, 63, 55, 48, 27, 60, 41, 37, 16, 46, 35, 44, 21, 52, 32, 23, 11, 54, 26, 40, 15, 34, 20, 31, 10, 25, 14, 19, 9, 13, 8, 7, 6]
def glob : Nat → Option V
  | 0 => some (.rptr true 32 1 (fun _ => tabRow .u8 tab0) 0 0)
  | 1 => some (.rptr true 20 1 (fun _ => tabRow .u64 tab1) 0 0)
  | 3 => some (.rptr true 1 1 (fun _ => .cons (.ifc true false) .nil) 0 0)
  | 4 => some (.rptr true 1 1 (fun _ => .cons (.ifc true false) .nil) 0 0)
  | 7 => some (.rptr true 64 1 (fun _ => tabRow .u8 tab7) 0 0)
  | _ => none
end Go.Fw
