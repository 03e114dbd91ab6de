/- Cpuset: a set's text. -/
import Derived.Test.YtpeekgekmjldlaaDoorSj
import Derived.Test.YtpeekgekmjldlaaDoorGwQ
namespace Go.Proofs.YtpeekgekmjldlaaDoor
open Go.Fw
set_option maxRecDepth 100000
set_option linter.unusedVariables false
/-- How many ones a number ends with. -/
def onesN : Nat → Nat → Nat
  | 0, _ => 0
  | k + 1, c => bif Nat.beq (c % 2) 1 then onesN k (c / 2) + 1 else 0
def digB (n : Nat) : UInt8 := UInt8.ofNat (48 + n)
/-- The rows of a set's text. -/
def rowsT : Nat → Nat → Nat → List (List UInt8)
  | 0, _, _ => []
  | k + 1, i, c => bif Nat.beq c 0 then [] else bif Nat.beq (c % 2) 0 then rowsT k (i + 1) (c / 2) else
    (bif Nat.beq (onesN 9 c) 1 then [digB i] else [digB i, 45, digB (i + onesN 9 c - 1)]) :: rowsT k (i + onesN 9 c) (c / 2 ^ onesN 9 c)
/-- A set's text. -/
def txt (c : Nat) : List UInt8 := bif Nat.beq c 0 then [110, 111, 110, 101] else joinB [44] (rowsT 9 0 c)
noncomputable def litA (c : Nat) : V := .cons (.int true .u32 (Int.ofNat c)) .nil
noncomputable def enX (l : List Con) : Env := envL P l [] true
theorem enX_ok {l : List Con} (h : AllOk P l) : (enX l).Ok := env_ok hm hn h (ls := []) trivial _
end Go.Proofs.YtpeekgekmjldlaaDoor
