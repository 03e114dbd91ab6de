/- What is known of the package-level variables of this seat: by number, the value that their address stands for: nothing yet. -/
import Derived.Test.YtnjjailadijdlaaGreatDoorGwA
namespace Go.Fw
def glob : Nat → Option V
  | _ => none
end Go.Fw
