/- What is known of the package-level variables: by number, the value that their address stands for: here nothing. -/
import Derived.Test.YtfealfofcjgihaaGwA
namespace Go.Fw
def glob : Nat → Option V := fun _ => none
end Go.Fw
