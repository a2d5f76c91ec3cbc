/-
  What the search for a ring holds in memory.
-/
import Derived.Test.YtijeefncmgjlpaaU7
import Derived.Test.YtijeefncmgjlpaaT1
import Derived.Test.YtijeefncmgjlpaaEl
import Derived.Test.YtijeefncmgjlpaaK3
set_option linter.unusedSimpArgs false
set_option linter.unusedVariables false

set_option maxHeartbeats 2000000
namespace Go.Proofs.Try.Dn
open Go.Dn

def ci (l : List Nat) : List Int := l.map fun (x : Nat) => (x : Int)

end Go.Proofs.Try.Dn

