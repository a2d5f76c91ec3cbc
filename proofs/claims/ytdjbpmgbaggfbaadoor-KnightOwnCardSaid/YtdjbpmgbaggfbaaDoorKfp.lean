/-
  Knight: tight sets on the boards, by the reference: all boards.
-/
import Derived.Test.YtdjbpmgbaggfbaaDoorKff
import Derived.Test.YtdjbpmgbaggfbaaDoorKe
import Derived.Test.YtdjbpmgbaggfbaaDoorKfi
set_option linter.unusedSimpArgs false
set_option linter.unusedVariables false

namespace Go.Proofs.Tryd.Dn
open Go.Dn

def boards : List (Nat × Nat) := (List.range 8).flatMap fun r => (List.range 8).filterMap fun c => if (r + 1) * (c + 1) ≤ 36 then some (r + 1, c + 1) else none
end Go.Proofs.Tryd.Dn

/-
  Knight: the law of tight sets, run.
-/

namespace Go.Proofs.Tryd.Dn
open Go.Dn

end Go.Proofs.Tryd.Dn

