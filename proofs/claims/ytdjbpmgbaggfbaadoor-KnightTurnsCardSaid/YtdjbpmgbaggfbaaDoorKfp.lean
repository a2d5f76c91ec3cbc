/-
  Knight: tight sets on the boards, by the reference: all boards.
-/
import Derived.Test.YtdjbpmgbaggfbaaDoorKfj
import Derived.Test.YtdjbpmgbaggfbaaDoorKfe
import Derived.Test.YtdjbpmgbaggfbaaDoorKe
import Derived.Test.YtdjbpmgbaggfbaaDoorKfi
set_option linter.unusedSimpArgs false
set_option linter.unusedVariables false

namespace Go.Proofs.Tryd.Dn
open Go.Dn

def noTight : List (Nat × Nat) := [(1, 2), (2, 1), (3, 8), (5, 6), (6, 5), (6, 6), (8, 3)]
def boards : List (Nat × Nat) := (List.range 8).flatMap fun r => (List.range 8).filterMap fun c => if (r + 1) * (c + 1) ≤ 36 then some (r + 1, c + 1) else none
theorem tight_some : (boards.all fun p => (tightS p.1 p.2).isSome == !(noTight.contains p)) = true := by kernel_rfl
end Go.Proofs.Tryd.Dn

/-
  Knight: the law of tight sets, run.
-/

namespace Go.Proofs.Tryd.Dn
open Go.Dn

end Go.Proofs.Tryd.Dn

