/-
  Knight: the law of distances, run.
-/
import Derived.Test.YtdjbpmgbaggfbaaDoorKf8
import Derived.Test.YtdjbpmgbaggfbaaDoorKf4
import Derived.Test.YtdjbpmgbaggfbaaDoorKf3
set_option linter.unusedSimpArgs false
set_option linter.unusedVariables false

namespace Go.Proofs.Tryd.Dn
open Go.Dn

/-! distances, in plain terms -/
def colR (c s : Nat) : Nat := (s / c + s % c) % 2

end Go.Proofs.Tryd.Dn

/-
  Knight: the law of distances, run: the end.
-/

namespace Go.Proofs.Tryd.Dn
open Go.Dn

end Go.Proofs.Tryd.Dn

