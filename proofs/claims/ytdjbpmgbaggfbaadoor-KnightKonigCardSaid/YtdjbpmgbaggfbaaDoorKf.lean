/-
  Knight: the law of walks.
-/
import Derived.Test.YtdjbpmgbaggfbaaDoorKe
set_option linter.unusedSimpArgs false
set_option linter.unusedVariables false

namespace Go.Proofs.Tryd.Dn
open Go.Dn

end Go.Proofs.Tryd.Dn

