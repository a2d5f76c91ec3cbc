/-
  Knight: quiet knights and pairs on all boards, evaluated.
-/
import Derived.Test.YtdjbpmgbaggfbaaDoorKfg
set_option linter.unusedVariables false

namespace Go.Proofs.Tryd.Dn
open Go.Dn

end Go.Proofs.Tryd.Dn

