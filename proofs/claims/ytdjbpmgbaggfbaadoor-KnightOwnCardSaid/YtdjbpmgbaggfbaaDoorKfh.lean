/-
  Knight: quiet knights and pairs on all boards, evaluated.
-/
import Derived.Test.YtdjbpmgbaggfbaaDoorKfg
set_option linter.unusedVariables false

namespace Go.Proofs.Tryd.Dn
open Go.Dn

theorem quiet_ev : ((List.range 8).all fun r => (List.range 8).all fun c => if (r + 1) * (c + 1) ≤ 36 then quietOk (r + 1) (c + 1) else true) = true := by kernel_rfl

end Go.Proofs.Tryd.Dn

