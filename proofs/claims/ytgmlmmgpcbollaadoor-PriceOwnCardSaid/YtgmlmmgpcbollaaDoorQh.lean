/-
  PriceWeak: the whole run answers true.
-/
import Derived.Test.YtgmlmmgpcbollaaDoorQg
set_option linter.unusedSimpArgs false
set_option linter.unusedVariables false

namespace Go.Proofs.Tryd.Dn
open Go.Dn

theorem all_small {X : List Obs} {g : Nat} (hm : Market X g) : 2 ^ X.length - 1 < 65536 := by
  have := (pow5 hm.n5).2; omega

end Go.Proofs.Tryd.Dn

