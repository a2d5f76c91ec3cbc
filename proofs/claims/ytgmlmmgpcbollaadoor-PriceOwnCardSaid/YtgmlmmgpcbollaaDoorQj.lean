/-
  The program: whether a list is a ring of tastes; a ring of all.
-/
import Derived.Test.YtgmlmmgpcbollaaDoorQi
set_option linter.unusedSimpArgs false
set_option linter.unusedVariables false

namespace Go.Proofs.Tryd.Dn
open Go.Dn

end Go.Proofs.Tryd.Dn

/-
  The waste of a ring, by both.
-/

namespace Go.Proofs.Tryd.Dn
open Go.Dn

end Go.Proofs.Tryd.Dn

/-
  PriceBetter: the whole run answers true.
-/

namespace Go.Proofs.Tryd.Dn
open Go.Dn

end Go.Proofs.Tryd.Dn

