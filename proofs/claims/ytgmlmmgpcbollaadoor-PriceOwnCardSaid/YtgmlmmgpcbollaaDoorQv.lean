/-
  Whether integers are numbers of a taste: both.
-/
import Derived.Test.YtgmlmmgpcbollaaDoorQu
set_option linter.unusedSimpArgs false
set_option linter.unusedVariables false

namespace Go.Proofs.Tryd.Dn
open Go.Dn

def minL (l : List Int) (m : Int) : Int := l.foldl (fun m x => min m x) m
/-! numbers of a taste -/

end Go.Proofs.Tryd.Dn

/-
  Whether integers are numbers of a taste: the reference's.
-/

namespace Go.Proofs.Tryd.Dn
open Go.Dn

end Go.Proofs.Tryd.Dn

