/-
  PriceKonues: the whole run answers true.
-/
import Derived.Test.YtgmlmmgpcbollaaDoorQj
set_option linter.unusedSimpArgs false
set_option linter.unusedVariables false

namespace Go.Proofs.Tryd.Dn
open Go.Dn

theorem pref_le (X : List Obs) (i k : Nat) : 0 < pref X 1 1 i k ↔ costOf X i k ≤ costOf X i i := by
  unfold pref
  rw [Int.one_mul, Int.one_mul]
  split
  · omega
  · split
    · omega
    · omega

end Go.Proofs.Tryd.Dn

