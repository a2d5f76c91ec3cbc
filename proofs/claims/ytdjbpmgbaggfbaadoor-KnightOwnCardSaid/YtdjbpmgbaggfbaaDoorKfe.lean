/-
  Knight: quiet sets and tight sets: the looks of the program and of the reference.
-/
import Derived.Test.YtdjbpmgbaggfbaaDoorKfc
import Derived.Test.YtdjbpmgbaggfbaaDoorKfa
set_option linter.unusedSimpArgs false
set_option linter.unusedVariables false

namespace Go.Proofs.Tryd.Dn
open Go.Dn

def quietB (r c x : Nat) : Bool := decide (around r c x &&& x = 0)

/-! the number of squares of a set -/
/-! the squares of a colour, in the reference -/
/-! the squares around a set, in the reference -/
theorem lt63 {r c : Nat} (h : Brd r c) : 2 ^ (r * c) ≤ 137438953472 := by
  have hn := h.n36
  have := Nat.pow_le_pow_right (n := 2) (by decide) (show r * c ≤ 37 by omega)
  omega

end Go.Proofs.Tryd.Dn

/-
  Knight: tight sets, looked at by the program and by the reference.
-/

namespace Go.Proofs.Tryd.Dn
open Go.Dn

end Go.Proofs.Tryd.Dn

