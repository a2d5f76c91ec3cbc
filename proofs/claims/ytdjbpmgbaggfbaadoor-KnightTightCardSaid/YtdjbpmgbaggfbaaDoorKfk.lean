/-
  Knight: tight sets on all boards: the program's.
-/
import Derived.Test.YtdjbpmgbaggfbaaDoorKff
set_option linter.unusedVariables false

namespace Go.Proofs.Tryd.Dn
open Go.Dn

def tightOk (r c : Nat) : Bool := match tightS r c with | some v => tightB r c v | none => true

theorem tight_ev : ((List.range 8).all fun r => (List.range 8).all fun c => if (r + 1) * (c + 1) ≤ 36 then tightOk (r + 1) (c + 1) else true) = true := by kernel_rfl

end Go.Proofs.Tryd.Dn

