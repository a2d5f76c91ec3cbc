/-
  Dice: rows that are no dice: every function's answer; rows copied.
-/
import Derived.Test.YtijeefncmgjlpaaEb
import Derived.Test.YtijeefncmgjlpaaEm
import Derived.Test.YtijeefncmgjlpaaR6
set_option linter.unusedSimpArgs false
set_option linter.unusedVariables false

set_option maxHeartbeats 1000000
namespace Go.Proofs.Try.Dn
open Go.Dn

section
variable {pg : Pg} (hF : Free pg) {T : TV} {ls : List (List Int)} (hT : SSV T ls) (hl : ls.length ≤ 1000000) (hL : ∀ x ∈ ls, x.length ≤ 1000000) (h0 : chkD ls ≠ 0)
include hF hT hl hL h0

end

theorem SSV.cells' {T : TV} {ls : List (List Int)} (hT : SSV T ls) : T.cells = [T] := by
  rcases hT with ⟨rfl, _⟩ | ⟨b, es, rfl, _⟩ <;> rfl

end Go.Proofs.Try.Dn

