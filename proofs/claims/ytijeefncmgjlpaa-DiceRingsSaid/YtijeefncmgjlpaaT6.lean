/-
  The reference's sums and results, walked.
-/
import Derived.Test.YtijeefncmgjlpaaT3
set_option linter.unusedSimpArgs false
set_option linter.unusedVariables false

set_option maxHeartbeats 1000000
namespace Go.Proofs.Try.Dn
open Go.Dn

theorem gL_len (G : Nat → Nat) (M : Nat) : (gL G M).length = M := by simp [gL]

end Go.Proofs.Try.Dn

