/-
  The reference's sums and results, walked.
-/
import Derived.Test.YtijeefncmgjlpaaT5
set_option linter.unusedSimpArgs false
set_option linter.unusedVariables false

set_option maxHeartbeats 1000000
namespace Go.Proofs.Try.Dn
open Go.Dn

theorem sumsN_len (ls : List (List Int)) (i : Nat) : (sumsN ls i).length ≤ i := by
  unfold sumsN
  exact Nat.le_trans (List.length_filterMap_le _ _) (by simp)

end Go.Proofs.Try.Dn

