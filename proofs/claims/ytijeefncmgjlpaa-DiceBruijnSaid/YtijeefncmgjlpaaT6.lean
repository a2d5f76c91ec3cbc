/-
  The reference's sums and results, walked.
-/
import Derived.Test.YtijeefncmgjlpaaT5
set_option linter.unusedSimpArgs false
set_option linter.unusedVariables false

set_option maxHeartbeats 1000000
namespace Go.Proofs.Try.Dn
open Go.Dn

theorem sumsN_step (ls : List (List Int)) (i : Nat) : sumsN ls (i + 1) = sumsN ls i ++ (if wn ls (i : Int) = 0 then [] else [((i : Int), ((wn ls (i : Int) : Nat) : Int))]) := by
  unfold sumsN
  rw [List.range_succ, List.filterMap_append]
  congr 1
  split <;> simp [*]

end Go.Proofs.Try.Dn

