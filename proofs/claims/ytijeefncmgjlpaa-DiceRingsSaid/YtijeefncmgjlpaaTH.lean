/-
  Chains: the program's and the reference's.
-/
import Derived.Test.YtijeefncmgjlpaaTG
set_option linter.unusedSimpArgs false
set_option linter.unusedVariables false

set_option maxHeartbeats 4000000
set_option maxRecDepth 100000
namespace Go.Proofs.Try.Dn
open Go.Dn

theorem b_remN {a x : Nat} (hx : 1 ≤ x) : binI .rem (.i .i64 (a : Int)) (.i .i64 (x : Int)) = some (.i .i64 ((a % x : Nat) : Int)) := by
  rw [b_rem, if_neg (by omega), tmod_nat]

/-! the program's own -/
end Go.Proofs.Try.Dn

