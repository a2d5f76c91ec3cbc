/-
  The reference's put: a pair at its place in a list.
-/
import Derived.Test.YtijeefncmgjlpaaT8
set_option linter.unusedSimpArgs false
set_option linter.unusedVariables false

set_option maxHeartbeats 4000000
set_option maxRecDepth 100000
namespace Go.Proofs.Try.Dn
open Go.Dn

def Szs (n m : Nat) (X : List PL) : Prop := ∀ p ∈ X, p.1.length = n ∧ p.2.length = m

end Go.Proofs.Try.Dn

/-
  The reference's put, whole.
-/

set_option maxHeartbeats 4000000
set_option maxRecDepth 100000
namespace Go.Proofs.Try.Dn
open Go.Dn

end Go.Proofs.Try.Dn

