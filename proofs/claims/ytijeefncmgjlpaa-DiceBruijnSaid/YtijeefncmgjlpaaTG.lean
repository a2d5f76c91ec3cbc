/-
  The reference's even dice.
-/
import Derived.Test.YtijeefncmgjlpaaTF
set_option linter.unusedSimpArgs false
set_option linter.unusedVariables false

set_option maxHeartbeats 4000000
set_option maxRecDepth 100000
namespace Go.Proofs.Try.Dn
open Go.Dn

theorem even_short {n m : Nat} (hn : 1 ≤ n ∧ n ≤ 8) (hm : 1 ≤ m ∧ m ≤ 8) : Short (evenL n m) ∧ (evenL n m).length ≤ 1000000 := canP_short hn.2 hm.2 hn.1 hm.1

end Go.Proofs.Try.Dn

