/-
  The reference's search, walked: the two branches.
-/
import Derived.Test.YtijeefncmgjlpaaT9
import Derived.Test.YtijeefncmgjlpaaTB
set_option linter.unusedSimpArgs false
set_option linter.unusedVariables false

set_option maxHeartbeats 4000000
set_option maxRecDepth 100000
namespace Go.Proofs.Try.Dn
open Go.Dn

theorem die_lastN {a : List Int} (hD : DieL 60 a) : ∃ z, a[a.length - 1]? = some z ∧ a.getLastD 0 = z ∧ 0 ≤ z ∧ z ≤ 60 := by
  obtain ⟨z, h1, h2, h3, h4, _⟩ := die_last hD
  exact ⟨z, h1, h2, h3, h4⟩

end Go.Proofs.Try.Dn

