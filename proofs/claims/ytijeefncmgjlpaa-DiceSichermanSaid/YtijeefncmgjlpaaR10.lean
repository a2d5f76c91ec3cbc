/-
  Dice: sums: the law run.
-/
import Derived.Test.YtijeefncmgjlpaaT6
import Derived.Test.YtijeefncmgjlpaaR6
import Derived.Test.YtijeefncmgjlpaaEa
set_option linter.unusedSimpArgs false
set_option linter.unusedVariables false

set_option maxHeartbeats 4000000
set_option maxRecDepth 100000
namespace Go.Proofs.Try.Dn
open Go.Dn

theorem eqA2 {pg : Pg} (a b : Int) (H : Heap) : dkc pg (den pg) (.eqA true [true, true]) [.agg [.i .i64 a, .i .i64 b], .agg [.i .i64 a, .i .i64 b]] H = some (.b false, H) := by
  rw [gX11]
  simp [eqL, eqS, up, negb]

end Go.Proofs.Try.Dn

