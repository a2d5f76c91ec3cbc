/-
  The reference's order of pairs, and pairs compared: functions of values.
-/
import Derived.Test.YtijeefncmgjlpaaT1
import Derived.Test.YtijeefncmgjlpaaEl
import Derived.Test.YtijeefncmgjlpaaK3
import Derived.Test.YtijeefncmgjlpaaR6
set_option linter.unusedSimpArgs false
set_option linter.unusedVariables false

set_option maxHeartbeats 2000000
namespace Go.Proofs.Try.Dn
open Go.Dn

theorem lnB {α : Type} (E : El α) (b : Bool) (l : List α) (K : Heap) : (lenK 0 (E.lt b l) K).map (fun (n : Nat) => TV.i .i64 (n : Int)) = some (.i .i64 (l.length : Int)) := by
  rw [(ltV E b K l).lenK]; rfl

/-! the law's own functions -/
end Go.Proofs.Try.Dn

