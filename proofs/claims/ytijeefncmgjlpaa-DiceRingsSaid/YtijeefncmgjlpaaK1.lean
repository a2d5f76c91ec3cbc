/-
  The reference's own check of dice; a die copied.
-/
import Derived.Test.YtijeefncmgjlpaaEb
set_option linter.unusedSimpArgs false
set_option linter.unusedVariables false

set_option maxHeartbeats 1000000
namespace Go.Proofs.Try.Dn
open Go.Dn

end Go.Proofs.Try.Dn

/-
  The reference's own check of rows of dice; a die copied.
-/

set_option maxHeartbeats 1000000
namespace Go.Proofs.Try.Dn
open Go.Dn

theorem lnS {T : TV} {ls : List (List Int)} (hT : SSV T ls) (K : Heap) : (lenK 0 T K).map (fun (n : Nat) => TV.i .i64 (n : Int)) = some (.i .i64 (ls.length : Int)) := by rw [hT.len K]; rfl

end Go.Proofs.Try.Dn

