/-
  Dice: lists that are not both dice: the law run.
-/
import Derived.Test.YtijeefncmgjlpaaK1
import Derived.Test.YtijeefncmgjlpaaEm
import Derived.Test.YtijeefncmgjlpaaR6
set_option linter.unusedSimpArgs false
set_option linter.unusedVariables false

set_option maxHeartbeats 4000000
set_option maxRecDepth 100000
namespace Go.Proofs.Try.Dn
open Go.Dn

theorem call31 {pg : Pg} (hF : Free pg) {A : TV} {l : List Int} (hA : SV A l) (hl : l.length <= 9223372036854775807) (H : Heap) : callRun pg (den pg) (.pu []) [.fn 31 [] [], A] H = some (elI.lt false (l.take 9), H) := by
 obtain ⟨A', s1, hA'⟩ := hA.snap H 7
 exact PFn.call (fn31 hF hA' hl) (args := [A]) (ks := []) (fs := []) (cs := []) (by simp [snapArgs, s1])

end Go.Proofs.Try.Dn

