/-
  Lists of int64 compared.
-/
import Derived.Test.YtijeefncmgjlpaaEa
import Derived.Test.YtijeefncmgjlpaaEl
import Derived.Test.YtijeefncmgjlpaaEc
import Derived.Test.YtijeefncmgjlpaaEj
set_option linter.unusedSimpArgs false
set_option linter.unusedVariables false

namespace Go.Proofs.Try.Dn
open Go.Dn

end Go.Proofs.Try.Dn

/-
  The sums of dice: rows of a sum and its ways, sorted.
-/

set_option maxHeartbeats 1000000
namespace Go.Proofs.Try.Dn
open Go.Dn

def elQ : El (Int × Int) where
  sz := 2
  ag := true
  enc p := [.i .i64 p.1, .i .i64 p.2]
  pos := by decide
  len _ := rfl
  one _ := rfl
  sc := .inl rfl

def hQ (K : Heap) (l : List (Int × Int)) : Heap := if l = [] then K else K ++ List.replicate (l.length - 1) .dead ++ [.cells (elQ.flat l) false]

end Go.Proofs.Try.Dn

