/-
  Dice: which die beats which: the law run.
-/
import Derived.Test.YtijeefncmgjlpaaEb
set_option linter.unusedSimpArgs false
set_option linter.unusedVariables false

namespace Go.Proofs.Try.Dn
open Go.Dn

theorem ltV {α : Type} (E : El α) (b : Bool) (H : Heap) (l : List α) : E.View H (E.lt b l) l := by
  cases l with
  | nil => exact .inl ⟨rfl, rfl⟩
  | cons x l => exact .inr (.inl ⟨b, rfl⟩)

end Go.Proofs.Try.Dn

