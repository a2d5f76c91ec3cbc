/-
  The arguments of the statements about dice, by value.
-/
import Derived.Test.YtijeefncmgjlpaaRows
import Derived.Test.YtijeefncmgjlpaaEo
import Derived.Test.YtijeefncmgjlpaaEp
import Derived.Test.YtijeefncmgjlpaaDc
import Derived.WalkKit
set_option linter.unusedVariables false

namespace Go.Proofs.Try.Dn
open Go.Dn Go.ChangeShapes Go.WideShapes Go.ChangeAt Go.RowKit

theorem mixed : Try.prog.follows .mixedOrders = true := by kernel_rfl
theorem laid : laidOutB Try.prog = true := by kernel_rfl

theorem sum0 : SumOk Try.prog pg0 0 := by
  refine ⟨fun f k h => ?_, fun f ags r h => by cases h⟩
  have h : (if f = 81 ∨ f = 96 then some 2 else none) = some k := h
  split at h
  · rename_i hf
    obtain rfl := Option.some.inj h
    rcases hf with rfl | rfl
    · exact Try.sort81
    · exact Try.sort96
  · cases h

theorem good0 : CodeOk Try.prog pg0 0 (den pg0) := den_sound mixed (Tab.fns tab_ok) sum0

section
variable {H : Type} {enc : TypeId × Value → H} {w : World} {sp : Nat → Bool} {held : Bool}

theorem reads3 : Reads enc Try.prog w sp held 3 fun ts => ∃ n, ts = [.i .i64 n] ∧ okI .i64 n := reads_int Try.underlying3
end

theorem sizes {n : Nat} (h : n ≤ maxLen) : n ≤ 9223372036854775807 := by unfold maxLen at h; omega
theorem in64 {n : Int} (h : okI .i64 n) : -9223372036854775808 ≤ n ∧ n ≤ 9223372036854775807 := by simpa [okI, Lit.wf, IntKind.min, IntKind.max, IntKind.signed, IntKind.bits] using h

end Go.Proofs.Try.Dn

