/-
  Plans: numbers at holes, and what a plan takes.
-/
import Derived.Test.YtegihfgibonhpaaPe
import Derived.Test.YtegihfgibonhpaaDd
import Derived.Test.YtegihfgibonhpaaPf
import Derived.Test.YtegihfgibonhpaaPc
set_option linter.unusedSimpArgs false
set_option linter.unusedVariables false

namespace Go.Proofs.Try.Dn
open Go.Dn

def elP : El (Int × Int) where
  sz := 2
  ag := true
  enc x := [.i .i64 x.1, .i .i64 x.2]
  pos := by decide
  len _ := rfl
  one _ := rfl
  sc := .inl rfl

section
variable {pg : Pg} {R : Rec}
end

end Go.Proofs.Try.Dn

/-
  Plans: the reference's test.
-/

namespace Go.Proofs.Try.Dn
open Go.Dn

end Go.Proofs.Try.Dn

/-
  Plans: IsPlan.
-/

namespace Go.Proofs.Try.Dn
open Go.Dn

end Go.Proofs.Try.Dn

/-
  Plans: IsPlan answers as the reference.
-/

namespace Go.Proofs.Try.Dn
open Go.Dn

end Go.Proofs.Try.Dn

/-
  Plans: jumps of a board are all different; a jump more in a plan.
-/

namespace Go.Proofs.Try.Dn
open Go.Dn

end Go.Proofs.Try.Dn

/-
  PegDrafts: the plan of a game.
-/

namespace Go.Proofs.Try.Dn
open Go.Dn

end Go.Proofs.Try.Dn

/-
  PegDrafts: the whole run.
-/

namespace Go.Proofs.Try.Dn
open Go.Dn

def Pairs (A : TV) (J : List (Int × Int)) : Prop := (∀ H, elP.View H A J) ∧ A.isAgg = false ∧ A.one = true

theorem Pairs.lt (b : Bool) (J : List (Int × Int)) : Pairs (elP.lt b J) J := by
  refine ⟨fun H => El.lt_view b J H, ?_, ?_⟩ <;> cases J <;> rfl
theorem Pairs.bs (b : Bool) (J : List (Int × Int)) : Pairs (.bs b 2 (J.map elP.val)) J := ⟨fun H => .inr (.inl ⟨b, rfl⟩), rfl, rfl⟩

end Go.Proofs.Try.Dn

/-
  Drafts, as arguments, by value.
-/

namespace Go.Proofs.Try.Dn
open Go.Dn Go.ChangeShapes Go.WideShapes Go.ChangeAt Go.RowKit

section
variable {H : Type} {enc : TypeId × Value → H} {w : World} {sp : Nat → Bool} {held : Bool}

end

end Go.Proofs.Try.Dn

