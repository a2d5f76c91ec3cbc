/-
  Knight: the reference's pairs.
-/
import Derived.Test.YtdjbpmgbaggfbaaDoorKfe
set_option linter.unusedSimpArgs false
set_option linter.unusedVariables false

namespace Go.Proofs.Tryd.Dn
open Go.Dn

/-! in plain terms -/
structure AIn (n : Nat) (W : List Int) (S : List Bool) : Prop where
  wl : W.length = n
  sl : S.length = n
  wb : ∀ b, b < n → W.getD b 0 < (n : Int)

theorem AIn.setS {n : Nat} {W : List Int} {S : List Bool} (h : AIn n W S) (b : Nat) : AIn n W (S.set b true) := ⟨h.wl, by simpa using h.sl, h.wb⟩

/-! in memory -/
end Go.Proofs.Tryd.Dn

/-
  Knight: the reference's number of pairs; whether it says that there is a tight set.
-/

namespace Go.Proofs.Tryd.Dn
open Go.Dn

/-! whether there is a tight set -/
end Go.Proofs.Tryd.Dn

