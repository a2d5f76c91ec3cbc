/-
  The reference's rings and rank lists, where they are right.
-/
import Derived.Test.YtijeefncmgjlpaaT8
import Derived.Test.YtijeefncmgjlpaaEl
import Derived.Test.YtijeefncmgjlpaaEm
import Derived.Test.YtijeefncmgjlpaaT1
import Derived.Test.YtijeefncmgjlpaaK3
import Derived.Test.YtijeefncmgjlpaaEe
set_option linter.unusedSimpArgs false
set_option linter.unusedVariables false

set_option maxHeartbeats 4000000
set_option maxRecDepth 100000
namespace Go.Proofs.Try.Dn
open Go.Dn

/-! rows of truth values in memory -/
theorem ixIn {pg : Pg} {l : List Int} {i : Nat} {x : Int} (hx : l[i]? = some x) (H : Heap) : ∃ p, dkc pg (den pg) (.ixS 1 false) [elI.lt true l, .i .i64 (i : Int)] H = some (p, H) ∧ dkc pg (den pg) (.ld 1 false) [p] H = some (.i .i64 x, H) :=
  ixI (pg := pg) (R := den pg) (ltV elI true H l) hx

def ed (ls : List (List Int)) (x y : Int) : Bool := bt (ls.getD x.toNat []) (ls.getD y.toNat [])

end Go.Proofs.Try.Dn

/-
  Which leads to which (plain): a ring leads back, a rank list does not.
-/

set_option maxHeartbeats 1000000
namespace Go.Proofs.Try.Dn
open Go.Dn

def wU (n k i j : Nat) (G : Nat → Bool) : Nat → Bool := fun u => if u = i * n + j then G (i * n + j) || (G (i * n + k) && G (k * n + j)) else G u
def wJ (n k i : Nat) : Nat → Nat → (Nat → Bool) → (Nat → Bool)
  | 0, _, G => G
  | r + 1, j, G => wJ n k i r (j + 1) (wU n k i j G)
def wI (n k : Nat) : Nat → Nat → (Nat → Bool) → (Nat → Bool)
  | 0, _, G => G
  | r + 1, i, G => wI n k r (i + 1) (wJ n k i n 0 G)
/-! more and more leads -/
end Go.Proofs.Try.Dn

