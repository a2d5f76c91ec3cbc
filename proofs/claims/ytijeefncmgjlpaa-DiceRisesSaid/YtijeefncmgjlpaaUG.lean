/-
  Dice: Ring (35) and Rank (36).
-/
import Derived.Test.YtijeefncmgjlpaaU9
import Derived.Test.YtijeefncmgjlpaaR6
import Derived.Test.YtijeefncmgjlpaaU1
set_option linter.unusedSimpArgs false
set_option linter.unusedVariables false

set_option maxHeartbeats 4000000
set_option maxRecDepth 100000
namespace Go.Proofs.Try.Dn
open Go.Dn

theorem cGL (x y : Int) (a b : List Int) : (a.map fun x => cGt x b).sum = (b.map fun y => cLt y a).sum := by
  have hL : ∀ (y : Int) (a : List Int), cLt y a = (a.map fun x => if y < x then 1 else 0).sum := by
    intro y a
    induction a with
    | nil => rfl
    | cons z a ih => have := (cnt_cons y z a).2.1; rw [this, ih, List.map_cons, List.sum_cons]; omega
  induction b with
  | nil =>
    induction a with
    | nil => rfl
    | cons z a ih => rw [List.map_cons, List.sum_cons, ih]; rfl
  | cons w b ih =>
    rw [List.map_cons, List.sum_cons, ← ih, hL]
    clear ih
    induction a with
    | nil => rfl
    | cons z a ih =>
      have h1 := (cnt_cons z w b).1
      rw [List.map_cons, List.sum_cons, ih, List.map_cons, List.sum_cons, List.map_cons, List.sum_cons, h1]
      omega

theorem more_less (a b : List Int) : more a b = less b a := cGL 0 0 a b
def eN (ls : List (List Int)) (i j : Nat) : Bool := ed ls (i : Int) (j : Int)

end Go.Proofs.Try.Dn

