/-
  Knight: the number of walks, in the program.
-/
import Derived.Test.YtdjbpmgbaggfbaaDoorKb
import Derived.Test.YtdjbpmgbaggfbaaDoorKc
set_option linter.unusedSimpArgs false
set_option linter.unusedVariables false

namespace Go.Proofs.Tryd.Dn
open Go.Dn

def psum (c : Nat) (f : Nat → Nat) (t : Nat) : Nat → Nat
  | 0 => 0
  | s + 1 => psum c f t s + if near c s t then f s else 0

def wStep (r c : Nat) (f : Nat → Nat) : Nat → Nat := fun t => if t < r * c then psum c f t (r * c) else 0
def walks (r c a : Nat) : Nat → Nat → Nat
  | 0 => fun t => if t = a then 1 else 0
  | k + 1 => wStep r c (walks r c a k)

section
variable {pg : Pg} {R : Rec}
end

theorem mem64_nodup (x : Nat) : (mem64 x).Nodup := List.Nodup.sublist List.filter_sublist List.nodup_range

def nxt (c : Nat) (f : Nat → Nat) (s m : Nat) (l : List Nat) : Nat → Nat := fun t => psum c f t s + if m.testBit t && !l.contains t then f s else 0

end Go.Proofs.Tryd.Dn

/-
  Knight: the number of walks, in the program; Walks.
-/

namespace Go.Proofs.Tryd.Dn
open Go.Dn

theorem inB {n v : Nat} (h : v < n) : outB (n : Int) (v : Int) = false := by
  unfold outB
  rw [decide_eq_false (by omega), decide_eq_false (by omega)]
  rfl

end Go.Proofs.Tryd.Dn

