/-
  Knight: the number of walks, in the reference; boards of any numbers.
-/
import Derived.Test.YtdjbpmgbaggfbaaDoorKd
set_option linter.unusedSimpArgs false
set_option linter.unusedVariables false

namespace Go.Proofs.Tryd.Dn
open Go.Dn

def wl (f : Nat → Nat) (n : Nat) : List Int := (List.range n).map fun t => (f t : Int)
end Go.Proofs.Tryd.Dn

/-
  Knight: the reference's Walks; boards of any numbers.
-/

namespace Go.Proofs.Tryd.Dn
open Go.Dn

theorem rc_facts {r c : Nat} (h : Brd r c) : ((r * c : Nat) : Int) = (r : Int) * c ∧ wrapR .i64 ((r : Int) * (c : Int)) = .i .i64 ((r : Int) * (c : Int)) := by
  have hn := h.n36
  have hcast : ((r * c : Nat) : Int) = (r : Int) * c := by simp
  exact ⟨hcast, wrapR_i64 (by rw [← hcast]; omega)⟩

end Go.Proofs.Tryd.Dn

