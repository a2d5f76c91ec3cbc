/-
  Knight: ways, in plain terms and in the program; the reference's looks at them.
-/
import Derived.Test.YtdjbpmgbaggfbaaDoorKf6
import Derived.Test.YtdjbpmgbaggfbaaDoorKf4
import Derived.Test.YtdjbpmgbaggfbaaDoorKf3
import Derived.Test.YtdjbpmgbaggfbaaDoorDd
import Derived.Test.YtdjbpmgbaggfbaaDoorKe
set_option linter.unusedSimpArgs false
set_option linter.unusedVariables false

namespace Go.Proofs.Tryd.Dn
open Go.Dn

/-! the reference's least numbers of steps -/
/-! two lists compared -/
/-! whether a list is a way -/
def wayAt (r c : Nat) (l : List Int) (i : Nat) : Bool := decide (0 ≤ l.getD i 0) && decide (l.getD i 0 < ((r * c : Nat) : Int)) && (i == 0 || near c (l.getD (i - 1) 0).toNat (l.getD i 0).toNat)

/-! the program's way -/
end Go.Proofs.Tryd.Dn

/-
  Knight: the law of moves, run.
-/

namespace Go.Proofs.Tryd.Dn
open Go.Dn

theorem none_at {r c a b N : Nat} (h : Brd r c) (ha : a < r * c) (hb : b < r * c) (hz : front r c a N = 0) (hno : ∀ k, k < N → (front r c a k).testBit b = false) (m : Nat) : (front r c a m).testBit b = false := by
  cases hm : (front r c a m).testBit b with
  | false => rfl
  | true =>
    have h1 := front_walks h ha m b hb hm
    have h2 := no_steps h ha hb hz hno m
    omega

theorem PFn.at {pg : Pg} {f : Nat} {xs : List TV} {r : TV} (h : PFn pg f xs r) (hs : ∀ H, snapArgs H [] xs = some xs) (H : Heap) : callRun pg (den pg) (.pu []) (.fn f [] [] :: xs) H = some (r, H) :=
  PFn.call h (args := xs) (ks := []) (fs := []) (cs := []) (H := H) (by rw [List.nil_append, List.append_nil]; exact hs H)

theorem sa_I {H : Heap} {k : IntKind} {n : Int} {l : List TV} (h : snapArgs H [] l = some l) : snapArgs H [] (.i k n :: l) = some (.i k n :: l) := by
  simp [snapArgs, sn_i, h]
theorem sa_0 {H : Heap} : snapArgs H [] [] = some [] := rfl

end Go.Proofs.Tryd.Dn

