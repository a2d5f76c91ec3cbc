/-
  The reference's search.
-/
import Derived.Test.YtegihfgibonhpaaPf
import Derived.Test.YtegihfgibonhpaaPe
set_option linter.unusedSimpArgs false
set_option linter.unusedVariables false

namespace Go.Proofs.Try.Dn
open Go.Dn

theorem Que.ix {pg : Pg} {R : Rec} {H : Heap} {t : TV} {l : List Int} (h : Que H t l) {i : Nat} {x : Int} (hx : l[i]? = some x) : ∃ p, dkc pg R (.ixS 1 false) [t, .i .i64 (i : Int)] H = some (p, H) ∧ dkc pg R (.ld 1 false) [p] H = some (.i .i64 x, H) := ixI h.view hx

end Go.Proofs.Try.Dn

/-
  PegSolves: the whole run answers true.
-/

namespace Go.Proofs.Try.Dn
open Go.Dn

def pegs (m : Nat) : Nat := (List.range 16).countP fun i => m.testBit i

theorem pegs_le (m : Nat) : pegs m ≤ 16 := Nat.le_trans List.countP_le_length (by simp)

end Go.Proofs.Try.Dn

