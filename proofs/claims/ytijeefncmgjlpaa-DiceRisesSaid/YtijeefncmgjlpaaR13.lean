/-
  Dice: the law Once run.
-/
import Derived.Test.YtijeefncmgjlpaaUG
import Derived.Test.YtijeefncmgjlpaaEb
set_option linter.unusedSimpArgs false
set_option linter.unusedVariables false

set_option maxHeartbeats 4000000
set_option maxRecDepth 100000
namespace Go.Proofs.Try.Dn
open Go.Dn

theorem call33 {pg : Pg} (hF : Free pg) {A B : TV} {a b : List Int} (hA : SV A a) (hB : SV B b) (ha : a.length ≤ 100) (hb : b.length ≤ 100) (h0 : chkD [a, b] = 0) (H : Heap) : callRun pg (den pg) (.pu []) [.fn 33 [] [], A, B] H = some (.tup [.i .i64 (more a b : Int), .i .i64 (less a b : Int), .i .i64 (same a b : Int), .i .i64 0], H) := by
  obtain ⟨A', s1, hA'⟩ := hA.snap H 7
  obtain ⟨B', s2, hB'⟩ := hB.snap H 7
  have := fn33 (pg := pg) hF hA' hB' ha hb
  rw [if_pos h0] at this
  exact PFn.call this (args := [A, B]) (ks := []) (fs := []) (cs := []) (by simp [snapArgs, s1, s2])

end Go.Proofs.Try.Dn

