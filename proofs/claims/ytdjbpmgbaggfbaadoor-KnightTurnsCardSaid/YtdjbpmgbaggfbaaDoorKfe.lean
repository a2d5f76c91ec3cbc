/-
  Knight: quiet sets and tight sets: the looks of the program and of the reference.
-/
import Derived.Test.YtdjbpmgbaggfbaaDoorKfd
import Derived.Test.YtdjbpmgbaggfbaaDoorKfa
set_option linter.unusedSimpArgs false
set_option linter.unusedVariables false

namespace Go.Proofs.Tryd.Dn
open Go.Dn

/-! the number of squares of a set -/
/-! the squares of a colour, in the reference -/
/-! the squares around a set, in the reference -/
end Go.Proofs.Tryd.Dn

/-
  Knight: tight sets, looked at by the program and by the reference.
-/

namespace Go.Proofs.Tryd.Dn
open Go.Dn

theorem Bv.call60 {pg : Pg} (hF : Free pg) {r c : Nat} {H : Heap} {BV : TV} (hb : Bv r c H BV) (h : Brd r c) : callRun pg (den pg) (.pu []) [.fn 60 [] [], BV] H = some (tightV (tightS r c), H) := by
  unfold Bv at hb
  exact PFn.call (fn60 hF (bo := true) h) (args := [BV]) (by simp [snapArgs, hb])

end Go.Proofs.Tryd.Dn

