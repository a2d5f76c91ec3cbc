/-
  Knight: the reference's pairs, by a table of moves (quicker to evaluate).
-/
import Derived.Test.YtdjbpmgbaggfbaaDoorKfe
set_option linter.unusedSimpArgs false
set_option linter.unusedVariables false

namespace Go.Proofs.Tryd.Dn
open Go.Dn

def tblOf (L : List (List Nat)) (a : Nat) : List Nat := L.getD a []
def TblOk (r c : Nat) (L : List (List Nat)) : Prop := L = (List.range (r * c)).map fun a => (List.range (r * c)).filter (near c a)

theorem TblOk.at {r c : Nat} {L : List (List Nat)} (h : TblOk r c L) {a : Nat} (ha : a < r * c) : tblOf L a = (List.range (r * c)).filter (near c a) := by
  unfold tblOf
  rw [h, List.getD_eq_getElem?_getD, List.getElem?_map, List.getElem?_range ha]
  rfl

end Go.Proofs.Tryd.Dn

