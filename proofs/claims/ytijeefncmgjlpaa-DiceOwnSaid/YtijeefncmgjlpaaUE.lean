/-
  ring (66) whole.
-/
import Derived.Test.YtijeefncmgjlpaaUD
set_option linter.unusedSimpArgs false
set_option linter.unusedVariables false

set_option maxHeartbeats 4000000
set_option maxRecDepth 100000
namespace Go.Proofs.Try.Dn
open Go.Dn

def qOf (L : Nat) : Q90 := { rS := L + 4, sI := L + 3, rP := L + 5, rR := L + 1, rT := L, rF := L + 6, rO := L + 2 }

theorem at_appU (H : Heap) (T : List AObj) (k : Nat) : (H ++ T)[H.length + k]? = T[k]? := by rw [List.getElem?_append_right (by omega)]; congr 1; omega

theorem hs_start (TBL : TV) (n : Nat) (H : Heap) : HS (qOf H.length) n TBL (fun _ => 0) [] [] .nilsl .nilsl (H ++ [.cells [TBL] false, .cells [.nilsl] false, .cells [.nilsl] false, .cells (gC (fun _ => 0) n) false, .cells [.sl (H.length + 3) 0 1 false n (some n)] false, .cells [.nilsl] false, .cells [.fn 90 [] (qOf H.length).caps] false]) where
 hS := at_appU _ _ 4
 hI := ⟨at_appU _ _ 3⟩
 hP := at_appU _ _ 5
 wP := .inl ⟨rfl, rfl⟩
 hR := ⟨.nilsl, at_appU _ _ 1⟩
 hT := at_appU _ _ 0
 hF := at_appU _ _ 6
 hO := at_appU _ _ 2
 wO := .inl ⟨rfl, rfl⟩
 nd := by simp [Q90.ids, qOf]
 dP := fun id h => by cases h
 dO := fun id h => by cases h

end Go.Proofs.Try.Dn

