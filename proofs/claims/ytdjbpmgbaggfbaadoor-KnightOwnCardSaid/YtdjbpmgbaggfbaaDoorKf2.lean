/-
  Knight: words in a list; a list of words that grows in a cell.
-/
import Derived.Test.YtdjbpmgbaggfbaaDoorKf1
set_option linter.unusedSimpArgs false
set_option linter.unusedVariables false

namespace Go.Proofs.Tryd.Dn
open Go.Dn

end Go.Proofs.Tryd.Dn

/-
  Knight: the levels around a square, collected until one holds another square.
-/

namespace Go.Proofs.Tryd.Dn
open Go.Dn

def front (r c a n : Nat) : Nat := (lv r c a n).2
theorem cnt_lt {α : Type} {p q : α → Bool} : ∀ {l : List α}, (∀ x, x ∈ l → p x = true → q x = true) → (∃ x, x ∈ l ∧ q x = true ∧ p x = false) → l.countP p + 1 ≤ l.countP q
  | [], _, ⟨x, hx, _⟩ => by cases hx
  | y :: l, h, ⟨x, hx, h1, h2⟩ => by
    have hle : l.countP p ≤ l.countP q := List.countP_mono_left fun z hz => h z (List.mem_cons_of_mem _ hz)
    rw [List.countP_cons, List.countP_cons]
    rcases List.mem_cons.1 hx with rfl | hx
    · rw [h1, h2]; simp; exact hle
    · have := cnt_lt (l := l) (fun z hz => h z (List.mem_cons_of_mem _ hz)) ⟨x, hx, h1, h2⟩
      have hy := h y (List.mem_cons_self ..)
      cases hp : p y with
      | true => rw [hy hp]; simp; exact this
      | false => simp; omega

end Go.Proofs.Tryd.Dn

/-
  Knight: the way between two squares: the levels up to the goal.
-/

namespace Go.Proofs.Tryd.Dn
open Go.Dn

end Go.Proofs.Tryd.Dn

