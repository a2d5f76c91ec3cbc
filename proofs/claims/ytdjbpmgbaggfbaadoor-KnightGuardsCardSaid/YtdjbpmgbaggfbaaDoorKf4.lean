/-
  Knight: the way, backwards through the levels.
-/
import Derived.Test.YtdjbpmgbaggfbaaDoorKf2
import Derived.Test.YtdjbpmgbaggfbaaDoorKf3
set_option linter.unusedSimpArgs false
set_option linter.unusedVariables false

namespace Go.Proofs.Tryd.Dn
open Go.Dn

def back (r c a k x : Nat) : Nat := ctz 64 (front r c a k &&& mv r c x)

def Wy (H : Heap) (t : TV) (l : List Int) : Prop := elI.Own H t l ∨ ∃ id v, t = .sl id 0 1 false 1 (some 1) ∧ l = [v] ∧ H[id]? = some (.cells [.i .i64 v] false)

theorem Wy.mono {H H' : Heap} {t : TV} {l : List Int} (h : Wy H t l) (hf : ∀ id, t.idOf = some id → H'[id]? = H[id]?) : Wy H' t l := by
  rcases h with h | ⟨id, v, rfl, rfl, h⟩
  · exact .inl (h.mono hf)
  · exact .inr ⟨id, v, rfl, rfl, by rw [hf id rfl]; exact h⟩

theorem Wy.lt {H : Heap} {t : TV} {l : List Int} (h : Wy H t l) : ∀ id, t.idOf = some id → id < H.length := by
  rcases h with h | ⟨id, v, rfl, rfl, h⟩
  · exact h.lt
  · intro id' hid
    have : id = id' := Option.some.inj hid
    subst this
    exact (List.getElem?_eq_some_iff.1 h).1

theorem Wy.app {H : Heap} {t : TV} {l : List Int} {w : Int} (h : Wy (H ++ [AObj.cells [.i .i64 w] false]) t l) (hb : l.length + 1 ≤ 1000000) :
    ∃ t' H', appRun 1 false 8 t (.sl H.length 0 1 false 1 (some 1)) (H ++ [AObj.cells [.i .i64 w] false]) = some (t', H') ∧ Wy H' t' (l ++ [w]) ∧ (H ++ [AObj.cells [.i .i64 w] false]).length ≤ H'.length ∧ (∀ j, j < (H ++ [AObj.cells [.i .i64 w] false]).length → t.idOf ≠ some j → H'[j]? = (H ++ [AObj.cells [.i .i64 w] false])[j]?) ∧ (t' = t ∨ ∀ id, t'.idOf = some id → (H ++ [AObj.cells [.i .i64 w] false]).length ≤ id) := by
  rcases h with h | ⟨id, v, rfl, rfl, h⟩
  · obtain ⟨t', H', h1, h2, h3, h4, h5⟩ := appI h (one_view H w) (by simpa using hb)
    exact ⟨t', H', h1, .inl h2, h3, h4, h5⟩
  · obtain ⟨H1, hH1⟩ : ∃ H1, H1 = H ++ [AObj.cells [.i .i64 w] false] := ⟨_, rfl⟩
    have g : H1[H.length]? = some (.cells [.i .i64 w] false) := by rw [hH1]; exact getLast _ _
    have hle : H.length ≤ H1.length := by rw [hH1]; simp
    rw [← hH1] at h ⊢
    refine ⟨.sl H1.length 0 1 false 2 none, H1 ++ [.cells [.i .i64 v, .i .i64 w] false], ?_, .inl (.inr ⟨by simp, H1.length, false, [.i .i64 v, .i .i64 w], rfl, getLast _ _, by simp [elI], by simp [elI, El.flat]⟩), (by first | (simp; done) | (simp; omega)), fun j hj _ => List.getElem?_append_left hj, .inr fun id' hid => by have : H1.length = id' := Option.some.inj hid; omega⟩
    simp [appRun, lenOf, flatOf, g, h, TV.one]

end Go.Proofs.Tryd.Dn

/-
  Knight: the way, all levels back.
-/

namespace Go.Proofs.Tryd.Dn
open Go.Dn

end Go.Proofs.Tryd.Dn

/-
  Knight: a slice turned round in place.
-/

namespace Go.Proofs.Tryd.Dn
open Go.Dn

end Go.Proofs.Tryd.Dn

/-
  Knight: a shortest way.
-/

namespace Go.Proofs.Tryd.Dn
open Go.Dn

end Go.Proofs.Tryd.Dn

