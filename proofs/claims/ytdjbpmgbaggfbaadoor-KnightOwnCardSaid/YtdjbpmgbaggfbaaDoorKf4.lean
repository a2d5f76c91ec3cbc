/-
  Knight: the way, backwards through the levels.
-/
import Derived.Test.YtdjbpmgbaggfbaaDoorKf2
import Derived.Test.YtdjbpmgbaggfbaaDoorKf3
set_option linter.unusedSimpArgs false
set_option linter.unusedVariables false

namespace Go.Proofs.Tryd.Dn
open Go.Dn

def back (r c a k x : Nat) : Nat := ctz 64 (front r c a k &&& mv r c x)

def Wy (H : Heap) (t : TV) (l : List Int) : Prop := elI.Own H t l ∨ ∃ id v, t = .sl id 0 1 false 1 (some 1) ∧ l = [v] ∧ H[id]? = some (.cells [.i .i64 v] false)

theorem Wy.mono {H H' : Heap} {t : TV} {l : List Int} (h : Wy H t l) (hf : ∀ id, t.idOf = some id → H'[id]? = H[id]?) : Wy H' t l := by
  rcases h with h | ⟨id, v, rfl, rfl, h⟩
  · exact .inl (h.mono hf)
  · exact .inr ⟨id, v, rfl, rfl, by rw [hf id rfl]; exact h⟩

theorem Wy.lt {H : Heap} {t : TV} {l : List Int} (h : Wy H t l) : ∀ id, t.idOf = some id → id < H.length := by
  rcases h with h | ⟨id, v, rfl, rfl, h⟩
  · exact h.lt
  · intro id' hid
    have : id = id' := Option.some.inj hid
    subst this
    exact (List.getElem?_eq_some_iff.1 h).1

theorem Wy.app {H : Heap} {t : TV} {l : List Int} {w : Int} (h : Wy (H ++ [AObj.cells [.i .i64 w] false]) t l) (hb : l.length + 1 ≤ 1000000) :
    ∃ t' H', appRun 1 false 8 t (.sl H.length 0 1 false 1 (some 1)) (H ++ [AObj.cells [.i .i64 w] false]) = some (t', H') ∧ Wy H' t' (l ++ [w]) ∧ (H ++ [AObj.cells [.i .i64 w] false]).length ≤ H'.length ∧ (∀ j, j < (H ++ [AObj.cells [.i .i64 w] false]).length → t.idOf ≠ some j → H'[j]? = (H ++ [AObj.cells [.i .i64 w] false])[j]?) ∧ (t' = t ∨ ∀ id, t'.idOf = some id → (H ++ [AObj.cells [.i .i64 w] false]).length ≤ id) := by
  rcases h with h | ⟨id, v, rfl, rfl, h⟩
  · obtain ⟨t', H', h1, h2, h3, h4, h5⟩ := appI h (one_view H w) (by simpa using hb)
    exact ⟨t', H', h1, .inl h2, h3, h4, h5⟩
  · obtain ⟨H1, hH1⟩ : ∃ H1, H1 = H ++ [AObj.cells [.i .i64 w] false] := ⟨_, rfl⟩
    have g : H1[H.length]? = some (.cells [.i .i64 w] false) := by rw [hH1]; exact getLast _ _
    have hle : H.length ≤ H1.length := by rw [hH1]; simp
    rw [← hH1] at h ⊢
    refine ⟨.sl H1.length 0 1 false 2 none, H1 ++ [.cells [.i .i64 v, .i .i64 w] false], ?_, .inl (.inr ⟨by simp, H1.length, false, [.i .i64 v, .i .i64 w], rfl, getLast _ _, by simp [elI], by simp [elI, El.flat]⟩), (by first | (simp; done) | (simp; omega)), fun j hj _ => List.getElem?_append_left hj, .inr fun id' hid => by have : H1.length = id' := Option.some.inj hid; omega⟩
    simp [appRun, lenOf, flatOf, g, h, TV.one]

end Go.Proofs.Tryd.Dn

/-
  Knight: the way, all levels back.
-/

namespace Go.Proofs.Tryd.Dn
open Go.Dn

end Go.Proofs.Tryd.Dn

/-
  Knight: a slice turned round in place.
-/

namespace Go.Proofs.Tryd.Dn
open Go.Dn

theorem ownAt {pg : Pg} {R : Rec} {H : Heap} {t : TV} {l : List Int} (h : elI.Own H t l) {i : Nat} {x : Int} (hx : l[i]? = some x) :
    ∃ p, dkc pg R (.ixS 1 false) [t, .i .i64 (i : Int)] H = some (p, H) ∧ dkc pg R (.ld 1 false) [p] H = some (.i .i64 x, H) ∧
      ∀ v : Int, ∃ H', dkc pg R (.st 1) [p, .i .i64 v] H = some (.undef, H') ∧ elI.Own H' t (l.set i v) ∧ H'.length = H.length ∧ ∀ j, t.idOf ≠ some j → H'[j]? = H[j]? := by
  obtain ⟨p, h1, h2⟩ := ixI (pg := pg) (R := R) h.view hx
  refine ⟨p, h1, h2, fun v => ?_⟩
  obtain ⟨p', H', h3, a1, a2, a3, a4⟩ := ownSet (pg := pg) (R := R) h (List.getElem?_eq_some_iff.1 hx).1 v
  rw [h1] at h3
  simp only [Option.some.injEq, Prod.mk.injEq, and_true] at h3
  subst h3
  exact ⟨H', a1, a2, a3, a4⟩

def swapTo (l : List Int) (i : Nat) : List Int := (List.range l.length).map fun j => if j < i ∨ l.length ≤ j + i then l.getD (l.length - 1 - j) 0 else l.getD j 0

theorem swapTo_len (l : List Int) (i : Nat) : (swapTo l i).length = l.length := by simp [swapTo]
theorem swapTo_get {l : List Int} {i j : Nat} (hj : j < l.length) : (swapTo l i)[j]? = some (if j < i ∨ l.length ≤ j + i then l.getD (l.length - 1 - j) 0 else l.getD j 0) := by
  unfold swapTo
  rw [List.getElem?_map, List.getElem?_range hj]; rfl
theorem swapTo_0 (l : List Int) : swapTo l 0 = l := by
  apply List.ext_getElem?
  intro j
  by_cases hj : j < l.length
  · rw [swapTo_get hj, if_neg (by omega), List.getElem?_eq_getElem hj, List.getD, List.getElem?_eq_getElem hj]; rfl
  · rw [List.getElem?_eq_none (by rw [swapTo_len]; omega), List.getElem?_eq_none (by omega)]
theorem swapTo_end {l : List Int} {i : Nat} (h : l.length ≤ i + i + 1) : swapTo l i = l.reverse := by
  apply List.ext_getElem?
  intro j
  by_cases hj : j < l.length
  · rw [swapTo_get hj, List.getElem?_reverse hj, List.getElem?_eq_getElem (by omega)]
    congr 1
    have hd : ∀ k (hk : k < l.length), l.getD k 0 = l[k] := fun k hk => by rw [List.getD, List.getElem?_eq_getElem hk]; rfl
    by_cases hc : j < i ∨ l.length ≤ j + i
    · rw [if_pos hc, hd _ (by omega)]
    · rw [if_neg hc, hd _ hj]
      have : j = l.length - 1 - j := by omega
      congr 1
  · rw [List.getElem?_eq_none (by rw [swapTo_len]; omega), List.getElem?_eq_none (by simp; omega)]
theorem swapTo_step {l : List Int} {i : Nat} (h : i + i + 1 < l.length) : ((swapTo l i).set i (l.getD (l.length - 1 - i) 0)).set (l.length - 1 - i) (l.getD i 0) = swapTo l (i + 1) := by
  apply List.ext_getElem?
  intro j
  by_cases hj : j < l.length
  · rw [swapTo_get hj]
    by_cases h1 : j = l.length - 1 - i
    · subst h1
      rw [List.getElem?_set_self (by rw [List.length_set, swapTo_len]; omega), if_pos (by omega)]
      congr 2
      omega
    · rw [List.getElem?_set_ne (by omega)]
      by_cases h2 : j = i
      · subst h2
        rw [List.getElem?_set_self (by rw [swapTo_len]; omega), if_pos (by omega)]
      · rw [List.getElem?_set_ne (by omega), swapTo_get hj]
        congr 1
        by_cases hc : j < i ∨ l.length ≤ j + i
        · rw [if_pos hc, if_pos (by omega)]
        · rw [if_neg hc, if_neg (by omega)]
  · rw [List.getElem?_eq_none (by rw [List.length_set, List.length_set, swapTo_len]; omega), List.getElem?_eq_none (by rw [swapTo_len]; omega)]

end Go.Proofs.Tryd.Dn

/-
  Knight: a shortest way.
-/

namespace Go.Proofs.Tryd.Dn
open Go.Dn

end Go.Proofs.Tryd.Dn

