/-
  Knight: quiet knights and pairs, in the program.
-/
import Derived.Test.YtdjbpmgbaggfbaaDoorKfe
import Derived.Test.YtdjbpmgbaggfbaaDoorDd
import Derived.Test.YtdjbpmgbaggfbaaDoorKff
set_option linter.unusedSimpArgs false
set_option linter.unusedVariables false

namespace Go.Proofs.Tryd.Dn
open Go.Dn

structure QS (r c P A lp : Nat) (BV : TV) (M : List Int) (tr : Nat) (H0 H : Heap) (m : List Int) : Prop where
  acc : Acc A lp H0 H m
  p : H[P]? = some (.cells (pC BV M tr) true)
  q : H[A - 1]? = some (.cells [.ref P 0] false)

theorem QS.set {r c P A lp : Nat} {BV : TV} {M : List Int} {tr : Nat} {H0 H : Heap} {m : List Int} (h : QS r c P A lp BV M tr H0 H m) (hP : P < A - 1) {s : Nat} (h1 : A < s) (h2 : s ≤ lp) (o : AObj) : QS r c P A lp BV M tr H0 (H.set s o) m :=
  ⟨h.acc.set h1 h2 o, by rw [List.getElem?_set_ne (by omega)]; exact h.p, by rw [List.getElem?_set_ne (by omega)]; exact h.q⟩

end Go.Proofs.Tryd.Dn

/-
  Knight: pairs, listed by the program and looked at by the reference.
-/

namespace Go.Proofs.Tryd.Dn
open Go.Dn

def elP : El (Int × Int) where
  sz := 2
  ag := true
  enc x := [.i .i64 x.1, .i .i64 x.2]
  pos := by decide
  len _ := rfl
  one _ := rfl
  sc := .inl rfl

structure AccE {α : Type} (E : El α) (A lp : Nat) (H0 H : Heap) (m : List α) : Prop where
  cell : ∃ R, H[A]? = some (.cells [R] false) ∧ E.Own H R m ∧ ∀ id, R.idOf = some id → lp < id
  len : lp < H.length
  old : ∀ j, j < A → H[j]? = H0[j]?

theorem own_one {α : Type} {E : El α} {H : Heap} {R : TV} {m : List α} (h : E.Own H R m) : R.isAgg = false ∧ R.one = true := by
  rcases h with ⟨rfl, _⟩ | ⟨_, id, ag, c, rfl, _⟩ <;> exact ⟨rfl, rfl⟩

theorem AccE.set {α : Type} {E : El α} {A lp : Nat} {H0 H : Heap} {m : List α} (h : AccE E A lp H0 H m) {s : Nat} (h1 : A < s) (h2 : s ≤ lp) (o : AObj) : AccE E A lp H0 (H.set s o) m := by
  obtain ⟨R, r1, r2, r3⟩ := h.cell
  exact ⟨⟨R, by rw [List.getElem?_set_ne (by omega)]; exact r1, r2.mono fun id hid => by have := r3 id hid; rw [List.getElem?_set_ne (by omega)], r3⟩, by have := h.len; simpa using this, fun j hj => by rw [List.getElem?_set_ne (by omega)]; exact h.old j hj⟩

theorem AccE.more {α : Type} {E : El α} {A lp : Nat} {H0 H : Heap} {m : List α} (h : AccE E A lp H0 H m) (hA : A < lp) (K : Heap) : AccE E A lp H0 (H ++ K) m := by
  obtain ⟨R, r1, r2, r3⟩ := h.cell
  have hl := h.len
  exact ⟨⟨R, by rw [List.getElem?_append_left (by omega)]; exact r1, r2.mono fun id hid => by rw [List.getElem?_append_left (r2.lt id hid)], r3⟩, by simp; omega, fun j hj => by rw [List.getElem?_append_left (by omega)]; exact h.old j hj⟩

theorem AccE.push {α : Type} {E : El α} {pg : Pg} {A lp : Nat} {H0 H : Heap} {m : List α} (h : AccE E A lp H0 H m) (hA : A < lp) (v : α) {bytes : Nat} (hb : (m.length + 1) * bytes ≤ 140737488355328) : ∃ R R' H' H2, dkc pg (den pg) (.ld 1 false) [.ref A 0] H = some (R, H) ∧
    appRun E.sz E.ag bytes R (.sl H.length 0 E.sz E.ag 1 (some 1)) (H ++ [.cells (E.enc v) false]) = some (R', H') ∧ dkc pg (den pg) (.st 1) [.ref A 0, R'] H' = some (.undef, H2) ∧
    AccE E A lp H0 H2 (m ++ [v]) ∧ H.length ≤ H2.length ∧ (∀ j, j ≤ lp → j ≠ A → H2[j]? = H[j]?) := by
  obtain ⟨R, r1, r2, r3⟩ := h.cell
  have hAl := (List.getElem?_eq_some_iff.1 r1).1
  have hl := h.len
  obtain ⟨R', H', h1, h2, h3, h4, h5⟩ := El.app (E := E) (bytes := bytes) (r2.mono (H' := H ++ [.cells (E.enc v) false]) fun id hid => by rw [List.getElem?_append_left (r2.lt id hid)]) (view1 E H v) (by simpa using hb)
  have hl' : H.length + 1 ≤ H'.length := by simpa using h3
  have kj : ∀ j, j < H.length → R.idOf ≠ some j → H'[j]? = H[j]? := fun j hj hne => by
    rw [h4 j (by simp; omega) hne, List.getElem?_append_left hj]
  have r3' : ∀ id, R'.idOf = some id → lp < id := fun id hid => by
    rcases h5 with rfl | h5
    · exact r3 id hid
    · have := h5 id hid; simp at this; omega
  have hA' : H'[A]? = some (.cells [R] false) := by rw [kj A hAl (fun he => by have := r3 A he; omega)]; exact r1
  refine ⟨R, R', H', H'.set A (.cells [R'] false), ld_box r1 (own_one r2).1, h1, st_box hA' (own_one h2).2, ⟨⟨R', ?_, ?_, r3'⟩, by simp; omega, fun j hj => ?_⟩, by simp; omega, fun j hj hne => ?_⟩
  · rw [List.getElem?_set_self (by omega)]
  · exact h2.mono fun id hid => by have := r3' id hid; rw [List.getElem?_set_ne (by omega)]
  · rw [List.getElem?_set_ne (by omega), kj j (by omega) (fun he => by have := r3 j he; omega)]; exact h.old j hj
  · rw [List.getElem?_set_ne (by omega), kj j (by omega) (fun he => by have := r3 j he; omega)]

structure QP (r c P A lp : Nat) (BV : TV) (M : List Int) (tr : Nat) (H0 H : Heap) (m : List (Int × Int)) : Prop where
  acc : AccE elP A lp H0 H m
  p : H[P]? = some (.cells (pC BV M tr) true)
  q : H[A - 1]? = some (.cells [.ref P 0] false)

theorem QP.set {r c P A lp : Nat} {BV : TV} {M : List Int} {tr : Nat} {H0 H : Heap} {m : List (Int × Int)} (h : QP r c P A lp BV M tr H0 H m) (hP : P < A - 1) {s : Nat} (h1 : A < s) (h2 : s ≤ lp) (o : AObj) : QP r c P A lp BV M tr H0 (H.set s o) m :=
  ⟨h.acc.set h1 h2 o, by rw [List.getElem?_set_ne (by omega)]; exact h.p, by rw [List.getElem?_set_ne (by omega)]; exact h.q⟩

end Go.Proofs.Tryd.Dn

/-
  Knight: quiet knights and pairs on all boards.
-/

namespace Go.Proofs.Tryd.Dn
open Go.Dn

def SVP (t : TV) (l : List (Int × Int)) : Prop := t = .nilsl ∧ l = [] ∨ ∃ b, t = .bs b 2 (l.map elP.val)
theorem SVP.view {t : TV} {l : List (Int × Int)} (h : SVP t l) (H : Heap) : elP.View H t l := by
  rcases h with ⟨rfl, rfl⟩ | ⟨b, rfl⟩
  · exact .inl ⟨rfl, rfl⟩
  · exact .inr (.inl ⟨b, rfl⟩)
theorem SVP.lt (b : Bool) (l : List (Int × Int)) : SVP (elP.lt b l) l := by
  cases l with
  | nil => exact .inl ⟨rfl, rfl⟩
  | cons x l => exact .inr ⟨b, rfl⟩

/-! all boards -/
end Go.Proofs.Tryd.Dn

