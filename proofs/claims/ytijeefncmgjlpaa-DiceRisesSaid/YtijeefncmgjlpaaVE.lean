/-
  Dice: a die more, in memory.
-/
import Derived.Test.YtijeefncmgjlpaaVD
import Derived.Test.YtijeefncmgjlpaaEc
set_option linter.unusedSimpArgs false
set_option linter.unusedVariables false

set_option maxHeartbeats 2000000
namespace Go.Proofs.Try.Dn
open Go.Dn

theorem mapO_app {α β : Type} {f : α → Option β} : ∀ {a b : List α} {x y : List β}, mapO f a = some x → mapO f b = some y → mapO f (a ++ b) = some (x ++ y)
  | [], b, x, y, h1, h2 => by
    simp only [mapO, Option.some.injEq] at h1
    subst h1; exact h2
  | z :: a, b, x, y, h1, h2 => by
    simp only [mapO, Option.bind_eq_some_iff, Option.some.injEq] at h1
    obtain ⟨z', hz, a', ha, rfl⟩ := h1
    rw [List.cons_append, mapO, hz, Option.bind_some, mapO_app ha h2]; rfl

def rowC (d : List Int) : {t : TV // t.one = true} := ⟨elI.lt false d, by cases d <;> rfl⟩

theorem more_mem {pg : Pg} (ls : List (List Int)) (hl : ls.length ≤ 1000) :
    ∃ O1 H1 S1 H2 S2 H3 O2 H4, dkc pg (den pg) (.app 1 false 24) [.nilsl, (elR false).lt false ls] [] = some (O1, H1) ∧ dkc pg (den pg) (.bsl false [.i .i64 0] false 1 [0]) [.i .i64 60] H1 = some (S1, H2) ∧ dkc pg (den pg) (.bsl false [.nilsl] false 1 [0]) [S1] H2 = some (S2, H3) ∧
      dkc pg (den pg) (.app 1 false 24) [O1, S2] H3 = some (O2, H4) ∧ snap .borrow H4 9 O2 = some ((elR true).lt true (ls ++ [[60]])) := by
  have hV : elC.View ([] : Heap) ((elR false).lt false ls) (ls.map rowC) := by
    cases ls with
    | nil => exact .inl ⟨rfl, rfl⟩
    | cons d ls => exact .inr (.inl ⟨false, by rw [List.map_map]; rfl⟩)
  obtain ⟨O1, H1, a1, a2, a3, a4, a5⟩ := El.app (E := elC) (bytes := 24) (H := []) (t := .nilsl) (l := []) (.inl ⟨rfl, rfl⟩) hV (by simp; omega)
  rw [List.nil_append] at a2
  obtain ⟨H2, hH2⟩ : ∃ H2, H2 = H1 ++ [AObj.cells [.i .i64 60] false] := ⟨_, rfl⟩
  have l2 : H2.length = H1.length + 1 := by rw [hH2]; simp
  obtain ⟨H3, hH3⟩ : ∃ H3, H3 = H2 ++ [AObj.cells [.sl H1.length 0 1 false 1 (some 1)] false] := ⟨_, rfl⟩
  have l3 : H3.length = H1.length + 2 := by rw [hH3]; simp [l2]
  have f3 : ∀ j, j < H1.length → H3[j]? = H1[j]? := fun j hj => by rw [hH3, List.getElem?_append_left (by omega), hH2, List.getElem?_append_left hj]
  have g3 : H3[H1.length]? = some (.cells [.i .i64 60] false) := by rw [hH3, List.getElem?_append_left (by omega), hH2]; exact getLast _ _
  have v3 : elC.View H3 (.sl H2.length 0 1 false 1 (some 1)) [⟨.sl H1.length 0 1 false 1 (some 1), rfl⟩] :=
    .inr (.inr ⟨H2.length, 0, some 1, _, false, rfl, by simp, by rw [hH3]; exact getLast _ _, by simp [elC], by simp [elC, El.flat]⟩)
  have alt := a2.lt
  obtain ⟨O2, H4, b1, b2, b3, b4, b5⟩ := El.app (E := elC) (bytes := 24) (a2.mono (H' := H3) fun id hid => f3 id (alt id hid)) v3 (by simp; omega)
  have g4 : H4[H1.length]? = some (.cells [.i .i64 60] false) := by rw [b4 _ (by omega) (fun e => by have := alt _ e; omega)]; exact g3
  refine ⟨O1, H1, .sl H1.length 0 1 false 1 (some 1), H2, .sl H2.length 0 1 false 1 (some 1), H3, O2, H4, a1, by rw [hH2]; rfl, by rw [hH3]; rfl, b1, ?_⟩
  refine b2.to (m := .borrow) (by decide) (E' := elR true) rfl ?_
  rw [List.map_append, List.map_append]
  refine mapO_app ?_ ?_
  · rw [List.map_map]
    clear hV a1 a2 a3 a4 a5 hH2 l2 hH3 l3 f3 g3 v3 alt b1 b2 b3 b4 b5 g4
    induction ls with
    | nil => rfl
    | cons d ls ih =>
      rw [List.map_cons, mapO, ih (by simp at hl; omega)]
      have : snap .borrow H4 8 (elI.lt false d) = some (elI.lt true d) := snap_ints false H4 6 d
      show (snap .borrow H4 8 (elI.lt false d)).bind _ = _
      rw [this]; rfl
  · show mapO (snap .borrow H4 8) [.sl H1.length 0 1 false 1 (some 1)] = some [elI.lt true [60]]
    rw [mapO, snS_sl _ (by decide), g4, gXm2, if_pos ⟨by simp, .inr rfl⟩]
    rfl

end Go.Proofs.Try.Dn

