/-
  A path in memory: grown at its end, and cut again.
-/
import Derived.Test.YtijeefncmgjlpaaU4
import Derived.Test.YtijeefncmgjlpaaU5
set_option linter.unusedSimpArgs false
set_option linter.unusedVariables false

set_option maxHeartbeats 2000000
namespace Go.Proofs.Try.Dn
open Go.Dn

def PW (H : Heap) (t : TV) (l : List Int) : Prop := (t = .nilsl /\ l = []) \/ Que H t l

theorem PW.view {H : Heap} {t : TV} {l : List Int} (h : PW H t l) : elI.View H t l := by
 rcases h with ⟨rfl, rfl⟩ | h
 ·exact .inl ⟨rfl, rfl⟩
 ·exact h.view
theorem PW.mono {H H' : Heap} {t : TV} {l : List Int} (h : PW H t l) (hf : ∀ id, t.idOf = some id -> H'[id]? = H[id]?) : PW H' t l := by
 rcases h with h | h
 ·exact .inl h
 ·exact .inr (h.mono hf)
theorem PW.lt {H : Heap} {t : TV} {l : List Int} (h : PW H t l) : ∀ id, t.idOf = some id -> id < H.length := by
 rcases h with ⟨rfl, rfl⟩ | h
 ·intro id hid; cases hid
 ·exact h.lt
theorem PW.one {H : Heap} {t : TV} {l : List Int} (h : PW H t l) : t.one = true /\ t.isAgg = false := by
 rcases h with ⟨rfl, rfl⟩ | h
 ·exact ⟨rfl, rfl⟩
 ·exact h.one

theorem own_Que {H : Heap} {t : TV} {l : List Int} (h : elI.Own H t l) (hl : l ≠ []) : Que H t l := by
 rcases h with ⟨_, h⟩ | ⟨_, id, ag, c, rfl, h1, h2, h3⟩
 ·exact absurd h hl
 ·have e1 : elI.sz = 1 := rfl
  rw [e1, Nat.mul_one] at h2 h3
  refine ⟨id, 0, none, c, ag, rfl, h1, by omega, ?_, fun k hk => by cases hk⟩
  rw [List.drop_zero, h3, elI_flat_map]

theorem PW.app {H : Heap} {t : TV} {l : List Int} {x : Int} (h : PW H t l) (hl : l.length <= 100000) :
  ∃ t' H', appRun 1 false 8 t (.sl H.length 0 1 false 1 (some 1)) (H ++ [.cells [.i .i64 x] false]) = some (t', H') /\ PW H' t' (l ++ [x]) /\ H.length <= H'.length /\ (∀ j, j < H.length -> t.idOf ≠ some j -> H'[j]? = H[j]?) /\ (t'.idOf = t.idOf \/ ∀ id, t'.idOf = some id -> H.length <= id) := by
 rcases h with ⟨rfl, rfl⟩ | h
 ·obtain ⟨t', H', h1, h2, h3, h4, h5⟩ := appI (H := H ++ [.cells [.i .i64 x] false]) (t := .nilsl) (l := []) (.inl ⟨rfl, rfl⟩) (one_view H x) (by simp)
  simp only [List.length_append, List.length_singleton] at h3 h4 h5
  refine ⟨t', H', h1, .inr (own_Que h2 (by simp)), by omega, fun j hj hne => by rw [h4 j (by omega) hne, List.getElem?_append_left hj], ?_⟩
  rcases h5 with rfl | h5
  ·exact .inl rfl
  ·exact .inr fun id hid => by have := h5 id hid; omega
 ·obtain ⟨t', H', h1, h2, h3, h4, h5⟩ := h.app (x := x) (by omega)
  exact ⟨t', H', h1, .inr h2, h3, h4, h5⟩

theorem PW.cut {H : Heap} {t : TV} {l : List Int} {x : Int} (h : PW H t (l ++ [x])) : ∃ t', slcRun false true false 1 false t [.i .i64 (l.length : Int)] = some t' /\ PW H t' l /\ t'.idOf = t.idOf := by
 rcases h with ⟨_, h⟩ | h
 ·simp at h
 ·obtain ⟨id, off, cap, c, ag, rfl, h1, h2, h3, h4⟩ := h
  have hlen : (l ++ [x]).length = l.length + 1 := by simp
  rw [hlen] at h2 h3 h4 ⊢
  have hb : bounds3 false true false (l.length + 1) [.i .i64 (l.length : Int)] = some (0, l.length, none) := by simp [bounds3, bound]
  have hcap : l.length <= cap.getD (l.length + 1) := by
   cases cap with
   | none => simp
   | some k => have := (h4 k rfl).1; simp; omega
  refine ⟨.sl id off 1 false l.length cap, ?_, .inr ⟨id, off, cap, c, ag, rfl, h1, by omega, ?_, fun k hk => by have := h4 k hk; omega⟩, rfl⟩
  ·simp only [slcRun, hb, Option.bind_some, true_and, Option.getD_none, Nat.zero_le, hcap, and_self, if_true]
   cases cap <;> simp
  ·have h5 := congrArg (List.take l.length) h3
   rw [List.take_take, show min l.length (l.length + 1) = l.length by omega] at h5
   rw [h5]; simp

end Go.Proofs.Try.Dn

