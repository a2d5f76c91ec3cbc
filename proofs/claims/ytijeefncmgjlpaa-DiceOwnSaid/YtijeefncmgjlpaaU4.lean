/-
  A search for a ring by colours (plain).
-/
import Derived.Test.YtijeefncmgjlpaaU1
set_option linter.unusedSimpArgs false
set_option linter.unusedVariables false

set_option maxHeartbeats 1000000
namespace Go.Proofs.Try.Dn
open Go.Dn

def colU (col : Nat -> Nat) (i v : Nat) : Nat -> Nat := fun u => if u = i then v else col u

structure Dfs (E : Nat -> Nat -> Bool) (n : Nat) (col : Nat -> Nat) (path ord : List Nat) : Prop where
 pnd : path.Nodup
 pin : ∀ x, x ∈ path ↔ x < n /\ col x = 1
 ond : ord.Nodup
 oin : ∀ x, x ∈ ord ↔ x < n /\ col x = 2
 pedge : ∀ (k x y : Nat), path[k]? = some x -> path[k + 1]? = some y -> E x y = true
 oedge : ∀ (b y z : Nat), ord[b]? = some y -> z < n -> E y z = true -> ∃ a, a < b /\ ord[a]? = some z
 le2 : ∀ x, col x <= 2

theorem Dfs.start (E : Nat -> Nat -> Bool) (n : Nat) : Dfs E n (fun _ => 0) [] [] where
 pnd := List.nodup_nil
 pin x := by simp
 ond := List.nodup_nil
 oin x := by simp
 pedge k x y h := by simp at h
 oedge b y z h := by simp at h
 le2 x := by simp

theorem Dfs.enter {E : Nat -> Nat -> Bool} {n : Nat} {col : Nat -> Nat} {path ord : List Nat} (h : Dfs E n col path ord) {i : Nat} (hi : i < n) (hc : col i = 0) (hl : ∀ x, path.getLast? = some x -> E x i = true) : Dfs E n (colU col i 1) (path ++ [i]) ord where
 pnd := by
  rw [List.nodup_append]
  refine ⟨h.pnd, by simp, fun a ha b hb e => ?_⟩
  rw [List.mem_singleton.1 hb] at e
  have := (h.pin a).1 ha
  rw [e, hc] at this
  omega
 pin x := by
  rw [List.mem_append, List.mem_singleton, h.pin]
  unfold colU
  by_cases hx : x = i
  ·subst hx; simp [hi]
  ·rw [if_neg hx]; simp [hx]
 ond := h.ond
 oin x := by
  rw [h.oin]
  unfold colU
  by_cases hx : x = i
  ·subst hx; rw [if_pos rfl, hc]; omega
  ·rw [if_neg hx]
 pedge k x y h1 h2 := by
  by_cases hk : k + 1 < path.length
  ·rw [List.getElem?_append_left (by omega)] at h1 h2
   exact h.pedge k x y h1 h2
  ·have hlt := (List.getElem?_eq_some_iff.1 h2).1
   rw [List.length_append, List.length_singleton] at hlt
   have e : k + 1 = path.length := by omega
   rw [e, List.getElem?_append_right (Nat.le_refl _), Nat.sub_self] at h2
   rw [List.getElem?_append_left (by omega)] at h1
   have h3 : i = y := by simpa using h2
   subst h3
   refine hl x ?_
   rw [List.getLast?_eq_getElem?, show path.length - 1 = k by omega]
   exact h1
 oedge := h.oedge
 le2 x := by unfold colU; split <;> first | omega | exact h.le2 x

theorem Dfs.leave {E : Nat -> Nat -> Bool} {n : Nat} {col : Nat -> Nat} {path ord : List Nat} {i : Nat} (h : Dfs E n col (path ++ [i]) ord) (hall : ∀ z, z < n -> E i z = true -> col z = 2) : Dfs E n (colU col i 2) path (ord ++ [i]) := by
 have hnd := List.nodup_append.1 h.pnd
 have hi := (h.pin i).1 (by simp)
 have hip : i ∉ path := fun hm => hnd.2.2 i hm i (by simp) rfl
 have hio : i ∉ ord := fun hm => by have := (h.oin i).1 hm; omega
 exact
 {pnd := hnd.1
  pin := fun x => by
   have := h.pin x
   rw [List.mem_append, List.mem_singleton] at this
   unfold colU
   by_cases hx : x = i
   ·subst hx; rw [if_pos rfl]; constructor
    ·intro hm; exact absurd hm hip
    ·intro hm; omega
   ·rw [if_neg hx, <- this]; simp [hx]
  ond := by
   rw [List.nodup_append]
   refine ⟨h.ond, by simp, fun a ha b hb e => ?_⟩
   rw [List.mem_singleton.1 hb] at e
   exact hio (e ▸ ha)
  oin := fun x => by
   rw [List.mem_append, List.mem_singleton, h.oin]
   unfold colU
   by_cases hx : x = i
   ·subst hx; rw [if_pos rfl]; simp [hi.1]
   ·rw [if_neg hx]; simp [hx]
  pedge := fun k x y h1 h2 => by
   have hlt := (List.getElem?_eq_some_iff.1 h2).1
   exact h.pedge k x y (by rw [List.getElem?_append_left (by omega)]; exact h1) (by rw [List.getElem?_append_left hlt]; exact h2)
  oedge := fun b y z h1 h2 h3 => by
   by_cases hb : b < ord.length
   ·rw [List.getElem?_append_left hb] at h1
    obtain ⟨a, ha, h4⟩ := h.oedge b y z h1 h2 h3
    exact ⟨a, ha, by rw [List.getElem?_append_left (by omega)]; exact h4⟩
   ·have hlt := (List.getElem?_eq_some_iff.1 h1).1
    rw [List.length_append, List.length_singleton] at hlt
    have e : b = ord.length := by omega
    subst e
    rw [List.getElem?_append_right (Nat.le_refl _), Nat.sub_self] at h1
    have h4 : i = y := by simpa using h1
    subst h4
    have h5 := (h.oin z).2 ⟨h2, hall z h2 h3⟩
    obtain ⟨a, ha, h6⟩ := List.getElem_of_mem h5
    exact ⟨a, ha, by rw [List.getElem?_append_left ha, List.getElem?_eq_getElem ha, h6]⟩
  le2 := fun x => by unfold colU; split <;> first | omega | exact h.le2 x }

def RingN (E : Nat -> Nat -> Bool) (n : Nat) (l : List Nat) : Prop := 3 <= l.length /\ l.Nodup /\ (∀ x ∈ l, x < n) /\ ∀ (i x y : Nat), l[i]? = some x -> l[(i + 1) % l.length]? = some y -> E x y = true

theorem Dfs.ring {E : Nat -> Nat -> Bool} (hirr : ∀ x, E x x = false) (hasy : ∀ x y, E x y = true -> E y x = false) {n : Nat} {col : Nat -> Nat} {path ord : List Nat} (h : Dfs E n col path ord) {i k : Nat} (hk : path[k]? = some i) (hl : ∀ x, path.getLast? = some x -> E x i = true) : RingN E n (path.drop k) := by
 have hlt := (List.getElem?_eq_some_iff.1 hk).1
 have hlen : (path.drop k).length = path.length - k := by simp
 have h0 : (path.drop k)[0]? = some i := by rw [List.getElem?_drop]; exact hk
 have hcyc : ∀ (a x y : Nat), (path.drop k)[a]? = some x -> (path.drop k)[(a + 1) % (path.drop k).length]? = some y -> E x y = true := by
  intro a x y ha hy
  have hal := (List.getElem?_eq_some_iff.1 ha).1
  rw [hlen] at hal hy
  by_cases hlast : a + 1 < path.length - k
  ·rw [Nat.mod_eq_of_lt hlast, List.getElem?_drop] at hy
   rw [List.getElem?_drop] at ha
   exact h.pedge (k + a) x y ha (by rw [Nat.add_assoc]; exact hy)
  ·have e : a + 1 = path.length - k := by omega
   rw [e, Nat.mod_self, h0] at hy
   have hxy : i = y := by simpa using hy
   subst hxy
   refine hl x ?_
   rw [List.getElem?_drop] at ha
   rw [List.getLast?_eq_getElem?, show path.length - 1 = k + a by omega]
   exact ha
 refine ⟨?_, h.pnd.sublist (List.drop_sublist _ _), fun x hx => ((h.pin x).1 (List.mem_of_mem_drop hx)).1, hcyc⟩
 apply Classical.byContradiction
 intro h3
 rw [hlen] at h3
 have h4 : path.length - k = 1 \/ path.length - k = 2 := by omega
 rcases h4 with h4 | h4
 ·have := hcyc 0 i i h0 (by rw [hlen, h4]; exact h0)
  rw [hirr] at this; cases this
 ·obtain ⟨x, hx⟩ : ∃ x, (path.drop k)[1]? = some x := ⟨_, List.getElem?_eq_getElem (by omega)⟩
  have e1 := hcyc 0 i x h0 (by rw [hlen, h4]; exact hx)
  have e2 := hcyc 1 x i hx (by rw [hlen, h4]; exact h0)
  rw [hasy i x e1] at e2
  cases e2

theorem Dfs.rank {E : Nat -> Nat -> Bool} {n : Nat} {col : Nat -> Nat} {ord : List Nat} (h : Dfs E n col [] ord) (hall : ∀ x, x < n -> col x = 2) : ord.length = n /\ ∀ (i k x y : Nat), k < i -> ord.reverse[i]? = some x -> ord.reverse[k]? = some y -> E x y = false := by
 have hmem : ∀ x, x ∈ ord ↔ x < n := fun x => by rw [h.oin]; exact ⟨fun g => g.1, fun g => ⟨g, hall x g⟩⟩
 constructor
 ·have h1 := sub_lenN h.ond (m := List.range n) fun x hx => List.mem_range.2 ((hmem x).1 hx)
  have h2 := sub_lenN (l := List.range n) (m := ord) List.nodup_range fun x hx => (hmem x).2 (List.mem_range.1 hx)
  simp at h1 h2
  omega
 ·intro i k x y hki hx hy
  have hil := (List.getElem?_eq_some_iff.1 hx).1
  have hkl := (List.getElem?_eq_some_iff.1 hy).1
  rw [List.length_reverse] at hil hkl
  rw [List.getElem?_reverse hil] at hx
  rw [List.getElem?_reverse hkl] at hy
  rw [Bool.eq_false_iff]
  intro he
  obtain ⟨a, ha, h1⟩ := h.oedge _ x y hx ((hmem y).1 (List.mem_of_getElem? hy)) he
  -- y stands twice
  have e1 := (List.getElem?_eq_some_iff.1 h1)
  have e2 := (List.getElem?_eq_some_iff.1 hy)
  obtain ⟨a1, a2⟩ := e1
  obtain ⟨b1, b2⟩ := e2
  have := (List.pairwise_iff_getElem.1 h.ond) a (ord.length - 1 - k) a1 b1 (by omega)
  exact this (a2.trans b2.symm)

end Go.Proofs.Try.Dn

