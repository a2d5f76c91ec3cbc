/-
  Pairs of dice with given ways: what grow finds, in plain words; what its cells hold.
-/
import Derived.Test.YtijeefncmgjlpaaEd
set_option linter.unusedSimpArgs false
set_option linter.unusedVariables false

namespace Go.Proofs.Try.Dn
open Go.Dn

def IsLeast (g : Int -> Option Nat) (m : Int) : Prop := (g m).getD 0 ≠ 0 /\ ∀ k, (g k).getD 0 ≠ 0 -> m <= k

theorem IsLeast.uniq {g : Int -> Option Nat} {m k : Int} (h : IsLeast g m) (h' : IsLeast g k) : m = k := by
 have := h.2 k h'.1
 have := h'.2 m h.1
 omega

open Classical in
noncomputable def leastF (g : Int -> Option Nat) : Option Int := if h : ∃ m, IsLeast g m then some (Classical.choose h) else none

theorem leastF_some {g : Int -> Option Nat} {m : Int} : leastF g = some m ↔ IsLeast g m := by
 unfold leastF
 split
 ·rename_i h
  have h1 := Classical.choose_spec h
  exact ⟨fun e => by rw [<- Option.some.inj e]; exact h1, fun e => by rw [h1.uniq e]⟩
 ·rename_i h
  exact ⟨fun e => (by cases e), fun e => absurd ⟨m, e⟩ h⟩

theorem leastF_es {es : List (Int × TV)} {g : Int -> Option Nat} (h : CM es g) : es.foldl lstep none = leastF g := by
 have hs := least_spec h
 revert hs
 cases es.foldl lstep none with
 | none =>
  intro hs
  have hs : ∀ k, (g k).getD 0 = 0 := hs
  unfold leastF
  rw [dif_neg]
  rintro ⟨m, hm, _⟩
  exact hm (hs m)
 | some m => exact fun hs => (leastF_some.2 hs).symm

def fits (n : Nat) (a : List Int) (x : Int) : Bool := decide (a.length < n) && decide (a.getLastD 0 <= x) && decide (x <= 60)

noncomputable def growP (n m : Nat) (c d : Int) : Nat -> List Int -> List Int -> (Int -> Option Nat) -> List (List Int × List Int)
 | 0, _, _, _ => []
 | k + 1, a, b, g => match leastF g with
  | none => if a.length < n \/ b.length < m then [] else [(a, b)]
  | some l =>
   (if fits n a (l - d) = true then match takes g (l - d) b with | some g' => growP n m c d k (a ++ [l - d]) b g' | none => [] else []) ++
   (if fits m b (l - c) = true then match takes g (l - c) a with | some g' => growP n m c d k a (b ++ [l - c]) g' | none => [] else [])

theorem getLastD_at {a : List Int} {z : Int} (hz : a[a.length - 1]? = some z) : a.getLastD 0 = z := by
 rw [List.getLastD_eq_getLast?, List.getLast?_eq_getElem?, hz]
 rfl

structure Cells where
 (rL rA rN rB rM rY rS rT rG rV rF : Nat)

def Cells.caps (q : Cells) : List TV := [.ref q.rL 0, .ref q.rA 0, .ref q.rN 0, .ref q.rB 0, .ref q.rM 0, .ref q.rY 0, .ref q.rS 0, .ref q.rT 0, .ref q.rG 0, .ref q.rV 0, .ref q.rF 0]
def Cells.ids (q : Cells) : List Nat := [q.rL, q.rA, q.rN, q.rB, q.rM, q.rY, q.rS, q.rT, q.rG, q.rV, q.rF]

structure GrS (q : Cells) (n m : Nat) (c d : Int) (Y : TV) (lid : Nat) (tA tB : TV) (a b : List Int) (es : List (Int × TV)) (g : Int -> Option Nat) (H : Heap) : Prop where
 lft : Lft H q.rL lid es g
 hA : H[q.rA]? = some (.cells [tA] false)
 wA : Wy H tA a
 hB : H[q.rB]? = some (.cells [tB] false)
 wB : Wy H tB b
 hN : H[q.rN]? = some (.cells [.i .i64 (n : Int)] false)
 hM : H[q.rM]? = some (.cells [.i .i64 (m : Int)] false)
 hY : H[q.rY]? = some (.cells [Y] false)
 hS : H[q.rS]? = some (.cells [.i .i64 d] false)
 hF : H[q.rF]? = some (.cells [.i .i64 c] false)
 hT : H[q.rT]? = some (.cells [.fn 85 [] [.ref q.rL 0]] false)
 hV : H[q.rV]? = some (.cells [.fn 86 [] [.ref q.rL 0]] false)
 hG : H[q.rG]? = some (.cells [.fn 87 [] q.caps] false)
 dA : ∀ id, tA.idOf = some id -> id ∉ q.ids /\ tB.idOf ≠ some id
 dB : ∀ id, tB.idOf = some id -> id ∉ q.ids
 nd : q.ids.Nodup

theorem GrS.mono {q : Cells} {n m : Nat} {c d : Int} {Y : TV} {lid : Nat} {tA tB : TV} {a b : List Int} {es : List (Int × TV)} {g : Int -> Option Nat} {H H' : Heap} (h : GrS q n m c d Y lid tA tB a b es g H) (hf : ∀ j, j < H.length -> H'[j]? = H[j]?) : GrS q n m c d Y lid tA tB a b es g H' := by
 have hk : ∀ {j : Nat} {o : AObj}, H[j]? = some o -> H'[j]? = some o := fun {j o} ho => by rw [hf j (List.getElem?_eq_some_iff.1 ho).1]; exact ho
 exact { lft := ⟨hk h.lft.box, hk h.lft.obj, h.lft.cm⟩, hA := hk h.hA, wA := h.wA.mono fun id hid => hf id (h.wA.lt id hid), hB := hk h.hB, wB := h.wB.mono fun id hid => hf id (h.wB.lt id hid), hN := hk h.hN, hM := hk h.hM, hY := hk h.hY, hS := hk h.hS, hF := hk h.hF, hT := hk h.hT, hV := hk h.hV, hG := hk h.hG, dA := h.dA, dB := h.dB, nd := h.nd }

theorem GrS.left {q : Cells} {n m : Nat} {c d : Int} {Y : TV} {lid : Nat} {tA tB : TV} {a b : List Int} {es es' : List (Int × TV)} {g g' : Int -> Option Nat} {H : Heap} (h : GrS q n m c d Y lid tA tB a b es g H) (hc : CM es' g') : GrS q n m c d Y lid tA tB a b es' g' (H.set lid (.mapS es' es'.length)) := by
 have hk : ∀ {j : Nat} {l : List TV} {ag : Bool}, H[j]? = some (.cells l ag) -> (H.set lid (.mapS es' es'.length))[j]? = some (.cells l ag) := fun {j l ag} ho => by
  have hne : lid ≠ j := by
   rintro rfl
   rw [h.lft.obj] at ho
   cases ho
  rw [List.getElem?_set_ne hne]; exact ho
 have hw : ∀ {t : TV} {l : List Int}, Wy H t l -> Wy (H.set lid (.mapS es' es'.length)) t l := fun {t l} ht => by
  refine ht.mono fun id hid => ?_
  rcases ht with (⟨rfl, _⟩ | ⟨_, id', ag, x, rfl, h1, _⟩) | ⟨id', v, rfl, _, h1⟩
  ·cases hid
  ·cases hid; rw [hk h1, h1]
  ·cases hid; rw [hk h1, h1]
 exact { lft := h.lft.put hc, hA := hk h.hA, wA := hw h.wA, hB := hk h.hB, wB := hw h.wB, hN := hk h.hN, hM := hk h.hM, hY := hk h.hY, hS := hk h.hS, hF := hk h.hF, hT := hk h.hT, hV := hk h.hV, hG := hk h.hG, dA := h.dA, dB := h.dB, nd := h.nd }

end Go.Proofs.Try.Dn

/-
 Pairs of dice with given ways: a face more, a face less.
-/

namespace Go.Proofs.Try.Dn
open Go.Dn

section
variable {q : Cells} {n m : Nat} {c d : Int} {Y : TV} {lid : Nat} {tA tB : TV} {a b : List Int} {es : List (Int × TV)} {g : Int -> Option Nat} {H : Heap}

theorem GrS.lt (h : GrS q n m c d Y lid tA tB a b es g H) : ∀ j ∈ q.ids, j < H.length := by
 intro j hj
 have hl : ∀ {j : Nat} {o : AObj}, H[j]? = some o -> j < H.length := fun ho => (List.getElem?_eq_some_iff.1 ho).1
 unfold Cells.ids at hj
 simp only [List.mem_cons, List.not_mem_nil, or_false] at hj
 rcases hj with rfl | rfl | rfl | rfl | rfl | rfl | rfl | rfl | rfl | rfl | rfl
 ·exact hl h.lft.box
 ·exact hl h.hA
 ·exact hl h.hN
 ·exact hl h.hB
 ·exact hl h.hM
 ·exact hl h.hY
 ·exact hl h.hS
 ·exact hl h.hT
 ·exact hl h.hG
 ·exact hl h.hV
 ·exact hl h.hF

theorem GrS.setA {tA' : TV} {a' : List Int} {H' : Heap} (h : GrS q n m c d Y lid tA tB a b es g H) (hw : Wy H' tA' a') (hf : ∀ j, j < H.length -> tA.idOf ≠ some j -> H'[j]? = H[j]?) (hn : ∀ id, tA'.idOf = some id -> id ∉ q.ids /\ tB.idOf ≠ some id) (hl : H.length <= H'.length) :
  GrS q n m c d Y lid tA' tB a' b es g (H'.set q.rA (.cells [tA'] false)) := by
 have hlid : lid ≠ q.rA := by
  intro e
  have h1 := h.lft.obj
  rw [e, h.hA] at h1
  cases h1
 have hlidA : tA.idOf ≠ some lid := by
  intro e
  have h1 := h.lft.obj
  rcases h.wA with (⟨rfl, _⟩ | ⟨_, id', ag, x, rfl, h2, _⟩) | ⟨id', v, rfl, _, h2⟩
  ·cases e
  ·cases e; rw [h1] at h2; cases h2
  ·cases e; rw [h1] at h2; cases h2
 have hA : q.rA < H'.length := by have := (List.getElem?_eq_some_iff.1 h.hA).1; omega
 have hk : ∀ {j : Nat} {o : AObj}, H[j]? = some o -> j ∈ q.ids -> j ≠ q.rA -> (H'.set q.rA (.cells [tA'] false))[j]? = some o := fun {j o} ho hj hne => by
  rw [List.getElem?_set_ne (by omega), hf j (List.getElem?_eq_some_iff.1 ho).1 (fun e => (h.dA j e).1 hj), ho]
 have hnd := h.nd
 unfold Cells.ids at hnd
 simp only [List.nodup_cons, List.mem_cons, List.not_mem_nil, or_false, not_or] at hnd
 obtain ⟨⟨e1, -⟩, ⟨e2, e3, e4, e5, e6, e7, e8, e9, e10⟩, -⟩ := hnd
 have mem : ∀ j, j = q.rL \/ j = q.rA \/ j = q.rN \/ j = q.rB \/ j = q.rM \/ j = q.rY \/ j = q.rS \/ j = q.rT \/ j = q.rG \/ j = q.rV \/ j = q.rF -> j ∈ q.ids := fun j hj => by
  unfold Cells.ids
  simpa using hj
 refine { lft := ⟨hk h.lft.box (mem _ (by simp)) e1, ?_, h.lft.cm⟩, hA := List.getElem?_set_self hA, wA := ?_, hB := hk h.hB (mem _ (by simp)) (Ne.symm e3), wB := ?_, hN := hk h.hN (mem _ (by simp)) (Ne.symm e2), hM := hk h.hM (mem _ (by simp)) (Ne.symm e4), hY := hk h.hY (mem _ (by simp)) (Ne.symm e5), hS := hk h.hS (mem _ (by simp)) (Ne.symm e6), hF := hk h.hF (mem _ (by simp)) (Ne.symm e10), hT := hk h.hT (mem _ (by simp)) (Ne.symm e7), hV := hk h.hV (mem _ (by simp)) (Ne.symm e9), hG := hk h.hG (mem _ (by simp)) (Ne.symm e8), dA := hn, dB := h.dB, nd := h.nd }
 ·rw [List.getElem?_set_ne (by omega), hf lid (List.getElem?_eq_some_iff.1 h.lft.obj).1 hlidA]; exact h.lft.obj
 ·refine hw.mono fun id hid => ?_
  have h1 := (hn id hid).1
  rw [List.getElem?_set_ne (fun e => h1 (mem _ (by rw [<- e]; simp)))]
 ·refine h.wB.mono fun id hid => ?_
  have h1 := h.dB id hid
  rw [List.getElem?_set_ne (fun e => h1 (mem _ (by rw [<- e]; simp))), hf id (h.wB.lt id hid) (fun e => (h.dA id e).2 hid)]
theorem GrS.setB {tB' : TV} {b' : List Int} {H' : Heap} (h : GrS q n m c d Y lid tA tB a b es g H) (hw : Wy H' tB' b') (hf : ∀ j, j < H.length -> tB.idOf ≠ some j -> H'[j]? = H[j]?) (hn : ∀ id, tB'.idOf = some id -> id ∉ q.ids /\ tA.idOf ≠ some id) (hl : H.length <= H'.length) :
  GrS q n m c d Y lid tA tB' a b' es g (H'.set q.rB (.cells [tB'] false)) := by
 have hlid : lid ≠ q.rB := by
  intro e
  have h1 := h.lft.obj
  rw [e, h.hB] at h1
  cases h1
 have hlidA : tB.idOf ≠ some lid := by
  intro e
  have h1 := h.lft.obj
  rcases h.wB with (⟨rfl, _⟩ | ⟨_, id', ag, x, rfl, h2, _⟩) | ⟨id', v, rfl, _, h2⟩
  ·cases e
  ·cases e; rw [h1] at h2; cases h2
  ·cases e; rw [h1] at h2; cases h2
 have hB : q.rB < H'.length := by have := (List.getElem?_eq_some_iff.1 h.hB).1; omega
 have hk : ∀ {j : Nat} {o : AObj}, H[j]? = some o -> j ∈ q.ids -> j ≠ q.rB -> (H'.set q.rB (.cells [tB'] false))[j]? = some o := fun {j o} ho hj hne => by
  rw [List.getElem?_set_ne (by omega), hf j (List.getElem?_eq_some_iff.1 ho).1 (fun e => h.dB j e hj), ho]
 have hnd := h.nd
 unfold Cells.ids at hnd
 simp only [List.nodup_cons, List.mem_cons, List.not_mem_nil, or_false, not_or] at hnd
 obtain ⟨⟨-, -, e1, -⟩, ⟨-, e3, -⟩, ⟨e2, -⟩, ⟨e4, e5, e6, e7, e8, e9, e10⟩, -⟩ := hnd
 have mem : ∀ j, j = q.rL \/ j = q.rA \/ j = q.rN \/ j = q.rB \/ j = q.rM \/ j = q.rY \/ j = q.rS \/ j = q.rT \/ j = q.rG \/ j = q.rV \/ j = q.rF -> j ∈ q.ids := fun j hj => by
  unfold Cells.ids
  simpa using hj
 refine { lft := ⟨hk h.lft.box (mem _ (by simp)) e1, ?_, h.lft.cm⟩, hB := List.getElem?_set_self hB, wB := ?_, hA := hk h.hA (mem _ (by simp)) e3, wA := ?_, hN := hk h.hN (mem _ (by simp)) e2, hM := hk h.hM (mem _ (by simp)) (Ne.symm e4), hY := hk h.hY (mem _ (by simp)) (Ne.symm e5), hS := hk h.hS (mem _ (by simp)) (Ne.symm e6), hF := hk h.hF (mem _ (by simp)) (Ne.symm e10), hT := hk h.hT (mem _ (by simp)) (Ne.symm e7), hV := hk h.hV (mem _ (by simp)) (Ne.symm e9), hG := hk h.hG (mem _ (by simp)) (Ne.symm e8), dA := fun id hid => ⟨(h.dA id hid).1, fun e => (hn id e).2 hid⟩, dB := fun id hid => (hn id hid).1, nd := h.nd }
 ·rw [List.getElem?_set_ne (by omega), hf lid (List.getElem?_eq_some_iff.1 h.lft.obj).1 hlidA]; exact h.lft.obj
 ·refine h.wA.mono fun id hid => ?_
  have h1 := (h.dA id hid).1
  rw [List.getElem?_set_ne (fun e => h1 (mem _ (by rw [<- e]; simp))), hf id (h.wA.lt id hid) (h.dA id hid).2]
 ·refine hw.mono fun id hid => ?_
  have h1 := (hn id hid).1
  rw [List.getElem?_set_ne (fun e => h1 (mem _ (by rw [<- e]; simp)))]

end

end Go.Proofs.Try.Dn

/-
 Pairs of dice with given ways: a face more in a list's cell, and one less.
-/

namespace Go.Proofs.Try.Dn
open Go.Dn

section
variable {q : Cells} {n m : Nat} {c d : Int} {Y : TV} {lid : Nat} {tA tB : TV} {a b : List Int} {es : List (Int × TV)} {g : Int -> Option Nat} {H : Heap}

theorem GrS.pushA (h : GrS q n m c d Y lid tA tB a b es g H) (w : Int) (hl : a.length + 1 <= 1000000) : ∃ t' H2, appRun 1 false 8 tA (.sl H.length 0 1 false 1 (some 1)) (H ++ [.cells [.i .i64 w] false]) = some (t', H2) /\ H2[q.rA]? = some (.cells [tA] false) /\ t'.one = true /\ H.length < H2.length /\
  GrS q n m c d Y lid t' tB (a ++ [w]) b es g (H2.set q.rA (.cells [t'] false)) /\ (∀ j, j < H.length -> tA.idOf ≠ some j -> H2[j]? = H[j]?) /\ (t' = tA \/ ∀ id, t'.idOf = some id -> H.length <= id) := by
 have hw : Wy (H ++ [AObj.cells [.i .i64 w] false]) tA a := h.wA.mono fun id hid => List.getElem?_append_left (h.wA.lt id hid)
 obtain ⟨t', H2, a1, a2, a3, a4, a5⟩ := hw.app hl
 have a3' : H.length + 1 <= H2.length := by simpa using a3
 have fr5 : t' = tA \/ ∀ id, t'.idOf = some id -> H.length <= id := a5.elim .inl fun h => .inr fun id hid => by
  have h1 := h id hid
  rw [List.length_append] at h1
  omega
 have fr : ∀ j, j < H.length -> tA.idOf ≠ some j -> H2[j]? = H[j]? := fun j hj hne => by
  rw [a4 j (by simp; omega) hne, List.getElem?_append_left hj]
 have hA : q.rA ∈ q.ids := by unfold Cells.ids; simp
 have g2 : H2[q.rA]? = some (.cells [tA] false) := by rw [fr _ (h.lt _ hA) (fun e => (h.dA _ e).1 hA)]; exact h.hA
 refine ⟨t', H2, a1, g2, a2.one.2, by omega, h.setA a2 fr (fun id hid => ?_) (by omega), fr, fr5⟩
 rcases a5 with rfl | a5
 ·exact h.dA id hid
 ·have h1 := a5 id hid
  have h1 : H.length + 1 <= id := by simpa using h1
  refine ⟨fun hm => by have := h.lt id hm; omega, fun e => by have := h.wB.lt id e; omega⟩

theorem GrS.pushB (h : GrS q n m c d Y lid tA tB a b es g H) (w : Int) (hl : b.length + 1 <= 1000000) : ∃ t' H2, appRun 1 false 8 tB (.sl H.length 0 1 false 1 (some 1)) (H ++ [.cells [.i .i64 w] false]) = some (t', H2) /\ H2[q.rB]? = some (.cells [tB] false) /\ t'.one = true /\ H.length < H2.length /\
  GrS q n m c d Y lid tA t' a (b ++ [w]) es g (H2.set q.rB (.cells [t'] false)) /\ (∀ j, j < H.length -> tB.idOf ≠ some j -> H2[j]? = H[j]?) /\ (t' = tB \/ ∀ id, t'.idOf = some id -> H.length <= id) := by
 have hw : Wy (H ++ [AObj.cells [.i .i64 w] false]) tB b := h.wB.mono fun id hid => List.getElem?_append_left (h.wB.lt id hid)
 obtain ⟨t', H2, a1, a2, a3, a4, a5⟩ := hw.app hl
 have a3' : H.length + 1 <= H2.length := by simpa using a3
 have fr5 : t' = tB \/ ∀ id, t'.idOf = some id -> H.length <= id := a5.elim .inl fun h => .inr fun id hid => by
  have h1 := h id hid
  rw [List.length_append] at h1
  omega
 have fr : ∀ j, j < H.length -> tB.idOf ≠ some j -> H2[j]? = H[j]? := fun j hj hne => by
  rw [a4 j (by simp; omega) hne, List.getElem?_append_left hj]
 have hB : q.rB ∈ q.ids := by unfold Cells.ids; simp
 have g2 : H2[q.rB]? = some (.cells [tB] false) := by rw [fr _ (h.lt _ hB) (fun e => h.dB _ e hB)]; exact h.hB
 refine ⟨t', H2, a1, g2, a2.one.2, by omega, h.setB a2 fr (fun id hid => ?_) (by omega), fr, fr5⟩
 rcases a5 with rfl | a5
 ·exact ⟨h.dB id hid, fun e => (h.dA id e).2 hid⟩
 ·have h1 := a5 id hid
  have h1 : H.length + 1 <= id := by simpa using h1
  refine ⟨fun hm => by have := h.lt id hm; omega, fun e => by have := h.wA.lt id e; omega⟩

theorem GrS.cutA {w : Int} (h : GrS q n m c d Y lid tA tB (a ++ [w]) b es g H) (hne : a ≠ []) : ∃ t', slcRun false true false 1 false tA [.i .i64 (a.length : Int)] = some t' /\ t'.one = true /\ GrS q n m c d Y lid t' tB a b es g (H.set q.rA (.cells [t'] false)) /\ t'.idOf = tA.idOf := by
 obtain ⟨t', h1, h2, h3⟩ := h.wA.cut hne
 exact ⟨t', h1, h2.one.2, h.setA h2 (fun j _ _ => rfl) (fun id hid => h.dA id (by rw [<- h3]; exact hid)) (Nat.le_refl _), h3⟩

theorem GrS.cutB {w : Int} (h : GrS q n m c d Y lid tA tB a (b ++ [w]) es g H) (hne : b ≠ []) : ∃ t', slcRun false true false 1 false tB [.i .i64 (b.length : Int)] = some t' /\ t'.one = true /\ GrS q n m c d Y lid tA t' a b es g (H.set q.rB (.cells [t'] false)) /\ t'.idOf = tB.idOf := by
 obtain ⟨t', h1, h2, h3⟩ := h.wB.cut hne
 exact ⟨t', h1, h2.one.2, h.setB h2 (fun j _ _ => rfl) (fun id hid => ⟨h.dB id (by rw [<- h3]; exact hid), fun e => (h.dA id e).2 (by rw [<- h3]; exact hid)⟩) (Nat.le_refl _), h3⟩
end

end Go.Proofs.Try.Dn

/-
 grow's text, in parts.
-/

namespace Go.Proofs.Try.Dn
open Go.Dn

def l87 : List DOper :=
 [oO 41 (.ld 1 false) [.t 1],
  (oO 42 (.len 0) [.t 41]),
  (oO 43 (.ld 1 false) [.t 2]),
  (oO 44 (.binI .lss) [.t 42, .t 43]),
  (oM 45 44),
  (oP 46 (.ld 1 false) [.t 3] 45 false),
  (oP 47 (.len 0) [.t 46] 45 false),
  (oP 48 (.ld 1 false) [.t 4] 45 false),
  (oP 49 (.binI .lss) [.t 47, .t 48] 45 false),
  (oO 50 .pick [.t 45, .c (.b true), .t 49]),
  (oM 51 50),
  (oP 52 (.ld 1 false) [.t 5] 51 false),
  (oP 53 (.ld 1 false) [.t 1] 51 false),
  ⟨(some 54), (.call .sh), [.c (.fn 88 [] []), .t 53], (some (51, false))⟩,
  (oP 55 (.ld 1 false) [.t 3] 51 false),
  ⟨(some 56), (.call .sh), [.c (.fn 88 [] []), .t 55], (some (51, false))⟩,
  (oP 57 (.call .sh) [.t 52, .t 54, .t 56] 51 false),
  (oO 58 .pick [.t 51, .c (.b true), .t 57]),
  (oM 11 58)]
def n87 : DC :=
 (.seq (.reg [oM 39 13,
  (oO 40 .notB [.t 39])] [1, 2, 3, 4, 5, 6, 7, 8, 9, 10, 12, 40])
 (.cond (.t 40)
 (.seq (.regd l87 [11] [(13, 11), (13, 14), (15, 11)])
 .ret)
 .skip))
def a87 : DC :=
 (.seq (.reg [oM 59 12,
  (oO 60 (.ld 1 false) [.t 6]),
  (oO 61 (.binI .sub) [.t 59, .t 60]),
  (oM 16 61)] [1, 2, 3, 4, 7, 8, 9, 10, 12, 16])
 (.seq (.reg [oO 62 (.ld 1 false) [.t 1],
  (oO 63 (.len 0) [.t 62]),
  (oO 64 (.ld 1 false) [.t 2]),
  (oO 65 (.binI .lss) [.t 63, .t 64]),
  (oM 66 65),
  (oP 67 .mv [.t 16] 66 true),
  (oP 68 (.ld 1 false) [.t 1] 66 true),
  (oP 69 (.ld 1 false) [.t 1] 66 true),
  (oP 70 (.len 0) [.t 69] 66 true),
  (oP 71 (.binI .sub) [.t 70, .c (.i .i64 1)] 66 true),
  (oP 72 (.ixS 1 false) [.t 68, .t 71] 66 true),
  (oP 73 (.ld 1 false) [.t 72] 66 true),
  (oP 74 (.binI .geq) [.t 67, .t 73] 66 true),
  (oO 75 .pick [.t 66, .t 74, .c (.b false)]),
  (oM 76 75),
  (oP 77 .mv [.t 16] 76 true),
  (oP 78 (.binI .leq) [.t 77, .c (.i .i64 60)] 76 true),
  (oO 79 .pick [.t 76, .t 78, .c (.b false)]),
  (oM 80 79),
  (oP 81 (.ld 1 false) [.t 7] 80 true),
  (oP 82 .mv [.t 16] 80 true),
  (oP 83 (.ld 1 false) [.t 3] 80 true),
  (oP 84 (.call .sh) [.t 81, .t 82, .t 83] 80 true),
  (oO 85 .pick [.t 80, .t 84, .c (.b false)])] [1, 3, 4, 7, 8, 9, 10, 12, 16, 85])
 (.cond (.t 85)
 (.seq (.reg [oO 86 (.ld 1 false) [.t 1],
  (oM 87 16),
  (oO 88 (.bsl false [(.i .i64 0)] false 1 [0]) [.t 87]),
  (oO 89 (.app 1 false 8) [.t 86, .t 88]),
  ⟨none, (.st 1), [.t 1, .t 89], none⟩] [1, 3, 4, 7, 8, 9, 10, 12, 16])
 (.seq (.reg [oO 90 (.ld 1 false) [.t 8],
  (oO 91 (.call .sh) [.t 90]),
  (oM 17 91)] [1, 3, 4, 7, 8, 9, 10, 12, 16, 17])
 (.seq (.reg [oO 92 (.ld 1 false) [.t 1],
  (oO 93 (.ld 1 false) [.t 1]),
  (oO 94 (.len 0) [.t 93]),
  (oO 95 (.binI .sub) [.t 94, .c (.i .i64 1)]),
  (oO 96 (.slc false true false 1 false) [.t 92, .t 95]),
  ⟨none, (.st 1), [.t 1, .t 96], none⟩] [1, 3, 4, 7, 8, 9, 10, 12, 16, 17])
 (.seq (.reg [oO 97 (.ld 1 false) [.t 9],
  (oM 98 16),
  (oO 99 (.ld 1 false) [.t 3]),
  (oO 100 (.call .sh) [.t 97, .t 98, .t 99])] [1, 3, 4, 7, 8, 9, 10, 12, 17])
 (.seq (.reg [oM 101 17,
  (oO 102 .notB [.t 101])] [1, 3, 4, 7, 8, 9, 10, 12, 102])
 (.cond (.t 102)
  (.seq (.reg [oO 11 .mv [.c (.b false)]] [11])
  .ret)
  .skip))))))
 .skip)))
def bb87 : DC :=
 (.seq (.reg [oM 103 12,
  (oO 104 (.ld 1 false) [.t 10]),
  (oO 105 (.binI .sub) [.t 103, .t 104]),
  (oM 18 105)] [1, 3, 4, 7, 8, 9, 18])
 (.seq (.reg [oO 106 (.ld 1 false) [.t 3],
  (oO 107 (.len 0) [.t 106]),
  (oO 108 (.ld 1 false) [.t 4]),
  (oO 109 (.binI .lss) [.t 107, .t 108]),
  (oM 110 109),
  (oP 111 .mv [.t 18] 110 true),
  (oP 112 (.ld 1 false) [.t 3] 110 true),
  (oP 113 (.ld 1 false) [.t 3] 110 true),
  (oP 114 (.len 0) [.t 113] 110 true),
  (oP 115 (.binI .sub) [.t 114, .c (.i .i64 1)] 110 true),
  (oP 116 (.ixS 1 false) [.t 112, .t 115] 110 true),
  (oP 117 (.ld 1 false) [.t 116] 110 true),
  (oP 118 (.binI .geq) [.t 111, .t 117] 110 true),
  (oO 119 .pick [.t 110, .t 118, .c (.b false)]),
  (oM 120 119),
  (oP 121 .mv [.t 18] 120 true),
  (oP 122 (.binI .leq) [.t 121, .c (.i .i64 60)] 120 true),
  (oO 123 .pick [.t 120, .t 122, .c (.b false)]),
  (oM 124 123),
  (oP 125 (.ld 1 false) [.t 7] 124 true),
  (oP 126 .mv [.t 18] 124 true),
  (oP 127 (.ld 1 false) [.t 1] 124 true),
  (oP 128 (.call .sh) [.t 125, .t 126, .t 127] 124 true),
  (oO 129 .pick [.t 124, .t 128, .c (.b false)])] [1, 3, 8, 9, 18, 129])
 (.cond (.t 129)
 (.seq (.reg [oO 130 (.ld 1 false) [.t 3],
  (oM 131 18),
  (oO 132 (.bsl false [(.i .i64 0)] false 1 [0]) [.t 131]),
  (oO 133 (.app 1 false 8) [.t 130, .t 132]),
  ⟨none, (.st 1), [.t 3, .t 133], none⟩] [1, 3, 8, 9, 18])
 (.seq (.reg [oO 134 (.ld 1 false) [.t 8],
  (oO 135 (.call .sh) [.t 134]),
  (oM 19 135)] [1, 3, 9, 18, 19])
 (.seq (.reg [oO 136 (.ld 1 false) [.t 3],
  (oO 137 (.ld 1 false) [.t 3]),
  (oO 138 (.len 0) [.t 137]),
  (oO 139 (.binI .sub) [.t 138, .c (.i .i64 1)]),
  (oO 140 (.slc false true false 1 false) [.t 136, .t 139]),
  ⟨none, (.st 1), [.t 3, .t 140], none⟩] [1, 9, 18, 19])
 (.seq (.reg [oO 141 (.ld 1 false) [.t 9],
  (oM 142 18),
  (oO 143 (.ld 1 false) [.t 1]),
  (oO 144 (.call .sh) [.t 141, .t 142, .t 143])] [19])
 (.seq (.reg [oM 145 19,
  (oO 146 .notB [.t 145])] [146])
 (.cond (.t 146)
  (.seq (.reg [oO 11 .mv [.c (.b false)]] [11])
  .ret)
  .skip))))))
 .skip)))
def f87 : DC :=
 (.seq (.reg [oO 11 .mv [.c (.b true)]] [11])
 .ret)

theorem z87_parts : z87_1 = .seq n87 (.seq a87 (.seq bb87 f87)) := rfl

end Go.Proofs.Try.Dn

/-
 Pairs of dice with given ways: grow's state beside the state of whoever takes what it finds.
-/

namespace Go.Proofs.Try.Dn
open Go.Dn

structure Con (pg : Pg) (Y : TV) (I : List (List Int × List Int) -> (Nat -> Prop) -> Heap -> Prop) : Prop where
 ag : Y.isAgg = false
 sm : Go.Dn.same 9 Y Y = true
 lt : ∀ acc own H, I acc own H -> ∀ j, own j -> j < H.length
 still : ∀ acc own H H', I acc own H -> (∀ j, own j -> H'[j]? = H[j]?) -> I acc own H'
 step : ∀ acc own H ia ib a b, I acc own H -> acc.length < 1048576 -> a ≠ [] -> b ≠ [] -> H[ia]? = some (.cells (elI.flat a) false) -> H[ib]? = some (.cells (elI.flat b) false) -> ia ≠ ib -> ¬ own ia -> ¬ own ib ->
  ∃ own' H', callRun pg (den pg) .sh [Y, .sl ia 0 1 false a.length none, .sl ib 0 1 false b.length none] H = some (.b true, H') /\ I (acc ++ [(a, b)]) own' H' /\
  (∀ j, j < H.length -> ¬ own j -> H'[j]? = H[j]?) /\ H.length <= H'.length /\ ∀ j, own' j -> own j \/ H.length <= j \/ j = ia \/ j = ib

variable {pg : Pg} {q : Cells} {n m : Nat} {c d : Int} {Y : TV} {lid : Nat} {tA tB : TV} {a b : List Int} {es : List (Int × TV)} {g : Int -> Option Nat} {H : Heap} {I : List (List Int × List Int) -> (Nat -> Prop) -> Heap -> Prop} {acc : List (List Int × List Int)} {own : Nat -> Prop}

structure GS (q : Cells) (n m : Nat) (c d : Int) (Y : TV) (lid : Nat) (I : List (List Int × List Int) -> (Nat -> Prop) -> Heap -> Prop) (tA tB : TV) (a b : List Int) (es : List (Int × TV)) (g : Int -> Option Nat) (acc : List (List Int × List Int)) (own : Nat -> Prop) (H : Heap) : Prop where
 gr : GrS q n m c d Y lid tA tB a b es g H
 con : I acc own H
 dj : ∀ j, own j -> j ∉ q.ids /\ j ≠ lid /\ tA.idOf ≠ some j /\ tB.idOf ≠ some j

theorem ldC_of (pg : Pg) {H : Heap} {id : Nat} {t : TV} (h : H[id]? = some (.cells [t] false)) (ht : t.isAgg = false) : ldC H[id]? 1 false 0 H = some (t, H) := by
 have := ld_box (pg := pg) (R := den pg) h ht
 rwa [ZL] at this

theorem GS.mono (hC : Con pg Y I) (h : GS q n m c d Y lid I tA tB a b es g acc own H) {H' : Heap} (hf : ∀ j, j < H.length -> H'[j]? = H[j]?) : GS q n m c d Y lid I tA tB a b es g acc own H' :=
 ⟨h.gr.mono hf, hC.still _ _ _ _ h.con fun j hj => hf j (hC.lt _ _ _ h.con j hj), h.dj⟩

theorem GS.left (hC : Con pg Y I) (h : GS q n m c d Y lid I tA tB a b es g acc own H) {es' : List (Int × TV)} {g' : Int -> Option Nat} (hc : CM es' g') : GS q n m c d Y lid I tA tB a b es' g' acc own (H.set lid (.mapS es' es'.length)) :=
 ⟨h.gr.left hc, hC.still _ _ _ _ h.con fun j hj => List.getElem?_set_ne (fun e => (h.dj j hj).2.1 e.symm), h.dj⟩

section
variable (hF : Free pg) (hC : Con pg Y I) (h : GS q n m c d Y lid I tA tB a b es g acc own H)
include hC h

theorem GS.pushA (w : Int) (hl : a.length + 1 <= 1000000) : ∃ t' H2 H3, appRun 1 false 8 tA (.sl H.length 0 1 false 1 (some 1)) (H ++ [.cells [.i .i64 w] false]) = some (t', H2) /\ dkc pg (den pg) (.st 1) [.ref q.rA 0, t'] H2 = some (.undef, H3) /\ GS q n m c d Y lid I t' tB (a ++ [w]) b es g acc own H3 := by
 obtain ⟨t', H2, h1, h2, h3, h4, h5, h6, h7⟩ := h.gr.pushA w hl
 have hl := hC.lt _ _ _ h.con
 have hA : q.rA ∈ q.ids := by unfold Cells.ids; simp
 refine ⟨t', H2, _, h1, st_box h2 h3, h5, hC.still _ _ _ _ h.con fun j hj => ?_, fun j hj => ⟨(h.dj j hj).1, (h.dj j hj).2.1, ?_, (h.dj j hj).2.2.2⟩⟩
 ·rw [List.getElem?_set_ne (fun e : q.rA = j => (h.dj j hj).1 (by rw [<- e]; exact hA)), h6 j (hl j hj) (h.dj j hj).2.2.1]
 ·rcases h7 with rfl | h7
  ·exact (h.dj j hj).2.2.1
  ·intro e; have := h7 j e; have := hl j hj; omega

theorem GS.pushB (w : Int) (hl : b.length + 1 <= 1000000) : ∃ t' H2 H3, appRun 1 false 8 tB (.sl H.length 0 1 false 1 (some 1)) (H ++ [.cells [.i .i64 w] false]) = some (t', H2) /\ dkc pg (den pg) (.st 1) [.ref q.rB 0, t'] H2 = some (.undef, H3) /\ GS q n m c d Y lid I tA t' a (b ++ [w]) es g acc own H3 := by
 obtain ⟨t', H2, h1, h2, h3, h4, h5, h6, h7⟩ := h.gr.pushB w hl
 have hl := hC.lt _ _ _ h.con
 have hB : q.rB ∈ q.ids := by unfold Cells.ids; simp
 refine ⟨t', H2, _, h1, st_box h2 h3, h5, hC.still _ _ _ _ h.con fun j hj => ?_, fun j hj => ⟨(h.dj j hj).1, (h.dj j hj).2.1, (h.dj j hj).2.2.1, ?_⟩⟩
 ·rw [List.getElem?_set_ne (fun e : q.rB = j => (h.dj j hj).1 (by rw [<- e]; exact hB)), h6 j (hl j hj) (h.dj j hj).2.2.2]
 ·rcases h7 with rfl | h7
  ·exact (h.dj j hj).2.2.2
  ·intro e; have := h7 j e; have := hl j hj; omega
omit h
theorem GS.cutA {w : Int} (h : GS q n m c d Y lid I tA tB (a ++ [w]) b es g acc own H) (hne : a ≠ []) : ∃ t' H2, slcRun false true false 1 false tA [.i .i64 (a.length : Int)] = some t' /\ dkc pg (den pg) (.st 1) [.ref q.rA 0, t'] H = some (.undef, H2) /\ GS q n m c d Y lid I t' tB a b es g acc own H2 := by
 obtain ⟨t', h1, h2, h3, h4⟩ := h.gr.cutA hne
 have hA : q.rA ∈ q.ids := by unfold Cells.ids; simp
 exact ⟨t', _, h1, st_box h.gr.hA h2, h3, hC.still _ _ _ _ h.con fun j hj => List.getElem?_set_ne (fun e : q.rA = j => (h.dj j hj).1 (by rw [<- e]; exact hA)), fun j hj => by rw [h4]; exact h.dj j hj⟩
theorem GS.cutB {w : Int} (h : GS q n m c d Y lid I tA tB a (b ++ [w]) es g acc own H) (hne : b ≠ []) : ∃ t' H2, slcRun false true false 1 false tB [.i .i64 (b.length : Int)] = some t' /\ dkc pg (den pg) (.st 1) [.ref q.rB 0, t'] H = some (.undef, H2) /\ GS q n m c d Y lid I tA t' a b es g acc own H2 := by
 obtain ⟨t', h1, h2, h3, h4⟩ := h.gr.cutB hne
 have hB : q.rB ∈ q.ids := by unfold Cells.ids; simp
 exact ⟨t', _, h1, st_box h.gr.hB h2, h3, hC.still _ _ _ _ h.con fun j hj => List.getElem?_set_ne (fun e : q.rB = j => (h.dj j hj).1 (by rw [<- e]; exact hB)), fun j hj => by rw [h4]; exact h.dj j hj⟩
end

def FcL (l : List Int) : Prop := l.length <= 8 /\ l ≠ [] /\ ∀ x ∈ l, 0 <= x /\ x <= 60

theorem FcL.push {l : List Int} (h : FcL l) (hl : l.length < 8) {x : Int} (h0 : 0 <= x) (h1 : x <= 60) : FcL (l ++ [x]) :=
 ⟨by simp; omega, by simp, fun y hy => by
  rcases List.mem_append.1 hy with hy | hy
  ·exact h.2.2 y hy
  ·rw [List.mem_singleton.1 hy]; exact ⟨h0, h1⟩⟩

theorem GS.take (hF : Free pg) (hC : Con pg Y I) (h : GS q n m c d Y lid I tA tB a b es g acc own H) {s : Int} (hs : 0 <= s /\ s <= 60) {l : List Int} {T : TV} (hT : Wy H T l) (hl : FcL l) (hm : mass es <= 1000) :
  (takes g s l = none /\ callRun pg (den pg) .sh [.fn 85 [] [.ref q.rL 0], .i .i64 s, T] H = some (.b false, H)) \/
  ∃ es' g' H', takes g s l = some g' /\ mass es' + l.length = mass es /\ callRun pg (den pg) .sh [.fn 85 [] [.ref q.rL 0], .i .i64 s, T] H = some (.b true, H') /\ GS q n m c d Y lid I tA tB a b es' g' acc own H' := by
 rcases body85 hF (d := l) (by have := hl.1; omega) (fun f hf => by have := hl.2.2 f hf; omega) (s := s) (by omega) hT.view h.gr.lft (by omega) with ⟨es', g', h1, h2, h3, h4⟩ | ⟨h1, h2⟩
 ·exact .inr ⟨es', g', _, h1, h3, h4, h.left hC h2⟩
 ·exact .inl ⟨h1, h2⟩

theorem GS.give (hF : Free pg) (hC : Con pg Y I) (h : GS q n m c d Y lid I tA tB a b es g acc own H) {s : Int} (hs : 0 <= s /\ s <= 60) {l : List Int} {T : TV} (hT : Wy H T l) (hl : FcL l) (hm : mass es <= 1000) {g0 : Int -> Option Nat} {es0 : List (Int × TV)} (h0 : takes g0 s l = some g) (hc0 : CM es0 g0) :
  ∃ H', callRun pg (den pg) .sh [.fn 86 [] [.ref q.rL 0], .i .i64 s, T] H = some (.tup [], H') /\ GS q n m c d Y lid I tA tB a b es0 g0 acc own H' := by
 obtain ⟨es', h1, h2, h3⟩ := body86 hF (d := l) (by have := hl.1; omega) (fun f hf => by have := hl.2.2 f hf; omega) (s := s) (by omega) hT.view h.gr.lft (by have := hl.1; omega)
 rw [takes_give s _ h0] at h2
 obtain rfl := h2.uniq hc0
 exact ⟨_, h1, h.left hC h2⟩

theorem GS.lds (pg : Pg) (h : GS q n m c d Y lid I tA tB a b es g acc own H) (hY : Y.isAgg = false) :
  ldC H[q.rA]? 1 false 0 H = some (tA, H) /\ ldC H[q.rB]? 1 false 0 H = some (tB, H) /\ ldC H[q.rN]? 1 false 0 H = some (.i .i64 (n : Int), H) /\ ldC H[q.rM]? 1 false 0 H = some (.i .i64 (m : Int), H) /\ ldC H[q.rY]? 1 false 0 H = some (Y, H) /\
  ldC H[q.rS]? 1 false 0 H = some (.i .i64 d, H) /\ ldC H[q.rF]? 1 false 0 H = some (.i .i64 c, H) /\ ldC H[q.rT]? 1 false 0 H = some (.fn 85 [] [.ref q.rL 0], H) /\ ldC H[q.rV]? 1 false 0 H = some (.fn 86 [] [.ref q.rL 0], H) /\ ldC H[q.rG]? 1 false 0 H = some (.fn 87 [] q.caps, H) /\
  (∀ K, lenK 0 tA K = some a.length) /\ (∀ K, lenK 0 tB K = some b.length) :=
 ⟨ldC_of pg h.gr.hA h.gr.wA.one.1, ldC_of pg h.gr.hB h.gr.wB.one.1, ldC_of pg h.gr.hN rfl, ldC_of pg h.gr.hM rfl, ldC_of pg h.gr.hY hY, ldC_of pg h.gr.hS rfl, ldC_of pg h.gr.hF rfl, ldC_of pg h.gr.hT rfl, ldC_of pg h.gr.hV rfl, ldC_of pg h.gr.hG rfl,
  fun K => h.gr.wA.view.lenK K, fun K => h.gr.wB.view.lenK K⟩

def Rec87 (pg : Pg) (q : Cells) (n m : Nat) (c d : Int) (Y : TV) (lid : Nat) (I : List (List Int × List Int) -> (Nat -> Prop) -> Heap -> Prop) (k : Nat) : Prop :=
 ∀ tA tB a b es g acc own H, GS q n m c d Y lid I tA tB a b es g acc own H -> FcL a -> FcL b -> a.length <= n -> b.length <= m -> mass es < k -> mass es <= 1000 -> (∀ s, (g s).getD 0 ≠ 0 -> 0 <= s /\ s <= 1000) -> acc.length + 2 ^ ((n - a.length) + (m - b.length)) <= 1048576 ->
  ∃ tA' tB' own' H', bodyRun pg (den pg) 87 q.caps H = some (.b true, H') /\ GS q n m c d Y lid I tA' tB' a b es g (acc ++ growP n m c d k a b g) own' H'

theorem takes_keys (s : Int) : ∀ (l : List Int) {g g' : Int -> Option Nat}, takes g s l = some g' -> ∀ k, (g' k).getD 0 ≠ 0 -> (g k).getD 0 ≠ 0
 | [], g, g', h, k, hk => by simp only [takes, Option.some.injEq] at h; subst h; exact hk
 | f :: l, g, g', h, k, hk => by
  simp only [takes] at h
  split at h
  ·cases h
  ·rename_i h0
   have h1 := takes_keys s l h k hk
   unfold subM updM at h1
   by_cases he : k = s + f
   ·subst he; exact h0
   ·rw [if_neg he] at h1; exact h1

theorem growP_len (n m : Nat) (c d : Int) : ∀ (k : Nat) (a b : List Int) (g : Int -> Option Nat), a.length <= n -> b.length <= m -> (growP n m c d k a b g).length <= 2 ^ ((n - a.length) + (m - b.length))
 | 0, a, b, g, _, _ => by simp [growP]
 | k + 1, a, b, g, ha, hb => by
  have hp : 0 < 2 ^ ((n - a.length) + (m - b.length)) := Nat.two_pow_pos _
  unfold growP
  split
  ·split
   ·simp
   ·simp; omega
  ·rename_i l hl
   rw [List.length_append]
   have h1 : ∀ (x : Int) (o : Option (Int -> Option Nat)), (if fits n a x = true then match o with | some g' => growP n m c d k (a ++ [x]) b g' | none => [] else []).length * 2 <= 2 ^ ((n - a.length) + (m - b.length)) := by
    intro x o
    split
    ·rename_i hf
     have hlt : a.length < n := by simp [fits] at hf; exact hf.1.1
     cases o with
     | none => simp
     | some g' =>
      have := growP_len n m c d k (a ++ [x]) b g' (by simp; omega) hb
      simp only [List.length_append, List.length_singleton] at this
      rw [show (n - a.length) + (m - b.length) = ((n - (a.length + 1)) + (m - b.length)) + 1 by omega, Nat.pow_succ]
      exact Nat.mul_le_mul_right 2 this
    ·simp
   have h2 : ∀ (x : Int) (o : Option (Int -> Option Nat)), (if fits m b x = true then match o with | some g' => growP n m c d k a (b ++ [x]) g' | none => [] else []).length * 2 <= 2 ^ ((n - a.length) + (m - b.length)) := by
    intro x o
    split
    ·rename_i hf
     have hlt : b.length < m := by simp [fits] at hf; exact hf.1.1
     cases o with
     | none => simp
     | some g' =>
      have := growP_len n m c d k a (b ++ [x]) g' ha (by simp; omega)
      simp only [List.length_append, List.length_singleton] at this
      rw [show (n - a.length) + (m - b.length) = ((n - a.length) + (m - (b.length + 1))) + 1 by omega, Nat.pow_succ]
      exact Nat.mul_le_mul_right 2 this
    ·simp
   have e1 : ∀ X Y Z : Nat, X * 2 <= Z -> Y * 2 <= Z -> X + Y <= Z := fun X Y Z _ _ => by omega
   exact e1 _ _ _ (h1 (l - d) (takes g (l - d) b)) (h2 (l - c) (takes g (l - c) a))

theorem partA_len (n m : Nat) (c d : Int) (k : Nat) (a b : List Int) (x : Int) (o : Option (Int -> Option Nat)) (hb : b.length <= m) : (if fits n a x = true then match o with | some g' => growP n m c d k (a ++ [x]) b g' | none => [] else []).length * 2 <= 2 ^ ((n - a.length) + (m - b.length)) := by
 split
 ·rename_i hf
  have hlt : a.length < n := by simp [fits] at hf; exact hf.1.1
  cases o with
  | none => simp
  | some g' =>
   have := growP_len n m c d k (a ++ [x]) b g' (by simp; omega) hb
   simp only [List.length_append, List.length_singleton] at this
   rw [show (n - a.length) + (m - b.length) = ((n - (a.length + 1)) + (m - b.length)) + 1 by omega, Nat.pow_succ]
   exact Nat.mul_le_mul_right 2 this
 ·simp

end Go.Proofs.Try.Dn

