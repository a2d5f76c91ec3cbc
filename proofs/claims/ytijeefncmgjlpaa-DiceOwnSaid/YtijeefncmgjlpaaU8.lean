/-
  What the search for a ring holds in memory.
-/
import Derived.Test.YtijeefncmgjlpaaU7
import Derived.Test.YtijeefncmgjlpaaT3
set_option linter.unusedSimpArgs false
set_option linter.unusedVariables false

set_option maxHeartbeats 2000000
namespace Go.Proofs.Try.Dn
open Go.Dn

structure Q90 where
 (rS sI rP rR rT rF rO : Nat)
def Q90.ids (q : Q90) : List Nat := [q.rS, q.sI, q.rP, q.rR, q.rT, q.rF, q.rO]
def Q90.caps (q : Q90) : List TV := [.ref q.rS 0, .ref q.rP 0, .ref q.rR 0, .ref q.rT 0, .ref q.rF 0, .ref q.rO 0]
def ci (l : List Nat) : List Int := l.map fun (x : Nat) => (x : Int)

structure HS (q : Q90) (n : Nat) (TBL : TV) (col : Nat -> Nat) (path ord : List Nat) (tP tO : TV) (H : Heap) : Prop where
 hS : H[q.rS]? = some (.cells [.sl q.sI 0 1 false n (some n)] false)
 hI : Go.Proofs.Try.Dn.RowG H q.sI n col
 hP : H[q.rP]? = some (.cells [tP] false)
 wP : PW H tP (ci path)
 hR : ∃ t, H[q.rR]? = some (.cells [t] false)
 hT : H[q.rT]? = some (.cells [TBL] false)
 hF : H[q.rF]? = some (.cells [.fn 90 [] q.caps] false)
 hO : H[q.rO]? = some (.cells [tO] false)
 wO : elI.Own H tO (ci ord)
 nd : q.ids.Nodup
 dP : ∀ id, tP.idOf = some id -> id ∉ q.ids /\ tO.idOf ≠ some id
 dO : ∀ id, tO.idOf = some id -> id ∉ q.ids

theorem HS.lt {q : Q90} {n : Nat} {TBL : TV} {col : Nat -> Nat} {path ord : List Nat} {tP tO : TV} {H : Heap} (h : HS q n TBL col path ord tP tO H) : ∀ j ∈ q.ids, j < H.length := by
 have lt := fun {j o} (e : H[j]? = some o) => (List.getElem?_eq_some_iff.1 e).1
 obtain ⟨t, hR⟩ := h.hR
 intro j hj
 simp only [Q90.ids, List.mem_cons, List.mem_nil_iff, or_false] at hj
 rcases hj with rfl | rfl | rfl | rfl | rfl | rfl | rfl
 ·exact lt h.hS
 ·exact lt h.hI.at_
 ·exact lt h.hP
 ·exact lt hR
 ·exact lt h.hT
 ·exact lt h.hF
 ·exact lt h.hO

theorem HS.setI {q : Q90} {n : Nat} {TBL : TV} {col col' : Nat -> Nat} {path ord : List Nat} {tP tO : TV} {H H' : Heap} (h : HS q n TBL col path ord tP tO H) (hI : Go.Proofs.Try.Dn.RowG H' q.sI n col') (hf : ∀ j, j ≠ q.sI -> H'[j]? = H[j]?) : HS q n TBL col' path ord tP tO H' := by
 have nd := h.nd
 simp only [Q90.ids, List.nodup_cons, List.mem_cons, List.mem_nil_iff, or_false, not_or, not_false_eq_true, List.nodup_nil, and_true] at nd
 have dP := fun id hid => (h.dP id hid).1
 have ne : ∀ id, id ∉ q.ids -> id ≠ q.sI := fun id hn e => hn (by rw [e]; simp [Q90.ids])
 obtain ⟨t, hR⟩ := h.hR
 exact
 {hS := by rw [hf _ (by omega)]; exact h.hS
  hI := hI
  hP := by rw [hf _ (by omega)]; exact h.hP
  wP := h.wP.mono fun id hid => hf id (ne id (dP id hid))
  hR := ⟨t, by rw [hf _ (by omega)]; exact hR⟩
  hT := by rw [hf _ (by omega)]; exact h.hT
  hF := by rw [hf _ (by omega)]; exact h.hF
  hO := by rw [hf _ (by omega)]; exact h.hO
  wO := h.wO.mono fun id hid => hf id (ne id (h.dO id hid))
  nd := h.nd
  dP := h.dP
  dO := h.dO }

theorem HS.setP {q : Q90} {n : Nat} {TBL : TV} {col : Nat -> Nat} {path path' ord : List Nat} {tP tP' tO : TV} {H H' : Heap} (h : HS q n TBL col path ord tP tO H) (hw : PW H' tP' (ci path')) (hf : ∀ j, j < H.length -> tP.idOf ≠ some j -> H'[j]? = H[j]?) (hn : tP'.idOf = tP.idOf \/ ∀ id, tP'.idOf = some id -> H.length <= id) (hl : H.length <= H'.length) : HS q n TBL col path' ord tP' tO (H'.set q.rP (.cells [tP'] false)) := by
 have nd := h.nd
 have lt := h.lt
 simp only [Q90.ids, List.nodup_cons, List.mem_cons, List.mem_nil_iff, or_false, not_or, not_false_eq_true, List.nodup_nil, and_true] at nd
 have inn : ∀ j ∈ q.ids, tP.idOf ≠ some j := fun j hj he => (h.dP j he).1 hj
 have keep : ∀ j ∈ q.ids, j ≠ q.rP -> (H'.set q.rP (.cells [tP'] false))[j]? = H[j]? := fun j hj hne => by
  rw [List.getElem?_set_ne (Ne.symm hne)]
  exact hf j (lt j hj) (inn j hj)
 have hd' : ∀ id, tP'.idOf = some id -> id ∉ q.ids /\ tO.idOf ≠ some id := fun id hid => by
  rcases hn with e | hn
  ·exact h.dP id (by rw [<- e]; exact hid)
  ·have hge := hn id hid
   refine ⟨fun hm => ?_, fun he => ?_⟩
   ·have := lt id hm; omega
   ·have := h.wO.lt id he; omega
 have m : ∀ x, x = q.rS \/ x = q.sI \/ x = q.rP \/ x = q.rR \/ x = q.rT \/ x = q.rF \/ x = q.rO -> x ∈ q.ids := fun x hx => by simpa [Q90.ids] using hx
 have lP := lt q.rP (m _ (by simp))
 obtain ⟨t, hR⟩ := h.hR
 exact
 {hS := by rw [keep _ (m _ (by simp)) (by omega)]; exact h.hS
  hI := ⟨by rw [keep _ (m _ (by simp)) (by omega)]; exact h.hI.at_⟩
  hP := by rw [List.getElem?_set_self (by omega)]
  wP := hw.mono fun id hid => List.getElem?_set_ne fun (e : q.rP = id) => (hd' id hid).1 (by rw [<- e]; exact m _ (by simp))
  hR := ⟨t, by rw [keep _ (m _ (by simp)) (by omega)]; exact hR⟩
  hT := by rw [keep _ (m _ (by simp)) (by omega)]; exact h.hT
  hF := by rw [keep _ (m _ (by simp)) (by omega)]; exact h.hF
  hO := by rw [keep _ (m _ (by simp)) (by omega)]; exact h.hO
  wO := h.wO.mono fun id hid => by
   rw [List.getElem?_set_ne (fun (e : q.rP = id) => h.dO id hid (by rw [<- e]; exact m _ (by simp)))]
   exact hf id (h.wO.lt id hid) fun e => (h.dP id e).2 hid
  nd := h.nd
  dP := hd'
  dO := h.dO }

theorem HS.setO {q : Q90} {n : Nat} {TBL : TV} {col : Nat -> Nat} {path ord ord' : List Nat} {tP tO tO' : TV} {H H' : Heap} (h : HS q n TBL col path ord tP tO H) (hw : elI.Own H' tO' (ci ord')) (hf : ∀ j, j < H.length -> tO.idOf ≠ some j -> H'[j]? = H[j]?) (hn : tO'.idOf = tO.idOf \/ ∀ id, tO'.idOf = some id -> H.length <= id) (hl : H.length <= H'.length) : HS q n TBL col path ord' tP tO' (H'.set q.rO (.cells [tO'] false)) := by
 have nd := h.nd
 have lt := h.lt
 simp only [Q90.ids, List.nodup_cons, List.mem_cons, List.mem_nil_iff, or_false, not_or, not_false_eq_true, List.nodup_nil, and_true] at nd
 have inn : ∀ j ∈ q.ids, tO.idOf ≠ some j := fun j hj he => h.dO j he hj
 have keep : ∀ j ∈ q.ids, j ≠ q.rO -> (H'.set q.rO (.cells [tO'] false))[j]? = H[j]? := fun j hj hne => by
  rw [List.getElem?_set_ne (Ne.symm hne)]
  exact hf j (lt j hj) (inn j hj)
 have hd' : ∀ id, tO'.idOf = some id -> id ∉ q.ids := fun id hid hm => by
  rcases hn with e | hn
  ·exact h.dO id (by rw [<- e]; exact hid) hm
  ·have hge := hn id hid
   have := lt id hm; omega
 have m : ∀ x, x = q.rS \/ x = q.sI \/ x = q.rP \/ x = q.rR \/ x = q.rT \/ x = q.rF \/ x = q.rO -> x ∈ q.ids := fun x hx => by simpa [Q90.ids] using hx
 have lO := lt q.rO (m _ (by simp))
 obtain ⟨t, hR⟩ := h.hR
 exact
 {hS := by rw [keep _ (m _ (by simp)) (by omega)]; exact h.hS
  hI := ⟨by rw [keep _ (m _ (by simp)) (by omega)]; exact h.hI.at_⟩
  hP := by rw [keep _ (m _ (by simp)) (by omega)]; exact h.hP
  wP := h.wP.mono fun id hid => by
   rw [List.getElem?_set_ne (fun (e : q.rO = id) => (h.dP id hid).1 (by rw [<- e]; exact m _ (by simp)))]
   exact hf id (h.wP.lt id hid) fun e => (h.dP id hid).2 e
  hR := ⟨t, by rw [keep _ (m _ (by simp)) (by omega)]; exact hR⟩
  hT := by rw [keep _ (m _ (by simp)) (by omega)]; exact h.hT
  hF := by rw [keep _ (m _ (by simp)) (by omega)]; exact h.hF
  hO := by rw [List.getElem?_set_self (by omega)]
  wO := hw.mono fun id hid => List.getElem?_set_ne fun (e : q.rO = id) => hd' id hid (by rw [<- e]; exact m _ (by simp))
  nd := h.nd
  dP := fun id hid => ⟨(h.dP id hid).1, fun he => by
   rcases hn with e | hn
   ·exact (h.dP id hid).2 (by rw [<- e]; exact he)
   ·have := hn id he; have := h.wP.lt id hid; omega⟩
  dO := hd' }

end Go.Proofs.Try.Dn

