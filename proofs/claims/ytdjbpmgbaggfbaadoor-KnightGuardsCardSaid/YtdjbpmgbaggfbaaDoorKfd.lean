/-
  Knight: tight sets, in the program.
-/
import Derived.Test.YtdjbpmgbaggfbaaDoorKfc
set_option linter.unusedSimpArgs false
set_option linter.unusedVariables false

namespace Go.Proofs.Tryd.Dn
open Go.Dn

structure TS (r c Q W lp : Nat) (BV : TV) (M : List Int) (tr whole others : Nat) (H : Heap) (v : Nat) (ok : Bool) : Prop where
  b : H[0]? = some (.cells [BV] false)
  v : H[1]? = some (.cells [.i .u64 (v : Int)] false)
  ok : H[2]? = some (.cells [.b ok] false)
  p : H[3]? = some (.cells (pC BV M tr) true)
  q : H[Q]? = some (.cells [.ref 3 0] false)
  w : H[W]? = some (.cells [.i .u64 (whole : Int)] false)
  o : H[W + 1]? = some (.cells [.i .u64 (others : Int)] false)
  f : H[W + 2]? = some (.cells [.fn 88 [] [.ref 0 0, .ref W 0, .ref (W + 1) 0]] false)
  len : lp < H.length

theorem TS.grow {r c Q W lp : Nat} {BV : TV} {M : List Int} {tr whole others : Nat} {H H' : Heap} {v : Nat} {ok : Bool} (h : TS r c Q W lp BV M tr whole others H v ok) (hf : ∀ j, j < W + 3 → H'[j]? = H[j]?) (hQ : 3 < Q ∧ Q < W) (hl : H.length ≤ H'.length) : TS r c Q W lp BV M tr whole others H' v ok :=
  ⟨by rw [hf 0 (by omega)]; exact h.b, by rw [hf 1 (by omega)]; exact h.v, by rw [hf 2 (by omega)]; exact h.ok, by rw [hf 3 (by omega)]; exact h.p, by rw [hf Q (by omega)]; exact h.q, by rw [hf W (by omega)]; exact h.w, by rw [hf _ (by omega)]; exact h.o, by rw [hf _ (by omega)]; exact h.f, by have := h.len; omega⟩

theorem TS.set {r c Q W lp : Nat} {BV : TV} {M : List Int} {tr whole others : Nat} {H : Heap} {v : Nat} {ok : Bool} (h : TS r c Q W lp BV M tr whole others H v ok) (hQ : 3 < Q ∧ Q < W) {j : Nat} (hj : W + 3 ≤ j) (o : AObj) : TS r c Q W lp BV M tr whole others (H.set j o) v ok :=
  h.grow (fun k hk => by rw [List.getElem?_set_ne (by omega)]) hQ (by simp)

theorem TS.found {r c Q W lp : Nat} {BV : TV} {M : List Int} {tr whole others : Nat} {H : Heap} {v : Nat} {ok : Bool} (h : TS r c Q W lp BV M tr whole others H v ok) (hQ : 3 < Q ∧ Q < W) (v' : Nat) : TS r c Q W lp BV M tr whole others ((H.set 1 (.cells [.i .u64 (v' : Int)] false)).set 2 (.cells [.b true] false)) v' true := by
  have h1 := (List.getElem?_eq_some_iff.1 h.v).1
  have h2 := (List.getElem?_eq_some_iff.1 h.ok).1
  have k : ∀ j, j ≠ 1 → j ≠ 2 → ((H.set 1 (.cells [.i .u64 (v' : Int)] false)).set 2 (.cells [.b true] false))[j]? = H[j]? := fun j j1 j2 => by rw [List.getElem?_set_ne (by omega), List.getElem?_set_ne (by omega)]
  exact ⟨by rw [k 0 (by omega) (by omega)]; exact h.b, by rw [List.getElem?_set_ne (by omega), List.getElem?_set_self h1], by rw [List.getElem?_set_self (by simpa using h2)], by rw [k 3 (by omega) (by omega)]; exact h.p, by rw [k Q (by omega) (by omega)]; exact h.q, by rw [k W (by omega) (by omega)]; exact h.w, by rw [k _ (by omega) (by omega)]; exact h.o, by rw [k _ (by omega) (by omega)]; exact h.f, by simpa using h.len⟩

end Go.Proofs.Tryd.Dn

/-
  Knight: a tight set, in the program: the end.
-/

namespace Go.Proofs.Tryd.Dn
open Go.Dn

end Go.Proofs.Tryd.Dn

