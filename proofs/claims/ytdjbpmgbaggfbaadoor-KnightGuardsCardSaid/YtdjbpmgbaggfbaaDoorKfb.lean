/-
  Knight: the squares of a colour; a square paired, others moved.
-/
import Derived.Test.YtdjbpmgbaggfbaaDoorKfa
set_option linter.unusedSimpArgs false
set_option linter.unusedVariables false

namespace Go.Proofs.Tryd.Dn
open Go.Dn

/-! the squares of a colour -/
/-! a board, by value or in memory -/
def BOk (r c : Nat) (H : Heap) (BV : TV) : Prop := (∃ bo, BV = .bp bo (.agg (bM r c))) ∨ ∃ id, BV = .ref id 0 ∧ H[id]? = some (.cells (bM r c) true)

theorem BOk.one {r c : Nat} {H : Heap} {BV : TV} (h : BOk r c H BV) : BV.one = true ∧ BV.isAgg = false := by
  rcases h with ⟨bo, rfl⟩ | ⟨id, rfl, h⟩ <;> exact ⟨rfl, rfl⟩

theorem BOk.mono {r c : Nat} {H H' : Heap} {BV : TV} (h : BOk r c H BV) (hf : ∀ id, BV = .ref id 0 → H'[id]? = H[id]?) : BOk r c H' BV := by
  rcases h with ⟨bo, rfl⟩ | ⟨id, rfl, h⟩
  · exact .inl ⟨bo, rfl⟩
  · exact .inr ⟨id, rfl, by rw [hf id rfl]; exact h⟩

/-! a pairing in memory -/
def pC (BV : TV) (M : List Int) (tr : Nat) : List TV := BV :: (M.map fun x => .i .i64 x) ++ [.i .u64 (tr : Int)]

section
variable {pg : Pg} {R : Rec} {BV : TV} {M : List Int} {tr P : Nat} {H : Heap}
end

/-! pairing a square, in plain terms -/
def growL (g : List Int → Nat → Nat → Bool × List Int × Nat) (s : Nat) : List Nat → List Int → Nat → Bool × List Int × Nat
  | [], M, tr => (false, M, tr)
  | t :: ts, M, tr =>
    if tr.testBit t then growL g s ts M tr
    else if M.getD t 0 < 0 then (true, (M.set s t).set t s, tr ||| 2 ^ t)
    else
      let o := g M (tr ||| 2 ^ t) (M.getD t 0).toNat
      if o.1 then (true, (o.2.1.set s t).set t s, o.2.2) else growL g s ts o.2.1 o.2.2

def grow (r c : Nat) : Nat → List Int → Nat → Nat → Bool × List Int × Nat
  | 0, M, tr, _ => (false, M, tr)
  | f + 1, M, tr, s => growL (grow r c f) s (movesOf r c s) M tr

def untr (n tr : Nat) : Nat := (List.range n).countP fun t => !tr.testBit t

def MOk (n : Nat) (M : List Int) : Prop := M.length = 36 ∧ ∀ t, t < 36 → M.getD t 0 < (n : Int)

theorem MOk.set {n : Nat} {M : List Int} (h : MOk n M) {i v : Nat} (hi : i < 36) (hv : v < n) : MOk n (M.set i (v : Int)) := by
  refine ⟨by simpa using h.1, fun t ht => ?_⟩
  rw [getD_set (by rw [h.1]; exact hi)]
  split
  · omega
  · exact h.2 t ht

end Go.Proofs.Tryd.Dn

/-
  Knight: a square paired, in the program.
-/

namespace Go.Proofs.Tryd.Dn
open Go.Dn

structure GS (r c A P lp : Nat) (BV : TV) (s : Nat) (H0 H : Heap) (M : List Int) (tr : Nat) (res : Bool) : Prop where
  p : H[P]? = some (.cells (pC BV M tr) true)
  a0 : H[A]? = some (.cells [.ref P 0] false)
  a1 : H[A + 1]? = some (.cells [.i .i64 (s : Int)] false)
  a2 : H[A + 2]? = some (.cells [.b res] false)
  len : lp < H.length
  old : ∀ j, j < A → j ≠ P → H[j]? = H0[j]?
  mok : MOk (r * c) M
  lt : tr < 2 ^ (r * c)

theorem GS.set {r c A P lp : Nat} {BV : TV} {s : Nat} {H0 H : Heap} {M : List Int} {tr : Nat} {res : Bool} (h : GS r c A P lp BV s H0 H M tr res) (hP : P < A) {j : Nat} (hj : A + 3 ≤ j) (o : AObj) : GS r c A P lp BV s H0 (H.set j o) M tr res :=
  ⟨by rw [List.getElem?_set_ne (by omega)]; exact h.p, by rw [List.getElem?_set_ne (by omega)]; exact h.a0, by rw [List.getElem?_set_ne (by omega)]; exact h.a1, by rw [List.getElem?_set_ne (by omega)]; exact h.a2, by simpa using h.len,
    fun k hk hne => by rw [List.getElem?_set_ne (by omega)]; exact h.old k hk hne, h.mok, h.lt⟩

end Go.Proofs.Tryd.Dn

