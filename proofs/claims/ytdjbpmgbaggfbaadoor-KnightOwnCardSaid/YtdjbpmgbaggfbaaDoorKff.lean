/-
  Knight: the reference's pairs.
-/
import Derived.Test.YtdjbpmgbaggfbaaDoorKfe
set_option linter.unusedSimpArgs false
set_option linter.unusedVariables false

namespace Go.Proofs.Tryd.Dn
open Go.Dn

/-! in plain terms -/
abbrev AugR := Bool × List Int × List Bool
def augL (g : List Int → List Bool → Nat → AugR) (P : Nat → Bool) (a : Nat) : List Nat → List Int → List Bool → AugR
  | [], W, S => (false, W, S)
  | b :: bs, W, S =>
    if (!(P b) || S.getD b false) = true then augL g P a bs W S
    else if W.getD b 0 < 0 then (true, W.set b a, S.set b true)
    else
      let o := g W (S.set b true) (W.getD b 0).toNat
      if o.1 = true then (true, o.2.1.set b a, o.2.2) else augL g P a bs o.2.1 o.2.2

def mayPair (c to a b : Nat) : Bool := to.testBit b && near c a b
def aug (r c to : Nat) : Nat → List Int → List Bool → Nat → AugR
  | 0, W, S, _ => (false, W, S)
  | f + 1, W, S, a => augL (aug r c to f) (mayPair c to a) a (List.range (r * c)) W S

theorem getD_setB {l : List Bool} {i j : Nat} {v d : Bool} (hi : i < l.length) : (l.set i v).getD j d = if j = i then v else l.getD j d := by
  simp only [List.getD_eq_getElem?_getD]
  by_cases h : j = i
  · subst h; rw [if_pos rfl, List.getElem?_set_self hi]; rfl
  · rw [if_neg h, List.getElem?_set_ne (by omega)]

/-! in memory -/
end Go.Proofs.Tryd.Dn

/-
  Knight: the reference's number of pairs; whether it says that there is a tight set.
-/

namespace Go.Proofs.Tryd.Dn
open Go.Dn

def pairTo (r c frm to : Nat) : Nat → List Int × Nat
  | 0 => (List.replicate (r * c) (-1), 0)
  | a + 1 =>
    if frm.testBit a = true then
      let o := aug r c to 37 (pairTo r c frm to a).1 (List.replicate (r * c) false) a
      (o.2.1, (pairTo r c frm to a).2 + if o.1 = true then 1 else 0)
    else pairTo r c frm to a
def pairN (r c frm to : Nat) : Nat := (pairTo r c frm to (r * c)).2

/-! whether there is a tight set -/
end Go.Proofs.Tryd.Dn

