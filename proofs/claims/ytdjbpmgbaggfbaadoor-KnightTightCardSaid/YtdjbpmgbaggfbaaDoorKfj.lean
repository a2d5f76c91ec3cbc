/-
  Knight: the reference's pairs, by a table of moves (quicker to evaluate).
-/
import Derived.Test.YtdjbpmgbaggfbaaDoorKff
set_option linter.unusedSimpArgs false
set_option linter.unusedVariables false

namespace Go.Proofs.Tryd.Dn
open Go.Dn

def tblOf (L : List (List Nat)) (a : Nat) : List Nat := L.getD a []
def augT (L : List (List Nat)) (to : Nat) : Nat → List Int → List Bool → Nat → AugR
  | 0, W, S, _ => (false, W, S)
  | f + 1, W, S, a => augL (augT L to f) (fun b => to.testBit b) a (tblOf L a) W S

theorem augL_filter {g : List Int → List Bool → Nat → AugR} {P P' Q : Nat → Bool} {a : Nat} (hP : ∀ b, P b = (P' b && Q b)) : ∀ (l : List Nat) (W : List Int) (S : List Bool), augL g P a l W S = augL g P' a (l.filter Q) W S
  | [], W, S => rfl
  | b :: l, W, S => by
    rw [List.filter_cons]
    cases hq : Q b with
    | false =>
      rw [augL, if_pos (by rw [hP, hq]; simp), if_neg (by simp)]
      exact augL_filter hP l W S
    | true =>
      rw [if_pos rfl, augL, augL]
      have hp : P b = P' b := by rw [hP, hq, Bool.and_true]
      rw [hp, augL_filter hP l W S]
      simp only
      rw [augL_filter hP l]

theorem augL_congr {n a : Nat} (ha : a < n) {P : Nat → Bool} {g g' : List Int → List Bool → Nat → AugR} (hg : ∀ W S x, AIn n W S → x < n → AIn n (g W S x).2.1 (g W S x).2.2 ∧ g W S x = g' W S x) : ∀ (bs : List Nat) (W : List Int) (S : List Bool), (∀ b, b ∈ bs → b < n) → AIn n W S → augL g P a bs W S = augL g' P a bs W S
  | [], W, S, _, _ => rfl
  | b :: bs, W, S, hb, h => by
    have hbn := hb b (by simp)
    have hb' : ∀ x, x ∈ bs → x < n := fun x hx => hb x (by simp [hx])
    rw [augL, augL, augL_congr ha hg bs W S hb' h]
    split
    · rfl
    · split
      · rfl
      · rename_i hneg
        have hw := h.wb b hbn
        obtain ⟨o1, o2⟩ := hg W (S.set b true) (W.getD b 0).toNat (h.setS b) (by omega)
        simp only
        rw [augL_congr ha hg bs _ _ hb' o1, ← o2]

/-- a table of the moves of a board -/
def TblOk (r c : Nat) (L : List (List Nat)) : Prop := L = (List.range (r * c)).map fun a => (List.range (r * c)).filter (near c a)

theorem TblOk.at {r c : Nat} {L : List (List Nat)} (h : TblOk r c L) {a : Nat} (ha : a < r * c) : tblOf L a = (List.range (r * c)).filter (near c a) := by
  unfold tblOf
  rw [h, List.getD_eq_getElem?_getD, List.getElem?_map, List.getElem?_range ha]
  rfl

theorem augT_eq {r c to : Nat} {L : List (List Nat)} (hL : TblOk r c L) : ∀ (f : Nat) (W : List Int) (S : List Bool) (a : Nat), AIn (r * c) W S → a < r * c → aug r c to f W S a = augT L to f W S a
  | 0, W, S, a, _, _ => rfl
  | f + 1, W, S, a, h, ha => by
    rw [aug, augT, hL.at ha, ← augL_filter (P := mayPair c to a) (P' := fun b => to.testBit b) (Q := near c a) (fun b => rfl)]
    exact augL_congr ha (fun W S x h1 h2 => ⟨(aug_ok f W S x h1 h2).1, augT_eq hL f W S x h1 h2⟩) _ W S (fun b hb => List.mem_range.1 hb) h

def pairTT (L : List (List Nat)) (n frm to : Nat) : Nat → List Int × Nat
  | 0 => (List.replicate n (-1), 0)
  | a + 1 =>
    if frm.testBit a = true then
      let p := pairTT L n frm to a
      let o := augT L to 37 p.1 (List.replicate n false) a
      (o.2.1, p.2 + if o.1 = true then 1 else 0)
    else pairTT L n frm to a

theorem pairTT_eq {r c frm to : Nat} {L : List (List Nat)} (hL : TblOk r c L) : ∀ a, a ≤ r * c → pairTo r c frm to a = pairTT L (r * c) frm to a
  | 0, _ => rfl
  | a + 1, ha => by
    obtain ⟨h1, h2, _⟩ := pairTo_ok (frm := frm) (to := to) a (by omega : a ≤ r * c)
    rw [pairTo, pairTT, ← pairTT_eq hL a (by omega)]
    simp only
    rw [augT_eq hL 37 _ _ a (aIn0 h1 h2) (by omega)]

def tryBT (L : List (List Nat)) (n sm others b : Nat) : Bool := others.testBit b && decide ((pairTT L n sm (andN others (2 ^ b)) n).2 < pop 64 sm)
def tryAT (L : List (List Nat)) (n all others a : Nat) : Bool := all.testBit a && ((decide (others = 0) && decide (andN all (2 ^ a) ≠ 0)) || (List.range n).any (tryBT L n (andN all (2 ^ a)) others))
def tryCT (L : List (List Nat)) (n all others : Nat) : Bool := (decide (all ≠ 0) && decide (pop 64 others < pop 64 all)) || (List.range n).any (tryAT L n all others)

theorem tryBT_eq {r c : Nat} {L : List (List Nat)} (hL : TblOk r c L) (sm others : Nat) : tryB r c sm others = tryBT L (r * c) sm others := by
  funext b
  unfold tryB tryBT pairN
  rw [pairTT_eq hL _ (Nat.le_refl _)]

theorem tryAT_eq {r c : Nat} {L : List (List Nat)} (hL : TblOk r c L) (all others : Nat) : tryA r c all others = tryAT L (r * c) all others := by
  funext a
  unfold tryA tryAT
  rw [tryBT_eq hL]

theorem tryCT_eq {r c : Nat} {L : List (List Nat)} (hL : TblOk r c L) (all others : Nat) : tryC r c all others = tryCT L (r * c) all others := by
  unfold tryC tryCT
  rw [tryAT_eq hL]

def hasTT (L : List (List Nat)) (r c : Nat) : Bool := tryCT L (r * c) (colM r c 0) (colM r c 1) || tryCT L (r * c) (colM r c 1) (colM r c 0)
theorem hasTT_eq {r c : Nat} {L : List (List Nat)} (hL : TblOk r c L) : hasT r c = hasTT L r c := by
  unfold hasT hasTT
  rw [tryCT_eq hL, tryCT_eq hL]

end Go.Proofs.Tryd.Dn

