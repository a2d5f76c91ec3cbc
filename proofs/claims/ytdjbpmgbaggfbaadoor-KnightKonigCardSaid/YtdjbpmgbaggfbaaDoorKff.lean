/-
  Knight: the reference's pairs.
-/
import Derived.Test.YtdjbpmgbaggfbaaDoorKfe
set_option linter.unusedSimpArgs false
set_option linter.unusedVariables false

namespace Go.Proofs.Tryd.Dn
open Go.Dn

/-! in plain terms -/
abbrev AugR := Bool × List Int × List Bool
def augL (g : List Int → List Bool → Nat → AugR) (P : Nat → Bool) (a : Nat) : List Nat → List Int → List Bool → AugR
  | [], W, S => (false, W, S)
  | b :: bs, W, S =>
    if (!(P b) || S.getD b false) = true then augL g P a bs W S
    else if W.getD b 0 < 0 then (true, W.set b a, S.set b true)
    else
      let o := g W (S.set b true) (W.getD b 0).toNat
      if o.1 = true then (true, o.2.1.set b a, o.2.2) else augL g P a bs o.2.1 o.2.2

def mayPair (c to a b : Nat) : Bool := to.testBit b && near c a b
def aug (r c to : Nat) : Nat → List Int → List Bool → Nat → AugR
  | 0, W, S, _ => (false, W, S)
  | f + 1, W, S, a => augL (aug r c to f) (mayPair c to a) a (List.range (r * c)) W S

def unsn (n : Nat) (S : List Bool) : Nat := (List.range n).countP fun b => !(S.getD b false)

theorem getD_setB {l : List Bool} {i j : Nat} {v d : Bool} (hi : i < l.length) : (l.set i v).getD j d = if j = i then v else l.getD j d := by
  simp only [List.getD_eq_getElem?_getD]
  by_cases h : j = i
  · subst h; rw [if_pos rfl, List.getElem?_set_self hi]; rfl
  · rw [if_neg h, List.getElem?_set_ne (by omega)]

theorem unsn_set {n b : Nat} {S : List Bool} (hl : S.length = n) (hb : b < n) (hf : S.getD b false = false) : unsn n (S.set b true) + 1 ≤ unsn n S := by
  unfold unsn
  refine cnt_lt (fun x hx hp => ?_) ⟨b, List.mem_range.2 hb, by rw [hf]; rfl, by rw [getD_setB (by omega), if_pos rfl]; rfl⟩
  rw [getD_setB (by omega)] at hp
  split at hp
  · cases hp
  · exact hp

/-- tables that point within the board -/
structure AIn (n : Nat) (W : List Int) (S : List Bool) : Prop where
  wl : W.length = n
  sl : S.length = n
  wb : ∀ b, b < n → W.getD b 0 < (n : Int)

theorem AIn.setW {n : Nat} {W : List Int} {S : List Bool} (h : AIn n W S) {b a : Nat} (hb : b < n) (ha : a < n) : AIn n (W.set b (a : Int)) S := by
  refine ⟨by simpa using h.wl, h.sl, fun x hx => ?_⟩
  rw [getD_set (by rw [h.wl]; exact hb)]
  split
  · omega
  · exact h.wb x hx
theorem AIn.setS {n : Nat} {W : List Int} {S : List Bool} (h : AIn n W S) (b : Nat) : AIn n W (S.set b true) := ⟨h.wl, by simpa using h.sl, h.wb⟩

theorem augL_ok {n a : Nat} (ha : a < n) {P : Nat → Bool} {g : List Int → List Bool → Nat → AugR} (hg : ∀ W S x, AIn n W S → x < n → AIn n (g W S x).2.1 (g W S x).2.2 ∧ unsn n (g W S x).2.2 ≤ unsn n S) : ∀ (bs : List Nat) (W : List Int) (S : List Bool), (∀ b, b ∈ bs → b < n) → AIn n W S →
    AIn n (augL g P a bs W S).2.1 (augL g P a bs W S).2.2 ∧ unsn n (augL g P a bs W S).2.2 ≤ unsn n S
  | [], W, S, _, h => ⟨h, Nat.le_refl _⟩
  | b :: bs, W, S, hb, h => by
    have hbn := hb b (by simp)
    have hb' : ∀ x, x ∈ bs → x < n := fun x hx => hb x (by simp [hx])
    rw [augL]
    split
    · exact augL_ok ha hg bs W S hb' h
    · rename_i hc
      have hf : S.getD b false = false := by
        cases hs : S.getD b false with
        | false => rfl
        | true => rw [hs] at hc; simp at hc
      have hu := unsn_set h.sl hbn hf
      split
      · exact ⟨(h.setW hbn ha).setS b, Nat.le_trans (Nat.le_succ _) hu⟩
      · rename_i hneg
        have hw := h.wb b hbn
        obtain ⟨o1, o2⟩ := hg W (S.set b true) (W.getD b 0).toNat (h.setS b) (by omega)
        simp only
        split
        · exact ⟨o1.setW hbn ha, Nat.le_trans o2 (Nat.le_trans (Nat.le_succ _) hu)⟩
        · obtain ⟨p1, p2⟩ := augL_ok ha hg bs _ _ hb' o1
          exact ⟨p1, Nat.le_trans p2 (Nat.le_trans o2 (Nat.le_trans (Nat.le_succ _) hu))⟩

theorem aug_ok {r c to : Nat} : ∀ (f : Nat) (W : List Int) (S : List Bool) (a : Nat), AIn (r * c) W S → a < r * c → AIn (r * c) (aug r c to f W S a).2.1 (aug r c to f W S a).2.2 ∧ unsn (r * c) (aug r c to f W S a).2.2 ≤ unsn (r * c) S
  | 0, W, S, a, h, _ => ⟨h, Nat.le_refl _⟩
  | f + 1, W, S, a, h, ha => by
    rw [aug]
    exact augL_ok ha (fun W S x h1 h2 => aug_ok f W S x h1 h2) _ W S (fun b hb => List.mem_range.1 hb) h

/-! in memory -/
end Go.Proofs.Tryd.Dn

/-
  Knight: the reference's number of pairs; whether it says that there is a tight set.
-/

namespace Go.Proofs.Tryd.Dn
open Go.Dn

/-- the pairs, square by square -/
def pairTo (r c frm to : Nat) : Nat → List Int × Nat
  | 0 => (List.replicate (r * c) (-1), 0)
  | a + 1 =>
    if frm.testBit a = true then
      let o := aug r c to 37 (pairTo r c frm to a).1 (List.replicate (r * c) false) a
      (o.2.1, (pairTo r c frm to a).2 + if o.1 = true then 1 else 0)
    else pairTo r c frm to a
/-- the greatest number of pairs of squares of one set and of another one -/
def pairN (r c frm to : Nat) : Nat := (pairTo r c frm to (r * c)).2

theorem aIn0 {n : Nat} {W : List Int} (h1 : W.length = n) (h2 : ∀ b, b < n → W.getD b 0 < (n : Int)) : AIn n W (List.replicate n false) := ⟨h1, by simp, h2⟩

theorem pairTo_ok {r c frm to : Nat} : ∀ a, a ≤ r * c → (pairTo r c frm to a).1.length = r * c ∧ (∀ b, b < r * c → (pairTo r c frm to a).1.getD b 0 < ((r * c : Nat) : Int)) ∧ (pairTo r c frm to a).2 ≤ a
  | 0, _ => by
    refine ⟨by simp [pairTo], fun b hb => ?_, Nat.le_refl _⟩
    show (List.replicate (r * c) (-1 : Int)).getD b 0 < _
    rw [List.getD_eq_getElem?_getD, List.getElem?_replicate, if_pos hb]
    show (-1 : Int) < _
    omega
  | a + 1, ha => by
    obtain ⟨h1, h2, h3⟩ := pairTo_ok (r := r) (c := c) (frm := frm) (to := to) a (by omega)
    rw [pairTo]
    split
    · obtain ⟨k1, _⟩ := aug_ok (to := to) 37 _ _ a (aIn0 h1 h2) (by omega)
      refine ⟨k1.wl, k1.wb, ?_⟩
      simp only
      split <;> omega
    · exact ⟨h1, h2, by omega⟩

theorem pairN_le {r c frm to : Nat} : pairN r c frm to ≤ r * c := (pairTo_ok (r * c) (Nat.le_refl _)).2.2

/-! whether there is a tight set -/
end Go.Proofs.Tryd.Dn

