/-
  Shares as fractions; the least share of a round, in plain terms.
-/
import Derived.Test.YtgmlmmgpcbollaaDoorQl
import Derived.Test.YtgmlmmgpcbollaaDoorDd
set_option linter.unusedSimpArgs false
set_option linter.unusedVariables false

namespace Go.Proofs.Tryd.Dn
open Go.Dn

abbrev Frc := Nat × Nat
def fle (x y : Frc) : Prop := x.1 * y.2 ≤ y.1 * x.2
instance (x y : Frc) : Decidable (fle x y) := inferInstanceAs (Decidable (_ ≤ _))

theorem fle_refl (x : Frc) : fle x x := Nat.le_refl _
theorem fle_total (x y : Frc) : fle x y ∨ fle y x := Nat.le_total _ _
theorem fle_trans {x y z : Frc} (hy : 0 < y.2) (h1 : fle x y) (h2 : fle y z) : fle x z := by
  unfold fle at *
  refine Nat.le_of_mul_le_mul_right ?_ hy
  calc x.1 * z.2 * y.2 = x.1 * y.2 * z.2 := by rw [Nat.mul_right_comm]
    _ ≤ y.1 * x.2 * z.2 := Nat.mul_le_mul_right _ h1
    _ = y.1 * z.2 * x.2 := by rw [Nat.mul_right_comm]
    _ ≤ z.1 * y.2 * x.2 := Nat.mul_le_mul_right _ h2
    _ = z.1 * x.2 * y.2 := by rw [Nat.mul_right_comm]

def lo (x : Frc) : Frc := (x.1 / Nat.gcd x.1 x.2, x.2 / Nat.gcd x.1 x.2)

theorem lo_mul {x : Frc} (h : 1 ≤ x.1) : ∃ g, 0 < g ∧ x.1 = (lo x).1 * g ∧ x.2 = (lo x).2 * g ∧ Nat.gcd (lo x).1 (lo x).2 = 1 := by
  have hg : 0 < Nat.gcd x.1 x.2 := Nat.gcd_pos_of_pos_left _ (by omega)
  exact ⟨Nat.gcd x.1 x.2, hg, (Nat.div_mul_cancel (Nat.gcd_dvd_left _ _)).symm, (Nat.div_mul_cancel (Nat.gcd_dvd_right _ _)).symm, Nat.gcd_div_gcd_div_gcd_of_pos_left (by omega)⟩

theorem lo_pos {x : Frc} (h : 1 ≤ x.1) (h2 : 1 ≤ x.2) : 1 ≤ (lo x).1 ∧ 1 ≤ (lo x).2 ∧ (lo x).1 ≤ x.1 ∧ (lo x).2 ≤ x.2 := by
  obtain ⟨g, hg, e1, e2, _⟩ := lo_mul h
  have h3 := Nat.div_le_self x.1 (Nat.gcd x.1 x.2)
  have h4 := Nat.div_le_self x.2 (Nat.gcd x.1 x.2)
  refine ⟨?_, ?_, h3, h4⟩
  · rcases Nat.eq_zero_or_pos (lo x).1 with h0 | h0
    · rw [h0, Nat.zero_mul] at e1; omega
    · exact h0
  · rcases Nat.eq_zero_or_pos (lo x).2 with h0 | h0
    · rw [h0, Nat.zero_mul] at e2; omega
    · exact h0

theorem fle_lo_left {x t : Frc} (h : 1 ≤ x.1) : fle (lo x) t ↔ fle x t := by
  obtain ⟨g, hg, e1, e2, _⟩ := lo_mul h
  unfold fle
  constructor
  · intro hh
    rw [e1, e2, Nat.mul_right_comm, ← Nat.mul_assoc]
    exact Nat.mul_le_mul_right _ hh
  · intro hh
    rw [e1, e2, Nat.mul_right_comm, ← Nat.mul_assoc] at hh
    exact Nat.le_of_mul_le_mul_right hh hg

theorem fle_lo_right {x t : Frc} (h : 1 ≤ t.1) : fle x (lo t) ↔ fle x t := by
  obtain ⟨g, hg, e1, e2, _⟩ := lo_mul h
  unfold fle
  constructor
  · intro hh
    rw [e1, e2, ← Nat.mul_assoc, Nat.mul_right_comm (lo t).1]
    exact Nat.mul_le_mul_right _ hh
  · intro hh
    rw [e1, e2, ← Nat.mul_assoc, Nat.mul_right_comm (lo t).1] at hh
    exact Nat.le_of_mul_le_mul_right hh hg

theorem coprime_eq {a b c d : Nat} (h1 : Nat.gcd a b = 1) (h2 : Nat.gcd c d = 1) (hb : 0 < b) (ha : 0 < a) (h : a * d = c * b) : a = c ∧ b = d := by
  have k1 : a ∣ c := Nat.Coprime.dvd_of_dvd_mul_right h1 ⟨d, h.symm⟩
  have k2 : c ∣ a := Nat.Coprime.dvd_of_dvd_mul_right h2 ⟨b, h⟩
  have e := Nat.dvd_antisymm k1 k2
  subst e
  exact ⟨rfl, (Nat.eq_of_mul_eq_mul_left ha h).symm⟩

/-- in lowest terms there is but one fraction of each size -/
theorem lo_unique {x y : Frc} (hx : 1 ≤ x.1) (hx2 : 1 ≤ x.2) (hy : 1 ≤ y.1) (hy2 : 1 ≤ y.2) (h1 : fle x y) (h2 : fle y x) : lo x = lo y := by
  obtain ⟨g, hg, e1, e2, e3⟩ := lo_mul hx
  obtain ⟨k, hk, f1, f2, f3⟩ := lo_mul hy
  have p := lo_pos hx hx2
  rw [← fle_lo_left hx, ← fle_lo_right hy] at h1
  rw [← fle_lo_left hy, ← fle_lo_right hx] at h2
  unfold fle at h1 h2
  obtain ⟨q1, q2⟩ := coprime_eq e3 f3 p.2.1 p.1 (Nat.le_antisymm h1 h2)
  exact Prod.ext q1 q2

theorem lo_lo {x : Frc} (hx : 1 ≤ x.1) (hx2 : 1 ≤ x.2) : lo (lo x) = lo x := by
  have p := lo_pos hx hx2
  exact lo_unique p.1 p.2.1 hx hx2 ((fle_lo_left hx).2 (fle_refl x)) ((fle_lo_right hx).2 (fle_refl x))

/-! the closure of a table of fractions -/

def fmax (x y : Frc) : Frc := if fle y x then x else y
def fstep (j : Nat) (Q : Nat → Nat → Frc) : Nat → Nat → Frc := fun i k => if fle (Q i k) (fmax (Q i j) (Q j k)) then Q i k else fmax (Q i j) (Q j k)
def fall (Q : Nat → Nat → Frc) : Nat → Nat → Nat → Frc
  | 0 => Q
  | j + 1 => fstep j (fall Q j)

def FPos (Q : Nat → Nat → Frc) (n : Nat) : Prop := ∀ i k, i < n → k < n → 1 ≤ (Q i k).1 ∧ 1 ≤ (Q i k).2

theorem fmax_le {x y t : Frc} (hx : 0 < x.2) (hy : 0 < y.2) : fle (fmax x y) t ↔ fle x t ∧ fle y t := by
  unfold fmax
  split
  · rename_i h; exact ⟨fun h1 => ⟨h1, fle_trans hx h h1⟩, fun h1 => h1.1⟩
  · rename_i h
    have h' := (fle_total x y).resolve_right h
    exact ⟨fun h1 => ⟨fle_trans hy h' h1, h1⟩, fun h1 => h1.2⟩

theorem fmax_pos {x y : Frc} (hx : 1 ≤ x.1 ∧ 1 ≤ x.2) (hy : 1 ≤ y.1 ∧ 1 ≤ y.2) : 1 ≤ (fmax x y).1 ∧ 1 ≤ (fmax x y).2 := by
  unfold fmax; split <;> assumption

theorem fstep_pos {Q : Nat → Nat → Frc} {n : Nat} (h : FPos Q n) {j : Nat} (hj : j < n) : FPos (fstep j Q) n := by
  intro i k hi hk
  unfold fstep
  split
  · exact h i k hi hk
  · exact fmax_pos (h i j hi hj) (h j k hj hk)

theorem fall_pos {Q : Nat → Nat → Frc} {n : Nat} (h : FPos Q n) : ∀ j, j ≤ n → FPos (fall Q j) n
  | 0, _ => h
  | j + 1, hj => fstep_pos (fall_pos h j (by omega)) (by omega)

theorem fstep_le {Q : Nat → Nat → Frc} {n : Nat} (h : FPos Q n) {j i k : Nat} (hj : j < n) (hi : i < n) (hk : k < n) {t : Frc} : fle (fstep j Q i k) t ↔ fle (Q i k) t ∨ (fle (Q i j) t ∧ fle (Q j k) t) := by
  have p1 := (h i j hi hj).2
  have p2 := (h j k hj hk).2
  have p3 := (h i k hi hk).2
  have pm := (fmax_pos (h i j hi hj) (h j k hj hk)).2
  rw [← fmax_le p1 p2]
  unfold fstep
  split
  · rename_i hh; exact ⟨.inl, fun h1 => h1.elim id fun h2 => fle_trans pm hh h2⟩
  · rename_i hh
    have hh' := (fle_total (Q i k) (fmax (Q i j) (Q j k))).resolve_left hh
    exact ⟨.inr, fun h1 => h1.elim (fun h2 => fle_trans p3 hh' h2) id⟩

/-- which entries are at most so great -/
def fT (n : Nat) (Q : Nat → Nat → Frc) (t : Frc) (i k : Nat) : Bool := decide (i < n) && decide (k < n) && decide (fle (Q i k) t)

theorem fT_iff {n : Nat} {Q : Nat → Nat → Frc} {t : Frc} {i k : Nat} : fT n Q t i k = true ↔ i < n ∧ k < n ∧ fle (Q i k) t := by simp [fT, and_assoc]

theorem fall_le {Q : Nat → Nat → Frc} {n : Nat} (h : FPos Q n) (t : Frc) : ∀ j, j ≤ n → ∀ i k, i < n → k < n → (fle (fall Q j i k) t ↔ wall (fT n Q t) j i k = true)
  | 0, _, i, k, hi, hk => by simp [fall, wall, fT, hi, hk]
  | j + 1, hj, i, k, hi, hk => by
    have ih := fall_le h t j (by omega)
    show fle (fstep j (fall Q j) i k) t ↔ _
    rw [fstep_le (fall_pos h j (by omega)) (by omega) hi hk, ih i k hi hk, ih i j hi (by omega), ih j k (by omega) hk]
    simp [wall, wstep]

theorem fall_rch {Q : Nat → Nat → Frc} {n : Nat} (h : FPos Q n) {t : Frc} {i k : Nat} (hi : i < n) (hk : k < n) : fle (fall Q n i k) t ↔ Rch1 (fT n Q t) i k := by
  rw [fall_le h t n (Nat.le_refl _) i k hi hk]
  exact wall_iff fun i k h => (fT_iff.1 h).2.1

theorem Rch_mono {E F : Nat → Nat → Bool} (h : ∀ i k, E i k = true → F i k = true) {a b : Nat} (hr : Rch E a b) : Rch F a b := by
  induction hr with
  | here => exact .here
  | step _ he ih => exact .step ih (h _ _ he)

theorem fT_mono {n : Nat} {Q : Nat → Nat → Frc} (h : FPos Q n) {s t : Frc} (hs : 0 < s.2) (hst : fle s t) (i k : Nat) (he : fT n Q s i k = true) : fT n Q t i k = true := by
  obtain ⟨a, b, c⟩ := fT_iff.1 he
  exact fT_iff.2 ⟨a, b, fle_trans hs c hst⟩

/-- each entry of the closure is one of the table, on a way -/
theorem fall_at {Q : Nat → Nat → Frc} {n : Nat} (h : FPos Q n) : ∀ j, j ≤ n → ∀ i k, i < n → k < n → ∃ x y, x < n ∧ y < n ∧ fall Q j i k = Q x y ∧ Rch (fT n Q (Q x y)) i x ∧ Rch (fT n Q (Q x y)) y k
  | 0, _, i, k, hi, hk => ⟨i, k, hi, hk, rfl, .here, .here⟩
  | j + 1, hj, i, k, hi, hk => by
    have hjn : j < n := by omega
    have hp := fall_pos h j (by omega)
    have ih := fall_at h j (by omega)
    have key : ∀ a b, a < n → b < n → fall Q j a b = fall Q j a b → ∀ s : Frc, 0 < s.2 → fle (fall Q j a b) s → Rch (fT n Q s) a b := by
      intro a b ha hb _ s hs hle
      have := (fall_le h s j (by omega) a b ha hb).1 hle
      exact (wall_sound _ _ this).rch
    show ∃ x y, x < n ∧ y < n ∧ fstep j (fall Q j) i k = Q x y ∧ _
    unfold fstep
    split
    · exact ih i k hi hk
    · unfold fmax
      split
      · rename_i hm
        obtain ⟨x, y, hx, hy, e, r1, r2⟩ := ih i j hi hjn
        rw [e] at hm
        exact ⟨x, y, hx, hy, e, r1, r2.trans (key j k hjn hk rfl _ (h x y hx hy).2 hm)⟩
      · rename_i hm
        have hm' := (fle_total _ _).resolve_right hm
        obtain ⟨x, y, hx, hy, e, r1, r2⟩ := ih j k hjn hk
        rw [e] at hm'
        exact ⟨x, y, hx, hy, e, (key i j hi hjn rfl _ (h x y hx hy).2 hm').trans r1, r2⟩

/-- a round of more than one -/
def Cyc (E : Nat → Nat → Bool) (n : Nat) : Prop := ∃ i k, i < n ∧ k < n ∧ i ≠ k ∧ Rch E i k ∧ Rch E k i

/-- a pair by which the program finds it -/
def Cand (n : Nat) (Q : Nat → Nat → Frc) (i k : Nat) : Prop := i < n ∧ k < n ∧ i ≠ k ∧ Rch (fT n Q (Q i k)) k i

theorem cyc_cand {Q : Nat → Nat → Frc} {n : Nat} (h : FPos Q n) (h1 : ∀ i, i < n → (Q i i).1 = (Q i i).2) {t : Frc} : (fle (1, 1) t ∨ ∃ i k, Cand n Q i k ∧ fle (Q i k) t) ↔ (fle (1, 1) t ∨ Cyc (fT n Q t) n) := by
  constructor
  · rintro (hh | ⟨i, k, ⟨hi, hk, hne, hr⟩, hle⟩)
    · exact .inl hh
    · have hmono := fT_mono h (h i k hi hk).2 hle
      exact .inr ⟨i, k, hi, hk, hne, .step .here (fT_iff.2 ⟨hi, hk, hle⟩), Rch_mono hmono hr⟩
  · rintro (hh | ⟨i, k, hi, hk, hne, r1, r2⟩)
    · exact .inl hh
    · have w1 := (fall_rch h hi hk).2 (r1.rch1 hne)
      have w2 := (fall_rch h hk hi).2 (r2.rch1 (Ne.symm hne))
      have main : ∀ i k, i < n → k < n → fle (fall Q n i k) t → fle (fall Q n k i) (fall Q n i k) → (fle (1, 1) t ∨ ∃ i k, Cand n Q i k ∧ fle (Q i k) t) := by
        intro i k hi hk hw hm
        obtain ⟨x, y, hx, hy, e, q1, q2⟩ := fall_at h n (Nat.le_refl _) i k hi hk
        rw [e] at hw hm
        have q3 := ((fall_rch h hk hi).1 hm).rch
        by_cases hxy : x = y
        · subst hxy
          have := h1 x hx
          have hp := (h x x hx hx).2
          refine .inl ?_
          have e1 : fle (1, 1) (Q x x) := by unfold fle; rw [this]; show 1 * _ ≤ _ * 1; omega
          exact fle_trans hp e1 hw
        · exact .inr ⟨x, y, ⟨hx, hy, hxy, (q2.trans q3).trans q1⟩, hw⟩
      rcases fle_total (fall Q n k i) (fall Q n i k) with hm | hm
      · exact main i k hi hk w1 hm
      · exact main k i hk hi w2 hm

/-- what the share of a taste is -/
structure IsShare (n : Nat) (Q : Nat → Nat → Frc) (s : Frc) : Prop where
  pos : 1 ≤ s.1 ∧ 1 ≤ s.2
  low : lo s = s
  le : ∀ t : Frc, 1 ≤ t.2 → (fle s t ↔ fle (1, 1) t ∨ Cyc (fT n Q t) n)

end Go.Proofs.Tryd.Dn

/-
  The share of a taste: the program's.
-/

namespace Go.Proofs.Tryd.Dn
open Go.Dn

def smallF (x : Frc) : Prop := x.1 ≤ 2000 ∧ x.2 ≤ 2000

/-- which pairs have been looked at -/
def done2 (i k : Nat) (a b : Nat) : Prop := a < i ∨ a = i ∧ b < k

structure BInv (n : Nat) (Q : Nat → Nat → Frc) (D : Nat → Nat → Prop) (s : Frc) : Prop where
  pos : 1 ≤ s.1 ∧ 1 ≤ s.2
  low : lo s = s
  small : smallF s
  le : ∀ t : Frc, 1 ≤ t.2 → (fle s t ↔ fle (1, 1) t ∨ ∃ i k, D i k ∧ Cand n Q i k ∧ fle (Q i k) t)

theorem BInv.init (n : Nat) (Q : Nat → Nat → Frc) : BInv n Q (done2 0 0) (1, 1) where
  pos := ⟨Nat.le_refl _, Nat.le_refl _⟩
  low := by decide
  small := ⟨by decide, by decide⟩
  le t _ := ⟨.inl, fun h => h.elim id fun ⟨i, k, hd, _⟩ => by unfold done2 at hd; omega⟩

theorem BInv.skip {n : Nat} {Q : Nat → Nat → Frc} {i k : Nat} {s : Frc} (h : BInv n Q (done2 i k) s) (hQ : FPos Q n) (hno : ¬ (Cand n Q i k ∧ ¬ fle s (Q i k))) : BInv n Q (done2 i (k + 1)) s where
  pos := h.pos
  low := h.low
  small := h.small
  le t ht := by
    rw [h.le t ht]
    constructor
    · rintro (h1 | ⟨a, b, hd, hc, hl⟩)
      · exact .inl h1
      · exact .inr ⟨a, b, by unfold done2 at *; omega, hc, hl⟩
    · rintro (h1 | ⟨a, b, hd, hc, hl⟩)
      · exact .inl h1
      · by_cases he : a = i ∧ b = k
        · obtain ⟨rfl, rfl⟩ := he
          have hs : fle s (Q a b) := Classical.byContradiction fun hh => hno ⟨hc, hh⟩
          exact (h.le t ht).1 (fle_trans (hQ a b hc.1 hc.2.1).2 hs hl)
        · exact .inr ⟨a, b, by unfold done2 at *; omega, hc, hl⟩

theorem BInv.take {n : Nat} {Q : Nat → Nat → Frc} {i k : Nat} {s : Frc} (h : BInv n Q (done2 i k) s) (hQ : FPos Q n) (hc : Cand n Q i k) (hl : ¬ fle s (Q i k)) (hsm : smallF (Q i k)) : BInv n Q (done2 i (k + 1)) (lo (Q i k)) where
  pos := ⟨(lo_pos (hQ i k hc.1 hc.2.1).1 (hQ i k hc.1 hc.2.1).2).1, (lo_pos (hQ i k hc.1 hc.2.1).1 (hQ i k hc.1 hc.2.1).2).2.1⟩
  low := lo_lo (hQ i k hc.1 hc.2.1).1 (hQ i k hc.1 hc.2.1).2
  small := by
    have p := lo_pos (hQ i k hc.1 hc.2.1).1 (hQ i k hc.1 hc.2.1).2
    exact ⟨by have := hsm.1; omega, by have := hsm.2; omega⟩
  le t ht := by
    have hp := hQ i k hc.1 hc.2.1
    rw [fle_lo_left hp.1]
    have hle : fle (Q i k) s := (fle_total s (Q i k)).resolve_left hl
    constructor
    · intro h1; exact .inr ⟨i, k, by unfold done2; omega, hc, h1⟩
    · intro h1
      by_cases hst : fle s t
      · exact fle_trans h.pos.2 hle hst
      · rcases h1 with h1 | ⟨a, b, hd, hc', hl'⟩
        · exact absurd ((h.le t ht).2 (.inl h1)) hst
        · by_cases he : a = i ∧ b = k
          · obtain ⟨rfl, rfl⟩ := he; exact hl'
          · exact absurd ((h.le t ht).2 (.inr ⟨a, b, by unfold done2 at *; omega, hc', hl'⟩)) hst

theorem BInv.row {n : Nat} {Q : Nat → Nat → Frc} {i : Nat} {s : Frc} (h : BInv n Q (done2 i n) s) : BInv n Q (done2 (i + 1) 0) s where
  pos := h.pos
  low := h.low
  small := h.small
  le t ht := by
    rw [h.le t ht]
    constructor
    · rintro (h1 | ⟨a, b, hd, hc, hl⟩)
      · exact .inl h1
      · exact .inr ⟨a, b, by unfold done2 at *; omega, hc, hl⟩
    · rintro (h1 | ⟨a, b, hd, hc, hl⟩)
      · exact .inl h1
      · exact .inr ⟨a, b, by have := hc.2.1; unfold done2 at *; omega, hc, hl⟩

theorem BInv.share {n : Nat} {Q : Nat → Nat → Frc} {s : Frc} (h : BInv n Q (done2 n 0) s) (hQ : FPos Q n) (h1 : ∀ i, i < n → (Q i i).1 = (Q i i).2) : IsShare n Q s where
  pos := h.pos
  low := h.low
  le t ht := by
    rw [h.le t ht, ← cyc_cand hQ h1]
    constructor
    · rintro (h2 | ⟨i, k, _, hc⟩)
      · exact .inl h2
      · exact .inr ⟨i, k, hc⟩
    · rintro (h2 | ⟨i, k, hc⟩)
      · exact .inl h2
      · exact .inr ⟨i, k, by have := hc.1.1; unfold done2; omega, hc⟩

/-- the memory of the search -/
structure SM19 (X : List Obs) (H : Heap) (B : Nat) (s : Frc) : Prop where
  m : H[0]? = some (.cells (mX X) true)
  b : H[B]? = some (.cells [.i .i64 (s.1 : Int), .i .i64 (s.2 : Int)] true)
  ne : B ≠ 0

theorem SM19.push {X : List Obs} {H : Heap} {B : Nat} {s : Frc} (h : SM19 X H B s) (c : List TV) : SM19 X (H ++ [.cells c true]) B s where
  m := by rw [List.getElem?_append_left (List.getElem?_eq_some_iff.1 h.m).1]; exact h.m
  b := by rw [List.getElem?_append_left (List.getElem?_eq_some_iff.1 h.b).1]; exact h.b
  ne := h.ne

theorem SM19.set {X : List Obs} {H : Heap} {B : Nat} {s u : Frc} (h : SM19 X H B s) : SM19 X (H.set B (.cells [.i .i64 (u.1 : Int), .i .i64 (u.2 : Int)] true)) B u where
  m := by rw [List.getElem?_set_ne h.ne]; exact h.m
  b := by rw [List.getElem?_set_self (List.getElem?_eq_some_iff.1 h.b).1]
  ne := h.ne

theorem ld2 {pg : Pg} {R : Rec} {H : Heap} {id : Nat} {p q : Int} (h : H[id]? = some (.cells [.i .i64 p, .i .i64 q] true)) : dkc pg R (.ld 2 true) [.ref id 0] H = some (.agg [.i .i64 p, .i .i64 q], H) := by
  rw [k_ldR, h, ldC_some]; simp [Dn.part, up]

end Go.Proofs.Tryd.Dn

/-
  The share of a taste: the reference's.
-/

namespace Go.Proofs.Tryd.Dn
open Go.Dn

/-! the closure -/

def FSm (Q : Nat → Nat → Frc) (n : Nat) : Prop := ∀ i k, i < n → k < n → smallF (Q i k)
theorem fmax_small {x y : Frc} (hx : smallF x) (hy : smallF y) : smallF (fmax x y) := by unfold fmax; split <;> assumption
/-! the least of all rounds -/

/-- which pairs have been looked at, each once -/
structure RInv (n : Nat) (W : Nat → Nat → Frc) (i k : Nat) (s : Frc) : Prop where
  pos : 1 ≤ s.1 ∧ 1 ≤ s.2
  small : smallF s
  le : ∀ t : Frc, 1 ≤ t.2 → (fle s t ↔ fle (1, 1) t ∨ ∃ a b, a < n ∧ b < a ∧ done2 i k a b ∧ fle (W a b) t ∧ fle (W b a) t)

theorem RInv.init (n : Nat) (W : Nat → Nat → Frc) : RInv n W 0 0 (1, 1) where
  pos := ⟨Nat.le_refl _, Nat.le_refl _⟩
  small := ⟨by decide, by decide⟩
  le t _ := ⟨.inl, fun h => h.elim id fun ⟨i, k, _, _, hd, _⟩ => by unfold done2 at hd; omega⟩

theorem RInv.step {n : Nat} {W : Nat → Nat → Frc} {i k : Nat} {s : Frc} (h : RInv n W i k s) (hW : FPos W n) (hS : FSm W n) (hi : i < n) (hk : k < i) : RInv n W i (k + 1) (if fle s (fmax (W i k) (W k i)) then s else fmax (W i k) (W k i)) := by
  have p1 := hW i k hi (by omega)
  have p2 := hW k i (by omega) hi
  have hp := fmax_pos p1 p2
  have hmx : ∀ t, fle (fmax (W i k) (W k i)) t ↔ fle (W i k) t ∧ fle (W k i) t := fun t => fmax_le p1.2 p2.2
  have hd : ∀ t, ((∃ a b, a < n ∧ b < a ∧ done2 i (k + 1) a b ∧ fle (W a b) t ∧ fle (W b a) t) ↔ (∃ a b, a < n ∧ b < a ∧ done2 i k a b ∧ fle (W a b) t ∧ fle (W b a) t) ∨ fle (fmax (W i k) (W k i)) t) := by
    intro t
    rw [hmx]
    constructor
    · rintro ⟨a, b, ha, hb, hd, h1, h2⟩
      by_cases he : a = i ∧ b = k
      · obtain ⟨rfl, rfl⟩ := he; exact .inr ⟨h1, h2⟩
      · exact .inl ⟨a, b, ha, hb, by unfold done2 at *; omega, h1, h2⟩
    · rintro (⟨a, b, ha, hb, hd, h1, h2⟩ | ⟨h1, h2⟩)
      · exact ⟨a, b, ha, hb, by unfold done2 at *; omega, h1, h2⟩
      · exact ⟨i, k, hi, hk, by unfold done2; omega, h1, h2⟩
  split
  · rename_i hle
    refine ⟨h.pos, h.small, fun t ht => ?_⟩
    rw [hd t, ← or_assoc, ← h.le t ht]
    exact ⟨.inl, fun hh => hh.elim id fun h1 => fle_trans hp.2 hle h1⟩
  · rename_i hle
    have hle' := (fle_total s _).resolve_left hle
    refine ⟨hp, fmax_small (hS i k hi (by omega)) (hS k i (by omega) hi), fun t ht => ?_⟩
    rw [hd t, ← or_assoc, ← h.le t ht]
    exact ⟨.inr, fun hh => hh.elim (fun h1 => fle_trans h.pos.2 hle' h1) id⟩

theorem RInv.row {n : Nat} {W : Nat → Nat → Frc} {i : Nat} {s : Frc} (h : RInv n W i i s) : RInv n W (i + 1) 0 s := by
  refine ⟨h.pos, h.small, fun t ht => ?_⟩
  rw [h.le t ht]
  constructor
  · rintro (h1 | ⟨a, b, ha, hb, hd, h1⟩)
    · exact .inl h1
    · exact .inr ⟨a, b, ha, hb, by unfold done2 at *; omega, h1⟩
  · rintro (h1 | ⟨a, b, ha, hb, hd, h1⟩)
    · exact .inl h1
    · exact .inr ⟨a, b, ha, hb, by unfold done2 at *; omega, h1⟩

theorem RInv.share {n : Nat} {Q : Nat → Nat → Frc} {s : Frc} (h : RInv n (fall Q n) n 0 s) (hQ : FPos Q n) : IsShare n Q (lo s) where
  pos := ⟨(lo_pos h.pos.1 h.pos.2).1, (lo_pos h.pos.1 h.pos.2).2.1⟩
  low := lo_lo h.pos.1 h.pos.2
  le t ht := by
    rw [fle_lo_left h.pos.1, h.le t ht]
    constructor
    · rintro (h1 | ⟨a, b, ha, hb, _, h1, h2⟩)
      · exact .inl h1
      · exact .inr ⟨a, b, ha, by omega, by omega, ((fall_rch hQ ha (by omega)).1 h1).rch, ((fall_rch hQ (by omega) ha).1 h2).rch⟩
    · rintro (h1 | ⟨a, b, ha, hb, hne, h1, h2⟩)
      · exact .inl h1
      · have w1 := (fall_rch hQ ha hb).2 (h1.rch1 hne)
        have w2 := (fall_rch hQ hb ha).2 (h2.rch1 (Ne.symm hne))
        by_cases hab : b < a
        · exact .inr ⟨a, b, ha, hab, by unfold done2; omega, w1, w2⟩
        · exact .inr ⟨b, a, hb, by omega, by unfold done2; omega, w2, w1⟩

end Go.Proofs.Tryd.Dn

/-
  The share of a taste: the reference's, joined.
-/

namespace Go.Proofs.Tryd.Dn
open Go.Dn

/-- the memory of the last search -/
structure SM21 (HT H : Heap) (B : Nat) (s : Frc) : Prop where
  old : ∀ j, j < HT.length → H[j]? = HT[j]?
  b : H[B]? = some (.cells [.i .i64 (s.1 : Int), .i .i64 (s.2 : Int)] true)
  le : HT.length ≤ B

theorem SM21.push {HT H : Heap} {B : Nat} {s : Frc} (h : SM21 HT H B s) (c : List TV) : SM21 HT (H ++ [.cells c true]) B s where
  old j hj := by
    have := (List.getElem?_eq_some_iff.1 h.b).1
    have := h.le
    rw [List.getElem?_append_left (by omega)]; exact h.old j hj
  b := by rw [List.getElem?_append_left (List.getElem?_eq_some_iff.1 h.b).1]; exact h.b
  le := h.le

theorem SM21.set {HT H : Heap} {B : Nat} {s u : Frc} (h : SM21 HT H B s) : SM21 HT (H.set B (.cells [.i .i64 (u.1 : Int), .i .i64 (u.2 : Int)] true)) B u where
  old j hj := by have := h.le; rw [List.getElem?_set_ne (by omega)]; exact h.old j hj
  b := by rw [List.getElem?_set_self (List.getElem?_eq_some_iff.1 h.b).1]
  le := h.le

end Go.Proofs.Tryd.Dn

