/-
  Shares as fractions; the least share of a round, in plain terms.
-/
import Derived.Test.YtgmlmmgpcbollaaDoorQl
import Derived.Test.YtgmlmmgpcbollaaDoorDd
set_option linter.unusedSimpArgs false
set_option linter.unusedVariables false

namespace Go.Proofs.Tryd.Dn
open Go.Dn

abbrev Frc := Nat × Nat
def fle (x y : Frc) : Prop := x.1 * y.2 ≤ y.1 * x.2
instance (x y : Frc) : Decidable (fle x y) := inferInstanceAs (Decidable (_ ≤ _))

theorem fle_refl (x : Frc) : fle x x := Nat.le_refl _
theorem fle_total (x y : Frc) : fle x y ∨ fle y x := Nat.le_total _ _
theorem fle_trans {x y z : Frc} (hy : 0 < y.2) (h1 : fle x y) (h2 : fle y z) : fle x z := by
  unfold fle at *
  refine Nat.le_of_mul_le_mul_right ?_ hy
  calc x.1 * z.2 * y.2 = x.1 * y.2 * z.2 := by rw [Nat.mul_right_comm]
    _ ≤ y.1 * x.2 * z.2 := Nat.mul_le_mul_right _ h1
    _ = y.1 * z.2 * x.2 := by rw [Nat.mul_right_comm]
    _ ≤ z.1 * y.2 * x.2 := Nat.mul_le_mul_right _ h2
    _ = z.1 * x.2 * y.2 := by rw [Nat.mul_right_comm]

def lo (x : Frc) : Frc := (x.1 / Nat.gcd x.1 x.2, x.2 / Nat.gcd x.1 x.2)

theorem lo_mul {x : Frc} (h : 1 ≤ x.1) : ∃ g, 0 < g ∧ x.1 = (lo x).1 * g ∧ x.2 = (lo x).2 * g ∧ Nat.gcd (lo x).1 (lo x).2 = 1 := by
  have hg : 0 < Nat.gcd x.1 x.2 := Nat.gcd_pos_of_pos_left _ (by omega)
  exact ⟨Nat.gcd x.1 x.2, hg, (Nat.div_mul_cancel (Nat.gcd_dvd_left _ _)).symm, (Nat.div_mul_cancel (Nat.gcd_dvd_right _ _)).symm, Nat.gcd_div_gcd_div_gcd_of_pos_left (by omega)⟩

theorem lo_pos {x : Frc} (h : 1 ≤ x.1) (h2 : 1 ≤ x.2) : 1 ≤ (lo x).1 ∧ 1 ≤ (lo x).2 ∧ (lo x).1 ≤ x.1 ∧ (lo x).2 ≤ x.2 := by
  obtain ⟨g, hg, e1, e2, _⟩ := lo_mul h
  have h3 := Nat.div_le_self x.1 (Nat.gcd x.1 x.2)
  have h4 := Nat.div_le_self x.2 (Nat.gcd x.1 x.2)
  refine ⟨?_, ?_, h3, h4⟩
  · rcases Nat.eq_zero_or_pos (lo x).1 with h0 | h0
    · rw [h0, Nat.zero_mul] at e1; omega
    · exact h0
  · rcases Nat.eq_zero_or_pos (lo x).2 with h0 | h0
    · rw [h0, Nat.zero_mul] at e2; omega
    · exact h0

theorem fle_lo_left {x t : Frc} (h : 1 ≤ x.1) : fle (lo x) t ↔ fle x t := by
  obtain ⟨g, hg, e1, e2, _⟩ := lo_mul h
  unfold fle
  constructor
  · intro hh
    rw [e1, e2, Nat.mul_right_comm, ← Nat.mul_assoc]
    exact Nat.mul_le_mul_right _ hh
  · intro hh
    rw [e1, e2, Nat.mul_right_comm, ← Nat.mul_assoc] at hh
    exact Nat.le_of_mul_le_mul_right hh hg

theorem fle_lo_right {x t : Frc} (h : 1 ≤ t.1) : fle x (lo t) ↔ fle x t := by
  obtain ⟨g, hg, e1, e2, _⟩ := lo_mul h
  unfold fle
  constructor
  · intro hh
    rw [e1, e2, ← Nat.mul_assoc, Nat.mul_right_comm (lo t).1]
    exact Nat.mul_le_mul_right _ hh
  · intro hh
    rw [e1, e2, ← Nat.mul_assoc, Nat.mul_right_comm (lo t).1] at hh
    exact Nat.le_of_mul_le_mul_right hh hg

theorem coprime_eq {a b c d : Nat} (h1 : Nat.gcd a b = 1) (h2 : Nat.gcd c d = 1) (hb : 0 < b) (ha : 0 < a) (h : a * d = c * b) : a = c ∧ b = d := by
  have k1 : a ∣ c := Nat.Coprime.dvd_of_dvd_mul_right h1 ⟨d, h.symm⟩
  have k2 : c ∣ a := Nat.Coprime.dvd_of_dvd_mul_right h2 ⟨b, h⟩
  have e := Nat.dvd_antisymm k1 k2
  subst e
  exact ⟨rfl, (Nat.eq_of_mul_eq_mul_left ha h).symm⟩

/-- in lowest terms there is but one fraction of each size -/
theorem lo_unique {x y : Frc} (hx : 1 ≤ x.1) (hx2 : 1 ≤ x.2) (hy : 1 ≤ y.1) (hy2 : 1 ≤ y.2) (h1 : fle x y) (h2 : fle y x) : lo x = lo y := by
  obtain ⟨g, hg, e1, e2, e3⟩ := lo_mul hx
  obtain ⟨k, hk, f1, f2, f3⟩ := lo_mul hy
  have p := lo_pos hx hx2
  rw [← fle_lo_left hx, ← fle_lo_right hy] at h1
  rw [← fle_lo_left hy, ← fle_lo_right hx] at h2
  unfold fle at h1 h2
  obtain ⟨q1, q2⟩ := coprime_eq e3 f3 p.2.1 p.1 (Nat.le_antisymm h1 h2)
  exact Prod.ext q1 q2

theorem lo_lo {x : Frc} (hx : 1 ≤ x.1) (hx2 : 1 ≤ x.2) : lo (lo x) = lo x := by
  have p := lo_pos hx hx2
  exact lo_unique p.1 p.2.1 hx hx2 ((fle_lo_left hx).2 (fle_refl x)) ((fle_lo_right hx).2 (fle_refl x))

/-! the closure of a table of fractions -/

def fmax (x y : Frc) : Frc := if fle y x then x else y
def fstep (j : Nat) (Q : Nat → Nat → Frc) : Nat → Nat → Frc := fun i k => if fle (Q i k) (fmax (Q i j) (Q j k)) then Q i k else fmax (Q i j) (Q j k)
def fall (Q : Nat → Nat → Frc) : Nat → Nat → Nat → Frc
  | 0 => Q
  | j + 1 => fstep j (fall Q j)

def FPos (Q : Nat → Nat → Frc) (n : Nat) : Prop := ∀ i k, i < n → k < n → 1 ≤ (Q i k).1 ∧ 1 ≤ (Q i k).2

theorem fmax_le {x y t : Frc} (hx : 0 < x.2) (hy : 0 < y.2) : fle (fmax x y) t ↔ fle x t ∧ fle y t := by
  unfold fmax
  split
  · rename_i h; exact ⟨fun h1 => ⟨h1, fle_trans hx h h1⟩, fun h1 => h1.1⟩
  · rename_i h
    have h' := (fle_total x y).resolve_right h
    exact ⟨fun h1 => ⟨fle_trans hy h' h1, h1⟩, fun h1 => h1.2⟩

theorem fmax_pos {x y : Frc} (hx : 1 ≤ x.1 ∧ 1 ≤ x.2) (hy : 1 ≤ y.1 ∧ 1 ≤ y.2) : 1 ≤ (fmax x y).1 ∧ 1 ≤ (fmax x y).2 := by
  unfold fmax; split <;> assumption

theorem fstep_pos {Q : Nat → Nat → Frc} {n : Nat} (h : FPos Q n) {j : Nat} (hj : j < n) : FPos (fstep j Q) n := by
  intro i k hi hk
  unfold fstep
  split
  · exact h i k hi hk
  · exact fmax_pos (h i j hi hj) (h j k hj hk)

theorem fall_pos {Q : Nat → Nat → Frc} {n : Nat} (h : FPos Q n) : ∀ j, j ≤ n → FPos (fall Q j) n
  | 0, _ => h
  | j + 1, hj => fstep_pos (fall_pos h j (by omega)) (by omega)

theorem fstep_le {Q : Nat → Nat → Frc} {n : Nat} (h : FPos Q n) {j i k : Nat} (hj : j < n) (hi : i < n) (hk : k < n) {t : Frc} : fle (fstep j Q i k) t ↔ fle (Q i k) t ∨ (fle (Q i j) t ∧ fle (Q j k) t) := by
  have p1 := (h i j hi hj).2
  have p2 := (h j k hj hk).2
  have p3 := (h i k hi hk).2
  have pm := (fmax_pos (h i j hi hj) (h j k hj hk)).2
  rw [← fmax_le p1 p2]
  unfold fstep
  split
  · rename_i hh; exact ⟨.inl, fun h1 => h1.elim id fun h2 => fle_trans pm hh h2⟩
  · rename_i hh
    have hh' := (fle_total (Q i k) (fmax (Q i j) (Q j k))).resolve_left hh
    exact ⟨.inr, fun h1 => h1.elim (fun h2 => fle_trans p3 hh' h2) id⟩

/-- which entries are at most so great -/
def fT (n : Nat) (Q : Nat → Nat → Frc) (t : Frc) (i k : Nat) : Bool := decide (i < n) && decide (k < n) && decide (fle (Q i k) t)

theorem fT_iff {n : Nat} {Q : Nat → Nat → Frc} {t : Frc} {i k : Nat} : fT n Q t i k = true ↔ i < n ∧ k < n ∧ fle (Q i k) t := by simp [fT, and_assoc]

theorem fall_le {Q : Nat → Nat → Frc} {n : Nat} (h : FPos Q n) (t : Frc) : ∀ j, j ≤ n → ∀ i k, i < n → k < n → (fle (fall Q j i k) t ↔ wall (fT n Q t) j i k = true)
  | 0, _, i, k, hi, hk => by simp [fall, wall, fT, hi, hk]
  | j + 1, hj, i, k, hi, hk => by
    have ih := fall_le h t j (by omega)
    show fle (fstep j (fall Q j) i k) t ↔ _
    rw [fstep_le (fall_pos h j (by omega)) (by omega) hi hk, ih i k hi hk, ih i j hi (by omega), ih j k (by omega) hk]
    simp [wall, wstep]

theorem fall_rch {Q : Nat → Nat → Frc} {n : Nat} (h : FPos Q n) {t : Frc} {i k : Nat} (hi : i < n) (hk : k < n) : fle (fall Q n i k) t ↔ Rch1 (fT n Q t) i k := by
  rw [fall_le h t n (Nat.le_refl _) i k hi hk]
  exact wall_iff fun i k h => (fT_iff.1 h).2.1

theorem Rch_mono {E F : Nat → Nat → Bool} (h : ∀ i k, E i k = true → F i k = true) {a b : Nat} (hr : Rch E a b) : Rch F a b := by
  induction hr with
  | here => exact .here
  | step _ he ih => exact .step ih (h _ _ he)

theorem fT_mono {n : Nat} {Q : Nat → Nat → Frc} (h : FPos Q n) {s t : Frc} (hs : 0 < s.2) (hst : fle s t) (i k : Nat) (he : fT n Q s i k = true) : fT n Q t i k = true := by
  obtain ⟨a, b, c⟩ := fT_iff.1 he
  exact fT_iff.2 ⟨a, b, fle_trans hs c hst⟩

/-- each entry of the closure is one of the table, on a way -/
theorem fall_at {Q : Nat → Nat → Frc} {n : Nat} (h : FPos Q n) : ∀ j, j ≤ n → ∀ i k, i < n → k < n → ∃ x y, x < n ∧ y < n ∧ fall Q j i k = Q x y ∧ Rch (fT n Q (Q x y)) i x ∧ Rch (fT n Q (Q x y)) y k
  | 0, _, i, k, hi, hk => ⟨i, k, hi, hk, rfl, .here, .here⟩
  | j + 1, hj, i, k, hi, hk => by
    have hjn : j < n := by omega
    have hp := fall_pos h j (by omega)
    have ih := fall_at h j (by omega)
    have key : ∀ a b, a < n → b < n → fall Q j a b = fall Q j a b → ∀ s : Frc, 0 < s.2 → fle (fall Q j a b) s → Rch (fT n Q s) a b := by
      intro a b ha hb _ s hs hle
      have := (fall_le h s j (by omega) a b ha hb).1 hle
      exact (wall_sound _ _ this).rch
    show ∃ x y, x < n ∧ y < n ∧ fstep j (fall Q j) i k = Q x y ∧ _
    unfold fstep
    split
    · exact ih i k hi hk
    · unfold fmax
      split
      · rename_i hm
        obtain ⟨x, y, hx, hy, e, r1, r2⟩ := ih i j hi hjn
        rw [e] at hm
        exact ⟨x, y, hx, hy, e, r1, r2.trans (key j k hjn hk rfl _ (h x y hx hy).2 hm)⟩
      · rename_i hm
        have hm' := (fle_total _ _).resolve_right hm
        obtain ⟨x, y, hx, hy, e, r1, r2⟩ := ih j k hjn hk
        rw [e] at hm'
        exact ⟨x, y, hx, hy, e, (key i j hi hjn rfl _ (h x y hx hy).2 hm').trans r1, r2⟩

/-- a round of more than one -/
def Cyc (E : Nat → Nat → Bool) (n : Nat) : Prop := ∃ i k, i < n ∧ k < n ∧ i ≠ k ∧ Rch E i k ∧ Rch E k i

/-- a pair by which the program finds it -/
def Cand (n : Nat) (Q : Nat → Nat → Frc) (i k : Nat) : Prop := i < n ∧ k < n ∧ i ≠ k ∧ Rch (fT n Q (Q i k)) k i

theorem cyc_cand {Q : Nat → Nat → Frc} {n : Nat} (h : FPos Q n) (h1 : ∀ i, i < n → (Q i i).1 = (Q i i).2) {t : Frc} : (fle (1, 1) t ∨ ∃ i k, Cand n Q i k ∧ fle (Q i k) t) ↔ (fle (1, 1) t ∨ Cyc (fT n Q t) n) := by
  constructor
  · rintro (hh | ⟨i, k, ⟨hi, hk, hne, hr⟩, hle⟩)
    · exact .inl hh
    · have hmono := fT_mono h (h i k hi hk).2 hle
      exact .inr ⟨i, k, hi, hk, hne, .step .here (fT_iff.2 ⟨hi, hk, hle⟩), Rch_mono hmono hr⟩
  · rintro (hh | ⟨i, k, hi, hk, hne, r1, r2⟩)
    · exact .inl hh
    · have w1 := (fall_rch h hi hk).2 (r1.rch1 hne)
      have w2 := (fall_rch h hk hi).2 (r2.rch1 (Ne.symm hne))
      have main : ∀ i k, i < n → k < n → fle (fall Q n i k) t → fle (fall Q n k i) (fall Q n i k) → (fle (1, 1) t ∨ ∃ i k, Cand n Q i k ∧ fle (Q i k) t) := by
        intro i k hi hk hw hm
        obtain ⟨x, y, hx, hy, e, q1, q2⟩ := fall_at h n (Nat.le_refl _) i k hi hk
        rw [e] at hw hm
        have q3 := ((fall_rch h hk hi).1 hm).rch
        by_cases hxy : x = y
        · subst hxy
          have := h1 x hx
          have hp := (h x x hx hx).2
          refine .inl ?_
          have e1 : fle (1, 1) (Q x x) := by unfold fle; rw [this]; show 1 * _ ≤ _ * 1; omega
          exact fle_trans hp e1 hw
        · exact .inr ⟨x, y, ⟨hx, hy, hxy, (q2.trans q3).trans q1⟩, hw⟩
      rcases fle_total (fall Q n k i) (fall Q n i k) with hm | hm
      · exact main i k hi hk w1 hm
      · exact main k i hk hi w2 hm

/-- what the share of a taste is -/
structure IsShare (n : Nat) (Q : Nat → Nat → Frc) (s : Frc) : Prop where
  pos : 1 ≤ s.1 ∧ 1 ≤ s.2
  low : lo s = s
  le : ∀ t : Frc, 1 ≤ t.2 → (fle s t ↔ fle (1, 1) t ∨ Cyc (fT n Q t) n)

theorem IsShare.unique {n m : Nat} {Q P : Nat → Nat → Frc} {s u : Frc} (hs : IsShare n Q s) (hu : IsShare m P u) (h : ∀ t : Frc, 1 ≤ t.2 → (Cyc (fT n Q t) n ↔ Cyc (fT m P t) m)) : s = u := by
  have h1 : fle s u := (hs.le u hu.pos.2).2 (((hu.le u hu.pos.2).1 (fle_refl u)).imp id (h u hu.pos.2).2)
  have h2 : fle u s := (hu.le s hs.pos.2).2 (((hs.le s hs.pos.2).1 (fle_refl s)).imp id (h s hs.pos.2).1)
  rw [← hs.low, ← hu.low]
  exact lo_unique hs.pos.1 hs.pos.2 hu.pos.1 hu.pos.2 h1 h2

/-- the quotients of costs -/
def qF (X : List Obs) (i k : Nat) : Frc := (cN X i k, cN X i i)

theorem qF_pos {X : List Obs} {g : Nat} (hm : Market X g) : FPos (qF X) X.length := fun i k hi hk => ⟨(hm.cN hi hk).2.1, (hm.cN hi hi).2.1⟩
theorem qF_one (X : List Obs) (i : Nat) : (qF X i i).1 = (qF X i i).2 := rfl

theorem pref_fle {X : List Obs} {g : Nat} (hm : Market X g) {i k : Nat} (hi : i < X.length) (hk : k < X.length) (t : Frc) : 0 < pref X t.1 t.2 i k ↔ fle (qF X i k) t := by
  obtain ⟨e1, _, _⟩ := hm.cN hi hk
  obtain ⟨e2, _, _⟩ := hm.cN hi hi
  unfold pref fle qF
  rw [e1, e2]
  have key : ((t.2 : Int) * (cN X i k : Int) ≤ (t.1 : Int) * (cN X i i : Int)) ↔ cN X i k * t.2 ≤ t.1 * cN X i i := by
    rw [Nat.mul_comm (cN X i k)]
    constructor
    · intro h; exact_mod_cast h
    · intro h; exact_mod_cast h
  simp only []
  rw [← key]
  split
  · omega
  · split
    · omega
    · omega

theorem tE_fT {X : List Obs} {g : Nat} (hm : Market X g) (t : Frc) : tE X.length (pref X t.1 t.2) = fT X.length (qF X) t := by
  funext i k
  unfold tE fT
  by_cases hi : i < X.length
  · by_cases hk : k < X.length
    · simp only [hi, hk, decide_true, Bool.true_and]
      rw [Bool.eq_iff_iff, decide_eq_true_eq, decide_eq_true_eq]
      exact pref_fle hm hi hk t
    · simp [hk]
  · simp [hi]

end Go.Proofs.Tryd.Dn

/-
  The share of a taste: the program's.
-/

namespace Go.Proofs.Tryd.Dn
open Go.Dn

def frV (x : Frc) : TV := .agg [.i .i64 (x.1 : Int), .i .i64 (x.2 : Int)]
theorem lowV_lo (x : Frc) : lowV x.1 x.2 = frV (lo x) := rfl
theorem frV_eq (x : Frc) : frV x = .agg [.i .i64 (x.1 : Int), .i .i64 (x.2 : Int)] := rfl

def smallF (x : Frc) : Prop := x.1 ≤ 2000 ∧ x.2 ≤ 2000

theorem mul_small {a b : Nat} (ha : a ≤ 2000) (hb : b ≤ 2000) : wrapR .i64 ((a : Int) * (b : Int)) = .i .i64 ((a * b : Nat) : Int) := by
  have h1 : a * b ≤ 2000 * 2000 := Nat.mul_le_mul ha hb
  rw [show (a : Int) * (b : Int) = ((a * b : Nat) : Int) by simp]
  exact wrapR_i64 (by omega)

theorem call55 {pg : Pg} (hF : Free pg) {x y : Frc} (hx : smallF x) (hy : smallF y) (H : Heap) : callRun pg (den pg) (.pu []) [.fn 55 [] [], frV x, frV y] H = some (.b (decide (¬ fle y x)), H) := by
  have m1 := mul_small hx.1 hy.2
  have m2 := mul_small hy.1 hx.2
  have hd : pg.F 55 = some d55 := by rw [hF.F]; rfl
  refine PFn.call (xs := [frV x, frV y]) (.of1 (x := .ret) (e := [(4, .b (decide (¬ fle y x)))]) (H' := [.cells [.i .i64 (x.1 : Int), .i .i64 (x.2 : Int)] true, .cells [.i .i64 (y.1 : Int), .i .i64 (y.2 : Int)] true]) (hF.S _ _ (by decide)) hd rfl ?_ (.inl rfl) rfl (by simp [sn_i, sn_b, sn_nil, sn8_i, sn8_b, sn8_nil, sn7_i, sn7_b, sn_sl, sn8_sl, slB_some, sn_tup, sn_agg, sn8_agg, mapO, elems])) (args := [frV x, frV y]) (by simp [snapArgs, sn_i, sn_b, sn_nil, sn8_i, sn8_b, sn8_nil, sn7_i, sn7_b, sn_sl, sn8_sl, slB_some, sn_tup, sn_agg, sn8_agg, mapO, elems, frV])
  by_cases he : x = y
  · subst he
    have : ¬ ¬ fle x x := fun h => h (fle_refl x)
    simp [d55, c55, zipE, go_nil, go_last, go_past, go_pastR, go_blkN, go_blkR, go_blkE, go_skip, go_exit, go_ret, go_scope, go_seq, go_reg, go_block, go_cond, cnd_b, go_opsN, go_ops, go_opsG, grd_b, grd_u, stp_some, fin_some, up_some, cont_some, k_call, k_mv, k_pick, k_bin, k_eqB, k_eqA, k_not, k_neg, k_conv, k_alloc, k_boxA, k_boxI, k_boxB, k_boxN, k_boxBs, k_ldR, k_ldA, k_ldI, k_ldB, k_stA, k_stI, k_stB, ldC_some, stC_some, k_mkfn, k_slc, k_slcA, k_ixA, k_ixBs, k_ixSl, k_fadr, k_fld, k_ext, k_len, k_app, k_mn, k_mx, k_nilck, k_build, k_bsl1, k_bsl2, b_add, b_sub, b_mul, b_eql, b_neq, b_lss, b_leq, b_gtr, b_geq, Dn.setLast, Dn.getLast, evalO, mapO, Dn.get, putE, keepE, TV.one, TV.isAgg, Dn.part, frV, eqL, eqK, eqS, negb, this, fle_refl]
  · have hne : ((x.1 : Int) == (y.1 : Int) && (x.2 : Int) == (y.2 : Int)) = false := by
      rw [Bool.eq_false_iff]
      intro h
      simp only [Bool.and_eq_true, beq_iff_eq] at h
      exact he (Prod.ext (by omega) (by omega))
    have hdec : decide (((x.1 * y.2 : Nat) : Int) < ((y.1 * x.2 : Nat) : Int)) = decide (¬ fle y x) := by
      rw [decide_eq_decide]; unfold fle; omega
    simp only [frV_eq]
    generalize ((x.1 * y.2 : Nat) : Int) = A at *
    generalize ((y.1 * x.2 : Nat) : Int) = B at *
    generalize decide (¬ fle y x) = D at *
    generalize (x.1 : Int) = x1 at *
    generalize (x.2 : Int) = x2 at *
    generalize (y.1 : Int) = y1 at *
    generalize (y.2 : Int) = y2 at *
    have hq : eqL [true, true] [TV.i .i64 x1, TV.i .i64 x2] [TV.i .i64 y1, TV.i .i64 y2] = some (x1 == y1 && x2 == y2) := by
      simp [eqL, eqK, eqS]
    rw [hne] at hq
    simp [d55, c55, zipE, go_nil, go_last, go_past, go_pastR, go_blkN, go_blkR, go_blkE, go_skip, go_exit, go_ret, go_scope, go_seq, go_reg, go_block, go_cond, cnd_b, go_opsN, go_ops, go_opsG, grd_b, grd_u, stp_some, fin_some, up_some, cont_some, k_call, k_mv, k_pick, k_bin, k_eqB, k_eqA, k_not, k_neg, k_conv, k_alloc, k_boxA, k_boxI, k_boxB, k_boxN, k_boxBs, k_ldR, k_ldA, k_ldI, k_ldB, k_stA, k_stI, k_stB, ldC_some, stC_some, k_mkfn, k_slc, k_slcA, k_ixA, k_ixBs, k_ixSl, k_fadr, k_fld, k_ext, k_len, k_app, k_mn, k_mx, k_nilck, k_build, k_bsl1, k_bsl2, b_add, b_sub, b_mul, b_eql, b_neq, b_lss, b_leq, b_gtr, b_geq, Dn.setLast, Dn.getLast, evalO, mapO, Dn.get, putE, keepE, TV.one, TV.isAgg, Dn.part, frV, hq, negb, m1, m2, hdec]

/-- which pairs have been looked at -/
def done2 (i k : Nat) (a b : Nat) : Prop := a < i ∨ a = i ∧ b < k

structure BInv (n : Nat) (Q : Nat → Nat → Frc) (D : Nat → Nat → Prop) (s : Frc) : Prop where
  pos : 1 ≤ s.1 ∧ 1 ≤ s.2
  low : lo s = s
  small : smallF s
  le : ∀ t : Frc, 1 ≤ t.2 → (fle s t ↔ fle (1, 1) t ∨ ∃ i k, D i k ∧ Cand n Q i k ∧ fle (Q i k) t)

theorem BInv.init (n : Nat) (Q : Nat → Nat → Frc) : BInv n Q (done2 0 0) (1, 1) where
  pos := ⟨Nat.le_refl _, Nat.le_refl _⟩
  low := by decide
  small := ⟨by decide, by decide⟩
  le t _ := ⟨.inl, fun h => h.elim id fun ⟨i, k, hd, _⟩ => by unfold done2 at hd; omega⟩

theorem BInv.skip {n : Nat} {Q : Nat → Nat → Frc} {i k : Nat} {s : Frc} (h : BInv n Q (done2 i k) s) (hQ : FPos Q n) (hno : ¬ (Cand n Q i k ∧ ¬ fle s (Q i k))) : BInv n Q (done2 i (k + 1)) s where
  pos := h.pos
  low := h.low
  small := h.small
  le t ht := by
    rw [h.le t ht]
    constructor
    · rintro (h1 | ⟨a, b, hd, hc, hl⟩)
      · exact .inl h1
      · exact .inr ⟨a, b, by unfold done2 at *; omega, hc, hl⟩
    · rintro (h1 | ⟨a, b, hd, hc, hl⟩)
      · exact .inl h1
      · by_cases he : a = i ∧ b = k
        · obtain ⟨rfl, rfl⟩ := he
          have hs : fle s (Q a b) := Classical.byContradiction fun hh => hno ⟨hc, hh⟩
          exact (h.le t ht).1 (fle_trans (hQ a b hc.1 hc.2.1).2 hs hl)
        · exact .inr ⟨a, b, by unfold done2 at *; omega, hc, hl⟩

theorem BInv.take {n : Nat} {Q : Nat → Nat → Frc} {i k : Nat} {s : Frc} (h : BInv n Q (done2 i k) s) (hQ : FPos Q n) (hc : Cand n Q i k) (hl : ¬ fle s (Q i k)) (hsm : smallF (Q i k)) : BInv n Q (done2 i (k + 1)) (lo (Q i k)) where
  pos := ⟨(lo_pos (hQ i k hc.1 hc.2.1).1 (hQ i k hc.1 hc.2.1).2).1, (lo_pos (hQ i k hc.1 hc.2.1).1 (hQ i k hc.1 hc.2.1).2).2.1⟩
  low := lo_lo (hQ i k hc.1 hc.2.1).1 (hQ i k hc.1 hc.2.1).2
  small := by
    have p := lo_pos (hQ i k hc.1 hc.2.1).1 (hQ i k hc.1 hc.2.1).2
    exact ⟨by have := hsm.1; omega, by have := hsm.2; omega⟩
  le t ht := by
    have hp := hQ i k hc.1 hc.2.1
    rw [fle_lo_left hp.1]
    have hle : fle (Q i k) s := (fle_total s (Q i k)).resolve_left hl
    constructor
    · intro h1; exact .inr ⟨i, k, by unfold done2; omega, hc, h1⟩
    · intro h1
      by_cases hst : fle s t
      · exact fle_trans h.pos.2 hle hst
      · rcases h1 with h1 | ⟨a, b, hd, hc', hl'⟩
        · exact absurd ((h.le t ht).2 (.inl h1)) hst
        · by_cases he : a = i ∧ b = k
          · obtain ⟨rfl, rfl⟩ := he; exact hl'
          · exact absurd ((h.le t ht).2 (.inr ⟨a, b, by unfold done2 at *; omega, hc', hl'⟩)) hst

theorem BInv.row {n : Nat} {Q : Nat → Nat → Frc} {i : Nat} {s : Frc} (h : BInv n Q (done2 i n) s) : BInv n Q (done2 (i + 1) 0) s where
  pos := h.pos
  low := h.low
  small := h.small
  le t ht := by
    rw [h.le t ht]
    constructor
    · rintro (h1 | ⟨a, b, hd, hc, hl⟩)
      · exact .inl h1
      · exact .inr ⟨a, b, by unfold done2 at *; omega, hc, hl⟩
    · rintro (h1 | ⟨a, b, hd, hc, hl⟩)
      · exact .inl h1
      · exact .inr ⟨a, b, by have := hc.2.1; unfold done2 at *; omega, hc, hl⟩

theorem BInv.share {n : Nat} {Q : Nat → Nat → Frc} {s : Frc} (h : BInv n Q (done2 n 0) s) (hQ : FPos Q n) (h1 : ∀ i, i < n → (Q i i).1 = (Q i i).2) : IsShare n Q s where
  pos := h.pos
  low := h.low
  le t ht := by
    rw [h.le t ht, ← cyc_cand hQ h1]
    constructor
    · rintro (h2 | ⟨i, k, _, hc⟩)
      · exact .inl h2
      · exact .inr ⟨i, k, hc⟩
    · rintro (h2 | ⟨i, k, hc⟩)
      · exact .inl h2
      · exact .inr ⟨i, k, by have := hc.1.1; unfold done2; omega, hc⟩

/-- the memory of the search -/
structure SM19 (X : List Obs) (H : Heap) (B : Nat) (s : Frc) : Prop where
  m : H[0]? = some (.cells (mX X) true)
  b : H[B]? = some (.cells [.i .i64 (s.1 : Int), .i .i64 (s.2 : Int)] true)
  ne : B ≠ 0

theorem SM19.push {X : List Obs} {H : Heap} {B : Nat} {s : Frc} (h : SM19 X H B s) (c : List TV) : SM19 X (H ++ [.cells c true]) B s where
  m := by rw [List.getElem?_append_left (List.getElem?_eq_some_iff.1 h.m).1]; exact h.m
  b := by rw [List.getElem?_append_left (List.getElem?_eq_some_iff.1 h.b).1]; exact h.b
  ne := h.ne

theorem SM19.set {X : List Obs} {H : Heap} {B : Nat} {s u : Frc} (h : SM19 X H B s) : SM19 X (H.set B (.cells [.i .i64 (u.1 : Int), .i .i64 (u.2 : Int)] true)) B u where
  m := by rw [List.getElem?_set_ne h.ne]; exact h.m
  b := by rw [List.getElem?_set_self (List.getElem?_eq_some_iff.1 h.b).1]
  ne := h.ne

theorem ld2 {pg : Pg} {R : Rec} {H : Heap} {id : Nat} {p q : Int} (h : H[id]? = some (.cells [.i .i64 p, .i .i64 q] true)) : dkc pg R (.ld 2 true) [.ref id 0] H = some (.agg [.i .i64 p, .i .i64 q], H) := by
  rw [k_ldR, h, ldC_some]; simp [Dn.part, up]

theorem stq {pg : Pg} {R : Rec} {H : Heap} {id : Nat} {a b : Int} (h : H[id]? = some (.cells [.i .i64 a, .i .i64 b] true)) (p q : Int) : dkc pg R (.st 2) [.ref id 0, .agg [.i .i64 p, .i .i64 q]] H = some (.undef, H.set id (.cells [.i .i64 p, .i .i64 q] true)) := by
  rw [k_stA, h, stC_some, if_pos ⟨rfl, rfl, by simp⟩]; rfl

theorem l19_1_all {pg : Pg} (hF : Free pg) {X : List Obs} {g : Nat} (hm : Market X g) {B i : Nat} (hi : i < X.length) : ∀ (d k : Nat) (H : Heap) (s : Frc), k + d = X.length → SM19 X H B s → BInv X.length (qF X) (done2 i k) s →
    ∃ e H' s', den pg l19_1 [(5, .ref 0 0), (7, .ref B 0), (8, .i .i64 (i : Int)), (23, .i .i64 (X.length : Int)), (24, .i .i64 (i : Int)), (30, .i .i64 (X.length : Int)), (31, .i .i64 (k : Int))] H = some ⟨.exit 2, e, H'⟩ ∧
      keepE [5, 7, 23, 24] e = [(5, .ref 0 0), (7, .ref B 0), (23, .i .i64 (X.length : Int)), (24, .i .i64 (i : Int))] ∧ SM19 X H' B s' ∧ BInv X.length (qF X) (done2 i X.length) s'
  | 0, k, H, s, h, hs, hb => by
    obtain rfl : k = X.length := by omega
    refine ⟨[(5, .ref 0 0), (7, .ref B 0), (8, .i .i64 (i : Int)), (23, .i .i64 (X.length : Int)), (24, .i .i64 (i : Int)), (30, .i .i64 (X.length : Int)), (31, .i .i64 (X.length : Int)), (32, .b false)], H, s, ?_, rfl, hs, hb⟩
    rw [l19_1, den_loop]
    simp [b19_0, go_nil, go_last, go_past, go_pastR, go_blkN, go_blkR, go_blkE, go_skip, go_exit, go_ret, go_scope, go_seq, go_reg, go_block, go_cond, cnd_b, go_opsN, go_ops, go_opsG, grd_b, grd_u, stp_some, fin_some, up_some, cont_some, k_call, k_mv, k_pick, k_bin, k_eqB, k_eqA, k_not, k_neg, k_conv, k_alloc, k_boxA, k_boxI, k_boxB, k_boxN, k_boxBs, k_ldR, k_ldA, k_ldI, k_ldB, k_stA, k_stI, k_stB, ldC_some, stC_some, k_mkfn, k_slc, k_slcA, k_ixA, k_ixBs, k_ixSl, k_fadr, k_fld, k_ext, k_len, k_app, k_mn, k_mx, k_nilck, k_build, k_bsl1, k_bsl2, b_add, b_sub, b_mul, b_eql, b_neq, b_lss, b_leq, b_gtr, b_geq, Dn.setLast, Dn.getLast, evalO, mapO, Dn.get, putE, keepE, TV.one, TV.isAgg, Dn.part]
  | d + 1, k, H, s, h, hs, hb => by
    have hn5 := hm.n5
    have hk : k < X.length := by omega
    have hi5 : i < 5 := by omega
    have hk5 : k < 5 := by omega
    have e1 : ((k : Int) < (X.length : Int)) := by omega
    have e2 : wrapR .i64 ((k : Int) + 1) = .i .i64 ((k : Int) + 1) := wrapR_i64 (by omega)
    have l1 := ld_mC (pg := pg) (R := den pg) hs.m hi5 hk5
    have l2 := ld_mC (pg := pg) (R := den pg) hs.m hi5 hi5
    obtain ⟨n1, p1, u1⟩ := hm.cN hi hk
    obtain ⟨n2, p2, u2⟩ := hm.cN hi hi
    rw [costF_in hi hk, n1] at l1
    rw [costF_in hi hi, n2] at l2
    have hQ := qF_pos hm
    have c54 := call54 hF (x := cN X i k) (y := cN X i i) (by omega) (by omega)
    have hlv : lowV (cN X i k) (cN X i i) = frV (lo (qF X i k)) := rfl
    rw [hlv] at c54
    have plo := lo_pos (x := qF X i k) p1 p2
    have ssm : smallF (lo (qF X i k)) := ⟨by have := plo.2.2.1; show _ ≤ 2000; simp only [qF] at this ⊢; omega, by have := plo.2.2.2; show _ ≤ 2000; simp only [qF] at this ⊢; omega⟩
    have qsm : smallF (qF X i k) := ⟨by simp only [qF]; omega, by simp only [qF]; omega⟩
    have c55 := call55 hF ssm hb.small
    have hless : decide (¬ fle s (lo (qF X i k))) = decide (¬ fle s (qF X i k)) := by
      rw [decide_eq_decide, fle_lo_right p1]
    rw [hless] at c55
    obtain ⟨r, _, c56, w1, w2⟩ := call56v (pg := pg) (t := i) hF hm (all_small hm) (ba := ((lo (qF X i k)).1 : Int)) (bb := ((lo (qF X i k)).2 : Int)) (by have := ssm.1; omega) (by have := ssm.2; omega) hk
    have hnn := nil_ne (pg := pg) (R := den pg) r
    have hT : tE X.length (pref X ((lo (qF X i k)).1 : Int) ((lo (qF X i k)).2 : Int)) = fT X.length (qF X) (qF X i k) := by
      rw [tE_fT hm (lo (qF X i k))]
      funext a b
      unfold fT
      congr 1
      rw [decide_eq_decide, fle_lo_right p1]
    have hrc : Rch (wE X (2 ^ X.length - 1) ((lo (qF X i k)).1 : Int) ((lo (qF X i k)).2 : Int)) k i ↔ Rch (fT X.length (qF X) (qF X i k)) k i := by
      rw [← hT]
      exact ⟨Rch.congr wE_all, Rch.congr fun a b => (wE_all a b).symm⟩
    rw [hrc] at w1
    obtain ⟨HA, hA⟩ : ∃ HA, HA = H ++ [.cells [.i .i64 ((lo (qF X i k)).1 : Int), .i .i64 ((lo (qF X i k)).2 : Int)] true] := ⟨_, rfl⟩
    have s1 := st2 (pg := pg) (R := den pg) H 0 0 ((lo (qF X i k)).1 : Int) ((lo (qF X i k)).2 : Int)
    rw [← hA] at s1
    have hsA : SM19 X HA B s := by rw [hA]; exact hs.push _
    have z1 : HA[H.length]? = some (.cells [.i .i64 ((lo (qF X i k)).1 : Int), .i .i64 ((lo (qF X i k)).2 : Int)] true) := by rw [hA]; exact getLast _ _
    have d1 := ld2 (pg := pg) (R := den pg) z1
    have d2 := ld2 (pg := pg) (R := den pg) hsA.b
    have t1 := stq (pg := pg) (R := den pg) hsA.b ((lo (qF X i k)).1 : Int) ((lo (qF X i k)).2 : Int)
    have c57 := call57 hF hm hsA.m
    have c56' := c56 HA 0 hsA.m
    have c55' := c55 HA
    simp only [frV_eq] at c54 c55'
    by_cases hc : Cand X.length (qF X) i k ∧ ¬ fle s (qF X i k)
    · obtain ⟨hc1, hc2⟩ := hc
      have hne : r ≠ [] := fun hr => w1.1 hr hc1.2.2.2
      have hd : decide (r ≠ []) = true := by simpa using hne
      have hik : ((i : Int) != (k : Int)) = true := by have := hc1.2.2.1; simp; omega
      have hfl : decide (¬ fle s (qF X i k)) = true := by simpa using hc2
      obtain ⟨e, H', s', h1, h2, h3, h4⟩ := l19_1_all hF hm (B := B) hi d (k + 1) _ _ (by omega) hsA.set (hb.take hQ hc1 hc2 qsm)
      refine ⟨e, H', s', Eq.trans ?_ h1, h2, h3, h4⟩
      rw [hd] at hnn
      rw [hfl] at c55'
      generalize ((lo (qF X i k)).1 : Int) = v1 at *
      generalize ((lo (qF X i k)).2 : Int) = v2 at *
      generalize ((2 ^ X.length - 1 : Nat) : Int) = al at *
      generalize (s.1 : Int) = q1 at *
      generalize (s.2 : Int) = q2 at *
      rw [l19_1, den_loop]
      simp [l19_1, b19_0, go_nil, go_last, go_past, go_pastR, go_blkN, go_blkR, go_blkE, go_skip, go_exit, go_ret, go_scope, go_seq, go_reg, go_block, go_cond, cnd_b, go_opsN, go_ops, go_opsG, grd_b, grd_u, stp_some, fin_some, up_some, cont_some, k_call, k_mv, k_pick, k_bin, k_eqB, k_eqA, k_not, k_neg, k_conv, k_alloc, k_boxA, k_boxI, k_boxB, k_boxN, k_boxBs, k_ldR, k_ldA, k_ldI, k_ldB, k_stA, k_stI, k_stB, ldC_some, stC_some, k_mkfn, k_slc, k_slcA, k_ixA, k_ixBs, k_ixSl, k_fadr, k_fld, k_ext, k_len, k_app, k_mn, k_mx, k_nilck, k_build, k_bsl1, k_bsl2, b_add, b_sub, b_mul, b_eql, b_neq, b_lss, b_leq, b_gtr, b_geq, Dn.setLast, Dn.getLast, evalO, mapO, Dn.get, putE, keepE, TV.one, TV.isAgg, Dn.part, e1, e2, hi5, hk5, l1, l2, fillP, put2, TV.cells, c54, s1, hik, d1, d2, c55', c57, c56', hnn, t1]
    · obtain ⟨e, H', s', h1, h2, h3, h4⟩ := l19_1_all hF hm (B := B) hi d (k + 1) _ _ (by omega) hsA (hb.skip hQ hc)
      refine ⟨e, H', s', Eq.trans ?_ h1, h2, h3, h4⟩
      by_cases hik : i = k
      · subst hik
        generalize ((lo (qF X i i)).1 : Int) = v1 at *
        generalize ((lo (qF X i i)).2 : Int) = v2 at *
        rw [l19_1, den_loop]
        simp [l19_1, b19_0, go_nil, go_last, go_past, go_pastR, go_blkN, go_blkR, go_blkE, go_skip, go_exit, go_ret, go_scope, go_seq, go_reg, go_block, go_cond, cnd_b, go_opsN, go_ops, go_opsG, grd_b, grd_u, stp_some, fin_some, up_some, cont_some, k_call, k_mv, k_pick, k_bin, k_eqB, k_eqA, k_not, k_neg, k_conv, k_alloc, k_boxA, k_boxI, k_boxB, k_boxN, k_boxBs, k_ldR, k_ldA, k_ldI, k_ldB, k_stA, k_stI, k_stB, ldC_some, stC_some, k_mkfn, k_slc, k_slcA, k_ixA, k_ixBs, k_ixSl, k_fadr, k_fld, k_ext, k_len, k_app, k_mn, k_mx, k_nilck, k_build, k_bsl1, k_bsl2, b_add, b_sub, b_mul, b_eql, b_neq, b_lss, b_leq, b_gtr, b_geq, Dn.setLast, Dn.getLast, evalO, mapO, Dn.get, putE, keepE, TV.one, TV.isAgg, Dn.part, e1, e2, hi5, l1, l2, fillP, put2, TV.cells, c54, s1]
      · have hik' : ((i : Int) != (k : Int)) = true := by simp; omega
        by_cases hfl : fle s (qF X i k)
        · have hfl' : decide (¬ fle s (qF X i k)) = false := by simpa using hfl
          rw [hfl'] at c55'
          generalize ((lo (qF X i k)).1 : Int) = v1 at *
          generalize ((lo (qF X i k)).2 : Int) = v2 at *
          generalize ((2 ^ X.length - 1 : Nat) : Int) = al at *
          generalize (s.1 : Int) = q1 at *
          generalize (s.2 : Int) = q2 at *
          rw [l19_1, den_loop]
          simp [l19_1, b19_0, go_nil, go_last, go_past, go_pastR, go_blkN, go_blkR, go_blkE, go_skip, go_exit, go_ret, go_scope, go_seq, go_reg, go_block, go_cond, cnd_b, go_opsN, go_ops, go_opsG, grd_b, grd_u, stp_some, fin_some, up_some, cont_some, k_call, k_mv, k_pick, k_bin, k_eqB, k_eqA, k_not, k_neg, k_conv, k_alloc, k_boxA, k_boxI, k_boxB, k_boxN, k_boxBs, k_ldR, k_ldA, k_ldI, k_ldB, k_stA, k_stI, k_stB, ldC_some, stC_some, k_mkfn, k_slc, k_slcA, k_ixA, k_ixBs, k_ixSl, k_fadr, k_fld, k_ext, k_len, k_app, k_mn, k_mx, k_nilck, k_build, k_bsl1, k_bsl2, b_add, b_sub, b_mul, b_eql, b_neq, b_lss, b_leq, b_gtr, b_geq, Dn.setLast, Dn.getLast, evalO, mapO, Dn.get, putE, keepE, TV.one, TV.isAgg, Dn.part, e1, e2, hi5, hk5, l1, l2, fillP, put2, TV.cells, c54, s1, hik', d1, d2, c55']
        · have hfl' : decide (¬ fle s (qF X i k)) = true := by simpa using hfl
          have hr : r = [] := w1.2 fun hr => hc ⟨⟨hi, hk, hik, hr⟩, hfl⟩
          have hd : decide (r ≠ []) = false := by simpa using hr
          rw [hd] at hnn
          rw [hfl'] at c55'
          generalize ((lo (qF X i k)).1 : Int) = v1 at *
          generalize ((lo (qF X i k)).2 : Int) = v2 at *
          generalize ((2 ^ X.length - 1 : Nat) : Int) = al at *
          generalize (s.1 : Int) = q1 at *
          generalize (s.2 : Int) = q2 at *
          rw [l19_1, den_loop]
          simp [l19_1, b19_0, go_nil, go_last, go_past, go_pastR, go_blkN, go_blkR, go_blkE, go_skip, go_exit, go_ret, go_scope, go_seq, go_reg, go_block, go_cond, cnd_b, go_opsN, go_ops, go_opsG, grd_b, grd_u, stp_some, fin_some, up_some, cont_some, k_call, k_mv, k_pick, k_bin, k_eqB, k_eqA, k_not, k_neg, k_conv, k_alloc, k_boxA, k_boxI, k_boxB, k_boxN, k_boxBs, k_ldR, k_ldA, k_ldI, k_ldB, k_stA, k_stI, k_stB, ldC_some, stC_some, k_mkfn, k_slc, k_slcA, k_ixA, k_ixBs, k_ixSl, k_fadr, k_fld, k_ext, k_len, k_app, k_mn, k_mx, k_nilck, k_build, k_bsl1, k_bsl2, b_add, b_sub, b_mul, b_eql, b_neq, b_lss, b_leq, b_gtr, b_geq, Dn.setLast, Dn.getLast, evalO, mapO, Dn.get, putE, keepE, TV.one, TV.isAgg, Dn.part, e1, e2, hi5, hk5, l1, l2, fillP, put2, TV.cells, c54, s1, hik', d1, d2, c55', c57, c56', hnn]

theorem l19_3_all {pg : Pg} (hF : Free pg) {X : List Obs} {g : Nat} (hm : Market X g) {B : Nat} : ∀ (d i : Nat) (H : Heap) (s : Frc), i + d = X.length → SM19 X H B s → BInv X.length (qF X) (done2 i 0) s →
    ∃ e H' s', den pg l19_3 [(5, .ref 0 0), (7, .ref B 0), (23, .i .i64 (X.length : Int)), (24, .i .i64 (i : Int))] H = some ⟨.exit 0, e, H'⟩ ∧ Dn.get e 7 = some (.ref B 0) ∧ SM19 X H' B s' ∧ BInv X.length (qF X) (done2 X.length 0) s'
  | 0, i, H, s, h, hs, hb => by
    obtain rfl : i = X.length := by omega
    refine ⟨[(5, .ref 0 0), (7, .ref B 0), (23, .i .i64 (X.length : Int)), (24, .i .i64 (X.length : Int)), (25, .b false)], H, s, ?_, rfl, hs, hb⟩
    rw [l19_3, den_loop]
    simp [b19_2, go_nil, go_last, go_past, go_pastR, go_blkN, go_blkR, go_blkE, go_skip, go_exit, go_ret, go_scope, go_seq, go_reg, go_block, go_cond, cnd_b, go_opsN, go_ops, go_opsG, grd_b, grd_u, stp_some, fin_some, up_some, cont_some, k_call, k_mv, k_pick, k_bin, k_eqB, k_eqA, k_not, k_neg, k_conv, k_alloc, k_boxA, k_boxI, k_boxB, k_boxN, k_boxBs, k_ldR, k_ldA, k_ldI, k_ldB, k_stA, k_stI, k_stB, ldC_some, stC_some, k_mkfn, k_slc, k_slcA, k_ixA, k_ixBs, k_ixSl, k_fadr, k_fld, k_ext, k_len, k_app, k_mn, k_mx, k_nilck, k_build, k_bsl1, k_bsl2, b_add, b_sub, b_mul, b_eql, b_neq, b_lss, b_leq, b_gtr, b_geq, Dn.setLast, Dn.getLast, evalO, mapO, Dn.get, putE, keepE, TV.one, TV.isAgg, Dn.part]
  | d + 1, i, H, s, h, hs, hb => by
    have hn5 := hm.n5
    have hi : i < X.length := by omega
    have e1 : ((i : Int) < (X.length : Int)) := by omega
    have e2 : wrapR .i64 ((i : Int) + 1) = .i .i64 ((i : Int) + 1) := wrapR_i64 (by omega)
    have hN := ld_mN (pg := pg) (R := den pg) hs.m
    obtain ⟨e, H1, s1, h1, h2, h3, h4⟩ := l19_1_all hF hm (B := B) hi X.length 0 H s (by omega) hs hb
    simp only [Int.natCast_zero] at h1
    have g5 := keep_get h2 (s := 5) (by simp) rfl
    have g7 := keep_get h2 (s := 7) (by simp) rfl
    have g23 := keep_get h2 (s := 23) (by simp) rfl
    have g24 := keep_get h2 (s := 24) (by simp) rfl
    obtain ⟨e', H', s', k1, k2, k3, k4⟩ := l19_3_all hF hm (B := B) d (i + 1) H1 s1 (by omega) h3 h4.row
    refine ⟨e', H', s', Eq.trans ?_ k1, k2, k3, k4⟩
    rw [l19_3, den_loop]
    simp [l19_3, b19_2, go_nil, go_last, go_past, go_pastR, go_blkN, go_blkR, go_blkE, go_skip, go_exit, go_ret, go_scope, go_seq, go_reg, go_block, go_cond, cnd_b, go_opsN, go_ops, go_opsG, grd_b, grd_u, stp_some, fin_some, up_some, cont_some, k_call, k_mv, k_pick, k_bin, k_eqB, k_eqA, k_not, k_neg, k_conv, k_alloc, k_boxA, k_boxI, k_boxB, k_boxN, k_boxBs, k_ldR, k_ldA, k_ldI, k_ldB, k_stA, k_stI, k_stB, ldC_some, stC_some, k_mkfn, k_slc, k_slcA, k_ixA, k_ixBs, k_ixSl, k_fadr, k_fld, k_ext, k_len, k_app, k_mn, k_mx, k_nilck, k_build, k_bsl1, k_bsl2, b_add, b_sub, b_mul, b_eql, b_neq, b_lss, b_leq, b_gtr, b_geq, Dn.setLast, Dn.getLast, evalO, mapO, Dn.get, putE, keepE, TV.one, TV.isAgg, Dn.part, e1, e2, hN, go_denK (c := l19_1) rfl, h1, g5, g7, g23, g24]

/-- the share of a taste -/
theorem call19 {pg : Pg} (hF : Free pg) {X : List Obs} {g : Nat} (hm : Market X g) : ∃ s : Frc, IsShare X.length (qF X) s ∧ smallF s ∧ ∀ H, callRun pg (den pg) (.pu []) [.fn 19 [] [], (elS false).lt false X] H = some (.tup [.i .i64 (s.1 : Int), .i .i64 (s.2 : Int), .i .i64 0], H) := by
  have hn5 := hm.n5
  obtain ⟨H1, h1, h2, h3, h4⟩ := body53 hF hm (P := .nilsl) (P' := .nilsl) (ps := []) (elS_RV true true X) (.inl ⟨rfl, rfl⟩) (by simp) (by simp) (H := []) (sn_nil _ _)
  simp only [List.length_nil] at h1 h2
  have hne : H1.length ≠ 0 := by have := (List.getElem?_eq_some_iff.1 h2).1; omega
  have hs0 : SM19 X (H1 ++ [.cells [.i .i64 ((1 : Nat) : Int), .i .i64 ((1 : Nat) : Int)] true]) H1.length (1, 1) := ⟨by rw [List.getElem?_append_left (by omega)]; exact h2, getLast _ _, hne⟩
  have st0 := st2 (pg := pg) (R := den pg) H1 0 0 ((1 : Nat) : Int) ((1 : Nat) : Int)
  have hN := ld_mN (pg := pg) (R := den pg) hs0.m
  obtain ⟨e, H', s, k1, k2, k3, k4⟩ := l19_3_all hF hm (B := H1.length) X.length 0 _ (1, 1) (by omega) hs0 (BInv.init _ _)
  refine ⟨s, k4.share (qF_pos hm) (fun i _ => qF_one X i), k4.small, fun H => ?_⟩
  obtain ⟨r1, r2⟩ := ldp (pg := pg) (R := den pg) k3.b
  simp only [Int.natCast_zero] at k1
  have st0' : dkc pg (den pg) (.st 2) [.ref H1.length 0, .agg [.i .i64 1, .i .i64 1]] (H1 ++ [.cells [.i .i64 0, .i .i64 0] true]) = some (.undef, H1 ++ [.cells [.i .i64 ((1 : Nat) : Int), .i .i64 ((1 : Nat) : Int)] true]) := st0
  generalize (H1 ++ [.cells [.i .i64 ((1 : Nat) : Int), .i .i64 ((1 : Nat) : Int)] true]) = HB at *
  generalize (s.1 : Int) = q1 at *
  generalize (s.2 : Int) = q2 at *
  refine PFn.call (.of2 (xs := [(elS true).lt true X]) (x := .ret) (e := [(2, .i .i64 q1), (3, .i .i64 q2), (4, .i .i64 0)]) (H' := H') (vs := [.i .i64 q1, .i .i64 q2, .i .i64 0]) (hF.S _ _ (by decide)) (d := d19) (by rw [hF.F]; rfl) rfl ?_ (.inl rfl) rfl (by simp) (by simp [sn_i, sn_b, sn_nil, sn8_i, sn8_b, sn8_nil, sn7_i, sn7_b, sn_sl, sn8_sl, slB_some, sn_tup, sn_agg, sn8_agg, mapO, elems])) (args := [(elS false).lt false X]) (by simp [snapArgs, snZ])
  simp [d19, c19, zipE, go_nil, go_last, go_past, go_pastR, go_blkN, go_blkR, go_blkE, go_skip, go_exit, go_ret, go_scope, go_seq, go_reg, go_block, go_cond, cnd_b, go_opsN, go_ops, go_opsG, grd_b, grd_u, stp_some, fin_some, up_some, cont_some, k_call, k_mv, k_pick, k_bin, k_eqB, k_eqA, k_not, k_neg, k_conv, k_alloc, k_boxA, k_boxI, k_boxB, k_boxN, k_boxBs, k_ldR, k_ldA, k_ldI, k_ldB, k_stA, k_stI, k_stB, ldC_some, stC_some, k_mkfn, k_slc, k_slcA, k_ixA, k_ixBs, k_ixSl, k_fadr, k_fld, k_ext, k_len, k_app, k_mn, k_mx, k_nilck, k_build, k_bsl1, k_bsl2, b_add, b_sub, b_mul, b_eql, b_neq, b_lss, b_leq, b_gtr, b_geq, Dn.setLast, Dn.getLast, evalO, mapO, Dn.get, putE, keepE, TV.one, TV.isAgg, Dn.part, sh_fn, h1, hF.G, st0', hN, go_denK (c := l19_3) rfl, k1, k2, r1, r2]

end Go.Proofs.Tryd.Dn

/-
  The share of a taste: the reference's.
-/

namespace Go.Proofs.Tryd.Dn
open Go.Dn

/-- fractions, as elements -/
def elF : El Frc where
  sz := 2
  ag := true
  enc x := [.i .i64 (x.1 : Int), .i .i64 (x.2 : Int)]
  pos := by decide
  len _ := rfl
  one _ := rfl
  sc := .inl rfl

theorem call64 {pg : Pg} (hF : Free pg) {x y : Frc} (hx : smallF x) (hy : smallF y) (H : Heap) : callRun pg (den pg) (.pu []) [.fn 64 [] [], frV x, frV y] H = some (.b (decide (¬ fle y x)), H) := by
  have m1 := mul_small hx.1 hy.2
  have m2 := mul_small hy.1 hx.2
  have hd : pg.F 64 = some d64 := by rw [hF.F]; rfl
  refine PFn.call (xs := [frV x, frV y]) (.of1 (x := .ret) (e := [(4, .b (decide (¬ fle y x)))]) (H' := [.cells [.i .i64 (x.1 : Int), .i .i64 (x.2 : Int)] true, .cells [.i .i64 (y.1 : Int), .i .i64 (y.2 : Int)] true]) (hF.S _ _ (by decide)) hd rfl ?_ (.inl rfl) rfl (by simp [sn_i, sn_b, sn_nil, sn8_i, sn8_b, sn8_nil, sn7_i, sn7_b, sn_sl, sn8_sl, slB_some, sn_tup, sn_agg, sn8_agg, mapO, elems])) (args := [frV x, frV y]) (by simp [snapArgs, sn_i, sn_b, sn_nil, sn8_i, sn8_b, sn8_nil, sn7_i, sn7_b, sn_sl, sn8_sl, slB_some, sn_tup, sn_agg, sn8_agg, mapO, elems, frV])
  have hdec : decide (((x.1 * y.2 : Nat) : Int) < ((y.1 * x.2 : Nat) : Int)) = decide (¬ fle y x) := by
    rw [decide_eq_decide]; unfold fle; omega
  simp only [frV_eq]
  generalize ((x.1 * y.2 : Nat) : Int) = A at *
  generalize ((y.1 * x.2 : Nat) : Int) = B at *
  generalize decide (¬ fle y x) = D at *
  generalize (x.1 : Int) = x1 at *
  generalize (x.2 : Int) = x2 at *
  generalize (y.1 : Int) = y1 at *
  generalize (y.2 : Int) = y2 at *
  simp [d64, c64, zipE, go_nil, go_last, go_past, go_pastR, go_blkN, go_blkR, go_blkE, go_skip, go_exit, go_ret, go_scope, go_seq, go_reg, go_block, go_cond, cnd_b, go_opsN, go_ops, go_opsG, grd_b, grd_u, stp_some, fin_some, up_some, cont_some, k_call, k_mv, k_pick, k_bin, k_eqB, k_eqA, k_not, k_neg, k_conv, k_alloc, k_boxA, k_boxI, k_boxB, k_boxN, k_boxBs, k_ldR, k_ldA, k_ldI, k_ldB, k_stA, k_stI, k_stB, ldC_some, stC_some, k_mkfn, k_slc, k_slcA, k_ixA, k_ixBs, k_ixSl, k_fadr, k_fld, k_ext, k_len, k_app, k_mn, k_mx, k_nilck, k_build, k_bsl1, k_bsl2, b_add, b_sub, b_mul, b_eql, b_neq, b_lss, b_leq, b_gtr, b_geq, Dn.setLast, Dn.getLast, evalO, mapO, Dn.get, putE, keepE, TV.one, TV.isAgg, Dn.part, m1, m2, hdec]

theorem call63 {pg : Pg} (hF : Free pg) {x y : Frc} (hx : smallF x) (hy : smallF y) (H : Heap) : callRun pg (den pg) (.pu []) [.fn 63 [] [], frV x, frV y] H = some (frV (fmax x y), H) := by
  have hd : pg.F 63 = some d63 := by rw [hF.F]; rfl
  obtain ⟨HA, hA⟩ : ∃ HA : Heap, HA = [.cells [.i .i64 (x.1 : Int), .i .i64 (x.2 : Int)] true, .cells [.i .i64 (y.1 : Int), .i .i64 (y.2 : Int)] true, .cells [.i .i64 0, .i .i64 0] true] := ⟨_, rfl⟩
  have c64 := call64 hF hx hy HA
  simp only [frV_eq] at c64
  have z0 : HA[0]? = some (.cells [.i .i64 (x.1 : Int), .i .i64 (x.2 : Int)] true) := by rw [hA]; rfl
  have z1 : HA[1]? = some (.cells [.i .i64 (y.1 : Int), .i .i64 (y.2 : Int)] true) := by rw [hA]; rfl
  have z2 : HA[2]? = some (.cells [.i .i64 0, .i .i64 0] true) := by rw [hA]; rfl
  have d0 := ld2 (pg := pg) (R := den pg) z0
  have d1 := ld2 (pg := pg) (R := den pg) z1
  have t0 := stq (pg := pg) (R := den pg) z2 (x.1 : Int) (x.2 : Int)
  have t1 := stq (pg := pg) (R := den pg) z2 (y.1 : Int) (y.2 : Int)
  have hlen : 2 < HA.length := (List.getElem?_eq_some_iff.1 z2).1
  unfold fmax
  by_cases hle : fle y x
  · have hD : decide (¬ fle y x) = false := by simpa using hle
    rw [hD] at c64
    rw [if_pos hle]
    refine PFn.call (xs := [frV x, frV y]) (.of_go (x := .ret) (e := [(4, .ref 2 0)]) (H' := HA.set 2 (.cells [.i .i64 (x.1 : Int), .i .i64 (x.2 : Int)] true)) (vs := [frV x]) (hF.S _ _ (by decide)) hd rfl ?_ (.inl rfl) (by simp [d63, mapO, resRun, Dn.get, dk, Dn.part, hlen, frV]) (by
      show Dn.snap .fin _ 9 (frV x) = _
      simp [sn_i, sn_b, sn_nil, sn8_i, sn8_b, sn8_nil, sn7_i, sn7_b, sn_sl, sn8_sl, slB_some, sn_tup, sn_agg, sn8_agg, mapO, elems, frV])) (args := [frV x, frV y]) (by simp [snapArgs, sn_i, sn_b, sn_nil, sn8_i, sn8_b, sn8_nil, sn7_i, sn7_b, sn_sl, sn8_sl, slB_some, sn_tup, sn_agg, sn8_agg, mapO, elems, frV])
    simp only [frV_eq]
    generalize (x.1 : Int) = x1 at *
    generalize (x.2 : Int) = x2 at *
    generalize (y.1 : Int) = y1 at *
    generalize (y.2 : Int) = y2 at *
    simp [d63, c63, zipE, go_nil, go_last, go_past, go_pastR, go_blkN, go_blkR, go_blkE, go_skip, go_exit, go_ret, go_scope, go_seq, go_reg, go_block, go_cond, cnd_b, go_opsN, go_ops, go_opsG, grd_b, grd_u, stp_some, fin_some, up_some, cont_some, k_call, k_mv, k_pick, k_bin, k_eqB, k_eqA, k_not, k_neg, k_conv, k_alloc, k_boxA, k_boxI, k_boxB, k_boxN, k_boxBs, k_ldR, k_ldA, k_ldI, k_ldB, k_stA, k_stI, k_stB, ldC_some, stC_some, k_mkfn, k_slc, k_slcA, k_ixA, k_ixBs, k_ixSl, k_fadr, k_fld, k_ext, k_len, k_app, k_mn, k_mx, k_nilck, k_build, k_bsl1, k_bsl2, b_add, b_sub, b_mul, b_eql, b_neq, b_lss, b_leq, b_gtr, b_geq, Dn.setLast, Dn.getLast, evalO, mapO, Dn.get, putE, keepE, TV.one, TV.isAgg, Dn.part, ← hA, d0, d1, c64, t0]
  · have hD : decide (¬ fle y x) = true := by simpa using hle
    rw [hD] at c64
    rw [if_neg hle]
    refine PFn.call (xs := [frV x, frV y]) (.of_go (x := .ret) (e := [(4, .ref 2 0)]) (H' := HA.set 2 (.cells [.i .i64 (y.1 : Int), .i .i64 (y.2 : Int)] true)) (vs := [frV y]) (hF.S _ _ (by decide)) hd rfl ?_ (.inl rfl) (by simp [d63, mapO, resRun, Dn.get, dk, Dn.part, hlen, frV]) (by
      show Dn.snap .fin _ 9 (frV y) = _
      simp [sn_i, sn_b, sn_nil, sn8_i, sn8_b, sn8_nil, sn7_i, sn7_b, sn_sl, sn8_sl, slB_some, sn_tup, sn_agg, sn8_agg, mapO, elems, frV])) (args := [frV x, frV y]) (by simp [snapArgs, sn_i, sn_b, sn_nil, sn8_i, sn8_b, sn8_nil, sn7_i, sn7_b, sn_sl, sn8_sl, slB_some, sn_tup, sn_agg, sn8_agg, mapO, elems, frV])
    simp only [frV_eq]
    generalize (x.1 : Int) = x1 at *
    generalize (x.2 : Int) = x2 at *
    generalize (y.1 : Int) = y1 at *
    generalize (y.2 : Int) = y2 at *
    simp [d63, c63, zipE, go_nil, go_last, go_past, go_pastR, go_blkN, go_blkR, go_blkE, go_skip, go_exit, go_ret, go_scope, go_seq, go_reg, go_block, go_cond, cnd_b, go_opsN, go_ops, go_opsG, grd_b, grd_u, stp_some, fin_some, up_some, cont_some, k_call, k_mv, k_pick, k_bin, k_eqB, k_eqA, k_not, k_neg, k_conv, k_alloc, k_boxA, k_boxI, k_boxB, k_boxN, k_boxBs, k_ldR, k_ldA, k_ldI, k_ldB, k_stA, k_stI, k_stB, ldC_some, stC_some, k_mkfn, k_slc, k_slcA, k_ixA, k_ixBs, k_ixSl, k_fadr, k_fld, k_ext, k_len, k_app, k_mn, k_mx, k_nilck, k_build, k_bsl1, k_bsl2, b_add, b_sub, b_mul, b_eql, b_neq, b_lss, b_leq, b_gtr, b_geq, Dn.setLast, Dn.getLast, evalO, mapO, Dn.get, putE, keepE, TV.one, TV.isAgg, Dn.part, ← hA, d0, d1, c64, t1]

theorem k_bslF {pg : Pg} {R : Rec} (a b : Int) (H : Heap) : dkc pg R (.bsl false [.i .i64 0, .i .i64 0] true 1 [0]) [.agg [.i .i64 a, .i .i64 b]] H = some (.sl H.length 0 2 true 1 (some 1), H ++ [.cells [.i .i64 a, .i .i64 b] false]) := by
  simp [dkc, dk, fillP, repl, put2, TV.cells, TV.one]

theorem l21_1_all {pg : Pg} {X : List Obs} {g : Nat} (hm : Market X g) {c : Bool} {C out : TV} (hC : ∀ H, (elR c).View H C (costs X)) {i : Nat} (hi : i < X.length) {base : Nat} {H0 : Heap} : ∀ (d k : Nat) (R : TV) (m : List Frc) (H : Heap), k + d = X.length → RowG elF base H0 H R m → m.length = k →
    ∃ e R' H', den pg l21_1 [(2, .ref 0 0), (3, C), (4, .i .i64 (X.length : Int)), (5, out), (6, .i .i64 (i : Int)), (7, R), (8, .i .i64 (k : Int))] H = some ⟨.exit 2, e, H'⟩ ∧
      keepE [2, 3, 4, 5, 6, 7] e = [(2, .ref 0 0), (3, C), (4, .i .i64 (X.length : Int)), (5, out), (6, .i .i64 (i : Int)), (7, R')] ∧ RowG elF base H0 H' R' (m ++ ((List.range X.length).drop k).map (qF X i))
  | 0, k, R, m, H, h, hr, hml => by
    have e1 : ¬ ((k : Int) < (X.length : Int)) := by omega
    refine ⟨[(2, .ref 0 0), (3, C), (4, .i .i64 (X.length : Int)), (5, out), (6, .i .i64 (i : Int)), (7, R), (8, .i .i64 (k : Int)), (29, .b false)], R, H, ?_, rfl, ?_⟩
    · rw [l21_1, den_loop]
      simp [b21_0, go_nil, go_last, go_past, go_pastR, go_blkN, go_blkR, go_blkE, go_skip, go_exit, go_ret, go_scope, go_seq, go_reg, go_block, go_cond, cnd_b, go_opsN, go_ops, go_opsG, grd_b, grd_u, stp_some, fin_some, up_some, cont_some, k_call, k_mv, k_pick, k_bin, k_eqB, k_eqA, k_not, k_neg, k_conv, k_alloc, k_boxA, k_boxI, k_boxB, k_boxN, k_boxBs, k_ldR, k_ldA, k_ldI, k_ldB, k_stA, k_stI, k_stB, ldC_some, stC_some, k_mkfn, k_slc, k_slcA, k_ixA, k_ixBs, k_ixSl, k_fadr, k_fld, k_ext, k_len, k_app, k_mn, k_mx, k_nilck, k_build, k_bsl1, k_bsl2, b_add, b_sub, b_mul, b_eql, b_neq, b_lss, b_leq, b_gtr, b_geq, Dn.setLast, Dn.getLast, evalO, mapO, Dn.get, putE, keepE, TV.one, TV.isAgg, Dn.part, e1]
    · rw [List.drop_eq_nil_of_le (by simp; omega)]; simpa using hr
  | d + 1, k, R, m, H, h, hr, hml => by
    have hn5 := hm.n5
    have hk : k < X.length := by omega
    have e1 : ((k : Int) < (X.length : Int)) := by omega
    have e2 : wrapR .i64 ((k : Int) + 1) = .i .i64 ((k : Int) + 1) := wrapR_i64 (by omega)
    obtain ⟨n1, _, _⟩ := hm.cN hi hk
    obtain ⟨n2, _, _⟩ := hm.cN hi hi
    obtain ⟨p, hp, hv⟩ := ixR (pg := pg) (R := den pg) (hC H) (costs_get hi)
    obtain ⟨q, hq, hw⟩ := ixI (pg := pg) (R := den pg) (El.lt_view c (costRow X i) H : elI.View H _ _) (costRow_get hk)
    obtain ⟨q2, hq2, hw2⟩ := ixI (pg := pg) (R := den pg) (El.lt_view c (costRow X i) H : elI.View H _ _) (costRow_get hi)
    rw [n1] at hw
    rw [n2] at hw2
    have kb := k_bslF (pg := pg) (R := den pg) (cN X i k : Int) (cN X i i : Int) H
    obtain ⟨R', H', h1, h2⟩ := hr.push (qF X i k) (bytes := 16) (by omega)
    have h1' : appRun 2 true 16 R (.sl H.length 0 2 true 1 (some 1)) (H ++ [.cells [.i .i64 (cN X i k : Int), .i .i64 (cN X i i : Int)] false]) = some (R', H') := h1
    obtain ⟨e, R2, H2, h3, h4, h5⟩ := l21_1_all (pg := pg) hm (out := out) hC hi d (k + 1) R' _ H' (by omega) h2 (by simp; omega)
    refine ⟨e, R2, H2, Eq.trans ?_ h3, h4, ?_⟩
    · generalize (cN X i k : Int) = v1 at *
      generalize (cN X i i : Int) = v2 at *
      rw [l21_1, den_loop]
      simp [l21_1, b21_0, go_nil, go_last, go_past, go_pastR, go_blkN, go_blkR, go_blkE, go_skip, go_exit, go_ret, go_scope, go_seq, go_reg, go_block, go_cond, cnd_b, go_opsN, go_ops, go_opsG, grd_b, grd_u, stp_some, fin_some, up_some, cont_some, k_call, k_mv, k_pick, k_bin, k_eqB, k_eqA, k_not, k_neg, k_conv, k_alloc, k_boxA, k_boxI, k_boxB, k_boxN, k_boxBs, k_ldR, k_ldA, k_ldI, k_ldB, k_stA, k_stI, k_stB, ldC_some, stC_some, k_mkfn, k_slc, k_slcA, k_ixA, k_ixBs, k_ixSl, k_fadr, k_fld, k_ext, k_len, k_app, k_mn, k_mx, k_nilck, k_build, k_bsl1, k_bsl2, b_add, b_sub, b_mul, b_eql, b_neq, b_lss, b_leq, b_gtr, b_geq, Dn.setLast, Dn.getLast, evalO, mapO, Dn.get, putE, keepE, TV.one, TV.isAgg, Dn.part, e1, e2, hp, hv, hq, hw, hq2, hw2, fillP, put2, TV.cells, kb, h1']
    · rw [range_drop hk, List.map_cons]
      simpa [List.append_assoc] using h5

theorem l21_3_all {pg : Pg} {X : List Obs} {g : Nat} (hm : Market X g) {c : Bool} {C : TV} (hC : ∀ H, (elR c).View H C (costs X)) {base : Nat} {H0 : Heap} : ∀ (d i : Nat) (out : TV) (ts : List {t : TV // t.one = true}) (ls : List (List Frc)) (H : Heap), i + d = X.length → NestB elF base H0 H out ts ls → ls.length = i →
    ∃ e out' ts' H', den pg l21_3 [(2, .ref 0 0), (3, C), (4, .i .i64 (X.length : Int)), (5, out), (6, .i .i64 (i : Int))] H = some ⟨.exit 0, e, H'⟩ ∧ keepE [2, 4, 5] e = [(2, .ref 0 0), (4, .i .i64 (X.length : Int)), (5, out')] ∧
      NestB elF base H0 H' out' ts' (ls ++ ((List.range X.length).drop i).map fun i => trow X.length (qF X) i)
  | 0, i, out, ts, ls, H, h, ho, hl => by
    have e1 : ¬ ((i : Int) < (X.length : Int)) := by omega
    refine ⟨[(2, .ref 0 0), (3, C), (4, .i .i64 (X.length : Int)), (5, out), (6, .i .i64 (i : Int)), (24, .b false)], out, ts, H, ?_, rfl, ?_⟩
    · rw [l21_3, den_loop]
      simp [b21_2, go_nil, go_last, go_past, go_pastR, go_blkN, go_blkR, go_blkE, go_skip, go_exit, go_ret, go_scope, go_seq, go_reg, go_block, go_cond, cnd_b, go_opsN, go_ops, go_opsG, grd_b, grd_u, stp_some, fin_some, up_some, cont_some, k_call, k_mv, k_pick, k_bin, k_eqB, k_eqA, k_not, k_neg, k_conv, k_alloc, k_boxA, k_boxI, k_boxB, k_boxN, k_boxBs, k_ldR, k_ldA, k_ldI, k_ldB, k_stA, k_stI, k_stB, ldC_some, stC_some, k_mkfn, k_slc, k_slcA, k_ixA, k_ixBs, k_ixSl, k_fadr, k_fld, k_ext, k_len, k_app, k_mn, k_mx, k_nilck, k_build, k_bsl1, k_bsl2, b_add, b_sub, b_mul, b_eql, b_neq, b_lss, b_leq, b_gtr, b_geq, Dn.setLast, Dn.getLast, evalO, mapO, Dn.get, putE, keepE, TV.one, TV.isAgg, Dn.part, e1]
    · rw [List.drop_eq_nil_of_le (by simp; omega)]; simpa using ho
  | d + 1, i, out, ts, ls, H, h, ho, hl => by
    have hn5 := hm.n5
    have hi : i < X.length := by omega
    have e1 : ((i : Int) < (X.length : Int)) := by omega
    have e2 : wrapR .i64 ((i : Int) + 1) = .i .i64 ((i : Int) + 1) := wrapR_i64 (by omega)
    obtain ⟨e, R, H1, h1, hk, h2⟩ := l21_1_all (pg := pg) hm (out := out) hC hi X.length 0 .nilsl [] H (by omega) (RowG.nil H) rfl
    simp only [Int.natCast_zero] at h1
    rw [List.nil_append, show ((List.range X.length).drop 0).map (qF X i) = trow X.length (qF X) i from rfl] at h2
    have g2 := keep_get hk (s := 2) (by simp) rfl
    have g3 := keep_get hk (s := 3) (by simp) rfl
    have g4 := keep_get hk (s := 4) (by simp) rfl
    have g5 := keep_get hk (s := 5) (by simp) rfl
    have g6 := keep_get hk (s := 6) (by simp) rfl
    have g7 := keep_get hk (s := 7) (by simp) rfl
    obtain ⟨o1, o2, o3⟩ := Own_one h2.own
    have kb := k_bslC (pg := pg) (R := den pg) o1 o3 H1
    obtain ⟨out', H', r, h3, h4⟩ := ho.app h2 (by omega)
    obtain ⟨e', out2, ts2, H2, h6, h7, h9⟩ := l21_3_all (pg := pg) hm hC d (i + 1) out' _ _ H' (by omega) h4 (by simp; omega)
    refine ⟨e', out2, ts2, H2, Eq.trans ?_ h6, h7, ?_⟩
    · rw [l21_3, den_loop]
      simp [l21_3, b21_2, go_nil, go_last, go_past, go_pastR, go_blkN, go_blkR, go_blkE, go_skip, go_exit, go_ret, go_scope, go_seq, go_reg, go_block, go_cond, cnd_b, go_opsN, go_ops, go_opsG, grd_b, grd_u, stp_some, fin_some, up_some, cont_some, k_call, k_mv, k_pick, k_bin, k_eqB, k_eqA, k_not, k_neg, k_conv, k_alloc, k_boxA, k_boxI, k_boxB, k_boxN, k_boxBs, k_ldR, k_ldA, k_ldI, k_ldB, k_stA, k_stI, k_stB, ldC_some, stC_some, k_mkfn, k_slc, k_slcA, k_ixA, k_ixBs, k_ixSl, k_fadr, k_fld, k_ext, k_len, k_app, k_mn, k_mx, k_nilck, k_build, k_bsl1, k_bsl2, b_add, b_sub, b_mul, b_eql, b_neq, b_lss, b_leq, b_gtr, b_geq, Dn.setLast, Dn.getLast, evalO, mapO, Dn.get, putE, keepE, TV.one, TV.isAgg, Dn.part, e1, e2, go_denK (c := l21_1) rfl, h1, g2, g3, g4, g5, g6, g7, kb, h3]
    · rw [range_drop hi, List.map_cons]
      simpa [List.append_assoc] using h9

/-! the closure -/

def FSm (Q : Nat → Nat → Frc) (n : Nat) : Prop := ∀ i k, i < n → k < n → smallF (Q i k)
theorem fmax_small {x y : Frc} (hx : smallF x) (hy : smallF y) : smallF (fmax x y) := by unfold fmax; split <;> assumption
theorem fstep_small {Q : Nat → Nat → Frc} {n : Nat} (h : FSm Q n) {j : Nat} (hj : j < n) : FSm (fstep j Q) n := by
  intro i k hi hk
  unfold fstep
  split
  · exact h i k hi hk
  · exact fmax_small (h i j hi hj) (h j k hj hk)
theorem fall_small {Q : Nat → Nat → Frc} {n : Nat} (h : FSm Q n) : ∀ j, j ≤ n → FSm (fall Q j) n
  | 0, _ => h
  | j + 1, hj => fstep_small (fall_small h j (by omega)) (by omega)

theorem le_fmax_l (x y : Frc) : fle x (fmax x y) := by
  unfold fmax
  split
  · exact fle_refl x
  · rename_i h; exact (fle_total x y).resolve_right h
theorem le_fmax_r (x y : Frc) : fle y (fmax x y) := by
  unfold fmax
  split
  · assumption
  · exact fle_refl y
theorem fstep_same (j : Nat) (Q : Nat → Nat → Frc) (i : Nat) : fstep j Q i j = Q i j := by
  unfold fstep; rw [if_pos (le_fmax_l _ _)]
theorem fstep_row (j : Nat) (Q : Nat → Nat → Frc) (k : Nat) : fstep j Q j k = Q j k := by
  unfold fstep; rw [if_pos (le_fmax_r _ _)]

def partF (Q : Nat → Nat → Frc) (j i k : Nat) : Nat → Nat → Frc := fun r c => if r = i ∧ c < k then fstep j Q r c else Q r c

theorem partF_upd (Q : Nat → Nat → Frc) (j i k : Nat) : updT (partF Q j i k) i k (fstep j Q i k) = partF Q j i (k + 1) := by
  funext r c
  simp only [updT, partF]
  by_cases h : r = i ∧ c = k
  · obtain ⟨rfl, rfl⟩ := h
    rw [if_pos ⟨rfl, rfl⟩, if_pos ⟨rfl, by omega⟩]
  · rw [if_neg h]
    by_cases h2 : r = i ∧ c < k
    · rw [if_pos h2, if_pos ⟨h2.1, by omega⟩]
    · rw [if_neg h2, if_neg (by omega)]

theorem partF_keep (Q : Nat → Nat → Frc) (j i k : Nat) (h : fstep j Q i k = Q i k) : partF Q j i (k + 1) = partF Q j i k := by
  funext r c
  simp only [partF]
  by_cases h1 : r = i ∧ c = k
  · obtain ⟨rfl, rfl⟩ := h1
    rw [if_pos ⟨rfl, by omega⟩, if_neg (by omega)]
    exact h
  · by_cases h2 : r = i ∧ c < k
    · rw [if_pos h2, if_pos ⟨h2.1, by omega⟩]
    · rw [if_neg h2, if_neg (by omega)]

theorem l21_5_all {pg : Pg} (hF : Free pg) {n : Nat} (hn : n ≤ 5) {out : TV} {ts : List {t : TV // t.one = true}} {Q : Nat → Nat → Frc} (hS : FSm Q n) {base : Nat} {H0 : Heap} {j i : Nat} (hj : j < n) (hi : i < n) {R : {t : TV // t.one = true}} (hR : ts[i]? = some R) : ∀ (d k : Nat) (H : Heap), k + d = n → NestB elF base H0 H out ts (tabl n (partF Q j i k)) →
    ∃ e H', den pg l21_5 [(2, .ref 0 0), (4, .i .i64 (n : Int)), (5, out), (9, .i .i64 (j : Int)), (10, .i .i64 (i : Int)), (11, R.1), (12, .i .i64 (k : Int))] H = some ⟨.exit 8, e, H'⟩ ∧
      keepE [2, 4, 5, 9, 10] e = [(2, .ref 0 0), (4, .i .i64 (n : Int)), (5, out), (9, .i .i64 (j : Int)), (10, .i .i64 (i : Int))] ∧ NestB elF base H0 H' out ts (tabl n (partF Q j i n))
  | 0, k, H, h, ho => by
    obtain rfl : k = n := by omega
    refine ⟨[(2, .ref 0 0), (4, .i .i64 (k : Int)), (5, out), (9, .i .i64 (j : Int)), (10, .i .i64 (i : Int)), (11, R.1), (12, .i .i64 (k : Int)), (70, .b false)], H, ?_, rfl, ho⟩
    rw [l21_5, den_loop]
    simp [b21_4, go_nil, go_last, go_past, go_pastR, go_blkN, go_blkR, go_blkE, go_skip, go_exit, go_ret, go_scope, go_seq, go_reg, go_block, go_cond, cnd_b, go_opsN, go_ops, go_opsG, grd_b, grd_u, stp_some, fin_some, up_some, cont_some, k_call, k_mv, k_pick, k_bin, k_eqB, k_eqA, k_not, k_neg, k_conv, k_alloc, k_boxA, k_boxI, k_boxB, k_boxN, k_boxBs, k_ldR, k_ldA, k_ldI, k_ldB, k_stA, k_stI, k_stB, ldC_some, stC_some, k_mkfn, k_slc, k_slcA, k_ixA, k_ixBs, k_ixSl, k_fadr, k_fld, k_ext, k_len, k_app, k_mn, k_mx, k_nilck, k_build, k_bsl1, k_bsl2, b_add, b_sub, b_mul, b_eql, b_neq, b_lss, b_leq, b_gtr, b_geq, Dn.setLast, Dn.getLast, evalO, mapO, Dn.get, putE, keepE, TV.one, TV.isAgg, Dn.part]
  | d + 1, k, H, h, ho => by
    have hk : k < n := by omega
    have e1 : ((k : Int) < (n : Int)) := by omega
    have e2 : wrapR .i64 ((k : Int) + 1) = .i .i64 ((k : Int) + 1) := wrapR_i64 (by omega)
    obtain ⟨p1, t1, ht1, _, _, rd1⟩ := ho.at (pg := pg) (R := den pg) (tabl_get (partF Q j i k) hi)
    rw [hR] at ht1
    cases ht1
    obtain ⟨q2, b1, b2, _⟩ := rd1 j _ (trow_get _ i hj)
    obtain ⟨p3, t3, ht3, c1, c2, rd3⟩ := ho.at (pg := pg) (R := den pg) (tabl_get (partF Q j i k) hj)
    obtain ⟨q3, d1, d2, _⟩ := rd3 k _ (trow_get _ j hk)
    have v1 : partF Q j i k i k = Q i k := by simp [partF]
    have v2 : partF Q j i k i j = Q i j := by simp only [partF]; split; exact fstep_same j Q i; rfl
    have v3 : partF Q j i k j k = Q j k := by simp only [partF]; split; exact fstep_row j Q k; rfl
    rw [v2] at b2
    rw [v3] at d2
    have c63 := call63 hF (hS i j hi hj) (hS j k hj hk) H
    have hmx := fmax_small (hS i j hi hj) (hS j k hj hk)
    obtain ⟨HA, hA⟩ : ∃ HA, HA = H ++ [.cells [.i .i64 ((fmax (Q i j) (Q j k)).1 : Int), .i .i64 ((fmax (Q i j) (Q j k)).2 : Int)] true] := ⟨_, rfl⟩
    have s1 := st2 (pg := pg) (R := den pg) H 0 0 ((fmax (Q i j) (Q j k)).1 : Int) ((fmax (Q i j) (Q j k)).2 : Int)
    rw [← hA] at s1
    have z1 : HA[H.length]? = some (.cells [.i .i64 ((fmax (Q i j) (Q j k)).1 : Int), .i .i64 ((fmax (Q i j) (Q j k)).2 : Int)] true) := by rw [hA]; exact getLast _ _
    have l1 := ld2 (pg := pg) (R := den pg) z1
    have hoA : NestB elF base H0 HA out ts (tabl n (partF Q j i k)) := ho.mono (fun id hid => by rw [hA, List.getElem?_append_left hid]) (by rw [hA]; simp)
    obtain ⟨p4, t4, ht4, _, _, rd4⟩ := hoA.at (pg := pg) (R := den pg) (tabl_get (partF Q j i k) hi)
    rw [hR] at ht4
    cases ht4
    obtain ⟨q4, a1, a2, a3⟩ := rd4 k _ (trow_get _ i hk)
    rw [v1] at a2
    have c64 := call64 hF hmx (hS i k hi hk) HA
    have b1' : dkc pg (den pg) (.ixS 2 true) [R.1, .i .i64 (j : Int)] H = some (q2, H) := b1
    have b2' : dkc pg (den pg) (.ld 2 true) [q2] H = some (frV (Q i j), H) := b2
    have d1' : dkc pg (den pg) (.ixS 2 true) [t3.1, .i .i64 (k : Int)] H = some (q3, H) := d1
    have d2' : dkc pg (den pg) (.ld 2 true) [q3] H = some (frV (Q j k), H) := d2
    have a1' : dkc pg (den pg) (.ixS 2 true) [R.1, .i .i64 (k : Int)] HA = some (q4, HA) := a1
    have a2' : dkc pg (den pg) (.ld 2 true) [q4] HA = some (frV (Q i k), HA) := a2
    by_cases hle : fle (Q i k) (fmax (Q i j) (Q j k))
    · have hst : fstep j Q i k = Q i k := by unfold fstep; rw [if_pos hle]
      have hD : decide (¬ fle (Q i k) (fmax (Q i j) (Q j k))) = false := by simpa using hle
      rw [hD] at c64
      obtain ⟨e, H2, h1, h2, h3⟩ := l21_5_all (pg := pg) hF hn hS hj hi hR d (k + 1) HA (by omega) (by rw [partF_keep _ _ _ _ hst]; exact hoA)
      refine ⟨e, H2, Eq.trans ?_ h1, h2, h3⟩
      rw [frV_eq (fmax (Q i j) (Q j k))] at c63 c64
      generalize frV (Q i j) = f1 at *
      generalize frV (Q j k) = f2 at *
      generalize frV (Q i k) = f3 at *
      generalize ((fmax (Q i j) (Q j k)).1 : Int) = m1 at *
      generalize ((fmax (Q i j) (Q j k)).2 : Int) = m2 at *
      rw [l21_5, den_loop]
      simp [l21_5, b21_4, go_nil, go_last, go_past, go_pastR, go_blkN, go_blkR, go_blkE, go_skip, go_exit, go_ret, go_scope, go_seq, go_reg, go_block, go_cond, cnd_b, go_opsN, go_ops, go_opsG, grd_b, grd_u, stp_some, fin_some, up_some, cont_some, k_call, k_mv, k_pick, k_bin, k_eqB, k_eqA, k_not, k_neg, k_conv, k_alloc, k_boxA, k_boxI, k_boxB, k_boxN, k_boxBs, k_ldR, k_ldA, k_ldI, k_ldB, k_stA, k_stI, k_stB, ldC_some, stC_some, k_mkfn, k_slc, k_slcA, k_ixA, k_ixBs, k_ixSl, k_fadr, k_fld, k_ext, k_len, k_app, k_mn, k_mx, k_nilck, k_build, k_bsl1, k_bsl2, b_add, b_sub, b_mul, b_eql, b_neq, b_lss, b_leq, b_gtr, b_geq, Dn.setLast, Dn.getLast, evalO, mapO, Dn.get, putE, keepE, TV.one, TV.isAgg, Dn.part, e1, e2, b1', b2', c1, c2, d1', d2', c63, s1, l1, a1', a2', c64]
    · have hst : fstep j Q i k = fmax (Q i j) (Q j k) := by unfold fstep; rw [if_neg hle]
      have hD : decide (¬ fle (Q i k) (fmax (Q i j) (Q j k))) = true := by simpa using hle
      rw [hD] at c64
      obtain ⟨H1, s3, s4, s5⟩ := a3 (fmax (Q i j) (Q j k))
      have s3' : dkc pg (den pg) (.st 2) [q4, .agg [.i .i64 ((fmax (Q i j) (Q j k)).1 : Int), .i .i64 ((fmax (Q i j) (Q j k)).2 : Int)]] HA = some (.undef, H1) := s3
      rw [← hst, tabl_set _ hi hk, partF_upd] at s4
      obtain ⟨e, H2, h1, h2, h3⟩ := l21_5_all (pg := pg) hF hn hS hj hi hR d (k + 1) H1 (by omega) s4
      refine ⟨e, H2, Eq.trans ?_ h1, h2, h3⟩
      rw [frV_eq (fmax (Q i j) (Q j k))] at c63 c64
      generalize frV (Q i j) = f1 at *
      generalize frV (Q j k) = f2 at *
      generalize frV (Q i k) = f3 at *
      generalize ((fmax (Q i j) (Q j k)).1 : Int) = m1 at *
      generalize ((fmax (Q i j) (Q j k)).2 : Int) = m2 at *
      rw [l21_5, den_loop]
      simp [l21_5, b21_4, go_nil, go_last, go_past, go_pastR, go_blkN, go_blkR, go_blkE, go_skip, go_exit, go_ret, go_scope, go_seq, go_reg, go_block, go_cond, cnd_b, go_opsN, go_ops, go_opsG, grd_b, grd_u, stp_some, fin_some, up_some, cont_some, k_call, k_mv, k_pick, k_bin, k_eqB, k_eqA, k_not, k_neg, k_conv, k_alloc, k_boxA, k_boxI, k_boxB, k_boxN, k_boxBs, k_ldR, k_ldA, k_ldI, k_ldB, k_stA, k_stI, k_stB, ldC_some, stC_some, k_mkfn, k_slc, k_slcA, k_ixA, k_ixBs, k_ixSl, k_fadr, k_fld, k_ext, k_len, k_app, k_mn, k_mx, k_nilck, k_build, k_bsl1, k_bsl2, b_add, b_sub, b_mul, b_eql, b_neq, b_lss, b_leq, b_gtr, b_geq, Dn.setLast, Dn.getLast, evalO, mapO, Dn.get, putE, keepE, TV.one, TV.isAgg, Dn.part, e1, e2, b1', b2', c1, c2, d1', d2', c63, s1, l1, a1', a2', c64, s3']

def partG (Q : Nat → Nat → Frc) (j i : Nat) : Nat → Nat → Frc := fun r c => if r < i then fstep j Q r c else Q r c

theorem partG_small {Q : Nat → Nat → Frc} {n : Nat} (h : FSm Q n) {j : Nat} (hj : j < n) (i : Nat) : FSm (partG Q j i) n := by
  intro r c hr hc
  unfold partG
  split
  · exact fstep_small h hj r c hr hc
  · exact h r c hr hc

theorem partG_step (n : Nat) (Q : Nat → Nat → Frc) (j i : Nat) : tabl n (partF (partG Q j i) j i n) = tabl n (partG Q j (i + 1)) := by
  apply tabl_congr
  intro r c hr hc
  have hjk : ∀ k, partG Q j i j k = Q j k := by
    intro k
    unfold partG
    split
    · exact fstep_row j Q k
    · rfl
  by_cases h : r = i
  · subst h
    have h1 : ∀ k, partG Q j r r k = Q r k := fun k => by unfold partG; rw [if_neg (by omega)]
    have h2 : partF (partG Q j r) j r n r c = fstep j (partG Q j r) r c := by unfold partF; rw [if_pos ⟨rfl, hc⟩]
    have h3 : partG Q j (r + 1) r c = fstep j Q r c := by unfold partG; rw [if_pos (by omega)]
    rw [h2, h3]
    unfold fstep
    rw [h1, h1, hjk]
  · have h2 : partF (partG Q j i) j i n r c = partG Q j i r c := by unfold partF; rw [if_neg (fun hh => h hh.1)]
    rw [h2]
    unfold partG
    by_cases h3 : r < i
    · rw [if_pos h3, if_pos (by omega)]
    · rw [if_neg h3, if_neg (by omega)]

theorem l21_7_all {pg : Pg} (hF : Free pg) {n : Nat} (hn : n ≤ 5) {out : TV} {ts : List {t : TV // t.one = true}} {Q : Nat → Nat → Frc} (hS : FSm Q n) {base : Nat} {H0 : Heap} {j : Nat} (hj : j < n) : ∀ (d i : Nat) (H : Heap), i + d = n → NestB elF base H0 H out ts (tabl n (partG Q j i)) →
    ∃ e H', den pg l21_7 [(2, .ref 0 0), (4, .i .i64 (n : Int)), (5, out), (9, .i .i64 (j : Int)), (10, .i .i64 (i : Int))] H = some ⟨.exit 6, e, H'⟩ ∧
      keepE [2, 4, 5, 9] e = [(2, .ref 0 0), (4, .i .i64 (n : Int)), (5, out), (9, .i .i64 (j : Int))] ∧ NestB elF base H0 H' out ts (tabl n (fstep j Q))
  | 0, i, H, h, ho => by
    obtain rfl : i = n := by omega
    refine ⟨[(2, .ref 0 0), (4, .i .i64 (i : Int)), (5, out), (9, .i .i64 (j : Int)), (10, .i .i64 (i : Int)), (61, .b false)], H, ?_, rfl, ?_⟩
    · rw [l21_7, den_loop]
      simp [b21_6, go_nil, go_last, go_past, go_pastR, go_blkN, go_blkR, go_blkE, go_skip, go_exit, go_ret, go_scope, go_seq, go_reg, go_block, go_cond, cnd_b, go_opsN, go_ops, go_opsG, grd_b, grd_u, stp_some, fin_some, up_some, cont_some, k_call, k_mv, k_pick, k_bin, k_eqB, k_eqA, k_not, k_neg, k_conv, k_alloc, k_boxA, k_boxI, k_boxB, k_boxN, k_boxBs, k_ldR, k_ldA, k_ldI, k_ldB, k_stA, k_stI, k_stB, ldC_some, stC_some, k_mkfn, k_slc, k_slcA, k_ixA, k_ixBs, k_ixSl, k_fadr, k_fld, k_ext, k_len, k_app, k_mn, k_mx, k_nilck, k_build, k_bsl1, k_bsl2, b_add, b_sub, b_mul, b_eql, b_neq, b_lss, b_leq, b_gtr, b_geq, Dn.setLast, Dn.getLast, evalO, mapO, Dn.get, putE, keepE, TV.one, TV.isAgg, Dn.part]
    · rw [show tabl i (fstep j Q) = tabl i (partG Q j i) from tabl_congr fun r c hr _ => by unfold partG; rw [if_pos hr]]
      exact ho
  | d + 1, i, H, h, ho => by
    have hi : i < n := by omega
    have e1 : ((i : Int) < (n : Int)) := by omega
    have e2 : wrapR .i64 ((i : Int) + 1) = .i .i64 ((i : Int) + 1) := wrapR_i64 (by omega)
    obtain ⟨p, R, hR, c1, c2, _⟩ := ho.at (pg := pg) (R := den pg) (tabl_get (partG Q j i) hi)
    have ho' : NestB elF base H0 H out ts (tabl n (partF (partG Q j i) j i 0)) := by
      rw [show tabl n (partF (partG Q j i) j i 0) = tabl n (partG Q j i) from tabl_congr fun r c _ _ => by unfold partF; rw [if_neg (by omega)]]
      exact ho
    obtain ⟨e, H1, h1, h2, h3⟩ := l21_5_all (pg := pg) hF hn (partG_small hS hj i) hj hi hR n 0 H (by omega) ho'
    simp only [Int.natCast_zero] at h1
    rw [partG_step] at h3
    have g2 := keep_get h2 (s := 2) (by simp) rfl
    have g4 := keep_get h2 (s := 4) (by simp) rfl
    have g5 := keep_get h2 (s := 5) (by simp) rfl
    have g9 := keep_get h2 (s := 9) (by simp) rfl
    have g10 := keep_get h2 (s := 10) (by simp) rfl
    obtain ⟨e', H2, h4, h5, h6⟩ := l21_7_all (pg := pg) hF hn hS hj d (i + 1) H1 (by omega) h3
    refine ⟨e', H2, Eq.trans ?_ h4, h5, h6⟩
    rw [l21_7, den_loop]
    simp [l21_7, b21_6, go_nil, go_last, go_past, go_pastR, go_blkN, go_blkR, go_blkE, go_skip, go_exit, go_ret, go_scope, go_seq, go_reg, go_block, go_cond, cnd_b, go_opsN, go_ops, go_opsG, grd_b, grd_u, stp_some, fin_some, up_some, cont_some, k_call, k_mv, k_pick, k_bin, k_eqB, k_eqA, k_not, k_neg, k_conv, k_alloc, k_boxA, k_boxI, k_boxB, k_boxN, k_boxBs, k_ldR, k_ldA, k_ldI, k_ldB, k_stA, k_stI, k_stB, ldC_some, stC_some, k_mkfn, k_slc, k_slcA, k_ixA, k_ixBs, k_ixSl, k_fadr, k_fld, k_ext, k_len, k_app, k_mn, k_mx, k_nilck, k_build, k_bsl1, k_bsl2, b_add, b_sub, b_mul, b_eql, b_neq, b_lss, b_leq, b_gtr, b_geq, Dn.setLast, Dn.getLast, evalO, mapO, Dn.get, putE, keepE, TV.one, TV.isAgg, Dn.part, e1, e2, c1, c2, go_denK (c := l21_5) rfl, h1, g2, g4, g5, g9, g10]

theorem l21_9_all {pg : Pg} (hF : Free pg) {n : Nat} (hn : n ≤ 5) {out : TV} {ts : List {t : TV // t.one = true}} {Q : Nat → Nat → Frc} (hS : FSm Q n) {base : Nat} {H0 : Heap} : ∀ (d j : Nat) (H : Heap), j + d = n → NestB elF base H0 H out ts (tabl n (fall Q j)) →
    ∃ e H', den pg l21_9 [(2, .ref 0 0), (4, .i .i64 (n : Int)), (5, out), (9, .i .i64 (j : Int))] H = some ⟨.exit 4, e, H'⟩ ∧ keepE [2, 4, 5] e = [(2, .ref 0 0), (4, .i .i64 (n : Int)), (5, out)] ∧ NestB elF base H0 H' out ts (tabl n (fall Q n))
  | 0, j, H, h, ho => by
    obtain rfl : j = n := by omega
    refine ⟨[(2, .ref 0 0), (4, .i .i64 (j : Int)), (5, out), (9, .i .i64 (j : Int)), (56, .b false)], H, ?_, rfl, ho⟩
    rw [l21_9, den_loop]
    simp [b21_8, go_nil, go_last, go_past, go_pastR, go_blkN, go_blkR, go_blkE, go_skip, go_exit, go_ret, go_scope, go_seq, go_reg, go_block, go_cond, cnd_b, go_opsN, go_ops, go_opsG, grd_b, grd_u, stp_some, fin_some, up_some, cont_some, k_call, k_mv, k_pick, k_bin, k_eqB, k_eqA, k_not, k_neg, k_conv, k_alloc, k_boxA, k_boxI, k_boxB, k_boxN, k_boxBs, k_ldR, k_ldA, k_ldI, k_ldB, k_stA, k_stI, k_stB, ldC_some, stC_some, k_mkfn, k_slc, k_slcA, k_ixA, k_ixBs, k_ixSl, k_fadr, k_fld, k_ext, k_len, k_app, k_mn, k_mx, k_nilck, k_build, k_bsl1, k_bsl2, b_add, b_sub, b_mul, b_eql, b_neq, b_lss, b_leq, b_gtr, b_geq, Dn.setLast, Dn.getLast, evalO, mapO, Dn.get, putE, keepE, TV.one, TV.isAgg, Dn.part]
  | d + 1, j, H, h, ho => by
    have hj : j < n := by omega
    have e1 : ((j : Int) < (n : Int)) := by omega
    have e2 : wrapR .i64 ((j : Int) + 1) = .i .i64 ((j : Int) + 1) := wrapR_i64 (by omega)
    have ho' : NestB elF base H0 H out ts (tabl n (partG (fall Q j) j 0)) := by
      rw [show tabl n (partG (fall Q j) j 0) = tabl n (fall Q j) from tabl_congr fun r c _ _ => by unfold partG; rw [if_neg (by omega)]]
      exact ho
    obtain ⟨e, H1, h1, h2, h3⟩ := l21_7_all (pg := pg) hF hn (fall_small hS j (by omega)) hj n 0 H (by omega) ho'
    simp only [Int.natCast_zero] at h1
    have g2 := keep_get h2 (s := 2) (by simp) rfl
    have g4 := keep_get h2 (s := 4) (by simp) rfl
    have g5 := keep_get h2 (s := 5) (by simp) rfl
    have g9 := keep_get h2 (s := 9) (by simp) rfl
    obtain ⟨e', H2, h4, h5, h6⟩ := l21_9_all (pg := pg) hF hn hS (Q := Q) d (j + 1) H1 (by omega) h3
    refine ⟨e', H2, Eq.trans ?_ h4, h5, h6⟩
    rw [l21_9, den_loop]
    simp [l21_9, b21_8, go_nil, go_last, go_past, go_pastR, go_blkN, go_blkR, go_blkE, go_skip, go_exit, go_ret, go_scope, go_seq, go_reg, go_block, go_cond, cnd_b, go_opsN, go_ops, go_opsG, grd_b, grd_u, stp_some, fin_some, up_some, cont_some, k_call, k_mv, k_pick, k_bin, k_eqB, k_eqA, k_not, k_neg, k_conv, k_alloc, k_boxA, k_boxI, k_boxB, k_boxN, k_boxBs, k_ldR, k_ldA, k_ldI, k_ldB, k_stA, k_stI, k_stB, ldC_some, stC_some, k_mkfn, k_slc, k_slcA, k_ixA, k_ixBs, k_ixSl, k_fadr, k_fld, k_ext, k_len, k_app, k_mn, k_mx, k_nilck, k_build, k_bsl1, k_bsl2, b_add, b_sub, b_mul, b_eql, b_neq, b_lss, b_leq, b_gtr, b_geq, Dn.setLast, Dn.getLast, evalO, mapO, Dn.get, putE, keepE, TV.one, TV.isAgg, Dn.part, e1, e2, go_denK (c := l21_7) rfl, h1, g2, g4, g5, g9]

/-! the least of all rounds -/

/-- which pairs have been looked at, each once -/
structure RInv (n : Nat) (W : Nat → Nat → Frc) (i k : Nat) (s : Frc) : Prop where
  pos : 1 ≤ s.1 ∧ 1 ≤ s.2
  small : smallF s
  le : ∀ t : Frc, 1 ≤ t.2 → (fle s t ↔ fle (1, 1) t ∨ ∃ a b, a < n ∧ b < a ∧ done2 i k a b ∧ fle (W a b) t ∧ fle (W b a) t)

theorem RInv.init (n : Nat) (W : Nat → Nat → Frc) : RInv n W 0 0 (1, 1) where
  pos := ⟨Nat.le_refl _, Nat.le_refl _⟩
  small := ⟨by decide, by decide⟩
  le t _ := ⟨.inl, fun h => h.elim id fun ⟨i, k, _, _, hd, _⟩ => by unfold done2 at hd; omega⟩

theorem RInv.step {n : Nat} {W : Nat → Nat → Frc} {i k : Nat} {s : Frc} (h : RInv n W i k s) (hW : FPos W n) (hS : FSm W n) (hi : i < n) (hk : k < i) : RInv n W i (k + 1) (if fle s (fmax (W i k) (W k i)) then s else fmax (W i k) (W k i)) := by
  have p1 := hW i k hi (by omega)
  have p2 := hW k i (by omega) hi
  have hp := fmax_pos p1 p2
  have hmx : ∀ t, fle (fmax (W i k) (W k i)) t ↔ fle (W i k) t ∧ fle (W k i) t := fun t => fmax_le p1.2 p2.2
  have hd : ∀ t, ((∃ a b, a < n ∧ b < a ∧ done2 i (k + 1) a b ∧ fle (W a b) t ∧ fle (W b a) t) ↔ (∃ a b, a < n ∧ b < a ∧ done2 i k a b ∧ fle (W a b) t ∧ fle (W b a) t) ∨ fle (fmax (W i k) (W k i)) t) := by
    intro t
    rw [hmx]
    constructor
    · rintro ⟨a, b, ha, hb, hd, h1, h2⟩
      by_cases he : a = i ∧ b = k
      · obtain ⟨rfl, rfl⟩ := he; exact .inr ⟨h1, h2⟩
      · exact .inl ⟨a, b, ha, hb, by unfold done2 at *; omega, h1, h2⟩
    · rintro (⟨a, b, ha, hb, hd, h1, h2⟩ | ⟨h1, h2⟩)
      · exact ⟨a, b, ha, hb, by unfold done2 at *; omega, h1, h2⟩
      · exact ⟨i, k, hi, hk, by unfold done2; omega, h1, h2⟩
  split
  · rename_i hle
    refine ⟨h.pos, h.small, fun t ht => ?_⟩
    rw [hd t, ← or_assoc, ← h.le t ht]
    exact ⟨.inl, fun hh => hh.elim id fun h1 => fle_trans hp.2 hle h1⟩
  · rename_i hle
    have hle' := (fle_total s _).resolve_left hle
    refine ⟨hp, fmax_small (hS i k hi (by omega)) (hS k i (by omega) hi), fun t ht => ?_⟩
    rw [hd t, ← or_assoc, ← h.le t ht]
    exact ⟨.inr, fun hh => hh.elim (fun h1 => fle_trans h.pos.2 hle' h1) id⟩

theorem RInv.row {n : Nat} {W : Nat → Nat → Frc} {i : Nat} {s : Frc} (h : RInv n W i i s) : RInv n W (i + 1) 0 s := by
  refine ⟨h.pos, h.small, fun t ht => ?_⟩
  rw [h.le t ht]
  constructor
  · rintro (h1 | ⟨a, b, ha, hb, hd, h1⟩)
    · exact .inl h1
    · exact .inr ⟨a, b, ha, hb, by unfold done2 at *; omega, h1⟩
  · rintro (h1 | ⟨a, b, ha, hb, hd, h1⟩)
    · exact .inl h1
    · exact .inr ⟨a, b, ha, hb, by unfold done2 at *; omega, h1⟩

theorem RInv.share {n : Nat} {Q : Nat → Nat → Frc} {s : Frc} (h : RInv n (fall Q n) n 0 s) (hQ : FPos Q n) : IsShare n Q (lo s) where
  pos := ⟨(lo_pos h.pos.1 h.pos.2).1, (lo_pos h.pos.1 h.pos.2).2.1⟩
  low := lo_lo h.pos.1 h.pos.2
  le t ht := by
    rw [fle_lo_left h.pos.1, h.le t ht]
    constructor
    · rintro (h1 | ⟨a, b, ha, hb, _, h1, h2⟩)
      · exact .inl h1
      · exact .inr ⟨a, b, ha, by omega, by omega, ((fall_rch hQ ha (by omega)).1 h1).rch, ((fall_rch hQ (by omega) ha).1 h2).rch⟩
    · rintro (h1 | ⟨a, b, ha, hb, hne, h1, h2⟩)
      · exact .inl h1
      · have w1 := (fall_rch hQ ha hb).2 (h1.rch1 hne)
        have w2 := (fall_rch hQ hb ha).2 (h2.rch1 (Ne.symm hne))
        by_cases hab : b < a
        · exact .inr ⟨a, b, ha, hab, by unfold done2; omega, w1, w2⟩
        · exact .inr ⟨b, a, hb, by omega, by unfold done2; omega, w2, w1⟩

end Go.Proofs.Tryd.Dn

/-
  The share of a taste: the reference's, joined.
-/

namespace Go.Proofs.Tryd.Dn
open Go.Dn

/-- the memory of the last search -/
structure SM21 (HT H : Heap) (B : Nat) (s : Frc) : Prop where
  old : ∀ j, j < HT.length → H[j]? = HT[j]?
  b : H[B]? = some (.cells [.i .i64 (s.1 : Int), .i .i64 (s.2 : Int)] true)
  le : HT.length ≤ B

theorem SM21.push {HT H : Heap} {B : Nat} {s : Frc} (h : SM21 HT H B s) (c : List TV) : SM21 HT (H ++ [.cells c true]) B s where
  old j hj := by
    have := (List.getElem?_eq_some_iff.1 h.b).1
    have := h.le
    rw [List.getElem?_append_left (by omega)]; exact h.old j hj
  b := by rw [List.getElem?_append_left (List.getElem?_eq_some_iff.1 h.b).1]; exact h.b
  le := h.le

theorem SM21.set {HT H : Heap} {B : Nat} {s u : Frc} (h : SM21 HT H B s) : SM21 HT (H.set B (.cells [.i .i64 (u.1 : Int), .i .i64 (u.2 : Int)] true)) B u where
  old j hj := by have := h.le; rw [List.getElem?_set_ne (by omega)]; exact h.old j hj
  b := by rw [List.getElem?_set_self (List.getElem?_eq_some_iff.1 h.b).1]
  le := h.le

theorem l21_11_all {pg : Pg} (hF : Free pg) {n : Nat} (hn : n ≤ 5) {out : TV} {ts : List {t : TV // t.one = true}} {W : Nat → Nat → Frc} (hP : FPos W n) (hS : FSm W n) {HT : Heap} (ho : NestD elF HT out ts (tabl n W)) {B i : Nat} (hi : i < n) : ∀ (d k : Nat) (H : Heap) (s : Frc), k + d = i → SM21 HT H B s → RInv n W i k s →
    ∃ e H' s', den pg l21_11 [(2, .ref 0 0), (4, .i .i64 (n : Int)), (5, out), (14, .ref B 0), (15, .i .i64 (i : Int)), (16, .i .i64 (k : Int))] H = some ⟨.exit 12, e, H'⟩ ∧
      keepE [2, 4, 5, 14, 15] e = [(2, .ref 0 0), (4, .i .i64 (n : Int)), (5, out), (14, .ref B 0), (15, .i .i64 (i : Int))] ∧ SM21 HT H' B s' ∧ RInv n W i i s'
  | 0, k, H, s, h, hs, hr => by
    obtain rfl : k = i := by omega
    refine ⟨[(2, .ref 0 0), (4, .i .i64 (n : Int)), (5, out), (14, .ref B 0), (15, .i .i64 (k : Int)), (16, .i .i64 (k : Int)), (103, .b false)], H, s, ?_, rfl, hs, hr⟩
    rw [l21_11, den_loop]
    simp [b21_10, go_nil, go_last, go_past, go_pastR, go_blkN, go_blkR, go_blkE, go_skip, go_exit, go_ret, go_scope, go_seq, go_reg, go_block, go_cond, cnd_b, go_opsN, go_ops, go_opsG, grd_b, grd_u, stp_some, fin_some, up_some, cont_some, k_call, k_mv, k_pick, k_bin, k_eqB, k_eqA, k_not, k_neg, k_conv, k_alloc, k_boxA, k_boxI, k_boxB, k_boxN, k_boxBs, k_ldR, k_ldA, k_ldI, k_ldB, k_stA, k_stI, k_stB, ldC_some, stC_some, k_mkfn, k_slc, k_slcA, k_ixA, k_ixBs, k_ixSl, k_fadr, k_fld, k_ext, k_len, k_app, k_mn, k_mx, k_nilck, k_build, k_bsl1, k_bsl2, b_add, b_sub, b_mul, b_eql, b_neq, b_lss, b_leq, b_gtr, b_geq, Dn.setLast, Dn.getLast, evalO, mapO, Dn.get, putE, keepE, TV.one, TV.isAgg, Dn.part]
  | d + 1, k, H, s, h, hs, hr => by
    have hk : k < i := by omega
    have hkn : k < n := by omega
    have e1 : ((k : Int) < (i : Int)) := by omega
    have e2 : wrapR .i64 ((k : Int) + 1) = .i .i64 ((k : Int) + 1) := wrapR_i64 (by omega)
    have hoH := ho.mono (H' := H) hs.old
    obtain ⟨p1, t1, ht1, c1, c2, rd1⟩ := hoH.at (pg := pg) (R := den pg) (tabl_get W hi)
    obtain ⟨q1, a1, a2, _⟩ := rd1 k _ (trow_get _ i hkn)
    obtain ⟨p2, t2, ht2, c3, c4, rd2⟩ := hoH.at (pg := pg) (R := den pg) (tabl_get W hkn)
    obtain ⟨q2, a3, a4, _⟩ := rd2 i _ (trow_get _ k hi)
    have a1' : dkc pg (den pg) (.ixS 2 true) [t1.1, .i .i64 (k : Int)] H = some (q1, H) := a1
    have a2' : dkc pg (den pg) (.ld 2 true) [q1] H = some (frV (W i k), H) := a2
    have a3' : dkc pg (den pg) (.ixS 2 true) [t2.1, .i .i64 (i : Int)] H = some (q2, H) := a3
    have a4' : dkc pg (den pg) (.ld 2 true) [q2] H = some (frV (W k i), H) := a4
    have c63 := call63 hF (hS i k hi hkn) (hS k i hkn hi) H
    have hmx := fmax_small (hS i k hi hkn) (hS k i hkn hi)
    have hstep := hr.step hP hS hi hk
    generalize fmax (W i k) (W k i) = x at *
    obtain ⟨HA, hA⟩ : ∃ HA, HA = H ++ [.cells [.i .i64 (x.1 : Int), .i .i64 (x.2 : Int)] true] := ⟨_, rfl⟩
    have s1 := st2 (pg := pg) (R := den pg) H 0 0 (x.1 : Int) (x.2 : Int)
    rw [← hA] at s1
    have z1 : HA[H.length]? = some (.cells [.i .i64 (x.1 : Int), .i .i64 (x.2 : Int)] true) := by rw [hA]; exact getLast _ _
    have l1 := ld2 (pg := pg) (R := den pg) z1
    have hsA : SM21 HT HA B s := by rw [hA]; exact hs.push _
    have l2 := ld2 (pg := pg) (R := den pg) hsA.b
    have t3 := stq (pg := pg) (R := den pg) hsA.b (x.1 : Int) (x.2 : Int)
    have c64 := call64 hF hmx hr.small HA
    by_cases hle : fle s x
    · have hD : decide (¬ fle s x) = false := by simpa using hle
      rw [hD] at c64
      rw [if_pos hle] at hstep
      obtain ⟨e, H2, s', h1, h2, h3, h4⟩ := l21_11_all (pg := pg) hF hn hP hS ho (B := B) hi d (k + 1) HA s (by omega) hsA hstep
      refine ⟨e, H2, s', Eq.trans ?_ h1, h2, h3, h4⟩
      simp only [frV_eq x, frV_eq s] at c63 c64
      generalize frV (W i k) = f1 at *
      generalize frV (W k i) = f2 at *
      generalize (x.1 : Int) = m1 at *
      generalize (x.2 : Int) = m2 at *
      generalize (s.1 : Int) = m3 at *
      generalize (s.2 : Int) = m4 at *
      rw [l21_11, den_loop]
      simp [l21_11, b21_10, go_nil, go_last, go_past, go_pastR, go_blkN, go_blkR, go_blkE, go_skip, go_exit, go_ret, go_scope, go_seq, go_reg, go_block, go_cond, cnd_b, go_opsN, go_ops, go_opsG, grd_b, grd_u, stp_some, fin_some, up_some, cont_some, k_call, k_mv, k_pick, k_bin, k_eqB, k_eqA, k_not, k_neg, k_conv, k_alloc, k_boxA, k_boxI, k_boxB, k_boxN, k_boxBs, k_ldR, k_ldA, k_ldI, k_ldB, k_stA, k_stI, k_stB, ldC_some, stC_some, k_mkfn, k_slc, k_slcA, k_ixA, k_ixBs, k_ixSl, k_fadr, k_fld, k_ext, k_len, k_app, k_mn, k_mx, k_nilck, k_build, k_bsl1, k_bsl2, b_add, b_sub, b_mul, b_eql, b_neq, b_lss, b_leq, b_gtr, b_geq, Dn.setLast, Dn.getLast, evalO, mapO, Dn.get, putE, keepE, TV.one, TV.isAgg, Dn.part, e1, e2, c1, c2, a1', a2', c3, c4, a3', a4', c63, s1, l1, l2, c64]
    · have hD : decide (¬ fle s x) = true := by simpa using hle
      rw [hD] at c64
      rw [if_neg hle] at hstep
      obtain ⟨e, H2, s', h1, h2, h3, h4⟩ := l21_11_all (pg := pg) hF hn hP hS ho (B := B) hi d (k + 1) _ x (by omega) hsA.set hstep
      refine ⟨e, H2, s', Eq.trans ?_ h1, h2, h3, h4⟩
      simp only [frV_eq x, frV_eq s] at c63 c64
      generalize frV (W i k) = f1 at *
      generalize frV (W k i) = f2 at *
      generalize (x.1 : Int) = m1 at *
      generalize (x.2 : Int) = m2 at *
      generalize (s.1 : Int) = m3 at *
      generalize (s.2 : Int) = m4 at *
      rw [l21_11, den_loop]
      simp [l21_11, b21_10, go_nil, go_last, go_past, go_pastR, go_blkN, go_blkR, go_blkE, go_skip, go_exit, go_ret, go_scope, go_seq, go_reg, go_block, go_cond, cnd_b, go_opsN, go_ops, go_opsG, grd_b, grd_u, stp_some, fin_some, up_some, cont_some, k_call, k_mv, k_pick, k_bin, k_eqB, k_eqA, k_not, k_neg, k_conv, k_alloc, k_boxA, k_boxI, k_boxB, k_boxN, k_boxBs, k_ldR, k_ldA, k_ldI, k_ldB, k_stA, k_stI, k_stB, ldC_some, stC_some, k_mkfn, k_slc, k_slcA, k_ixA, k_ixBs, k_ixSl, k_fadr, k_fld, k_ext, k_len, k_app, k_mn, k_mx, k_nilck, k_build, k_bsl1, k_bsl2, b_add, b_sub, b_mul, b_eql, b_neq, b_lss, b_leq, b_gtr, b_geq, Dn.setLast, Dn.getLast, evalO, mapO, Dn.get, putE, keepE, TV.one, TV.isAgg, Dn.part, e1, e2, c1, c2, a1', a2', c3, c4, a3', a4', c63, s1, l1, l2, c64, t3]

theorem l21_13_all {pg : Pg} (hF : Free pg) {n : Nat} (hn : n ≤ 5) {out : TV} {ts : List {t : TV // t.one = true}} {W : Nat → Nat → Frc} (hP : FPos W n) (hS : FSm W n) {HT : Heap} (ho : NestD elF HT out ts (tabl n W)) {B : Nat} : ∀ (d i : Nat) (H : Heap) (s : Frc), i + d = n → SM21 HT H B s → RInv n W i 0 s →
    ∃ e H' s', den pg l21_13 [(2, .ref 0 0), (4, .i .i64 (n : Int)), (5, out), (14, .ref B 0), (15, .i .i64 (i : Int))] H = some ⟨.exit 10, e, H'⟩ ∧
      Dn.get e 2 = some (.ref 0 0) ∧ Dn.get e 14 = some (.ref B 0) ∧ SM21 HT H' B s' ∧ RInv n W n 0 s'
  | 0, i, H, s, h, hs, hr => by
    obtain rfl : i = n := by omega
    refine ⟨[(2, .ref 0 0), (4, .i .i64 (i : Int)), (5, out), (14, .ref B 0), (15, .i .i64 (i : Int)), (98, .b false)], H, s, ?_, rfl, rfl, hs, hr⟩
    rw [l21_13, den_loop]
    simp [b21_12, go_nil, go_last, go_past, go_pastR, go_blkN, go_blkR, go_blkE, go_skip, go_exit, go_ret, go_scope, go_seq, go_reg, go_block, go_cond, cnd_b, go_opsN, go_ops, go_opsG, grd_b, grd_u, stp_some, fin_some, up_some, cont_some, k_call, k_mv, k_pick, k_bin, k_eqB, k_eqA, k_not, k_neg, k_conv, k_alloc, k_boxA, k_boxI, k_boxB, k_boxN, k_boxBs, k_ldR, k_ldA, k_ldI, k_ldB, k_stA, k_stI, k_stB, ldC_some, stC_some, k_mkfn, k_slc, k_slcA, k_ixA, k_ixBs, k_ixSl, k_fadr, k_fld, k_ext, k_len, k_app, k_mn, k_mx, k_nilck, k_build, k_bsl1, k_bsl2, b_add, b_sub, b_mul, b_eql, b_neq, b_lss, b_leq, b_gtr, b_geq, Dn.setLast, Dn.getLast, evalO, mapO, Dn.get, putE, keepE, TV.one, TV.isAgg, Dn.part]
  | d + 1, i, H, s, h, hs, hr => by
    have hi : i < n := by omega
    have e1 : ((i : Int) < (n : Int)) := by omega
    have e2 : wrapR .i64 ((i : Int) + 1) = .i .i64 ((i : Int) + 1) := wrapR_i64 (by omega)
    obtain ⟨e, H1, s1, h1, h2, h3, h4⟩ := l21_11_all (pg := pg) hF hn hP hS ho (B := B) hi i 0 H s (by omega) hs hr
    simp only [Int.natCast_zero] at h1
    have g2 := keep_get h2 (s := 2) (by simp) rfl
    have g4 := keep_get h2 (s := 4) (by simp) rfl
    have g5 := keep_get h2 (s := 5) (by simp) rfl
    have g14 := keep_get h2 (s := 14) (by simp) rfl
    have g15 := keep_get h2 (s := 15) (by simp) rfl
    obtain ⟨e', H2, s2, k1, k2, k3, k4, k5⟩ := l21_13_all (pg := pg) hF hn hP hS ho (B := B) d (i + 1) H1 s1 (by omega) h3 h4.row
    refine ⟨e', H2, s2, Eq.trans ?_ k1, k2, k3, k4, k5⟩
    rw [l21_13, den_loop]
    simp [l21_13, b21_12, go_nil, go_last, go_past, go_pastR, go_blkN, go_blkR, go_blkE, go_skip, go_exit, go_ret, go_scope, go_seq, go_reg, go_block, go_cond, cnd_b, go_opsN, go_ops, go_opsG, grd_b, grd_u, stp_some, fin_some, up_some, cont_some, k_call, k_mv, k_pick, k_bin, k_eqB, k_eqA, k_not, k_neg, k_conv, k_alloc, k_boxA, k_boxI, k_boxB, k_boxN, k_boxBs, k_ldR, k_ldA, k_ldI, k_ldB, k_stA, k_stI, k_stB, ldC_some, stC_some, k_mkfn, k_slc, k_slcA, k_ixA, k_ixBs, k_ixSl, k_fadr, k_fld, k_ext, k_len, k_app, k_mn, k_mx, k_nilck, k_build, k_bsl1, k_bsl2, b_add, b_sub, b_mul, b_eql, b_neq, b_lss, b_leq, b_gtr, b_geq, Dn.setLast, Dn.getLast, evalO, mapO, Dn.get, putE, keepE, TV.one, TV.isAgg, Dn.part, e1, e2, go_denK (c := l21_11) rfl, h1, g2, g4, g5, g14, g15]

theorem qF_small {X : List Obs} {g : Nat} (hm : Market X g) : FSm (qF X) X.length := fun i k hi hk => by
  have h1 := (hm.cN hi hk).2.2
  have h2 := (hm.cN hi hi).2.2
  exact ⟨by show _ ≤ 2000; simp only [qF]; omega, by show _ ≤ 2000; simp only [qF]; omega⟩

/-- the reference's share -/
theorem call21 {pg : Pg} (hF : Free pg) {X : List Obs} {g : Nat} (hm : Market X g) : ∃ s : Frc, IsShare X.length (qF X) s ∧ ∀ H, callRun pg (den pg) (.pu []) [.fn 21 [] [], (elS false).lt false X] H = some (frV s, H) := by
  have hn5 := hm.n5
  have c37 := call37 hF hm (elS_RV true true X)
  have hlen := El.lt_len (E := elS true) true X
  have hCv : ∀ H, (elR false).View H ((elR false).lt false (costs X)) (costs X) := fun H => El.lt_view _ _ _
  obtain ⟨H0, hH0⟩ : ∃ H0 : Heap, H0 = [.cells [.i .i64 0, .i .i64 0] true] := ⟨_, rfl⟩
  have hl0 : H0.length = 1 := by rw [hH0]; rfl
  have hn0 := NestB.nil (E := elF) H0
  rw [hl0] at hn0
  obtain ⟨e1, out, ts, H1, h1, h2, h3⟩ := l21_3_all (pg := pg) hm hCv X.length 0 .nilsl [] [] H0 (by omega) hn0 rfl
  rw [List.nil_append, show ((List.range X.length).drop 0).map (fun i => trow X.length (qF X) i) = tabl X.length (fall (qF X) 0) from rfl] at h3
  have g2 := keep_get h2 (s := 2) (by simp) rfl
  have g4 := keep_get h2 (s := 4) (by simp) rfl
  have g5 := keep_get h2 (s := 5) (by simp) rfl
  have hS := qF_small hm
  have hP := qF_pos hm
  obtain ⟨e2, H2, k1, k2, k3⟩ := l21_9_all (pg := pg) hF hn5 hS X.length 0 H1 (by omega) h3
  have g2' := keep_get k2 (s := 2) (by simp) rfl
  have g4' := keep_get k2 (s := 4) (by simp) rfl
  have g5' := keep_get k2 (s := 5) (by simp) rfl
  have hs0 : SM21 H2 (H2 ++ [.cells [.i .i64 ((1 : Nat) : Int), .i .i64 ((1 : Nat) : Int)] true]) H2.length (1, 1) := ⟨fun j hj => List.getElem?_append_left hj, getLast _ _, Nat.le_refl _⟩
  have st0 := st2 (pg := pg) (R := den pg) H2 0 0 ((1 : Nat) : Int) ((1 : Nat) : Int)
  obtain ⟨e3, H3, s, m1, m2, m3, m4, m5⟩ := l21_13_all (pg := pg) hF hn5 (fall_pos hP X.length (Nat.le_refl _)) (fall_small hS X.length (Nat.le_refl _)) k3.n (B := H2.length) X.length 0 _ (1, 1) (by omega) hs0 (RInv.init _ _)
  have hlen2 := k3.len
  have z0 : H3[0]? = some (.cells [.i .i64 0, .i .i64 0] true) := by rw [m4.old 0 (by omega), k3.old 0 (by omega), hH0]; rfl
  have l1 := ld2 (pg := pg) (R := den pg) m4.b
  have c65 := call65 hF (x := s.1) (y := s.2) ⟨m5.pos.1, by have := m5.small.1; omega⟩ (by have := m5.small.2; omega) H3
  rw [lowV_lo] at c65
  have t0 := stq (pg := pg) (R := den pg) z0 ((lo s).1 : Int) ((lo s).2 : Int)
  have hl3 : 0 < H3.length := (List.getElem?_eq_some_iff.1 z0).1
  have st0' : dkc pg (den pg) (.st 2) [.ref H2.length 0, .agg [.i .i64 1, .i .i64 1]] (H2 ++ [.cells [.i .i64 0, .i .i64 0] true]) = some (.undef, H2 ++ [.cells [.i .i64 ((1 : Nat) : Int), .i .i64 ((1 : Nat) : Int)] true]) := st0
  simp only [Int.natCast_zero] at h1 k1 m1
  rw [hH0] at h1
  refine ⟨lo s, m5.share hP, fun H => PFn.call (xs := [(elS true).lt true X]) (.of_go (x := .ret) (e := [(2, .ref 0 0)]) (H' := H3.set 0 (.cells [.i .i64 ((lo s).1 : Int), .i .i64 ((lo s).2 : Int)] true)) (vs := [frV (lo s)]) (hF.S _ _ (by decide)) (d := d21) (by rw [hF.F]; rfl) rfl ?_ (.inl rfl) (by simp [d21, mapO, resRun, Dn.get, dk, Dn.part, hl3, frV]) (by
      show Dn.snap .fin _ 9 (frV (lo s)) = _
      simp [sn_i, sn_b, sn_nil, sn8_i, sn8_b, sn8_nil, sn7_i, sn7_b, sn_sl, sn8_sl, slB_some, sn_tup, sn_agg, sn8_agg, mapO, elems, frV])) (args := [(elS false).lt false X]) (by simp [snapArgs, snZ])⟩
  simp only [frV_eq] at c65
  generalize ((lo s).1 : Int) = q1 at *
  generalize ((lo s).2 : Int) = q2 at *
  generalize (s.1 : Int) = q3 at *
  generalize (s.2 : Int) = q4 at *
  generalize (H2 ++ [.cells [.i .i64 ((1 : Nat) : Int), .i .i64 ((1 : Nat) : Int)] true]) = HB at *
  simp [d21, c21, zipE, go_nil, go_last, go_past, go_pastR, go_blkN, go_blkR, go_blkE, go_skip, go_exit, go_ret, go_scope, go_seq, go_reg, go_block, go_cond, cnd_b, go_opsN, go_ops, go_opsG, grd_b, grd_u, stp_some, fin_some, up_some, cont_some, k_call, k_mv, k_pick, k_bin, k_eqB, k_eqA, k_not, k_neg, k_conv, k_alloc, k_boxA, k_boxI, k_boxB, k_boxN, k_boxBs, k_ldR, k_ldA, k_ldI, k_ldB, k_stA, k_stI, k_stB, ldC_some, stC_some, k_mkfn, k_slc, k_slcA, k_ixA, k_ixBs, k_ixSl, k_fadr, k_fld, k_ext, k_len, k_app, k_mn, k_mx, k_nilck, k_build, k_bsl1, k_bsl2, b_add, b_sub, b_mul, b_eql, b_neq, b_lss, b_leq, b_gtr, b_geq, Dn.setLast, Dn.getLast, evalO, mapO, Dn.get, putE, keepE, TV.one, TV.isAgg, Dn.part, c37, hlen, go_denK (c := l21_3) rfl, h1, g2, g4, g5, go_denK (c := l21_9) rfl, k1, g2', g4', g5', fillP, put2, TV.cells, st0', go_denK (c := l21_13) rfl, m1, m2, m3, l1, c65, t0]

end Go.Proofs.Tryd.Dn

