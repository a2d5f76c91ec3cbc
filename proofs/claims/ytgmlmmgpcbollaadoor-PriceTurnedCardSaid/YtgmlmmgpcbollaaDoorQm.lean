/-
  Shares as fractions; the least share of a round, in plain terms.
-/
import Derived.Test.YtgmlmmgpcbollaaDoorQl
import Derived.Test.YtgmlmmgpcbollaaDoorDd
set_option linter.unusedSimpArgs false
set_option linter.unusedVariables false

namespace Go.Proofs.Tryd.Dn
open Go.Dn

abbrev Frc := Nat × Nat
def fle (x y : Frc) : Prop := x.1 * y.2 ≤ y.1 * x.2
instance (x y : Frc) : Decidable (fle x y) := inferInstanceAs (Decidable (_ ≤ _))

theorem fle_refl (x : Frc) : fle x x := Nat.le_refl _
theorem fle_total (x y : Frc) : fle x y ∨ fle y x := Nat.le_total _ _
theorem fle_trans {x y z : Frc} (hy : 0 < y.2) (h1 : fle x y) (h2 : fle y z) : fle x z := by
  unfold fle at *
  refine Nat.le_of_mul_le_mul_right ?_ hy
  calc x.1 * z.2 * y.2 = x.1 * y.2 * z.2 := by rw [Nat.mul_right_comm]
    _ ≤ y.1 * x.2 * z.2 := Nat.mul_le_mul_right _ h1
    _ = y.1 * z.2 * x.2 := by rw [Nat.mul_right_comm]
    _ ≤ z.1 * y.2 * x.2 := Nat.mul_le_mul_right _ h2
    _ = z.1 * x.2 * y.2 := by rw [Nat.mul_right_comm]

def lo (x : Frc) : Frc := (x.1 / Nat.gcd x.1 x.2, x.2 / Nat.gcd x.1 x.2)

theorem lo_mul {x : Frc} (h : 1 ≤ x.1) : ∃ g, 0 < g ∧ x.1 = (lo x).1 * g ∧ x.2 = (lo x).2 * g ∧ Nat.gcd (lo x).1 (lo x).2 = 1 := by
  have hg : 0 < Nat.gcd x.1 x.2 := Nat.gcd_pos_of_pos_left _ (by omega)
  exact ⟨Nat.gcd x.1 x.2, hg, (Nat.div_mul_cancel (Nat.gcd_dvd_left _ _)).symm, (Nat.div_mul_cancel (Nat.gcd_dvd_right _ _)).symm, Nat.gcd_div_gcd_div_gcd_of_pos_left (by omega)⟩

theorem lo_pos {x : Frc} (h : 1 ≤ x.1) (h2 : 1 ≤ x.2) : 1 ≤ (lo x).1 ∧ 1 ≤ (lo x).2 ∧ (lo x).1 ≤ x.1 ∧ (lo x).2 ≤ x.2 := by
  obtain ⟨g, hg, e1, e2, _⟩ := lo_mul h
  have h3 := Nat.div_le_self x.1 (Nat.gcd x.1 x.2)
  have h4 := Nat.div_le_self x.2 (Nat.gcd x.1 x.2)
  refine ⟨?_, ?_, h3, h4⟩
  · rcases Nat.eq_zero_or_pos (lo x).1 with h0 | h0
    · rw [h0, Nat.zero_mul] at e1; omega
    · exact h0
  · rcases Nat.eq_zero_or_pos (lo x).2 with h0 | h0
    · rw [h0, Nat.zero_mul] at e2; omega
    · exact h0

theorem fle_lo_left {x t : Frc} (h : 1 ≤ x.1) : fle (lo x) t ↔ fle x t := by
  obtain ⟨g, hg, e1, e2, _⟩ := lo_mul h
  unfold fle
  constructor
  · intro hh
    rw [e1, e2, Nat.mul_right_comm, ← Nat.mul_assoc]
    exact Nat.mul_le_mul_right _ hh
  · intro hh
    rw [e1, e2, Nat.mul_right_comm, ← Nat.mul_assoc] at hh
    exact Nat.le_of_mul_le_mul_right hh hg

theorem fle_lo_right {x t : Frc} (h : 1 ≤ t.1) : fle x (lo t) ↔ fle x t := by
  obtain ⟨g, hg, e1, e2, _⟩ := lo_mul h
  unfold fle
  constructor
  · intro hh
    rw [e1, e2, ← Nat.mul_assoc, Nat.mul_right_comm (lo t).1]
    exact Nat.mul_le_mul_right _ hh
  · intro hh
    rw [e1, e2, ← Nat.mul_assoc, Nat.mul_right_comm (lo t).1] at hh
    exact Nat.le_of_mul_le_mul_right hh hg

theorem coprime_eq {a b c d : Nat} (h1 : Nat.gcd a b = 1) (h2 : Nat.gcd c d = 1) (hb : 0 < b) (ha : 0 < a) (h : a * d = c * b) : a = c ∧ b = d := by
  have k1 : a ∣ c := Nat.Coprime.dvd_of_dvd_mul_right h1 ⟨d, h.symm⟩
  have k2 : c ∣ a := Nat.Coprime.dvd_of_dvd_mul_right h2 ⟨b, h⟩
  have e := Nat.dvd_antisymm k1 k2
  subst e
  exact ⟨rfl, (Nat.eq_of_mul_eq_mul_left ha h).symm⟩

/-- in lowest terms there is but one fraction of each size -/
theorem lo_unique {x y : Frc} (hx : 1 ≤ x.1) (hx2 : 1 ≤ x.2) (hy : 1 ≤ y.1) (hy2 : 1 ≤ y.2) (h1 : fle x y) (h2 : fle y x) : lo x = lo y := by
  obtain ⟨g, hg, e1, e2, e3⟩ := lo_mul hx
  obtain ⟨k, hk, f1, f2, f3⟩ := lo_mul hy
  have p := lo_pos hx hx2
  rw [← fle_lo_left hx, ← fle_lo_right hy] at h1
  rw [← fle_lo_left hy, ← fle_lo_right hx] at h2
  unfold fle at h1 h2
  obtain ⟨q1, q2⟩ := coprime_eq e3 f3 p.2.1 p.1 (Nat.le_antisymm h1 h2)
  exact Prod.ext q1 q2

theorem lo_lo {x : Frc} (hx : 1 ≤ x.1) (hx2 : 1 ≤ x.2) : lo (lo x) = lo x := by
  have p := lo_pos hx hx2
  exact lo_unique p.1 p.2.1 hx hx2 ((fle_lo_left hx).2 (fle_refl x)) ((fle_lo_right hx).2 (fle_refl x))

/-! the closure of a table of fractions -/

def fmax (x y : Frc) : Frc := if fle y x then x else y
def fstep (j : Nat) (Q : Nat → Nat → Frc) : Nat → Nat → Frc := fun i k => if fle (Q i k) (fmax (Q i j) (Q j k)) then Q i k else fmax (Q i j) (Q j k)
def fall (Q : Nat → Nat → Frc) : Nat → Nat → Nat → Frc
  | 0 => Q
  | j + 1 => fstep j (fall Q j)

def FPos (Q : Nat → Nat → Frc) (n : Nat) : Prop := ∀ i k, i < n → k < n → 1 ≤ (Q i k).1 ∧ 1 ≤ (Q i k).2

theorem fmax_le {x y t : Frc} (hx : 0 < x.2) (hy : 0 < y.2) : fle (fmax x y) t ↔ fle x t ∧ fle y t := by
  unfold fmax
  split
  · rename_i h; exact ⟨fun h1 => ⟨h1, fle_trans hx h h1⟩, fun h1 => h1.1⟩
  · rename_i h
    have h' := (fle_total x y).resolve_right h
    exact ⟨fun h1 => ⟨fle_trans hy h' h1, h1⟩, fun h1 => h1.2⟩

theorem fmax_pos {x y : Frc} (hx : 1 ≤ x.1 ∧ 1 ≤ x.2) (hy : 1 ≤ y.1 ∧ 1 ≤ y.2) : 1 ≤ (fmax x y).1 ∧ 1 ≤ (fmax x y).2 := by
  unfold fmax; split <;> assumption

theorem fstep_pos {Q : Nat → Nat → Frc} {n : Nat} (h : FPos Q n) {j : Nat} (hj : j < n) : FPos (fstep j Q) n := by
  intro i k hi hk
  unfold fstep
  split
  · exact h i k hi hk
  · exact fmax_pos (h i j hi hj) (h j k hj hk)

theorem fall_pos {Q : Nat → Nat → Frc} {n : Nat} (h : FPos Q n) : ∀ j, j ≤ n → FPos (fall Q j) n
  | 0, _ => h
  | j + 1, hj => fstep_pos (fall_pos h j (by omega)) (by omega)

theorem fstep_le {Q : Nat → Nat → Frc} {n : Nat} (h : FPos Q n) {j i k : Nat} (hj : j < n) (hi : i < n) (hk : k < n) {t : Frc} : fle (fstep j Q i k) t ↔ fle (Q i k) t ∨ (fle (Q i j) t ∧ fle (Q j k) t) := by
  have p1 := (h i j hi hj).2
  have p2 := (h j k hj hk).2
  have p3 := (h i k hi hk).2
  have pm := (fmax_pos (h i j hi hj) (h j k hj hk)).2
  rw [← fmax_le p1 p2]
  unfold fstep
  split
  · rename_i hh; exact ⟨.inl, fun h1 => h1.elim id fun h2 => fle_trans pm hh h2⟩
  · rename_i hh
    have hh' := (fle_total (Q i k) (fmax (Q i j) (Q j k))).resolve_left hh
    exact ⟨.inr, fun h1 => h1.elim (fun h2 => fle_trans p3 hh' h2) id⟩

/-- which entries are at most so great -/
def fT (n : Nat) (Q : Nat → Nat → Frc) (t : Frc) (i k : Nat) : Bool := decide (i < n) && decide (k < n) && decide (fle (Q i k) t)

theorem fT_iff {n : Nat} {Q : Nat → Nat → Frc} {t : Frc} {i k : Nat} : fT n Q t i k = true ↔ i < n ∧ k < n ∧ fle (Q i k) t := by simp [fT, and_assoc]

theorem fall_le {Q : Nat → Nat → Frc} {n : Nat} (h : FPos Q n) (t : Frc) : ∀ j, j ≤ n → ∀ i k, i < n → k < n → (fle (fall Q j i k) t ↔ wall (fT n Q t) j i k = true)
  | 0, _, i, k, hi, hk => by simp [fall, wall, fT, hi, hk]
  | j + 1, hj, i, k, hi, hk => by
    have ih := fall_le h t j (by omega)
    show fle (fstep j (fall Q j) i k) t ↔ _
    rw [fstep_le (fall_pos h j (by omega)) (by omega) hi hk, ih i k hi hk, ih i j hi (by omega), ih j k (by omega) hk]
    simp [wall, wstep]

theorem fall_rch {Q : Nat → Nat → Frc} {n : Nat} (h : FPos Q n) {t : Frc} {i k : Nat} (hi : i < n) (hk : k < n) : fle (fall Q n i k) t ↔ Rch1 (fT n Q t) i k := by
  rw [fall_le h t n (Nat.le_refl _) i k hi hk]
  exact wall_iff fun i k h => (fT_iff.1 h).2.1

theorem Rch_mono {E F : Nat → Nat → Bool} (h : ∀ i k, E i k = true → F i k = true) {a b : Nat} (hr : Rch E a b) : Rch F a b := by
  induction hr with
  | here => exact .here
  | step _ he ih => exact .step ih (h _ _ he)

theorem fT_mono {n : Nat} {Q : Nat → Nat → Frc} (h : FPos Q n) {s t : Frc} (hs : 0 < s.2) (hst : fle s t) (i k : Nat) (he : fT n Q s i k = true) : fT n Q t i k = true := by
  obtain ⟨a, b, c⟩ := fT_iff.1 he
  exact fT_iff.2 ⟨a, b, fle_trans hs c hst⟩

/-- each entry of the closure is one of the table, on a way -/
theorem fall_at {Q : Nat → Nat → Frc} {n : Nat} (h : FPos Q n) : ∀ j, j ≤ n → ∀ i k, i < n → k < n → ∃ x y, x < n ∧ y < n ∧ fall Q j i k = Q x y ∧ Rch (fT n Q (Q x y)) i x ∧ Rch (fT n Q (Q x y)) y k
  | 0, _, i, k, hi, hk => ⟨i, k, hi, hk, rfl, .here, .here⟩
  | j + 1, hj, i, k, hi, hk => by
    have hjn : j < n := by omega
    have hp := fall_pos h j (by omega)
    have ih := fall_at h j (by omega)
    have key : ∀ a b, a < n → b < n → fall Q j a b = fall Q j a b → ∀ s : Frc, 0 < s.2 → fle (fall Q j a b) s → Rch (fT n Q s) a b := by
      intro a b ha hb _ s hs hle
      have := (fall_le h s j (by omega) a b ha hb).1 hle
      exact (wall_sound _ _ this).rch
    show ∃ x y, x < n ∧ y < n ∧ fstep j (fall Q j) i k = Q x y ∧ _
    unfold fstep
    split
    · exact ih i k hi hk
    · unfold fmax
      split
      · rename_i hm
        obtain ⟨x, y, hx, hy, e, r1, r2⟩ := ih i j hi hjn
        rw [e] at hm
        exact ⟨x, y, hx, hy, e, r1, r2.trans (key j k hjn hk rfl _ (h x y hx hy).2 hm)⟩
      · rename_i hm
        have hm' := (fle_total _ _).resolve_right hm
        obtain ⟨x, y, hx, hy, e, r1, r2⟩ := ih j k hjn hk
        rw [e] at hm'
        exact ⟨x, y, hx, hy, e, (key i j hi hjn rfl _ (h x y hx hy).2 hm').trans r1, r2⟩

/-- a round of more than one -/
def Cyc (E : Nat → Nat → Bool) (n : Nat) : Prop := ∃ i k, i < n ∧ k < n ∧ i ≠ k ∧ Rch E i k ∧ Rch E k i

/-- a pair by which the program finds it -/
def Cand (n : Nat) (Q : Nat → Nat → Frc) (i k : Nat) : Prop := i < n ∧ k < n ∧ i ≠ k ∧ Rch (fT n Q (Q i k)) k i

theorem cyc_cand {Q : Nat → Nat → Frc} {n : Nat} (h : FPos Q n) (h1 : ∀ i, i < n → (Q i i).1 = (Q i i).2) {t : Frc} : (fle (1, 1) t ∨ ∃ i k, Cand n Q i k ∧ fle (Q i k) t) ↔ (fle (1, 1) t ∨ Cyc (fT n Q t) n) := by
  constructor
  · rintro (hh | ⟨i, k, ⟨hi, hk, hne, hr⟩, hle⟩)
    · exact .inl hh
    · have hmono := fT_mono h (h i k hi hk).2 hle
      exact .inr ⟨i, k, hi, hk, hne, .step .here (fT_iff.2 ⟨hi, hk, hle⟩), Rch_mono hmono hr⟩
  · rintro (hh | ⟨i, k, hi, hk, hne, r1, r2⟩)
    · exact .inl hh
    · have w1 := (fall_rch h hi hk).2 (r1.rch1 hne)
      have w2 := (fall_rch h hk hi).2 (r2.rch1 (Ne.symm hne))
      have main : ∀ i k, i < n → k < n → fle (fall Q n i k) t → fle (fall Q n k i) (fall Q n i k) → (fle (1, 1) t ∨ ∃ i k, Cand n Q i k ∧ fle (Q i k) t) := by
        intro i k hi hk hw hm
        obtain ⟨x, y, hx, hy, e, q1, q2⟩ := fall_at h n (Nat.le_refl _) i k hi hk
        rw [e] at hw hm
        have q3 := ((fall_rch h hk hi).1 hm).rch
        by_cases hxy : x = y
        · subst hxy
          have := h1 x hx
          have hp := (h x x hx hx).2
          refine .inl ?_
          have e1 : fle (1, 1) (Q x x) := by unfold fle; rw [this]; show 1 * _ ≤ _ * 1; omega
          exact fle_trans hp e1 hw
        · exact .inr ⟨x, y, ⟨hx, hy, hxy, (q2.trans q3).trans q1⟩, hw⟩
      rcases fle_total (fall Q n k i) (fall Q n i k) with hm | hm
      · exact main i k hi hk w1 hm
      · exact main k i hk hi w2 hm

/-- what the share of a taste is -/
structure IsShare (n : Nat) (Q : Nat → Nat → Frc) (s : Frc) : Prop where
  pos : 1 ≤ s.1 ∧ 1 ≤ s.2
  low : lo s = s
  le : ∀ t : Frc, 1 ≤ t.2 → (fle s t ↔ fle (1, 1) t ∨ Cyc (fT n Q t) n)

theorem IsShare.unique {n m : Nat} {Q P : Nat → Nat → Frc} {s u : Frc} (hs : IsShare n Q s) (hu : IsShare m P u) (h : ∀ t : Frc, 1 ≤ t.2 → (Cyc (fT n Q t) n ↔ Cyc (fT m P t) m)) : s = u := by
  have h1 : fle s u := (hs.le u hu.pos.2).2 (((hu.le u hu.pos.2).1 (fle_refl u)).imp id (h u hu.pos.2).2)
  have h2 : fle u s := (hu.le s hs.pos.2).2 (((hs.le s hs.pos.2).1 (fle_refl s)).imp id (h s hs.pos.2).1)
  rw [← hs.low, ← hu.low]
  exact lo_unique hs.pos.1 hs.pos.2 hu.pos.1 hu.pos.2 h1 h2

/-- the quotients of costs -/
def qF (X : List Obs) (i k : Nat) : Frc := (cN X i k, cN X i i)

theorem qF_pos {X : List Obs} {g : Nat} (hm : Market X g) : FPos (qF X) X.length := fun i k hi hk => ⟨(hm.cN hi hk).2.1, (hm.cN hi hi).2.1⟩
theorem qF_one (X : List Obs) (i : Nat) : (qF X i i).1 = (qF X i i).2 := rfl

theorem pref_fle {X : List Obs} {g : Nat} (hm : Market X g) {i k : Nat} (hi : i < X.length) (hk : k < X.length) (t : Frc) : 0 < pref X t.1 t.2 i k ↔ fle (qF X i k) t := by
  obtain ⟨e1, _, _⟩ := hm.cN hi hk
  obtain ⟨e2, _, _⟩ := hm.cN hi hi
  unfold pref fle qF
  rw [e1, e2]
  have key : ((t.2 : Int) * (cN X i k : Int) ≤ (t.1 : Int) * (cN X i i : Int)) ↔ cN X i k * t.2 ≤ t.1 * cN X i i := by
    rw [Nat.mul_comm (cN X i k)]
    constructor
    · intro h; exact_mod_cast h
    · intro h; exact_mod_cast h
  simp only []
  rw [← key]
  split
  · omega
  · split
    · omega
    · omega

theorem tE_fT {X : List Obs} {g : Nat} (hm : Market X g) (t : Frc) : tE X.length (pref X t.1 t.2) = fT X.length (qF X) t := by
  funext i k
  unfold tE fT
  by_cases hi : i < X.length
  · by_cases hk : k < X.length
    · simp only [hi, hk, decide_true, Bool.true_and]
      rw [Bool.eq_iff_iff, decide_eq_true_eq, decide_eq_true_eq]
      exact pref_fle hm hi hk t
    · simp [hk]
  · simp [hi]

end Go.Proofs.Tryd.Dn

/-
  The share of a taste: the program's.
-/

namespace Go.Proofs.Tryd.Dn
open Go.Dn

def frV (x : Frc) : TV := .agg [.i .i64 (x.1 : Int), .i .i64 (x.2 : Int)]
theorem frV_eq (x : Frc) : frV x = .agg [.i .i64 (x.1 : Int), .i .i64 (x.2 : Int)] := rfl

def smallF (x : Frc) : Prop := x.1 ≤ 2000 ∧ x.2 ≤ 2000

theorem mul_small {a b : Nat} (ha : a ≤ 2000) (hb : b ≤ 2000) : wrapR .i64 ((a : Int) * (b : Int)) = .i .i64 ((a * b : Nat) : Int) := by
  have h1 : a * b ≤ 2000 * 2000 := Nat.mul_le_mul ha hb
  rw [show (a : Int) * (b : Int) = ((a * b : Nat) : Int) by simp]
  exact wrapR_i64 (by omega)

theorem call55 {pg : Pg} (hF : Free pg) {x y : Frc} (hx : smallF x) (hy : smallF y) (H : Heap) : callRun pg (den pg) (.pu []) [.fn 55 [] [], frV x, frV y] H = some (.b (decide (¬ fle y x)), H) := by
  have m1 := mul_small hx.1 hy.2
  have m2 := mul_small hy.1 hx.2
  have hd : pg.F 55 = some d55 := by rw [hF.F]; rfl
  refine PFn.call (xs := [frV x, frV y]) (.of1 (x := .ret) (e := [(4, .b (decide (¬ fle y x)))]) (H' := [.cells [.i .i64 (x.1 : Int), .i .i64 (x.2 : Int)] true, .cells [.i .i64 (y.1 : Int), .i .i64 (y.2 : Int)] true]) (hF.S _ _ (by decide)) hd rfl ?_ (.inl rfl) rfl (by simp [sn_i, sn_b, sn_nil, sn8_i, sn8_b, sn8_nil, sn7_i, sn7_b, sn_sl, sn8_sl, slB_some, sn_tup, sn_agg, sn8_agg, mapO, elems])) (args := [frV x, frV y]) (by simp [snapArgs, sn_i, sn_b, sn_nil, sn8_i, sn8_b, sn8_nil, sn7_i, sn7_b, sn_sl, sn8_sl, slB_some, sn_tup, sn_agg, sn8_agg, mapO, elems, frV])
  by_cases he : x = y
  · subst he
    have : ¬ ¬ fle x x := fun h => h (fle_refl x)
    simp [d55, c55, zipE, go_nil, go_last, go_past, go_pastR, go_blkN, go_blkR, go_blkE, go_skip, go_exit, go_ret, go_scope, go_seq, go_reg, go_block, go_cond, cnd_b, go_opsN, go_ops, go_opsG, grd_b, grd_u, stp_some, fin_some, up_some, cont_some, k_call, k_mv, k_pick, k_bin, k_eqB, k_eqA, k_not, k_neg, k_conv, k_alloc, k_boxA, k_boxI, k_boxB, k_boxN, k_boxBs, k_ldR, k_ldA, k_ldI, k_ldB, k_stA, k_stI, k_stB, ldC_some, stC_some, k_mkfn, k_slc, k_slcA, k_ixA, k_ixBs, k_ixSl, k_fadr, k_fld, k_ext, k_len, k_app, k_mn, k_mx, k_nilck, k_build, k_bsl1, k_bsl2, b_add, b_sub, b_mul, b_eql, b_neq, b_lss, b_leq, b_gtr, b_geq, Dn.setLast, Dn.getLast, evalO, mapO, Dn.get, putE, keepE, TV.one, TV.isAgg, Dn.part, frV, eqL, eqK, eqS, negb, this, fle_refl]
  · have hne : ((x.1 : Int) == (y.1 : Int) && (x.2 : Int) == (y.2 : Int)) = false := by
      rw [Bool.eq_false_iff]
      intro h
      simp only [Bool.and_eq_true, beq_iff_eq] at h
      exact he (Prod.ext (by omega) (by omega))
    have hdec : decide (((x.1 * y.2 : Nat) : Int) < ((y.1 * x.2 : Nat) : Int)) = decide (¬ fle y x) := by
      rw [decide_eq_decide]; unfold fle; omega
    simp only [frV_eq]
    generalize ((x.1 * y.2 : Nat) : Int) = A at *
    generalize ((y.1 * x.2 : Nat) : Int) = B at *
    generalize decide (¬ fle y x) = D at *
    generalize (x.1 : Int) = x1 at *
    generalize (x.2 : Int) = x2 at *
    generalize (y.1 : Int) = y1 at *
    generalize (y.2 : Int) = y2 at *
    have hq : eqL [true, true] [TV.i .i64 x1, TV.i .i64 x2] [TV.i .i64 y1, TV.i .i64 y2] = some (x1 == y1 && x2 == y2) := by
      simp [eqL, eqK, eqS]
    rw [hne] at hq
    simp [d55, c55, zipE, go_nil, go_last, go_past, go_pastR, go_blkN, go_blkR, go_blkE, go_skip, go_exit, go_ret, go_scope, go_seq, go_reg, go_block, go_cond, cnd_b, go_opsN, go_ops, go_opsG, grd_b, grd_u, stp_some, fin_some, up_some, cont_some, k_call, k_mv, k_pick, k_bin, k_eqB, k_eqA, k_not, k_neg, k_conv, k_alloc, k_boxA, k_boxI, k_boxB, k_boxN, k_boxBs, k_ldR, k_ldA, k_ldI, k_ldB, k_stA, k_stI, k_stB, ldC_some, stC_some, k_mkfn, k_slc, k_slcA, k_ixA, k_ixBs, k_ixSl, k_fadr, k_fld, k_ext, k_len, k_app, k_mn, k_mx, k_nilck, k_build, k_bsl1, k_bsl2, b_add, b_sub, b_mul, b_eql, b_neq, b_lss, b_leq, b_gtr, b_geq, Dn.setLast, Dn.getLast, evalO, mapO, Dn.get, putE, keepE, TV.one, TV.isAgg, Dn.part, frV, hq, negb, m1, m2, hdec]

/-- which pairs have been looked at -/
def done2 (i k : Nat) (a b : Nat) : Prop := a < i ∨ a = i ∧ b < k

structure BInv (n : Nat) (Q : Nat → Nat → Frc) (D : Nat → Nat → Prop) (s : Frc) : Prop where
  pos : 1 ≤ s.1 ∧ 1 ≤ s.2
  low : lo s = s
  small : smallF s
  le : ∀ t : Frc, 1 ≤ t.2 → (fle s t ↔ fle (1, 1) t ∨ ∃ i k, D i k ∧ Cand n Q i k ∧ fle (Q i k) t)

theorem BInv.init (n : Nat) (Q : Nat → Nat → Frc) : BInv n Q (done2 0 0) (1, 1) where
  pos := ⟨Nat.le_refl _, Nat.le_refl _⟩
  low := by decide
  small := ⟨by decide, by decide⟩
  le t _ := ⟨.inl, fun h => h.elim id fun ⟨i, k, hd, _⟩ => by unfold done2 at hd; omega⟩

theorem BInv.skip {n : Nat} {Q : Nat → Nat → Frc} {i k : Nat} {s : Frc} (h : BInv n Q (done2 i k) s) (hQ : FPos Q n) (hno : ¬ (Cand n Q i k ∧ ¬ fle s (Q i k))) : BInv n Q (done2 i (k + 1)) s where
  pos := h.pos
  low := h.low
  small := h.small
  le t ht := by
    rw [h.le t ht]
    constructor
    · rintro (h1 | ⟨a, b, hd, hc, hl⟩)
      · exact .inl h1
      · exact .inr ⟨a, b, by unfold done2 at *; omega, hc, hl⟩
    · rintro (h1 | ⟨a, b, hd, hc, hl⟩)
      · exact .inl h1
      · by_cases he : a = i ∧ b = k
        · obtain ⟨rfl, rfl⟩ := he
          have hs : fle s (Q a b) := Classical.byContradiction fun hh => hno ⟨hc, hh⟩
          exact (h.le t ht).1 (fle_trans (hQ a b hc.1 hc.2.1).2 hs hl)
        · exact .inr ⟨a, b, by unfold done2 at *; omega, hc, hl⟩

theorem BInv.take {n : Nat} {Q : Nat → Nat → Frc} {i k : Nat} {s : Frc} (h : BInv n Q (done2 i k) s) (hQ : FPos Q n) (hc : Cand n Q i k) (hl : ¬ fle s (Q i k)) (hsm : smallF (Q i k)) : BInv n Q (done2 i (k + 1)) (lo (Q i k)) where
  pos := ⟨(lo_pos (hQ i k hc.1 hc.2.1).1 (hQ i k hc.1 hc.2.1).2).1, (lo_pos (hQ i k hc.1 hc.2.1).1 (hQ i k hc.1 hc.2.1).2).2.1⟩
  low := lo_lo (hQ i k hc.1 hc.2.1).1 (hQ i k hc.1 hc.2.1).2
  small := by
    have p := lo_pos (hQ i k hc.1 hc.2.1).1 (hQ i k hc.1 hc.2.1).2
    exact ⟨by have := hsm.1; omega, by have := hsm.2; omega⟩
  le t ht := by
    have hp := hQ i k hc.1 hc.2.1
    rw [fle_lo_left hp.1]
    have hle : fle (Q i k) s := (fle_total s (Q i k)).resolve_left hl
    constructor
    · intro h1; exact .inr ⟨i, k, by unfold done2; omega, hc, h1⟩
    · intro h1
      by_cases hst : fle s t
      · exact fle_trans h.pos.2 hle hst
      · rcases h1 with h1 | ⟨a, b, hd, hc', hl'⟩
        · exact absurd ((h.le t ht).2 (.inl h1)) hst
        · by_cases he : a = i ∧ b = k
          · obtain ⟨rfl, rfl⟩ := he; exact hl'
          · exact absurd ((h.le t ht).2 (.inr ⟨a, b, by unfold done2 at *; omega, hc', hl'⟩)) hst

theorem BInv.row {n : Nat} {Q : Nat → Nat → Frc} {i : Nat} {s : Frc} (h : BInv n Q (done2 i n) s) : BInv n Q (done2 (i + 1) 0) s where
  pos := h.pos
  low := h.low
  small := h.small
  le t ht := by
    rw [h.le t ht]
    constructor
    · rintro (h1 | ⟨a, b, hd, hc, hl⟩)
      · exact .inl h1
      · exact .inr ⟨a, b, by unfold done2 at *; omega, hc, hl⟩
    · rintro (h1 | ⟨a, b, hd, hc, hl⟩)
      · exact .inl h1
      · exact .inr ⟨a, b, by have := hc.2.1; unfold done2 at *; omega, hc, hl⟩

theorem BInv.share {n : Nat} {Q : Nat → Nat → Frc} {s : Frc} (h : BInv n Q (done2 n 0) s) (hQ : FPos Q n) (h1 : ∀ i, i < n → (Q i i).1 = (Q i i).2) : IsShare n Q s where
  pos := h.pos
  low := h.low
  le t ht := by
    rw [h.le t ht, ← cyc_cand hQ h1]
    constructor
    · rintro (h2 | ⟨i, k, _, hc⟩)
      · exact .inl h2
      · exact .inr ⟨i, k, hc⟩
    · rintro (h2 | ⟨i, k, hc⟩)
      · exact .inl h2
      · exact .inr ⟨i, k, by have := hc.1.1; unfold done2; omega, hc⟩

/-- the memory of the search -/
structure SM19 (X : List Obs) (H : Heap) (B : Nat) (s : Frc) : Prop where
  m : H[0]? = some (.cells (mX X) true)
  b : H[B]? = some (.cells [.i .i64 (s.1 : Int), .i .i64 (s.2 : Int)] true)
  ne : B ≠ 0

theorem SM19.push {X : List Obs} {H : Heap} {B : Nat} {s : Frc} (h : SM19 X H B s) (c : List TV) : SM19 X (H ++ [.cells c true]) B s where
  m := by rw [List.getElem?_append_left (List.getElem?_eq_some_iff.1 h.m).1]; exact h.m
  b := by rw [List.getElem?_append_left (List.getElem?_eq_some_iff.1 h.b).1]; exact h.b
  ne := h.ne

theorem SM19.set {X : List Obs} {H : Heap} {B : Nat} {s u : Frc} (h : SM19 X H B s) : SM19 X (H.set B (.cells [.i .i64 (u.1 : Int), .i .i64 (u.2 : Int)] true)) B u where
  m := by rw [List.getElem?_set_ne h.ne]; exact h.m
  b := by rw [List.getElem?_set_self (List.getElem?_eq_some_iff.1 h.b).1]
  ne := h.ne

theorem ld2 {pg : Pg} {R : Rec} {H : Heap} {id : Nat} {p q : Int} (h : H[id]? = some (.cells [.i .i64 p, .i .i64 q] true)) : dkc pg R (.ld 2 true) [.ref id 0] H = some (.agg [.i .i64 p, .i .i64 q], H) := by
  rw [k_ldR, h, ldC_some]; simp [Dn.part, up]

theorem stq {pg : Pg} {R : Rec} {H : Heap} {id : Nat} {a b : Int} (h : H[id]? = some (.cells [.i .i64 a, .i .i64 b] true)) (p q : Int) : dkc pg R (.st 2) [.ref id 0, .agg [.i .i64 p, .i .i64 q]] H = some (.undef, H.set id (.cells [.i .i64 p, .i .i64 q] true)) := by
  rw [k_stA, h, stC_some, if_pos ⟨rfl, rfl, by simp⟩]; rfl

theorem l19_1_all {pg : Pg} (hF : Free pg) {X : List Obs} {g : Nat} (hm : Market X g) {B i : Nat} (hi : i < X.length) : ∀ (d k : Nat) (H : Heap) (s : Frc), k + d = X.length → SM19 X H B s → BInv X.length (qF X) (done2 i k) s →
    ∃ e H' s', den pg l19_1 [(5, .ref 0 0), (7, .ref B 0), (8, .i .i64 (i : Int)), (23, .i .i64 (X.length : Int)), (24, .i .i64 (i : Int)), (30, .i .i64 (X.length : Int)), (31, .i .i64 (k : Int))] H = some ⟨.exit 2, e, H'⟩ ∧
      keepE [5, 7, 23, 24] e = [(5, .ref 0 0), (7, .ref B 0), (23, .i .i64 (X.length : Int)), (24, .i .i64 (i : Int))] ∧ SM19 X H' B s' ∧ BInv X.length (qF X) (done2 i X.length) s'
  | 0, k, H, s, h, hs, hb => by
    obtain rfl : k = X.length := by omega
    refine ⟨[(5, .ref 0 0), (7, .ref B 0), (8, .i .i64 (i : Int)), (23, .i .i64 (X.length : Int)), (24, .i .i64 (i : Int)), (30, .i .i64 (X.length : Int)), (31, .i .i64 (X.length : Int)), (32, .b false)], H, s, ?_, rfl, hs, hb⟩
    rw [l19_1, den_loop]
    simp [b19_0, go_nil, go_last, go_past, go_pastR, go_blkN, go_blkR, go_blkE, go_skip, go_exit, go_ret, go_scope, go_seq, go_reg, go_block, go_cond, cnd_b, go_opsN, go_ops, go_opsG, grd_b, grd_u, stp_some, fin_some, up_some, cont_some, k_call, k_mv, k_pick, k_bin, k_eqB, k_eqA, k_not, k_neg, k_conv, k_alloc, k_boxA, k_boxI, k_boxB, k_boxN, k_boxBs, k_ldR, k_ldA, k_ldI, k_ldB, k_stA, k_stI, k_stB, ldC_some, stC_some, k_mkfn, k_slc, k_slcA, k_ixA, k_ixBs, k_ixSl, k_fadr, k_fld, k_ext, k_len, k_app, k_mn, k_mx, k_nilck, k_build, k_bsl1, k_bsl2, b_add, b_sub, b_mul, b_eql, b_neq, b_lss, b_leq, b_gtr, b_geq, Dn.setLast, Dn.getLast, evalO, mapO, Dn.get, putE, keepE, TV.one, TV.isAgg, Dn.part]
  | d + 1, k, H, s, h, hs, hb => by
    have hn5 := hm.n5
    have hk : k < X.length := by omega
    have hi5 : i < 5 := by omega
    have hk5 : k < 5 := by omega
    have e1 : ((k : Int) < (X.length : Int)) := by omega
    have e2 : wrapR .i64 ((k : Int) + 1) = .i .i64 ((k : Int) + 1) := wrapR_i64 (by omega)
    have l1 := ld_mC (pg := pg) (R := den pg) hs.m hi5 hk5
    have l2 := ld_mC (pg := pg) (R := den pg) hs.m hi5 hi5
    obtain ⟨n1, p1, u1⟩ := hm.cN hi hk
    obtain ⟨n2, p2, u2⟩ := hm.cN hi hi
    rw [costF_in hi hk, n1] at l1
    rw [costF_in hi hi, n2] at l2
    have hQ := qF_pos hm
    have c54 := call54 hF (x := cN X i k) (y := cN X i i) (by omega) (by omega)
    have hlv : lowV (cN X i k) (cN X i i) = frV (lo (qF X i k)) := rfl
    rw [hlv] at c54
    have plo := lo_pos (x := qF X i k) p1 p2
    have ssm : smallF (lo (qF X i k)) := ⟨by have := plo.2.2.1; show _ ≤ 2000; simp only [qF] at this ⊢; omega, by have := plo.2.2.2; show _ ≤ 2000; simp only [qF] at this ⊢; omega⟩
    have qsm : smallF (qF X i k) := ⟨by simp only [qF]; omega, by simp only [qF]; omega⟩
    have c55 := call55 hF ssm hb.small
    have hless : decide (¬ fle s (lo (qF X i k))) = decide (¬ fle s (qF X i k)) := by
      rw [decide_eq_decide, fle_lo_right p1]
    rw [hless] at c55
    obtain ⟨r, _, c56, w1, w2⟩ := call56v (pg := pg) (t := i) hF hm (all_small hm) (ba := ((lo (qF X i k)).1 : Int)) (bb := ((lo (qF X i k)).2 : Int)) (by have := ssm.1; omega) (by have := ssm.2; omega) hk
    have hnn := nil_ne (pg := pg) (R := den pg) r
    have hT : tE X.length (pref X ((lo (qF X i k)).1 : Int) ((lo (qF X i k)).2 : Int)) = fT X.length (qF X) (qF X i k) := by
      rw [tE_fT hm (lo (qF X i k))]
      funext a b
      unfold fT
      congr 1
      rw [decide_eq_decide, fle_lo_right p1]
    have hrc : Rch (wE X (2 ^ X.length - 1) ((lo (qF X i k)).1 : Int) ((lo (qF X i k)).2 : Int)) k i ↔ Rch (fT X.length (qF X) (qF X i k)) k i := by
      rw [← hT]
      exact ⟨Rch.congr wE_all, Rch.congr fun a b => (wE_all a b).symm⟩
    rw [hrc] at w1
    obtain ⟨HA, hA⟩ : ∃ HA, HA = H ++ [.cells [.i .i64 ((lo (qF X i k)).1 : Int), .i .i64 ((lo (qF X i k)).2 : Int)] true] := ⟨_, rfl⟩
    have s1 := st2 (pg := pg) (R := den pg) H 0 0 ((lo (qF X i k)).1 : Int) ((lo (qF X i k)).2 : Int)
    rw [← hA] at s1
    have hsA : SM19 X HA B s := by rw [hA]; exact hs.push _
    have z1 : HA[H.length]? = some (.cells [.i .i64 ((lo (qF X i k)).1 : Int), .i .i64 ((lo (qF X i k)).2 : Int)] true) := by rw [hA]; exact getLast _ _
    have d1 := ld2 (pg := pg) (R := den pg) z1
    have d2 := ld2 (pg := pg) (R := den pg) hsA.b
    have t1 := stq (pg := pg) (R := den pg) hsA.b ((lo (qF X i k)).1 : Int) ((lo (qF X i k)).2 : Int)
    have c57 := call57 hF hm hsA.m
    have c56' := c56 HA 0 hsA.m
    have c55' := c55 HA
    simp only [frV_eq] at c54 c55'
    by_cases hc : Cand X.length (qF X) i k ∧ ¬ fle s (qF X i k)
    · obtain ⟨hc1, hc2⟩ := hc
      have hne : r ≠ [] := fun hr => w1.1 hr hc1.2.2.2
      have hd : decide (r ≠ []) = true := by simpa using hne
      have hik : ((i : Int) != (k : Int)) = true := by have := hc1.2.2.1; simp; omega
      have hfl : decide (¬ fle s (qF X i k)) = true := by simpa using hc2
      obtain ⟨e, H', s', h1, h2, h3, h4⟩ := l19_1_all hF hm (B := B) hi d (k + 1) _ _ (by omega) hsA.set (hb.take hQ hc1 hc2 qsm)
      refine ⟨e, H', s', Eq.trans ?_ h1, h2, h3, h4⟩
      rw [hd] at hnn
      rw [hfl] at c55'
      generalize ((lo (qF X i k)).1 : Int) = v1 at *
      generalize ((lo (qF X i k)).2 : Int) = v2 at *
      generalize ((2 ^ X.length - 1 : Nat) : Int) = al at *
      generalize (s.1 : Int) = q1 at *
      generalize (s.2 : Int) = q2 at *
      rw [l19_1, den_loop]
      simp [l19_1, b19_0, go_nil, go_last, go_past, go_pastR, go_blkN, go_blkR, go_blkE, go_skip, go_exit, go_ret, go_scope, go_seq, go_reg, go_block, go_cond, cnd_b, go_opsN, go_ops, go_opsG, grd_b, grd_u, stp_some, fin_some, up_some, cont_some, k_call, k_mv, k_pick, k_bin, k_eqB, k_eqA, k_not, k_neg, k_conv, k_alloc, k_boxA, k_boxI, k_boxB, k_boxN, k_boxBs, k_ldR, k_ldA, k_ldI, k_ldB, k_stA, k_stI, k_stB, ldC_some, stC_some, k_mkfn, k_slc, k_slcA, k_ixA, k_ixBs, k_ixSl, k_fadr, k_fld, k_ext, k_len, k_app, k_mn, k_mx, k_nilck, k_build, k_bsl1, k_bsl2, b_add, b_sub, b_mul, b_eql, b_neq, b_lss, b_leq, b_gtr, b_geq, Dn.setLast, Dn.getLast, evalO, mapO, Dn.get, putE, keepE, TV.one, TV.isAgg, Dn.part, e1, e2, hi5, hk5, l1, l2, fillP, put2, TV.cells, c54, s1, hik, d1, d2, c55', c57, c56', hnn, t1]
    · obtain ⟨e, H', s', h1, h2, h3, h4⟩ := l19_1_all hF hm (B := B) hi d (k + 1) _ _ (by omega) hsA (hb.skip hQ hc)
      refine ⟨e, H', s', Eq.trans ?_ h1, h2, h3, h4⟩
      by_cases hik : i = k
      · subst hik
        generalize ((lo (qF X i i)).1 : Int) = v1 at *
        generalize ((lo (qF X i i)).2 : Int) = v2 at *
        rw [l19_1, den_loop]
        simp [l19_1, b19_0, go_nil, go_last, go_past, go_pastR, go_blkN, go_blkR, go_blkE, go_skip, go_exit, go_ret, go_scope, go_seq, go_reg, go_block, go_cond, cnd_b, go_opsN, go_ops, go_opsG, grd_b, grd_u, stp_some, fin_some, up_some, cont_some, k_call, k_mv, k_pick, k_bin, k_eqB, k_eqA, k_not, k_neg, k_conv, k_alloc, k_boxA, k_boxI, k_boxB, k_boxN, k_boxBs, k_ldR, k_ldA, k_ldI, k_ldB, k_stA, k_stI, k_stB, ldC_some, stC_some, k_mkfn, k_slc, k_slcA, k_ixA, k_ixBs, k_ixSl, k_fadr, k_fld, k_ext, k_len, k_app, k_mn, k_mx, k_nilck, k_build, k_bsl1, k_bsl2, b_add, b_sub, b_mul, b_eql, b_neq, b_lss, b_leq, b_gtr, b_geq, Dn.setLast, Dn.getLast, evalO, mapO, Dn.get, putE, keepE, TV.one, TV.isAgg, Dn.part, e1, e2, hi5, l1, l2, fillP, put2, TV.cells, c54, s1]
      · have hik' : ((i : Int) != (k : Int)) = true := by simp; omega
        by_cases hfl : fle s (qF X i k)
        · have hfl' : decide (¬ fle s (qF X i k)) = false := by simpa using hfl
          rw [hfl'] at c55'
          generalize ((lo (qF X i k)).1 : Int) = v1 at *
          generalize ((lo (qF X i k)).2 : Int) = v2 at *
          generalize ((2 ^ X.length - 1 : Nat) : Int) = al at *
          generalize (s.1 : Int) = q1 at *
          generalize (s.2 : Int) = q2 at *
          rw [l19_1, den_loop]
          simp [l19_1, b19_0, go_nil, go_last, go_past, go_pastR, go_blkN, go_blkR, go_blkE, go_skip, go_exit, go_ret, go_scope, go_seq, go_reg, go_block, go_cond, cnd_b, go_opsN, go_ops, go_opsG, grd_b, grd_u, stp_some, fin_some, up_some, cont_some, k_call, k_mv, k_pick, k_bin, k_eqB, k_eqA, k_not, k_neg, k_conv, k_alloc, k_boxA, k_boxI, k_boxB, k_boxN, k_boxBs, k_ldR, k_ldA, k_ldI, k_ldB, k_stA, k_stI, k_stB, ldC_some, stC_some, k_mkfn, k_slc, k_slcA, k_ixA, k_ixBs, k_ixSl, k_fadr, k_fld, k_ext, k_len, k_app, k_mn, k_mx, k_nilck, k_build, k_bsl1, k_bsl2, b_add, b_sub, b_mul, b_eql, b_neq, b_lss, b_leq, b_gtr, b_geq, Dn.setLast, Dn.getLast, evalO, mapO, Dn.get, putE, keepE, TV.one, TV.isAgg, Dn.part, e1, e2, hi5, hk5, l1, l2, fillP, put2, TV.cells, c54, s1, hik', d1, d2, c55']
        · have hfl' : decide (¬ fle s (qF X i k)) = true := by simpa using hfl
          have hr : r = [] := w1.2 fun hr => hc ⟨⟨hi, hk, hik, hr⟩, hfl⟩
          have hd : decide (r ≠ []) = false := by simpa using hr
          rw [hd] at hnn
          rw [hfl'] at c55'
          generalize ((lo (qF X i k)).1 : Int) = v1 at *
          generalize ((lo (qF X i k)).2 : Int) = v2 at *
          generalize ((2 ^ X.length - 1 : Nat) : Int) = al at *
          generalize (s.1 : Int) = q1 at *
          generalize (s.2 : Int) = q2 at *
          rw [l19_1, den_loop]
          simp [l19_1, b19_0, go_nil, go_last, go_past, go_pastR, go_blkN, go_blkR, go_blkE, go_skip, go_exit, go_ret, go_scope, go_seq, go_reg, go_block, go_cond, cnd_b, go_opsN, go_ops, go_opsG, grd_b, grd_u, stp_some, fin_some, up_some, cont_some, k_call, k_mv, k_pick, k_bin, k_eqB, k_eqA, k_not, k_neg, k_conv, k_alloc, k_boxA, k_boxI, k_boxB, k_boxN, k_boxBs, k_ldR, k_ldA, k_ldI, k_ldB, k_stA, k_stI, k_stB, ldC_some, stC_some, k_mkfn, k_slc, k_slcA, k_ixA, k_ixBs, k_ixSl, k_fadr, k_fld, k_ext, k_len, k_app, k_mn, k_mx, k_nilck, k_build, k_bsl1, k_bsl2, b_add, b_sub, b_mul, b_eql, b_neq, b_lss, b_leq, b_gtr, b_geq, Dn.setLast, Dn.getLast, evalO, mapO, Dn.get, putE, keepE, TV.one, TV.isAgg, Dn.part, e1, e2, hi5, hk5, l1, l2, fillP, put2, TV.cells, c54, s1, hik', d1, d2, c55', c57, c56', hnn]

theorem l19_3_all {pg : Pg} (hF : Free pg) {X : List Obs} {g : Nat} (hm : Market X g) {B : Nat} : ∀ (d i : Nat) (H : Heap) (s : Frc), i + d = X.length → SM19 X H B s → BInv X.length (qF X) (done2 i 0) s →
    ∃ e H' s', den pg l19_3 [(5, .ref 0 0), (7, .ref B 0), (23, .i .i64 (X.length : Int)), (24, .i .i64 (i : Int))] H = some ⟨.exit 0, e, H'⟩ ∧ Dn.get e 7 = some (.ref B 0) ∧ SM19 X H' B s' ∧ BInv X.length (qF X) (done2 X.length 0) s'
  | 0, i, H, s, h, hs, hb => by
    obtain rfl : i = X.length := by omega
    refine ⟨[(5, .ref 0 0), (7, .ref B 0), (23, .i .i64 (X.length : Int)), (24, .i .i64 (X.length : Int)), (25, .b false)], H, s, ?_, rfl, hs, hb⟩
    rw [l19_3, den_loop]
    simp [b19_2, go_nil, go_last, go_past, go_pastR, go_blkN, go_blkR, go_blkE, go_skip, go_exit, go_ret, go_scope, go_seq, go_reg, go_block, go_cond, cnd_b, go_opsN, go_ops, go_opsG, grd_b, grd_u, stp_some, fin_some, up_some, cont_some, k_call, k_mv, k_pick, k_bin, k_eqB, k_eqA, k_not, k_neg, k_conv, k_alloc, k_boxA, k_boxI, k_boxB, k_boxN, k_boxBs, k_ldR, k_ldA, k_ldI, k_ldB, k_stA, k_stI, k_stB, ldC_some, stC_some, k_mkfn, k_slc, k_slcA, k_ixA, k_ixBs, k_ixSl, k_fadr, k_fld, k_ext, k_len, k_app, k_mn, k_mx, k_nilck, k_build, k_bsl1, k_bsl2, b_add, b_sub, b_mul, b_eql, b_neq, b_lss, b_leq, b_gtr, b_geq, Dn.setLast, Dn.getLast, evalO, mapO, Dn.get, putE, keepE, TV.one, TV.isAgg, Dn.part]
  | d + 1, i, H, s, h, hs, hb => by
    have hn5 := hm.n5
    have hi : i < X.length := by omega
    have e1 : ((i : Int) < (X.length : Int)) := by omega
    have e2 : wrapR .i64 ((i : Int) + 1) = .i .i64 ((i : Int) + 1) := wrapR_i64 (by omega)
    have hN := ld_mN (pg := pg) (R := den pg) hs.m
    obtain ⟨e, H1, s1, h1, h2, h3, h4⟩ := l19_1_all hF hm (B := B) hi X.length 0 H s (by omega) hs hb
    simp only [Int.natCast_zero] at h1
    have g5 := keep_get h2 (s := 5) (by simp) rfl
    have g7 := keep_get h2 (s := 7) (by simp) rfl
    have g23 := keep_get h2 (s := 23) (by simp) rfl
    have g24 := keep_get h2 (s := 24) (by simp) rfl
    obtain ⟨e', H', s', k1, k2, k3, k4⟩ := l19_3_all hF hm (B := B) d (i + 1) H1 s1 (by omega) h3 h4.row
    refine ⟨e', H', s', Eq.trans ?_ k1, k2, k3, k4⟩
    rw [l19_3, den_loop]
    simp [l19_3, b19_2, go_nil, go_last, go_past, go_pastR, go_blkN, go_blkR, go_blkE, go_skip, go_exit, go_ret, go_scope, go_seq, go_reg, go_block, go_cond, cnd_b, go_opsN, go_ops, go_opsG, grd_b, grd_u, stp_some, fin_some, up_some, cont_some, k_call, k_mv, k_pick, k_bin, k_eqB, k_eqA, k_not, k_neg, k_conv, k_alloc, k_boxA, k_boxI, k_boxB, k_boxN, k_boxBs, k_ldR, k_ldA, k_ldI, k_ldB, k_stA, k_stI, k_stB, ldC_some, stC_some, k_mkfn, k_slc, k_slcA, k_ixA, k_ixBs, k_ixSl, k_fadr, k_fld, k_ext, k_len, k_app, k_mn, k_mx, k_nilck, k_build, k_bsl1, k_bsl2, b_add, b_sub, b_mul, b_eql, b_neq, b_lss, b_leq, b_gtr, b_geq, Dn.setLast, Dn.getLast, evalO, mapO, Dn.get, putE, keepE, TV.one, TV.isAgg, Dn.part, e1, e2, hN, go_denK (c := l19_1) rfl, h1, g5, g7, g23, g24]

/-- the share of a taste -/
theorem call19 {pg : Pg} (hF : Free pg) {X : List Obs} {g : Nat} (hm : Market X g) : ∃ s : Frc, IsShare X.length (qF X) s ∧ smallF s ∧ ∀ H, callRun pg (den pg) (.pu []) [.fn 19 [] [], (elS false).lt false X] H = some (.tup [.i .i64 (s.1 : Int), .i .i64 (s.2 : Int), .i .i64 0], H) := by
  have hn5 := hm.n5
  obtain ⟨H1, h1, h2, h3, h4⟩ := body53 hF hm (P := .nilsl) (P' := .nilsl) (ps := []) (elS_RV true true X) (.inl ⟨rfl, rfl⟩) (by simp) (by simp) (H := []) (sn_nil _ _)
  simp only [List.length_nil] at h1 h2
  have hne : H1.length ≠ 0 := by have := (List.getElem?_eq_some_iff.1 h2).1; omega
  have hs0 : SM19 X (H1 ++ [.cells [.i .i64 ((1 : Nat) : Int), .i .i64 ((1 : Nat) : Int)] true]) H1.length (1, 1) := ⟨by rw [List.getElem?_append_left (by omega)]; exact h2, getLast _ _, hne⟩
  have st0 := st2 (pg := pg) (R := den pg) H1 0 0 ((1 : Nat) : Int) ((1 : Nat) : Int)
  have hN := ld_mN (pg := pg) (R := den pg) hs0.m
  obtain ⟨e, H', s, k1, k2, k3, k4⟩ := l19_3_all hF hm (B := H1.length) X.length 0 _ (1, 1) (by omega) hs0 (BInv.init _ _)
  refine ⟨s, k4.share (qF_pos hm) (fun i _ => qF_one X i), k4.small, fun H => ?_⟩
  obtain ⟨r1, r2⟩ := ldp (pg := pg) (R := den pg) k3.b
  simp only [Int.natCast_zero] at k1
  have st0' : dkc pg (den pg) (.st 2) [.ref H1.length 0, .agg [.i .i64 1, .i .i64 1]] (H1 ++ [.cells [.i .i64 0, .i .i64 0] true]) = some (.undef, H1 ++ [.cells [.i .i64 ((1 : Nat) : Int), .i .i64 ((1 : Nat) : Int)] true]) := st0
  generalize (H1 ++ [.cells [.i .i64 ((1 : Nat) : Int), .i .i64 ((1 : Nat) : Int)] true]) = HB at *
  generalize (s.1 : Int) = q1 at *
  generalize (s.2 : Int) = q2 at *
  refine PFn.call (.of2 (xs := [(elS true).lt true X]) (x := .ret) (e := [(2, .i .i64 q1), (3, .i .i64 q2), (4, .i .i64 0)]) (H' := H') (vs := [.i .i64 q1, .i .i64 q2, .i .i64 0]) (hF.S _ _ (by decide)) (d := d19) (by rw [hF.F]; rfl) rfl ?_ (.inl rfl) rfl (by simp) (by simp [sn_i, sn_b, sn_nil, sn8_i, sn8_b, sn8_nil, sn7_i, sn7_b, sn_sl, sn8_sl, slB_some, sn_tup, sn_agg, sn8_agg, mapO, elems])) (args := [(elS false).lt false X]) (by simp [snapArgs, snZ])
  simp [d19, c19, zipE, go_nil, go_last, go_past, go_pastR, go_blkN, go_blkR, go_blkE, go_skip, go_exit, go_ret, go_scope, go_seq, go_reg, go_block, go_cond, cnd_b, go_opsN, go_ops, go_opsG, grd_b, grd_u, stp_some, fin_some, up_some, cont_some, k_call, k_mv, k_pick, k_bin, k_eqB, k_eqA, k_not, k_neg, k_conv, k_alloc, k_boxA, k_boxI, k_boxB, k_boxN, k_boxBs, k_ldR, k_ldA, k_ldI, k_ldB, k_stA, k_stI, k_stB, ldC_some, stC_some, k_mkfn, k_slc, k_slcA, k_ixA, k_ixBs, k_ixSl, k_fadr, k_fld, k_ext, k_len, k_app, k_mn, k_mx, k_nilck, k_build, k_bsl1, k_bsl2, b_add, b_sub, b_mul, b_eql, b_neq, b_lss, b_leq, b_gtr, b_geq, Dn.setLast, Dn.getLast, evalO, mapO, Dn.get, putE, keepE, TV.one, TV.isAgg, Dn.part, sh_fn, h1, hF.G, st0', hN, go_denK (c := l19_3) rfl, k1, k2, r1, r2]

end Go.Proofs.Tryd.Dn

/-
  The share of a taste: the reference's.
-/

namespace Go.Proofs.Tryd.Dn
open Go.Dn

/-! the closure -/

def FSm (Q : Nat → Nat → Frc) (n : Nat) : Prop := ∀ i k, i < n → k < n → smallF (Q i k)
theorem fmax_small {x y : Frc} (hx : smallF x) (hy : smallF y) : smallF (fmax x y) := by unfold fmax; split <;> assumption
/-! the least of all rounds -/

/-- which pairs have been looked at, each once -/
structure RInv (n : Nat) (W : Nat → Nat → Frc) (i k : Nat) (s : Frc) : Prop where
  pos : 1 ≤ s.1 ∧ 1 ≤ s.2
  small : smallF s
  le : ∀ t : Frc, 1 ≤ t.2 → (fle s t ↔ fle (1, 1) t ∨ ∃ a b, a < n ∧ b < a ∧ done2 i k a b ∧ fle (W a b) t ∧ fle (W b a) t)

theorem RInv.init (n : Nat) (W : Nat → Nat → Frc) : RInv n W 0 0 (1, 1) where
  pos := ⟨Nat.le_refl _, Nat.le_refl _⟩
  small := ⟨by decide, by decide⟩
  le t _ := ⟨.inl, fun h => h.elim id fun ⟨i, k, _, _, hd, _⟩ => by unfold done2 at hd; omega⟩

theorem RInv.step {n : Nat} {W : Nat → Nat → Frc} {i k : Nat} {s : Frc} (h : RInv n W i k s) (hW : FPos W n) (hS : FSm W n) (hi : i < n) (hk : k < i) : RInv n W i (k + 1) (if fle s (fmax (W i k) (W k i)) then s else fmax (W i k) (W k i)) := by
  have p1 := hW i k hi (by omega)
  have p2 := hW k i (by omega) hi
  have hp := fmax_pos p1 p2
  have hmx : ∀ t, fle (fmax (W i k) (W k i)) t ↔ fle (W i k) t ∧ fle (W k i) t := fun t => fmax_le p1.2 p2.2
  have hd : ∀ t, ((∃ a b, a < n ∧ b < a ∧ done2 i (k + 1) a b ∧ fle (W a b) t ∧ fle (W b a) t) ↔ (∃ a b, a < n ∧ b < a ∧ done2 i k a b ∧ fle (W a b) t ∧ fle (W b a) t) ∨ fle (fmax (W i k) (W k i)) t) := by
    intro t
    rw [hmx]
    constructor
    · rintro ⟨a, b, ha, hb, hd, h1, h2⟩
      by_cases he : a = i ∧ b = k
      · obtain ⟨rfl, rfl⟩ := he; exact .inr ⟨h1, h2⟩
      · exact .inl ⟨a, b, ha, hb, by unfold done2 at *; omega, h1, h2⟩
    · rintro (⟨a, b, ha, hb, hd, h1, h2⟩ | ⟨h1, h2⟩)
      · exact ⟨a, b, ha, hb, by unfold done2 at *; omega, h1, h2⟩
      · exact ⟨i, k, hi, hk, by unfold done2; omega, h1, h2⟩
  split
  · rename_i hle
    refine ⟨h.pos, h.small, fun t ht => ?_⟩
    rw [hd t, ← or_assoc, ← h.le t ht]
    exact ⟨.inl, fun hh => hh.elim id fun h1 => fle_trans hp.2 hle h1⟩
  · rename_i hle
    have hle' := (fle_total s _).resolve_left hle
    refine ⟨hp, fmax_small (hS i k hi (by omega)) (hS k i (by omega) hi), fun t ht => ?_⟩
    rw [hd t, ← or_assoc, ← h.le t ht]
    exact ⟨.inr, fun hh => hh.elim (fun h1 => fle_trans h.pos.2 hle' h1) id⟩

theorem RInv.row {n : Nat} {W : Nat → Nat → Frc} {i : Nat} {s : Frc} (h : RInv n W i i s) : RInv n W (i + 1) 0 s := by
  refine ⟨h.pos, h.small, fun t ht => ?_⟩
  rw [h.le t ht]
  constructor
  · rintro (h1 | ⟨a, b, ha, hb, hd, h1⟩)
    · exact .inl h1
    · exact .inr ⟨a, b, ha, hb, by unfold done2 at *; omega, h1⟩
  · rintro (h1 | ⟨a, b, ha, hb, hd, h1⟩)
    · exact .inl h1
    · exact .inr ⟨a, b, ha, hb, by unfold done2 at *; omega, h1⟩

theorem RInv.share {n : Nat} {Q : Nat → Nat → Frc} {s : Frc} (h : RInv n (fall Q n) n 0 s) (hQ : FPos Q n) : IsShare n Q (lo s) where
  pos := ⟨(lo_pos h.pos.1 h.pos.2).1, (lo_pos h.pos.1 h.pos.2).2.1⟩
  low := lo_lo h.pos.1 h.pos.2
  le t ht := by
    rw [fle_lo_left h.pos.1, h.le t ht]
    constructor
    · rintro (h1 | ⟨a, b, ha, hb, _, h1, h2⟩)
      · exact .inl h1
      · exact .inr ⟨a, b, ha, by omega, by omega, ((fall_rch hQ ha (by omega)).1 h1).rch, ((fall_rch hQ (by omega) ha).1 h2).rch⟩
    · rintro (h1 | ⟨a, b, ha, hb, hne, h1, h2⟩)
      · exact .inl h1
      · have w1 := (fall_rch hQ ha hb).2 (h1.rch1 hne)
        have w2 := (fall_rch hQ hb ha).2 (h2.rch1 (Ne.symm hne))
        by_cases hab : b < a
        · exact .inr ⟨a, b, ha, hab, by unfold done2; omega, w1, w2⟩
        · exact .inr ⟨b, a, hb, by omega, by unfold done2; omega, w2, w1⟩

end Go.Proofs.Tryd.Dn

/-
  The share of a taste: the reference's, joined.
-/

namespace Go.Proofs.Tryd.Dn
open Go.Dn

/-- the memory of the last search -/
structure SM21 (HT H : Heap) (B : Nat) (s : Frc) : Prop where
  old : ∀ j, j < HT.length → H[j]? = HT[j]?
  b : H[B]? = some (.cells [.i .i64 (s.1 : Int), .i .i64 (s.2 : Int)] true)
  le : HT.length ≤ B

theorem SM21.push {HT H : Heap} {B : Nat} {s : Frc} (h : SM21 HT H B s) (c : List TV) : SM21 HT (H ++ [.cells c true]) B s where
  old j hj := by
    have := (List.getElem?_eq_some_iff.1 h.b).1
    have := h.le
    rw [List.getElem?_append_left (by omega)]; exact h.old j hj
  b := by rw [List.getElem?_append_left (List.getElem?_eq_some_iff.1 h.b).1]; exact h.b
  le := h.le

theorem SM21.set {HT H : Heap} {B : Nat} {s u : Frc} (h : SM21 HT H B s) : SM21 HT (H.set B (.cells [.i .i64 (u.1 : Int), .i .i64 (u.2 : Int)] true)) B u where
  old j hj := by have := h.le; rw [List.getElem?_set_ne (by omega)]; exact h.old j hj
  b := by rw [List.getElem?_set_self (List.getElem?_eq_some_iff.1 h.b).1]
  le := h.le

end Go.Proofs.Tryd.Dn

