/-
  Weights: whether numbers are weights.
-/
import Derived.Test.YtegihfgibonhpaaPc
set_option linter.unusedSimpArgs false
set_option linter.unusedVariables false

namespace Go.Proofs.Try.Dn
open Go.Dn

end Go.Proofs.Try.Dn

/-
  Weights: whether weights are a pagoda.
-/

namespace Go.Proofs.Try.Dn
open Go.Dn

def Fits (n : Int) (x : Line) : Prop := 0 ≤ x.1 ∧ x.1 < n ∧ 0 ≤ x.2.1 ∧ x.2.1 < n ∧ 0 ≤ x.2.2 ∧ x.2.2 < n ∧ x.1 < x.2.2 ∧ x.2.1 ≠ x.1 ∧ x.2.1 ≠ x.2.2

theorem fits_of {n : Int} {x : Line} (h : lineBad n x = false) : Fits n x := by
  simp [lineBad] at h
  unfold Fits
  omega

theorem fits_from {n : Int} : ∀ {l : List Line} {p : Option Line}, chkFrom n p l = 0 → ∀ x ∈ l, Fits n x
  | [], p, h, x, hx => by cases hx
  | y :: l, p, h, x, hx => by
    rw [chkFrom_cons] at h
    split at h
    · cases h
    · rename_i hb
      simp at hb
      rcases List.mem_cons.1 hx with rfl | hx
      · exact fits_of hb.1
      · exact fits_from h x hx

theorem chk_ok {n : Int} {l : List Line} (h : chk n l = 0) : 1 ≤ n ∧ n ≤ 16 ∧ l.length ≤ 40 ∧ ∀ x ∈ l, Fits n x := by
  unfold chk at h
  split at h
  · cases h
  · split at h
    · cases h
    · exact ⟨by omega, by omega, by omega, fits_from h⟩

def FitsJ (n : Int) (x : Line) : Prop := 0 ≤ x.1 ∧ x.1 < n ∧ 0 ≤ x.2.1 ∧ x.2.1 < n ∧ 0 ≤ x.2.2 ∧ x.2.2 < n ∧ x.1 ≠ x.2.2 ∧ x.2.1 ≠ x.1 ∧ x.2.1 ≠ x.2.2

theorem js_fits {n : Int} : ∀ {l : List Line}, (∀ x ∈ l, Fits n x) → ∀ x ∈ js l, FitsJ n x
  | [], h, x, hx => by cases hx
  | y :: l, h, x, hx => by
    have hy := h y (by simp)
    simp only [js, List.mem_cons] at hx
    rcases hx with rfl | rfl | hx
    · unfold Fits at hy; unfold FitsJ; omega
    · unfold Fits at hy; unfold FitsJ rev; dsimp only; omega
    · exact js_fits (fun z hz => h z (by simp [hz])) x hx

theorem fn62 {pg : Pg} (hF : Free pg) (b : Bool) (l : List Line) (H : Heap) : bodyRun pg (den pg) 62 [LT b l] H = some (.fn 77 [] [.ref H.length 0], H ++ [.cells [LT b l] false]) := by
  refine body_of (x := .ret) (e := [(2, .fn 77 [] [.ref H.length 0])]) (d := d62) (by rw [hF.F]; rfl) rfl ?_ (.inl rfl) rfl
  rcases LT_cases b l with ⟨h, h2⟩ | ⟨h, h2⟩
  · rw [h2]; simp [d62, c62, zipE, gX0, gX1, gX2, gX3, gX4, gX5, gX6, gX7, gX8, gX9, gXa, gXb, gXc, gXd, gXe, gXf, gXg, gXh, gXi, gXj, gXk, gXl, gXm, gXn, gXo, gXp, gXq, gXr, gXs, gXt, gXu, gXv, gXw, gXx, k_mv, gXy, gXz, gX01, gX11, gX21, gX31, gX41, gX51, gX61, gX71, gX81, gX91, gXa1, gXb1, gXc1, gXd1, gXe1, gXf1, gXg1, gXh1, gXi1, gXj1, gXk1, gXl1, gXm1, gXn1, gXo1, gXp1, gXq1, gXr1, gXs1, gXt1, gXu1, k_mn, k_mx, gXv1, gXw1, gXx1, gXy1, gXz1, gX02, gX12, gX22, gX32, gX42, gX52, gX62, gX72, Dn.setLast, Dn.getLast, evalO, mapO, Dn.get, putE, keepE, TV.one, TV.isAgg, Dn.part, gXk1]
  · rw [h2]; simp [d62, c62, zipE, gX0, gX1, gX2, gX3, gX4, gX5, gX6, gX7, gX8, gX9, gXa, gXb, gXc, gXd, gXe, gXf, gXg, gXh, gXi, gXj, gXk, gXl, gXm, gXn, gXo, gXp, gXq, gXr, gXs, gXt, gXu, gXv, gXw, gXx, k_mv, gXy, gXz, gX01, gX11, gX21, gX31, gX41, gX51, gX61, gX71, gX81, gX91, gXa1, gXb1, gXc1, gXd1, gXe1, gXf1, gXg1, gXh1, gXi1, gXj1, gXk1, gXl1, gXm1, gXn1, gXo1, gXp1, gXq1, gXr1, gXs1, gXt1, gXu1, k_mn, k_mx, gXv1, gXw1, gXx1, gXy1, gXz1, gX02, gX12, gX22, gX32, gX42, gX52, gX62, gX72, Dn.setLast, Dn.getLast, evalO, mapO, Dn.get, putE, keepE, TV.one, TV.isAgg, Dn.part, gXk1]

theorem ld_box {pg : Pg} {R : Rec} {H : Heap} {id : Nat} {t : TV} (h : H[id]? = some (.cells [t] false)) (ht : t.isAgg = false) : dkc pg R (.ld 1 false) [.ref id 0] H = some (t, H) := by
  rw [gXb1, h, gXi1, part_one rfl ht]; rfl

end Go.Proofs.Try.Dn

/-
  Weights: the reference's pagoda, sums and gains.
-/

namespace Go.Proofs.Try.Dn
open Go.Dn

def bt (p : Int) (i : Nat) : Int := p / 2 ^ i % 2

theorem shr_eq {p : Int} {i : Nat} {k : IntKind} (hi : i ≤ 60) : binI .shr (.i .i64 p) (.i k (i : Int)) = some (.i .i64 (p / 2 ^ i)) := by
  have h0 : ¬ ((i : Int) < 0) := by omega
  have h1 : min i 64 = i := by omega
  have h2 : (0 : Int) ≤ 2 ^ i := Int.le_of_lt (Int.pow_pos (by decide))
  simp [binI, h1, IntKind.bits, Int.fdiv_eq_ediv_of_nonneg _ h2]

theorem and1_eq {x : Int} (h0 : 0 ≤ x) (h1 : x < 9223372036854775808) : binI .and (.i .i64 x) (.i .i64 1) = some (.i .i64 (x % 2)) := by
  obtain ⟨m, rfl⟩ := Int.eq_ofNat_of_zero_le h0
  have h2 : ((BitVec.ofInt 64 (m : Int)) &&& (BitVec.ofInt 64 1)).toNat = m % 2 := by
    have hm : BitVec.ofInt 64 (m : Int) = BitVec.ofNat 64 m := by simp
    have h1' : BitVec.ofInt 64 1 = BitVec.ofNat 64 1 := by decide
    rw [hm, h1', BitVec.toNat_and]
    simp only [BitVec.toNat_ofNat]
    rw [show 1 % 2 ^ 64 = 1 by decide, Nat.mod_eq_of_lt (by omega : m < 2 ^ 64), Nat.and_one_is_mod]
  have h3 : wrapR .i64 ((m % 2 : Nat) : Int) = .i .i64 ((m : Int) % 2) := by rw [gX82 (by omega)]; simp
  rw [show binI .and (.i .i64 (m : Int)) (.i .i64 1) = some (wrapR .i64 ((BitVec.ofInt 64 (m : Int)) &&& (BitVec.ofInt 64 1)).toNat) from rfl, h2, h3]

end Go.Proofs.Try.Dn

/-
  Weights: IsPagoda and Refutes, and the reference's.
-/

namespace Go.Proofs.Try.Dn
open Go.Dn

section
variable {pg : Pg} (hF : Free pg) {n : Int} {l : List Line} {w : List Int} (hc : chk n l = 0)
include hF hc

end

end Go.Proofs.Try.Dn

/-
  Weights: the statement's rounds.
-/

namespace Go.Proofs.Try.Dn
open Go.Dn

end Go.Proofs.Try.Dn

/-
  PegWeights: the whole run answers true.
-/

namespace Go.Proofs.Try.Dn
open Go.Dn

theorem b_shlu {n : Nat} (hn : n ≤ 16) : binI .shl (.i .u64 1) (.i .i64 (n : Int)) = some (.i .u64 ((2 : Int) ^ n)) := by
  have h1 : min n 64 = n := by omega
  have h2 : (2 : Int) ^ n ≤ 65536 ∧ 1 ≤ (2 : Int) ^ n := by
    have : ∀ k : Nat, k ≤ 16 → (2 : Int) ^ k ≤ 65536 ∧ 1 ≤ (2 : Int) ^ k := by decide
    exact this n hn
  have h3 : wrapR .u64 ((2 : Int) ^ n) = .i .u64 ((2 : Int) ^ n) := by unfold wrapR; simp [IntKind.wrap, IntKind.signed, IntKind.bits]; omega
  simp [binI, IntKind.bits, h1, h3]

def posOf (n : Nat) (P : Int) : Int := Int.tmod (IntKind.wrap .u64 P) (2 ^ n)

theorem posOf_range {n : Nat} (hn : n ≤ 16) (P : Int) : 0 ≤ posOf n P ∧ posOf n P < (2 : Int) ^ n := by
  have h2 : 1 ≤ (2 : Int) ^ n := by
    have : ∀ k : Nat, k ≤ 16 → 1 ≤ (2 : Int) ^ k := by decide
    exact this n hn
  have h0 : 0 ≤ IntKind.wrap .u64 P := by simp [IntKind.wrap, IntKind.signed, IntKind.bits]; omega
  unfold posOf
  rw [Int.tmod_eq_emod_of_nonneg h0]
  exact ⟨Int.emod_nonneg _ (by omega), Int.emod_lt_of_pos _ (by omega)⟩

theorem posOf_i64 {n : Nat} (hn : n ≤ 16) (P : Int) : wrapR .i64 (Int.tmod (IntKind.wrap .u64 P) (2 ^ n)) = .i .i64 (posOf n P) := by
  have h := posOf_range hn P
  have h2 : (2 : Int) ^ n ≤ 65536 := by
    have : ∀ k : Nat, k ≤ 16 → (2 : Int) ^ k ≤ 65536 := by decide
    exact this n hn
  exact gX82 (by unfold posOf at h; omega)

end Go.Proofs.Try.Dn

