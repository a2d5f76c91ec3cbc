/-
  Knight: the law of distances, run.
-/
import Derived.Test.YtdjbpmgbaggfbaaDoorKf8
import Derived.Test.YtdjbpmgbaggfbaaDoorKf4
import Derived.Test.YtdjbpmgbaggfbaaDoorKf3
set_option linter.unusedSimpArgs false
set_option linter.unusedVariables false

namespace Go.Proofs.Tryd.Dn
open Go.Dn

/-! distances, in plain terms -/
def Dst (r c a b m : Nat) : Prop := (front r c a m).testBit b = true

theorem Dst.pos {r c a b m : Nat} (h : Brd r c) (ha : a < r * c) (hb : b < r * c) (hd : Dst r c a b m) : 0 < walks r c a m b := front_walks h ha m b hb hd
theorem Dst.least {r c a b m : Nat} (h : Brd r c) (ha : a < r * c) (hb : b < r * c) (hd : Dst r c a b m) {n : Nat} (hn : 0 < walks r c a n b) : m ≤ n := by
  obtain ⟨j, h1, h2⟩ := walks_front h ha n b hb hn
  have := front_uniq h ha hd h2
  omega
theorem Dst.of {r c a b m : Nat} (h : Brd r c) (ha : a < r * c) (hb : b < r * c) (h1 : 0 < walks r c a m b) (h2 : ∀ n, 0 < walks r c a n b → m ≤ n) : Dst r c a b m := by
  obtain ⟨j, h3, h4⟩ := walks_front h ha m b hb h1
  have h5 := h2 j (front_walks h ha j b hb h4)
  have : j = m := by omega
  subst this
  exact h4
theorem Dst.symm {r c a b m : Nat} (h : Brd r c) (ha : a < r * c) (hb : b < r * c) (hd : Dst r c a b m) : Dst r c b a m :=
  Dst.of h hb ha (by rw [← walks_symm m a b ha hb]; exact hd.pos h ha hb) fun n hn => hd.least h ha hb (by rw [walks_symm n a b ha hb]; exact hn)

theorem walks_cat {r c a d p : Nat} (ha : a < r * c) (hd : d < r * c) (h1 : 0 < walks r c a p d) : ∀ (q b : Nat), b < r * c → 0 < walks r c d q b → 0 < walks r c a (p + q) b
  | 0, b, hb, h2 => by
    by_cases hbd : b = d
    · subst hbd; exact h1
    · simp [walks, hbd] at h2
  | q + 1, b, hb, h2 => by
    obtain ⟨s, s1, s2, s3⟩ := (walks_pos hb).1 h2
    exact (walks_pos hb).2 ⟨s, s1, s2, walks_cat ha hd h1 q s s1 s3⟩

theorem Dst.some {r c a b d p q : Nat} (h : Brd r c) (ha : a < r * c) (hb : b < r * c) (hd : d < r * c) (h1 : Dst r c a d p) (h2 : Dst r c d b q) : ∃ m, Dst r c a b m := by
  obtain ⟨j, _, h4⟩ := walks_front h ha (p + q) b hb (walks_cat ha hd (h1.pos h ha hd) q b hb (h2.pos h hd hb))
  exact ⟨j, h4⟩

theorem Dst.zero {r c a b m : Nat} (h : Brd r c) (ha : a < r * c) (hb : b < r * c) (hd : Dst r c a b m) : m = 0 ↔ a = b := by
  have h0 : Dst r c a a 0 := by show (2 ^ a).testBit a = true; rw [Nat.testBit_two_pow, decide_eq_true_eq]
  constructor
  · rintro rfl
    have : (2 ^ a).testBit b = true := hd
    rwa [Nat.testBit_two_pow, decide_eq_true_eq] at this
  · rintro rfl
    exact front_uniq h ha hd h0

theorem Dst.parity {r c a b m : Nat} (h : Brd r c) (ha : a < r * c) (hb : b < r * c) (hd : Dst r c a b m) : (b / c + b % c + (a / c + a % c) + m) % 2 = 0 := walks_parity h m b hb (hd.pos h ha hb)

theorem pop_lt {n x : Nat} (hn : n ≤ 64) (hx : x < 2 ^ n) : pop 64 x ≤ n := by
  rw [← mem64_len, mem64_range hn hx]
  exact Nat.le_trans (List.length_filter_le _ _) (by simp)

theorem Dst.le {r c a b m : Nat} (h : Brd r c) (ha : a < r * c) (hb : b < r * c) (hd : Dst r c a b m) : m + 1 ≤ r * c := by
  have hn := h.n36
  have hk : ∀ k, k < m + 1 → (lv r c a k).2 ≠ 0 := by
    intro k hk h0
    have h0' : front r c a k = 0 := h0
    have hall := none_at h ha hb h0' (fun j hj => by
      cases hj' : (front r c a j).testBit b with
      | false => rfl
      | true => have := front_uniq h ha hd hj'; omega) m
    have : (front r c a m).testBit b = true := hd
    rw [hall] at this
    cases this
  have h1 := lv_many h ha (m + 1) hk
  have h2 := pop_lt (by omega) (lv_lt h ha (m + 1)).1
  omega

theorem Dst.move {r c a b s m : Nat} (h : Brd r c) (ha : a < r * c) (hb : b < r * c) (hs : s < r * c) (hn : near c b s = true) (hd : Dst r c a b m) : ∃ z, Dst r c a s z ∧ (z = m + 1 ∨ z + 1 = m) := by
  have w1 : 0 < walks r c a (m + 1) s := (walks_pos hs).2 ⟨b, hb, hn, hd.pos h ha hb⟩
  obtain ⟨z, z1, z2⟩ := walks_front h ha (m + 1) s hs w1
  have z2' : Dst r c a s z := z2
  refine ⟨z, z2', ?_⟩
  have w2 : 0 < walks r c a (z + 1) b := (walks_pos hb).2 ⟨s, hs, by rw [near_comm]; exact hn, z2'.pos h ha hs⟩
  have l2 := hd.least h ha hb w2
  have p1 := hd.parity h ha hb
  have p2 := z2'.parity h ha hs
  have p3 := near_parity hn
  omega

end Go.Proofs.Tryd.Dn

/-
  Knight: the law of distances, run: the end.
-/

namespace Go.Proofs.Tryd.Dn
open Go.Dn

end Go.Proofs.Tryd.Dn

