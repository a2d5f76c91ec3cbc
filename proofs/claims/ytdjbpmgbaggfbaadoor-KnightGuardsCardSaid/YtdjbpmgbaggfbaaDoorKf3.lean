/-
  Knight: levels and walks.
-/
import Derived.Test.YtdjbpmgbaggfbaaDoorKf2
import Derived.Test.YtdjbpmgbaggfbaaDoorKe
set_option linter.unusedSimpArgs false
set_option linter.unusedVariables false

namespace Go.Proofs.Tryd.Dn
open Go.Dn

theorem orAll_bit {r c : Nat} (t : Nat) : ∀ (l : List Nat) (m : Nat), (orAll r c m l).testBit t = (m.testBit t || l.any fun s => (mv r c s).testBit t)
  | [], m => by simp [orAll]
  | k :: l, m => by
    have := orAll_bit (r := r) (c := c) t l (m ||| mv r c k)
    show (orAll r c (m ||| mv r c k) l).testBit t = _
    rw [this, Nat.testBit_or, List.any_cons, Bool.or_assoc]

theorem around_bit {r c x t : Nat} (h : Brd r c) (hx : x < 2 ^ (r * c)) (ht : t < r * c) : (around r c x).testBit t = true ↔ ∃ s, x.testBit s = true ∧ s < r * c ∧ near c s t = true := by
  unfold around
  rw [orAll_bit, Nat.zero_testBit, Bool.false_or, List.any_eq_true]
  constructor
  · rintro ⟨s, hs, hb⟩
    have hsr := mem64_in hx hs
    unfold mem64 at hs
    rw [List.mem_filter] at hs
    exact ⟨s, hs.2, hsr, by rw [← mv_near h hsr ht]; exact hb⟩
  · rintro ⟨s, hs, hsr, hb⟩
    have hn := h.n36
    exact ⟨s, by unfold mem64; rw [List.mem_filter, List.mem_range]; exact ⟨by omega, hs⟩, by rw [mv_near h hsr ht]; exact hb⟩

theorem psum_pos {c t : Nat} {f : Nat → Nat} : ∀ {n : Nat}, 0 < psum c f t n ↔ ∃ s, s < n ∧ near c s t = true ∧ 0 < f s
  | 0 => by simp [psum]
  | n + 1 => by
    rw [psum]
    have ih := psum_pos (c := c) (t := t) (f := f) (n := n)
    constructor
    · intro h
      by_cases h1 : 0 < psum c f t n
      · obtain ⟨s, a1, a2, a3⟩ := ih.1 h1
        exact ⟨s, by omega, a2, a3⟩
      · have h2 : 0 < (if near c n t = true then f n else 0) := by omega
        by_cases hn : near c n t = true
        · rw [if_pos hn] at h2; exact ⟨n, by omega, hn, h2⟩
        · rw [if_neg hn] at h2; omega
    · rintro ⟨s, a1, a2, a3⟩
      by_cases hs : s = n
      · subst hs; rw [if_pos a2]; omega
      · have := ih.2 ⟨s, by omega, a2, a3⟩
        omega

theorem walks_pos {r c a k t : Nat} (ht : t < r * c) : 0 < walks r c a (k + 1) t ↔ ∃ s, s < r * c ∧ near c s t = true ∧ 0 < walks r c a k s := by
  show 0 < wStep r c (walks r c a k) t ↔ _
  unfold wStep
  rw [if_pos ht]
  exact psum_pos

theorem lv64 {r c : Nat} (h : Brd r c) : 2 ^ (r * c) ≤ 18446744073709551616 := by
  have hn := h.n36
  have := Nat.pow_le_pow_right (n := 2) (by decide) (show r * c ≤ 64 by omega)
  omega

theorem front_succ {r c a t : Nat} (h : Brd r c) (ha : a < r * c) (ht : t < r * c) (n : Nat) : (front r c a (n + 1)).testBit t = true ↔ (∃ s, (front r c a n).testBit s = true ∧ s < r * c ∧ near c s t = true) ∧ (lv r c a (n + 1)).1.testBit t = false := by
  have hx := (lv_lt h ha n).2
  have h64 := lv64 h
  have h3 := around_lt h hx
  show (andN (around r c (lv r c a n).2) ((lv r c a n).1 ||| (lv r c a n).2)).testBit t = true ↔ _
  rw [andN_bit (by omega), Bool.and_eq_true, around_bit h hx ht, Bool.not_eq_true']
  exact Iff.rfl

theorem seen_front {r c a t : Nat} : ∀ n, (lv r c a n).1.testBit t = true ↔ ∃ j, j < n ∧ (front r c a j).testBit t = true
  | 0 => by simp [lv]
  | n + 1 => by
    show ((lv r c a n).1 ||| (lv r c a n).2).testBit t = true ↔ _
    rw [Nat.testBit_or, Bool.or_eq_true, seen_front n]
    constructor
    · rintro (⟨j, h1, h2⟩ | h2)
      · exact ⟨j, by omega, h2⟩
      · exact ⟨n, by omega, h2⟩
    · rintro ⟨j, h1, h2⟩
      by_cases hj : j = n
      · subst hj; exact .inr h2
      · exact .inl ⟨j, by omega, h2⟩

theorem front_walks {r c a : Nat} (h : Brd r c) (ha : a < r * c) : ∀ (n t : Nat), t < r * c → (front r c a n).testBit t = true → 0 < walks r c a n t
  | 0, t, ht, hb => by
    have : (2 ^ a).testBit t = true := hb
    rw [Nat.testBit_two_pow, decide_eq_true_eq] at this
    subst this
    simp [walks]
  | n + 1, t, ht, hb => by
    obtain ⟨⟨s, h1, h2, h3⟩, _⟩ := (front_succ h ha ht n).1 hb
    exact (walks_pos ht).2 ⟨s, h2, h3, front_walks h ha n s h2 h1⟩

theorem walks_front {r c a : Nat} (h : Brd r c) (ha : a < r * c) : ∀ (n t : Nat), t < r * c → 0 < walks r c a n t → ∃ j, j ≤ n ∧ (front r c a j).testBit t = true
  | 0, t, ht, hp => by
    by_cases hta : t = a
    · subst hta
      exact ⟨0, Nat.le_refl _, by show (2 ^ t).testBit t = true; rw [Nat.testBit_two_pow, decide_eq_true_eq]⟩
    · simp [walks, hta] at hp
  | n + 1, t, ht, hp => by
    obtain ⟨s, h1, h2, h3⟩ := (walks_pos ht).1 hp
    obtain ⟨j, h4, h5⟩ := walks_front h ha n s h1 h3
    cases hs : (lv r c a (j + 1)).1.testBit t with
    | true =>
      obtain ⟨i, h6, h7⟩ := (seen_front (j + 1)).1 hs
      exact ⟨i, by omega, h7⟩
    | false => exact ⟨j + 1, by omega, (front_succ h ha ht j).2 ⟨⟨s, h5, h1, h2⟩, hs⟩⟩

theorem near_parity {c s t : Nat} (hn : near c s t = true) : (s / c + s % c + (t / c + t % c)) % 2 = 1 := by
  unfold near at hn
  rw [beq_iff_eq] at hn
  generalize s / c = p at *
  generalize s % c = q at *
  generalize t / c = u at *
  generalize t % c = v at *
  have sq : ∀ x : Int, (x * x) % 2 = x % 2 := fun x => by
    rw [Int.mul_emod]
    rcases Int.emod_two_eq x with h | h <;> rw [h] <;> rfl
  have h1 := sq ((p : Int) - u)
  have h2 := sq ((q : Int) - v)
  generalize ((p : Int) - u) * ((p : Int) - u) = X at *
  generalize ((q : Int) - v) * ((q : Int) - v) = Y at *
  omega

theorem walks_parity {r c a : Nat} (h : Brd r c) : ∀ (n t : Nat), t < r * c → 0 < walks r c a n t → (t / c + t % c + (a / c + a % c) + n) % 2 = 0
  | 0, t, ht, hp => by
    by_cases hta : t = a
    · subst hta; omega
    · simp [walks, hta] at hp
  | n + 1, t, ht, hp => by
    obtain ⟨s, h1, h2, h3⟩ := (walks_pos ht).1 hp
    have ih := walks_parity h n s h1 h3
    have := near_parity h2
    omega

end Go.Proofs.Tryd.Dn

/-
  Knight: the number of walks is the same both ways.
-/

namespace Go.Proofs.Tryd.Dn
open Go.Dn

def sm : Nat → (Nat → Nat) → Nat
  | 0, _ => 0
  | n + 1, f => sm n f + f n

theorem sm_congr {f g : Nat → Nat} : ∀ {n : Nat}, (∀ i, i < n → f i = g i) → sm n f = sm n g
  | 0, _ => rfl
  | n + 1, h => by rw [sm, sm, sm_congr fun i hi => h i (by omega), h n (by omega)]

theorem sm_zero : ∀ n : Nat, sm n (fun _ => 0) = 0
  | 0 => rfl
  | n + 1 => by rw [sm, sm_zero n]

theorem sm_add (f g : Nat → Nat) : ∀ n : Nat, sm n (fun i => f i + g i) = sm n f + sm n g
  | 0 => rfl
  | n + 1 => by rw [sm, sm, sm, sm_add f g n]; omega

theorem sm_swap (g : Nat → Nat → Nat) (m : Nat) : ∀ n : Nat, sm n (fun i => sm m fun j => g i j) = sm m fun j => sm n fun i => g i j
  | 0 => by simp only [sm]; rw [sm_zero]
  | n + 1 => by
    rw [sm, sm_swap g m n, ← sm_add]
    rfl

theorem sm_if (p : Prop) [Decidable p] (n : Nat) (f : Nat → Nat) : (if p then sm n f else 0) = sm n fun i => if p then f i else 0 := by
  by_cases h : p
  · simp only [if_pos h]
  · simp only [if_neg h]; rw [sm_zero]

theorem sm_one (g : Nat → Nat) {a : Nat} : ∀ {n : Nat}, sm n (fun s => if s = a then g s else 0) = if a < n then g a else 0
  | 0 => by simp [sm]
  | n + 1 => by
    rw [sm, sm_one g (n := n)]
    by_cases h1 : n = a
    · subst h1; simp
    · rw [if_neg h1]
      by_cases h2 : a < n
      · rw [if_pos h2, if_pos (by omega)]; rfl
      · rw [if_neg h2, if_neg (by omega)]

theorem psum_sm (c : Nat) (f : Nat → Nat) (t : Nat) : ∀ n : Nat, psum c f t n = sm n fun s => if near c s t = true then f s else 0
  | 0 => rfl
  | n + 1 => by rw [psum, sm, psum_sm c f t n]

theorem walks_succ {r c a k t : Nat} (ht : t < r * c) : walks r c a (k + 1) t = sm (r * c) fun s => if near c s t = true then walks r c a k s else 0 := by
  show wStep r c (walks r c a k) t = _
  unfold wStep
  rw [if_pos ht, psum_sm]

theorem walks_left {r c : Nat} : ∀ (k a b : Nat), a < r * c → b < r * c → walks r c a (k + 1) b = sm (r * c) fun s => if near c a s = true then walks r c s k b else 0
  | 0, a, b, ha, hb => by
    rw [walks_succ hb]
    have e1 : (sm (r * c) fun s => if near c s b = true then walks r c a 0 s else 0) = sm (r * c) fun s => if s = a then (if near c s b = true then 1 else 0) else 0 :=
      sm_congr fun i _ => by
        simp only [walks]
        by_cases h1 : i = a <;> by_cases h2 : near c i b = true <;> simp [h1, h2]
    have e2 : (sm (r * c) fun s => if near c a s = true then walks r c s 0 b else 0) = sm (r * c) fun s => if s = b then (if near c a s = true then 1 else 0) else 0 :=
      sm_congr fun i _ => by
        simp only [walks]
        by_cases h1 : i = b
        · subst h1; simp
        · have h3 : ¬ b = i := fun h => h1 h.symm
          simp [h1, h3]
    rw [e1, e2, sm_one, sm_one, if_pos ha, if_pos hb]
  | k + 1, a, b, ha, hb => by
    rw [walks_succ hb]
    have e1 : (sm (r * c) fun s => if near c s b = true then walks r c a (k + 1) s else 0) = sm (r * c) fun s => sm (r * c) fun u => if near c s b = true then (if near c a u = true then walks r c u k s else 0) else 0 :=
      sm_congr fun s hs => by rw [walks_left k a s ha hs, sm_if]
    rw [e1, sm_swap]
    refine sm_congr fun u hu => ?_
    rw [walks_succ hb, sm_if]
    refine sm_congr fun s _ => ?_
    by_cases h1 : near c s b = true <;> by_cases h2 : near c a u = true <;> simp [h1, h2]

theorem walks_symm {r c : Nat} : ∀ (k a b : Nat), a < r * c → b < r * c → walks r c a k b = walks r c b k a
  | 0, a, b, _, _ => by
    simp only [walks]
    by_cases h : b = a
    · subst h; rfl
    · have h3 : ¬ a = b := fun h' => h h'.symm
      rw [if_neg h, if_neg h3]
  | k + 1, a, b, ha, hb => by
    rw [walks_left k a b ha hb, walks_succ ha]
    exact sm_congr fun s hs => by rw [near_comm, walks_symm k s b hs hb]

end Go.Proofs.Tryd.Dn

/-
  Knight: the walks of one more step, over the moves of the last square.
-/

namespace Go.Proofs.Tryd.Dn
open Go.Dn

theorem andN_zero (O : Nat) : andN 0 O = 0 := by unfold andN; simp

theorem no_steps {r c a b N : Nat} (h : Brd r c) (ha : a < r * c) (hb : b < r * c) (hz : front r c a N = 0) (hno : ∀ k, k < N → (front r c a k).testBit b = false) (n : Nat) : walks r c a n b = 0 := by
  apply Classical.byContradiction
  intro hc
  obtain ⟨j, h1, h2⟩ := walks_front h ha n b hb (Nat.pos_of_ne_zero hc)
  have hzero : ∀ d, front r c a (N + d) = 0 := by
    intro d
    induction d with
    | zero => exact hz
    | succ d ih =>
      have h1 : (lv r c a (N + d)).2 = 0 := ih
      have h0 : around r c 0 = 0 := by unfold around; rw [mem64_zero]; rfl
      have h2 : front r c a (N + d + 1) = andN (around r c (lv r c a (N + d)).2) ((lv r c a (N + d)).1 ||| (lv r c a (N + d)).2) := rfl
      rw [show N + (d + 1) = N + d + 1 from rfl, h2, h1, h0]
      generalize (lv r c a (N + d)).1 ||| 0 = O
      exact andN_zero O
  by_cases hj : j < N
  · rw [hno j hj] at h2; cases h2
  · have := hzero (j - N)
    rw [show N + (j - N) = j by omega] at this
    rw [this, Nat.zero_testBit] at h2
    cases h2

end Go.Proofs.Tryd.Dn

/-
  Knight: the law of steps: the sum over the moves.
-/

namespace Go.Proofs.Tryd.Dn
open Go.Dn

end Go.Proofs.Tryd.Dn

