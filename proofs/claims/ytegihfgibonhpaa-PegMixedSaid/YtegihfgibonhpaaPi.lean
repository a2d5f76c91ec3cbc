/-
  Rules: least holes, and how many pegs two sets share, modulo 2.
-/
import Derived.Test.YtegihfgibonhpaaPg2
import Derived.Test.YtegihfgibonhpaaPh
set_option linter.unusedSimpArgs false
set_option linter.unusedVariables false

namespace Go.Proofs.Try.Dn
open Go.Dn

theorem lo_ex : ∀ r : Nat, 0 < r → ∃ k, r.testBit k = true ∧ (∀ j, j < k → r.testBit j = false) ∧ ∀ j, (r.testBit j && !(r - 1).testBit j) = decide (j = k) := by
  intro r
  induction r using Nat.strongRecOn with
  | _ r ih =>
    intro h
    rcases (by omega : r % 2 = 1 ∨ r % 2 = 0) with e | e
    · refine ⟨0, by rw [Nat.testBit_zero]; simp [e], fun j hj => by omega, fun j => ?_⟩
      cases j with
      | zero =>
        have : (r - 1) % 2 = 0 := by omega
        rw [Nat.testBit_zero, Nat.testBit_zero]; simp [e, this]
      | succ j =>
        rw [Nat.testBit_succ, Nat.testBit_succ, show (r - 1) / 2 = r / 2 by omega]
        cases (r / 2).testBit j <;> simp
    · obtain ⟨k, h1, h2, h3⟩ := ih (r / 2) (by omega) (by omega)
      refine ⟨k + 1, by rw [Nat.testBit_succ]; exact h1, fun j hj => ?_, fun j => ?_⟩
      · cases j with
        | zero => rw [Nat.testBit_zero]; simp [e]
        | succ j => rw [Nat.testBit_succ]; exact h2 j (by omega)
      · cases j with
        | zero => rw [Nat.testBit_zero]; simp [e]
        | succ j =>
          rw [Nat.testBit_succ, Nat.testBit_succ, show (r - 1) / 2 = r / 2 - 1 by omega, h3 j]
          simp

def lo (r : Nat) : Nat := nd r (r - 1)
def li (r : Nat) : Nat := (lo r).log2

theorem lo_spec {r : Nat} (h0 : 0 < r) (h : r < 65536) : lo r = 2 ^ li r ∧ r.testBit (li r) = true ∧ ∀ j, j < li r → r.testBit j = false := by
  obtain ⟨k, h1, h2, h3⟩ := lo_ex r h0
  have hlo : lo r = 2 ^ k := by
    apply Nat.eq_of_testBit_eq
    intro i
    unfold lo
    rw [nd_bit h, h3, Nat.testBit_two_pow]
    simp [eq_comm]
  have hli : li r = k := by unfold li; rw [hlo, Nat.log2_two_pow]
  rw [hli]
  exact ⟨hlo, h1, h2⟩

theorem li_eq {r k : Nat} (h : r < 65536) (h1 : r.testBit k = true) (h2 : ∀ j, j < k → r.testBit j = false) : li r = k := by
  have h0 : 0 < r := by
    rcases Nat.eq_zero_or_pos r with e | e
    · rw [e] at h1; simp at h1
    · exact e
  obtain ⟨_, a, b⟩ := lo_spec h0 h
  rcases Nat.lt_trichotomy (li r) k with e | e | e
  · rw [h2 _ e] at a; cases a
  · exact e
  · rw [b _ e] at h1; cases h1

theorem bit_lt {r k : Nat} (h : r < 65536) (h1 : r.testBit k = true) : k < 16 := by
  rcases Nat.lt_or_ge k 16 with e | e
  · exact e
  · have : r.testBit k = false := Nat.testBit_lt_two_pow (Nat.lt_of_lt_of_le h (Nat.pow_le_pow_right (n := 2) (by decide) e))
    rw [this] at h1; cases h1

def par (x : Nat) : Bool := decide (pegs x % 2 = 1)

theorem countP_xor (a b : Nat → Bool) : ∀ l : List Nat, decide (l.countP (fun i => a i ^^ b i) % 2 = 1) = (decide (l.countP a % 2 = 1) ^^ decide (l.countP b % 2 = 1))
  | [] => rfl
  | x :: l => by
    have ih := countP_xor a b l
    have h : ∀ (n : Nat) (c : Bool), decide ((n + if c = true then 1 else 0) % 2 = 1) = (decide (n % 2 = 1) ^^ c) := by
      intro n c
      rcases (by omega : n % 2 = 0 ∨ n % 2 = 1) with e | e <;> cases c <;> simp [e, Nat.add_mod]
    rw [List.countP_cons, List.countP_cons, List.countP_cons, h, h, h, ih]
    cases decide (l.countP a % 2 = 1) <;> cases decide (l.countP b % 2 = 1) <;> cases a x <;> cases b x <;> rfl

theorem par_xor (x y : Nat) : par (x ^^^ y) = (par x ^^ par y) := by
  unfold par pegs
  rw [← countP_xor]
  simp only [Nat.testBit_xor]

theorem par_zero : par 0 = false := by decide

theorem par_two {k : Nat} (h : k < 16) : par (2 ^ k) = true := by
  have : ∀ k, k < 16 → par (2 ^ k) = true := by decide
  exact this k h

def dot (s v : Nat) : Bool := par (s &&& v)

theorem dot_xor_l (a b v : Nat) : dot (a ^^^ b) v = (dot a v ^^ dot b v) := by
  unfold dot
  rw [← par_xor]
  congr 1
  apply Nat.eq_of_testBit_eq
  intro i
  simp only [Nat.testBit_and, Nat.testBit_xor]
  cases a.testBit i <;> cases b.testBit i <;> cases v.testBit i <;> rfl

theorem dot_xor_r (s a b : Nat) : dot s (a ^^^ b) = (dot s a ^^ dot s b) := by
  unfold dot
  rw [← par_xor]
  congr 1
  apply Nat.eq_of_testBit_eq
  intro i
  simp only [Nat.testBit_and, Nat.testBit_xor]
  cases a.testBit i <;> cases b.testBit i <;> cases s.testBit i <;> rfl

theorem dot_zero_r (s : Nat) : dot s 0 = false := by unfold dot; rw [Nat.and_zero, par_zero]
theorem dot_zero_l (s : Nat) : dot 0 s = false := by unfold dot; rw [Nat.zero_and, par_zero]

theorem dot_two {s k : Nat} (h : k < 16) : dot s (2 ^ k) = s.testBit k := by
  unfold dot
  cases hs : s.testBit k with
  | true =>
    have : s &&& 2 ^ k = 2 ^ k := by
      apply Nat.eq_of_testBit_eq
      intro i
      rw [Nat.testBit_and, Nat.testBit_two_pow]
      by_cases e : k = i
      · subst e; simp [hs]
      · simp [e]
    rw [this, par_two h]
  | false =>
    have := (and_one_bit (m := s) (c := k)).2 hs
    rw [this, par_zero]

def vec (x : Line) : Nat := 2 ^ x.1.toNat ||| 2 ^ x.2.1.toNat ||| 2 ^ x.2.2.toNat
def dot3 (s : Nat) (x : Line) : Bool := s.testBit x.1.toNat ^^ s.testBit x.2.1.toNat ^^ s.testBit x.2.2.toNat

theorem vec_xor {n : Int} {x : Line} (hf : Fits n x) : vec x = 2 ^ x.1.toNat ^^^ 2 ^ x.2.1.toNat ^^^ 2 ^ x.2.2.toNat := by
  obtain ⟨f1, f2, f3, f4, f5, f6, f7, f8, f9⟩ := hf
  apply Nat.eq_of_testBit_eq
  intro i
  unfold vec
  simp only [Nat.testBit_or, Nat.testBit_xor, Nat.testBit_two_pow]
  by_cases a : x.1.toNat = i
  · have b : ¬ x.2.1.toNat = i := by omega
    have c : ¬ x.2.2.toNat = i := by omega
    simp [a, b, c]
  · by_cases b : x.2.1.toNat = i
    · have c : ¬ x.2.2.toNat = i := by omega
      simp [a, b, c]
    · simp [a, b]

theorem dot_vec {n : Int} {x : Line} (hn : n ≤ 16) (hf : Fits n x) (s : Nat) : dot s (vec x) = dot3 s x := by
  rw [vec_xor hf, dot_xor_r, dot_xor_r]
  obtain ⟨f1, f2, f3, f4, f5, f6, f7, f8, f9⟩ := hf
  rw [dot_two (by omega), dot_two (by omega), dot_two (by omega)]
  rfl

theorem vec_lt {n : Nat} {x : Line} (hf : Fits (n : Int) x) : vec x < 2 ^ n := by
  obtain ⟨f1, f2, f3, f4, f5, f6, f7, f8, f9⟩ := hf
  unfold vec
  refine Nat.or_lt_two_pow (Nat.or_lt_two_pow ?_ ?_) ?_ <;> exact Nat.pow_lt_pow_right (by decide) (by omega)

end Go.Proofs.Try.Dn

/-
  Rules: the rows that lines make, each with a least hole of its own.
-/

namespace Go.Proofs.Try.Dn
open Go.Dn

def red (rows : List Nat) (x : Nat) : Nat := rows.foldl (fun a r => if a.testBit (li r) then a ^^^ r else a) x
def push (rows : List Nat) (x : Nat) : List Nat :=
  if red rows x = 0 then rows else rows.map (fun r => if r.testBit (li (red rows x)) then r ^^^ red rows x else r) ++ [red rows x]
def rowsOf (l : List Line) : List Nat := l.foldl (fun rows x => push rows (vec x)) []

structure Rows (n : Nat) (rows : List Nat) : Prop where
  pos : ∀ r ∈ rows, 0 < r
  lt : ∀ r ∈ rows, r < 2 ^ n
  own : rows.Pairwise fun r r' => r.testBit (li r') = false ∧ r'.testBit (li r) = false

theorem two16 {n : Nat} (h : n ≤ 16) : 2 ^ n ≤ 65536 := by
  have : ∀ k : Nat, k ≤ 16 → 2 ^ k ≤ 65536 := by decide
  exact this n h

theorem red_lt {n : Nat} : ∀ {rows : List Nat} {x : Nat}, (∀ r ∈ rows, r < 2 ^ n) → x < 2 ^ n → red rows x < 2 ^ n
  | [], x, _, h => h
  | r :: rows, x, hr, h => by
    unfold red
    rw [List.foldl_cons]
    refine red_lt (fun r' h' => hr r' (by simp [h'])) ?_
    split
    · exact Nat.xor_lt_two_pow h (hr r (by simp))
    · exact h

theorem red_own {n : Nat} (hn : n ≤ 16) : ∀ {rows pre : List Nat} {x : Nat}, (∀ r ∈ rows, 0 < r) → (∀ r ∈ rows, r < 2 ^ n) → (rows.Pairwise fun r r' => r.testBit (li r') = false ∧ r'.testBit (li r) = false) → (∀ r ∈ rows, ∀ r' ∈ pre, r.testBit (li r') = false) → (∀ r' ∈ pre, x.testBit (li r') = false) → ∀ r' ∈ pre ++ rows, (red rows x).testBit (li r') = false
  | [], pre, x, _, _, _, _, h => by simpa [red] using h
  | r :: rows, pre, x, h0, hl, hp, hpre, h => by
    obtain ⟨hp1, hp2⟩ := List.pairwise_cons.1 hp
    have hr0 := h0 r (by simp)
    have hrl := hl r (by simp)
    have h16 := two16 hn
    obtain ⟨_, hbit, _⟩ := lo_spec hr0 (by omega)
    unfold red
    rw [List.foldl_cons]
    have := red_own hn (rows := rows) (pre := pre ++ [r]) (x := if x.testBit (li r) then x ^^^ r else x) (fun r' h' => h0 r' (by simp [h'])) (fun r' h' => hl r' (by simp [h'])) hp2
      (fun a ha b hb => by
        rcases List.mem_append.1 hb with hb | hb
        · exact hpre a (by simp [ha]) b hb
        · rw [List.mem_singleton] at hb; subst hb; exact (hp1 a ha).2)
      (fun b hb => by
        rcases List.mem_append.1 hb with hb | hb
        · split
          · rw [Nat.testBit_xor, h b hb, hpre r (by simp) b hb]; rfl
          · exact h b hb
        · rw [List.mem_singleton] at hb
          subst hb
          by_cases hc : x.testBit (li b) = true
          · rw [if_pos hc, Nat.testBit_xor, hc, hbit]; rfl
          · rw [if_neg hc]; simpa using hc)
    intro r' hr'
    exact this r' (by simpa using hr')

theorem red_dot {s : Nat} : ∀ {rows : List Nat} {x : Nat}, (∀ r ∈ rows, dot s r = false) → dot s (red rows x) = dot s x
  | [], x, _ => rfl
  | r :: rows, x, h => by
    unfold red
    rw [List.foldl_cons]
    have := red_dot (s := s) (rows := rows) (x := if x.testBit (li r) then x ^^^ r else x) (fun r' h' => h r' (by simp [h']))
    unfold red at this
    rw [this]
    split
    · rw [dot_xor_r, h r (by simp)]; simp
    · rfl

theorem push_ok {n : Nat} (hn : n ≤ 16) {rows : List Nat} (h : Rows n rows) {x : Nat} (hx : x < 2 ^ n) : Rows n (push rows x) := by
  have h16 := two16 hn
  unfold push
  by_cases h0 : red rows x = 0
  · rw [if_pos h0]; exact h
  · rw [if_neg h0]
    have hrl := red_lt h.lt hx
    have hown : ∀ r' ∈ rows, (red rows x).testBit (li r') = false := by
      have := red_own hn (rows := rows) (pre := []) (x := x) h.pos h.lt h.own (by simp) (by simp)
      simpa using this
    generalize red rows x = w at *
    obtain ⟨_, hwb, hwl⟩ := lo_spec (by omega : 0 < w) (by omega)
    -- what a row becomes keeps its least hole
    have hf : ∀ r ∈ rows, (if r.testBit (li w) then r ^^^ w else r) < 2 ^ n ∧ 0 < (if r.testBit (li w) then r ^^^ w else r) ∧ li (if r.testBit (li w) then r ^^^ w else r) = li r ∧ (if r.testBit (li w) then r ^^^ w else r).testBit (li w) = false ∧ ∀ j, w.testBit j = false → (if r.testBit (li w) then r ^^^ w else r).testBit j = r.testBit j := by
      intro r hr
      have hr0 := h.pos r hr
      have hrlt := h.lt r hr
      obtain ⟨_, rb, rl⟩ := lo_spec hr0 (by omega)
      by_cases hc : r.testBit (li w) = true
      · have hlt : li r < li w := by
          rcases Nat.lt_trichotomy (li r) (li w) with e | e | e
          · exact e
          · have := hown r hr; rw [e, hwb] at this; cases this
          · have := rl _ e; rw [hc] at this; cases this
        have hxl : r ^^^ w < 2 ^ n := Nat.xor_lt_two_pow hrlt hrl
        have hb : (r ^^^ w).testBit (li r) = true := by rw [Nat.testBit_xor, rb, hwl _ hlt]; rfl
        simp only [hc, if_true]
        refine ⟨hxl, ?_, li_eq (by omega) hb fun j hj => by rw [Nat.testBit_xor, rl j hj, hwl j (by omega)]; rfl, by rw [Nat.testBit_xor, hc, hwb]; rfl, fun j hj => by rw [Nat.testBit_xor, hj]; simp⟩
        rcases Nat.eq_zero_or_pos (r ^^^ w) with e | e
        · rw [e] at hb; simp at hb
        · exact e
      · simp only [hc]
        exact ⟨hrlt, hr0, rfl, by simpa using hc, fun _ _ => rfl⟩
    constructor
    · intro r hr
      rcases List.mem_append.1 hr with hr | hr
      · obtain ⟨r0, hr0, rfl⟩ := List.mem_map.1 hr
        exact (hf r0 hr0).2.1
      · rw [List.mem_singleton] at hr; omega
    · intro r hr
      rcases List.mem_append.1 hr with hr | hr
      · obtain ⟨r0, hr0, rfl⟩ := List.mem_map.1 hr
        exact (hf r0 hr0).1
      · rw [List.mem_singleton] at hr; rw [hr]; exact hrl
    · rw [List.pairwise_append]
      refine ⟨?_, List.pairwise_singleton _ _, ?_⟩
      · rw [List.pairwise_map]
        refine (List.Pairwise.and_mem.1 h.own).imp fun {r r'} hh => ?_
        obtain ⟨hr, hr', h1, h2⟩ := hh
        obtain ⟨_, _, a1, a2, a3⟩ := hf r hr
        obtain ⟨_, _, b1, b2, b3⟩ := hf r' hr'
        rw [a1, b1, a3 _ (hown r' hr'), b3 _ (hown r hr)]
        exact ⟨h1, h2⟩
      · intro a ha b hb
        rw [List.mem_singleton] at hb
        subst hb
        obtain ⟨r0, hr0, rfl⟩ := List.mem_map.1 ha
        obtain ⟨_, _, a1, a2, a3⟩ := hf r0 hr0
        rw [a1]
        exact ⟨a2, hown r0 hr0⟩

theorem push_dot {s : Nat} {rows : List Nat} {x : Nat} : (∀ r ∈ push rows x, dot s r = false) ↔ (∀ r ∈ rows, dot s r = false) ∧ dot s x = false := by
  unfold push
  by_cases h0 : red rows x = 0
  · rw [if_pos h0]
    constructor
    · intro h
      refine ⟨h, ?_⟩
      rw [← red_dot h, h0, dot_zero_r]
    · exact fun h => h.1
  · rw [if_neg h0]
    constructor
    · intro h
      have hw : dot s (red rows x) = false := h _ (by simp)
      have hr : ∀ r ∈ rows, dot s r = false := by
        intro r hr
        have := h _ (List.mem_append_left _ (List.mem_map_of_mem hr))
        split at this
        · rw [dot_xor_r, hw] at this; simpa using this
        · exact this
      exact ⟨hr, by rw [← red_dot hr]; exact hw⟩
    · intro ⟨hr, hx⟩ r hm
      have hw : dot s (red rows x) = false := by rw [red_dot hr]; exact hx
      rcases List.mem_append.1 hm with hm | hm
      · obtain ⟨r0, hr0, rfl⟩ := List.mem_map.1 hm
        split
        · rw [dot_xor_r, hw, hr r0 hr0]; rfl
        · exact hr r0 hr0
      · rw [List.mem_singleton] at hm; rw [hm]; exact hw

theorem rows_fold {n : Nat} (hn : n ≤ 16) : ∀ (l : List Line) (rows : List Nat), (∀ x ∈ l, Fits (n : Int) x) → Rows n rows →
    Rows n (l.foldl (fun rows x => push rows (vec x)) rows) ∧ ∀ s, (∀ r ∈ l.foldl (fun rows x => push rows (vec x)) rows, dot s r = false) ↔ (∀ r ∈ rows, dot s r = false) ∧ ∀ x ∈ l, dot s (vec x) = false
  | [], rows, _, h => ⟨h, fun s => by simp⟩
  | x :: l, rows, hf, h => by
    have hx := hf x (by simp)
    obtain ⟨h1, h2⟩ := rows_fold hn l (push rows (vec x)) (fun y hy => hf y (by simp [hy])) (push_ok hn h (vec_lt hx))
    rw [List.foldl_cons]
    refine ⟨h1, fun s => ?_⟩
    rw [h2 s, push_dot]
    simp only [List.mem_cons, forall_eq_or_imp, and_assoc]

theorem rowsOf_ok {n : Nat} (hn : n ≤ 16) {l : List Line} (hf : ∀ x ∈ l, Fits (n : Int) x) : Rows n (rowsOf l) ∧ ∀ s, (∀ r ∈ rowsOf l, dot s r = false) ↔ ∀ x ∈ l, dot3 s x = false := by
  obtain ⟨h1, h2⟩ := rows_fold hn l [] hf ⟨by simp, by simp, .nil⟩
  refine ⟨h1, fun s => ?_⟩
  unfold rowsOf
  rw [h2 s]
  constructor
  · intro ⟨_, h⟩ x hx; rw [← dot_vec (n := n) (by omega) (hf x hx)]; exact h x hx
  · intro h; exact ⟨by simp, fun x hx => by rw [dot_vec (n := n) (by omega) (hf x hx)]; exact h x hx⟩

end Go.Proofs.Try.Dn

/-
  Rules: the basis; the reference's basis is the same.
-/

namespace Go.Proofs.Try.Dn
open Go.Dn

def firstOf (rows : List Nat) : Nat := rows.foldl (fun a r => a ||| lo r) 0
def ruleOf (rows : List Nat) (i : Nat) : Nat := rows.foldl (fun a r => if r.testBit i then a ||| lo r else a) (2 ^ i)
def rulesP (n : Nat) (rows : List Nat) : List Nat := ((List.range n).filter fun i => !(firstOf rows).testBit i).map (ruleOf rows)

theorem first_bit {n : Nat} (hn : n ≤ 16) : ∀ {rows : List Nat} {a : Nat}, (∀ r ∈ rows, 0 < r ∧ r < 2 ^ n) → ∀ j, (rows.foldl (fun a r => a ||| lo r) a).testBit j = true ↔ a.testBit j = true ∨ ∃ r ∈ rows, li r = j
  | [], a, _, j => by simp
  | r :: rows, a, h, j => by
    have hr := h r (by simp)
    have h16 := two16 hn
    obtain ⟨hlo, _, _⟩ := lo_spec hr.1 (by omega)
    rw [List.foldl_cons, first_bit hn (fun r' h' => h r' (by simp [h'])) j, Nat.testBit_or, hlo, Nat.testBit_two_pow]
    simp only [Bool.or_eq_true, decide_eq_true_eq, List.mem_cons, exists_eq_or_imp, or_assoc]

theorem rule_bit {n : Nat} (hn : n ≤ 16) {i : Nat} : ∀ {rows : List Nat} {a : Nat}, (∀ r ∈ rows, 0 < r ∧ r < 2 ^ n) → ∀ j, (rows.foldl (fun a r => if r.testBit i then a ||| lo r else a) a).testBit j = true ↔ a.testBit j = true ∨ ∃ r ∈ rows, r.testBit i = true ∧ li r = j
  | [], a, _, j => by simp
  | r :: rows, a, h, j => by
    have hr := h r (by simp)
    have h16 := two16 hn
    obtain ⟨hlo, _, _⟩ := lo_spec hr.1 (by omega)
    rw [List.foldl_cons, rule_bit hn (fun r' h' => h r' (by simp [h'])) j]
    simp only [List.mem_cons, exists_eq_or_imp]
    by_cases hc : r.testBit i = true
    · rw [if_pos hc, Nat.testBit_or, hlo, Nat.testBit_two_pow]
      simp only [Bool.or_eq_true, decide_eq_true_eq, hc, true_and, or_assoc]
    · rw [if_neg hc]
      simp only [hc, Bool.false_eq_true, false_and, false_or]

theorem pair_of {α : Type} {R : α → α → Prop} (hs : ∀ a b, R a b → R b a) : ∀ {l : List α}, l.Pairwise R → ∀ a ∈ l, ∀ b ∈ l, a ≠ b → R a b
  | [], _, a, ha, _, _, _ => by cases ha
  | x :: l, h, a, ha, b, hb, hne => by
    obtain ⟨h1, h2⟩ := List.pairwise_cons.1 h
    rcases List.mem_cons.1 ha with ha' | ha'
    · subst ha'
      rcases List.mem_cons.1 hb with hb | hb
      · exact absurd hb.symm hne
      · exact h1 b hb
    · rcases List.mem_cons.1 hb with hb | hb
      · subst hb; exact hs _ _ (h1 a ha')
      · exact pair_of hs h2 a ha' b hb hne

section
variable {n : Nat} (hn : n ≤ 16) {rows : List Nat} (h : Rows n rows)
include hn h

omit hn in
theorem Rows.both : ∀ r ∈ rows, 0 < r ∧ r < 2 ^ n := fun r hr => ⟨h.pos r hr, h.lt r hr⟩

theorem Rows.low {r : Nat} (hr : r ∈ rows) : r < 65536 ∧ lo r = 2 ^ li r ∧ r.testBit (li r) = true ∧ ∀ j, j < li r → r.testBit j = false := by
  have h16 := two16 hn
  have := h.lt r hr
  exact ⟨by omega, lo_spec (h.pos r hr) (by omega)⟩

theorem Rows.free_iff (j : Nat) : (firstOf rows).testBit j = false ↔ ∀ r ∈ rows, li r ≠ j := by
  have := first_bit (a := 0) hn (h.both) j
  unfold firstOf
  rw [← Bool.not_eq_true, this]
  simp

theorem Rows.rule_bit (i j : Nat) : (ruleOf rows i).testBit j = true ↔ j = i ∨ ∃ r ∈ rows, r.testBit i = true ∧ li r = j := by
  unfold ruleOf
  rw [Go.Proofs.Try.Dn.rule_bit hn (h.both) j, Nat.testBit_two_pow, decide_eq_true_eq]
  exact or_congr_left eq_comm

theorem Rows.rule_top {i : Nat} (hi : (firstOf rows).testBit i = false) : ∀ j, i < j → (ruleOf rows i).testBit j = false := by
  intro j hj
  rw [← Bool.not_eq_true, h.rule_bit hn]
  rintro (e | ⟨r, hr, h1, h2⟩)
  · omega
  · obtain ⟨_, _, _, hl⟩ := h.low hn hr
    have := hl i (by omega)
    rw [h1] at this; cases this

theorem Rows.rule_self (i : Nat) : (ruleOf rows i).testBit i = true := (h.rule_bit hn i i).2 (.inl rfl)

theorem Rows.rule_free {i j : Nat} (hj : (firstOf rows).testBit j = false) (hb : (ruleOf rows i).testBit j = true) : j = i := by
  rcases (h.rule_bit hn i j).1 hb with e | ⟨r, hr, _, h2⟩
  · exact e
  · exact absurd h2 ((h.free_iff hn j).1 hj r hr)

theorem Rows.rule_dot {i : Nat} (hi16 : i < 16) (hi : (firstOf rows).testBit i = false) {r : Nat} (hr : r ∈ rows) : dot (ruleOf rows i) r = false := by
  obtain ⟨hlt, hlo, hb, hl⟩ := h.low hn hr
  have hsym : ∀ a b : Nat, (a.testBit (li b) = false ∧ b.testBit (li a) = false) → (b.testBit (li a) = false ∧ a.testBit (li b) = false) := fun _ _ h => ⟨h.2, h.1⟩
  have hown : ∀ r' ∈ rows, r.testBit (li r') = true → r' = r := by
    intro r' hr' ht
    by_cases e : r' = r
    · exact e
    · have := (pair_of hsym h.own r hr r' hr' (fun x => e x.symm)).1
      rw [ht] at this; cases this
  have hne : li r ≠ i := (h.free_iff hn i).1 hi r hr
  by_cases hc : r.testBit i = true
  · have he : ruleOf rows i &&& r = 2 ^ i ^^^ 2 ^ li r := by
      apply Nat.eq_of_testBit_eq
      intro j
      rw [Nat.testBit_and, Nat.testBit_xor, Nat.testBit_two_pow, Nat.testBit_two_pow]
      by_cases h1 : i = j
      · subst h1
        rw [h.rule_self hn, hc]; simp [hne]
      · by_cases h2 : li r = j
        · subst h2
          have : (ruleOf rows i).testBit (li r) = true := (h.rule_bit hn i _).2 (.inr ⟨r, hr, hc, rfl⟩)
          rw [this, hb]; simp [h1]
        · have : ((ruleOf rows i).testBit j && r.testBit j) = false := by
            rw [Bool.and_eq_false_iff]
            by_cases h3 : r.testBit j = true
            · left
              rw [← Bool.not_eq_true, h.rule_bit hn]
              rintro (e | ⟨r', hr', _, h5⟩)
              · exact h1 e.symm
              · have := hown r' hr' (by rw [h5]; exact h3)
                subst this; exact h2 h5
            · right; simpa using h3
          rw [this]; simp [h1, h2]
    have hlr : li r < 16 := bit_lt hlt hb
    unfold dot
    rw [he, par_xor, par_two hi16, par_two hlr]; rfl
  · have he : ruleOf rows i &&& r = 0 := by
      apply Nat.eq_of_testBit_eq
      intro j
      rw [Nat.testBit_and, Nat.zero_testBit, Bool.and_eq_false_iff]
      by_cases h3 : r.testBit j = true
      · left
        rw [← Bool.not_eq_true, h.rule_bit hn]
        rintro (e | ⟨r', hr', h4, h5⟩)
        · subst e; exact hc h3
        · have := hown r' hr' (by rw [h5]; exact h3)
          subst this; exact hc h4
      · right; simpa using h3
    unfold dot
    rw [he, par_zero]

theorem Rows.top_free {s t : Nat} (hs : ∀ r ∈ rows, dot s r = false) (ht : s.testBit t = true) (hgt : ∀ j, t < j → s.testBit j = false) : (firstOf rows).testBit t = false := by
  rw [h.free_iff hn]
  intro r hr he
  subst he
  obtain ⟨hlt, hlo, hb, hl⟩ := h.low hn hr
  have : s &&& r = 2 ^ li r := by
    apply Nat.eq_of_testBit_eq
    intro j
    rw [Nat.testBit_and, Nat.testBit_two_pow]
    rcases Nat.lt_trichotomy j (li r) with e | e | e
    · rw [hl j e]; simp; omega
    · subst e; simp [ht, hb]
    · rw [hgt j e]; simp; omega
  have hd := hs r hr
  unfold dot at hd
  rw [this, par_two (bit_lt hlt hb)] at hd
  cases hd
end

theorem top_bits {s : Nat} (h : 0 < s) : s.testBit s.log2 = true ∧ (∀ j, s.log2 < j → s.testBit j = false) ∧ 2 ^ s.log2 ≤ s ∧ s < 2 ^ (s.log2 + 1) := by
  have h1 : 2 ^ s.log2 ≤ s := Nat.log2_self_le (by omega)
  have h2 : s < 2 ^ (s.log2 + 1) := Nat.lt_log2_self
  refine ⟨?_, fun j hj => Nat.testBit_lt_two_pow (Nat.lt_of_lt_of_le h2 (Nat.pow_le_pow_right (by decide) hj)), h1, h2⟩
  rw [Nat.testBit_eq_decide_div_mod_eq]
  have : s / 2 ^ s.log2 = 1 := by
    apply Nat.div_eq_of_lt_le
    · omega
    · rw [Nat.pow_succ] at h2; omega
  simp [this]

theorem lt_of_bits {s t : Nat} (h : ∀ j, t ≤ j → s.testBit j = false) : s < 2 ^ t := Nat.lt_pow_two_of_testBit s h

theorem log2_of {s t : Nat} (h : s.testBit t = true) (hgt : ∀ j, t < j → s.testBit j = false) : s.log2 = t := by
  have h0 : 0 < s := by
    rcases Nat.eq_zero_or_pos s with e | e
    · rw [e] at h; simp at h
    · exact e
  obtain ⟨a, b, _, _⟩ := top_bits h0
  rcases Nat.lt_trichotomy s.log2 t with e | e | e
  · rw [b t e] at h; cases h
  · exact e
  · rw [hgt _ e] at a; cases a

section
variable {n : Nat} (hn : n ≤ 16) {rows : List Nat} (h : Rows n rows)
include hn h

theorem Rows.rule_log {i : Nat} (hi : (firstOf rows).testBit i = false) : (ruleOf rows i).log2 = i ∧ 0 < ruleOf rows i ∧ 2 ^ i ≤ ruleOf rows i ∧ ruleOf rows i < 2 ^ (i + 1) := by
  have h1 := h.rule_self hn i
  have h2 := log2_of h1 (h.rule_top hn hi)
  have h0 : 0 < ruleOf rows i := by
    rcases Nat.eq_zero_or_pos (ruleOf rows i) with e | e
    · rw [e] at h1; simp at h1
    · exact e
  have h3 := (top_bits h0).2.2
  rw [h2] at h3
  exact ⟨h2, h0, h3⟩

omit hn h in
theorem mem_rulesP {s : Nat} : s ∈ rulesP n rows ↔ ∃ i, i < n ∧ (firstOf rows).testBit i = false ∧ ruleOf rows i = s := by
  unfold rulesP
  simp only [List.mem_map, List.mem_filter, List.mem_range, Bool.not_eq_true', and_assoc]

theorem Rows.sorted : (rulesP n rows).Pairwise (· < ·) := by
  unfold rulesP
  rw [List.pairwise_map]
  have h1 : ((List.range n).filter fun i => !(firstOf rows).testBit i).Pairwise (· < ·) := (List.pairwise_lt_range).filter _
  refine (List.Pairwise.and_mem.1 h1).imp fun {a b} hh => ?_
  obtain ⟨ha, hb, hlt⟩ := hh
  simp only [List.mem_filter, Bool.not_eq_true'] at ha hb
  have a1 := (h.rule_log hn ha.2).2.2.2
  have b1 := (h.rule_log hn hb.2).2.2.1
  exact Nat.lt_of_lt_of_le a1 (Nat.le_trans (Nat.pow_le_pow_right (by decide) hlt) b1)

theorem Rows.hit {s : Nat} (h1 : 0 < s) (h2 : s < 2 ^ n) {T : Nat → Bool} (hT : ∀ t, T t = true ↔ t < n ∧ (firstOf rows).testBit t = false ∧ ruleOf rows t < s) :
    (T s.log2 = false ∧ (∀ j, s.testBit j = true → T j = false) ∧ ∀ r ∈ rows, dot s r = false) ↔ s ∈ rulesP n rows := by
  obtain ⟨st, sgt, sl, su⟩ := top_bits h1
  rw [mem_rulesP]
  constructor
  · intro ⟨a, b, c⟩
    have hf := h.top_free hn c st sgt
    have htn : s.log2 < n := by
      rcases Nat.lt_or_ge s.log2 n with e | e
      · exact e
      · have := Nat.pow_le_pow_right (n := 2) (by decide) e; omega
    refine ⟨s.log2, htn, hf, ?_⟩
    generalize ht : s.log2 = t at *
    have hge : ¬ ruleOf rows t < s := by
      intro hlt
      have := (hT t).2 ⟨htn, hf, hlt⟩
      rw [a] at this; cases this
    obtain ⟨rt, r0, rl, ru⟩ := h.rule_log hn hf
    -- the difference is a rule with a smaller greatest hole
    have hxor : ∀ r ∈ rows, dot (s ^^^ ruleOf rows t) r = false := by
      intro r hr
      rw [dot_xor_l, c r hr, h.rule_dot hn (by omega) hf hr]; rfl
    by_cases he : s ^^^ ruleOf rows t = 0
    · have : s = ruleOf rows t := by
        have := congrArg (· ^^^ ruleOf rows t) he
        simpa [Nat.xor_assoc] using this
      exact this.symm
    · exfalso
      obtain ⟨x1, x2, x3, x4⟩ := top_bits (by omega : 0 < s ^^^ ruleOf rows t)
      have hf' := h.top_free hn hxor x1 x2
      generalize (s ^^^ ruleOf rows t).log2 = u at *
      have hut : u < t := by
        rcases Nat.lt_trichotomy u t with e | e | e
        · exact e
        · rw [e, Nat.testBit_xor, st, h.rule_self hn] at x1; cases x1
        · rw [Nat.testBit_xor, sgt u e, h.rule_top hn hf u e] at x1; cases x1
      have hru : (ruleOf rows t).testBit u = false := by
        rw [← Bool.not_eq_true]
        intro hb
        have := h.rule_free hn hf' hb
        omega
      have hsu : s.testBit u = true := by rw [Nat.testBit_xor, hru] at x1; simpa using x1
      have hlt : ruleOf rows u < s := by
        have := (h.rule_log hn hf').2.2.2
        exact Nat.lt_of_lt_of_le this (Nat.le_trans (Nat.pow_le_pow_right (by decide) hut) sl)
      have := (hT u).2 ⟨by omega, hf', hlt⟩
      rw [b u hsu] at this; cases this
  · intro ⟨i, hi, hf, he⟩
    subst he
    obtain ⟨rt, r0, rl, ru⟩ := h.rule_log hn hf
    rw [rt]
    have hno : ∀ j, (ruleOf rows i).testBit j = true → T j = false := by
      intro j hj
      rw [← Bool.not_eq_true, hT]
      intro ⟨_, hjf, hlt⟩
      have := h.rule_free hn hjf hj
      subst this
      omega
    exact ⟨hno i (h.rule_self hn i), hno, fun r hr => h.rule_dot hn (by omega) hf hr⟩

theorem Rows.alike {d : Nat} : (∀ s, s < 2 ^ n → (∀ r ∈ rows, dot s r = false) → dot s d = false) ↔ ∀ s ∈ rulesP n rows, dot s d = false := by
  constructor
  · intro hh s hs
    obtain ⟨i, hi, hf, rfl⟩ := mem_rulesP.1 hs
    exact hh _ (Nat.lt_of_lt_of_le (h.rule_log hn hf).2.2.2 (Nat.pow_le_pow_right (by decide) hi)) fun r hr => h.rule_dot hn (by omega) hf hr
  · intro hh s
    induction s using Nat.strongRecOn with
    | _ s ih =>
      intro hs hr
      rcases Nat.eq_zero_or_pos s with e | e
      · rw [e, dot_zero_l]
      · obtain ⟨st, sgt, sl, su⟩ := top_bits e
        have hf := h.top_free hn hr st sgt
        have htn : s.log2 < n := by
          rcases Nat.lt_or_ge s.log2 n with e | e
          · exact e
          · have := Nat.pow_le_pow_right (n := 2) (by decide) e; omega
        generalize s.log2 = t at *
        have hlt : s ^^^ ruleOf rows t < 2 ^ t := by
          apply lt_of_bits
          intro j hj
          rw [Nat.testBit_xor]
          rcases Nat.lt_or_ge t j with e | e
          · rw [sgt j e, h.rule_top hn hf j e]; rfl
          · have : j = t := by omega
            rw [this, st, h.rule_self hn]; rfl
        have h1 := ih (s ^^^ ruleOf rows t) (by omega) (by omega) fun r hr' => by rw [dot_xor_l, hr r hr', h.rule_dot hn (by omega) hf hr']; rfl
        have h2 := hh _ (mem_rulesP.2 ⟨t, htn, hf, rfl⟩)
        rw [dot_xor_l, h2] at h1
        simpa using h1
end

end Go.Proofs.Try.Dn

/-
  Rules: the walk through 'rules'.
-/

namespace Go.Proofs.Try.Dn
open Go.Dn

def nI (l : List Nat) : List Int := l.map fun (r : Nat) => (r : Int)
theorem nI_len (l : List Nat) : (nI l).length = l.length := by simp [nI]
theorem nI_at {l : List Nat} {i r : Nat} (h : l[i]? = some r) : (nI l)[i]? = some (r : Int) := by simp [nI, h]

theorem xor_eq {m k : Nat} (hm : m < 65536) (hk : k < 65536) : binI .xor (.i .i64 (m : Int)) (.i .i64 (k : Int)) = some (.i .i64 ((m ^^^ k : Nat) : Int)) := by
  have h1 : (m ^^^ k) < 2 ^ 16 := Nat.xor_lt_two_pow hm hk
  have : ((BitVec.ofInt 64 (m : Int)) ^^^ (BitVec.ofInt 64 (k : Int))).toNat = m ^^^ k := by
    rw [ofInt_nat, ofInt_nat, BitVec.toNat_xor]
    simp only [BitVec.toNat_ofNat]
    rw [Nat.mod_eq_of_lt (by omega : m < 2 ^ 64), Nat.mod_eq_of_lt (by omega : k < 2 ^ 64)]
  rw [show binI .xor (.i .i64 (m : Int)) (.i .i64 (k : Int)) = some (wrapR .i64 ((BitVec.ofInt 64 (m : Int)) ^^^ (BitVec.ofInt 64 (k : Int))).toNat) from rfl, this, gX82 (by omega)]

theorem neg_eq {r : Nat} (h : r < 65536) : wrapR .i64 (-(r : Int)) = .i .i64 (-(r : Int)) := gX82 (by omega)

theorem lo_le (r : Nat) : lo r ≤ r := nd_le r (r - 1)

theorem lo_eq {r : Nat} (h0 : 0 < r) (h : r < 65536) : binI .and (.i .i64 (r : Int)) (.i .i64 (-(r : Int))) = some (.i .i64 ((lo r : Nat) : Int)) := by
  have hb : BitVec.ofInt 64 (-(r : Int)) = ~~~BitVec.ofNat 64 (r - 1) := by
    apply BitVec.eq_of_toNat_eq
    rw [BitVec.toNat_ofInt, BitVec.toNat_not, BitVec.toNat_ofNat]
    omega
  have h1 := lo_le r
  rw [show binI .and (.i .i64 (r : Int)) (.i .i64 (-(r : Int))) = some (wrapR .i64 ((BitVec.ofInt 64 (r : Int)) &&& (BitVec.ofInt 64 (-(r : Int)))).toNat) from rfl, ofInt_nat, hb, show (BitVec.ofNat 64 r &&& ~~~BitVec.ofNat 64 (r - 1)).toNat = lo r from rfl, gX82 (by omega)]

theorem lo_test {r : Nat} (h0 : 0 < r) (h : r < 65536) (x : Nat) : (((x &&& lo r : Nat) : Int) != 0) = x.testBit (li r) := by
  rw [(lo_spec h0 h).1]
  have := and_one_bit (m := x) (c := li r)
  cases hx : x.testBit (li r) with
  | true =>
    have hne : ¬ x &&& 2 ^ li r = 0 := fun h => by rw [this.1 h] at hx; cases hx
    simp only [bne_iff_ne, ne_eq]; omega
  | false => rw [this.2 hx]; rfl

def Small (rows : List Nat) : Prop := ∀ r ∈ rows, 0 < r ∧ r < 65536

theorem l54_1_all {pg : Pg} {H : Heap} {N R L LL IX : TV} {rows : List Nat} (hR : elI.View H R (nI rows)) (hs : Small rows) (hl : rows.length ≤ 100) : ∀ (f i a : Nat), i + f = rows.length → a < 65536 →
    ∃ e, den pg l54_1 [(0, N), (5, R), (8, .i .i64 (a : Int)), (21, L), (22, LL), (23, IX), (41, R), (42, .i .i64 (rows.length : Int)), (43, .i .i64 (i : Int))] H = some ⟨.exit 2, e, H⟩ ∧
      get e 0 = some N ∧ get e 5 = some R ∧ get e 8 = some (.i .i64 ((red (rows.drop i) a : Nat) : Int)) ∧ get e 21 = some L ∧ get e 22 = some LL ∧ get e 23 = some IX
  | 0, i, a, h, ha => by
    obtain rfl : i = rows.length := by omega
    refine ⟨[(0, N), (5, R), (8, .i .i64 (a : Int)), (21, L), (22, LL), (23, IX), (41, R), (42, .i .i64 (rows.length : Int)), (43, .i .i64 (rows.length : Int)), (44, .b false)], ?_, rfl, rfl, ?_, rfl, rfl, rfl⟩
    · rw [l54_1, den_loop]
      simp [b54_0, gX0, gX1, gX2, gX3, gX4, gX5, gX6, gX7, gX8, gX9, gXa, gXb, gXc, gXd, gXe, gXf, gXg, gXh, gXi, gXj, gXk, gXl, gXm, gXn, gXo, gXp, gXq, gXr, gXs, gXt, gXu, gXv, gXw, gXx, k_mv, gXy, gXz, gX01, gX11, gX21, gX31, gX41, gX51, gX61, gX71, gX81, gX91, gXa1, gXb1, gXc1, gXd1, gXe1, gXf1, gXg1, gXh1, gXi1, gXj1, gXk1, gXl1, gXm1, gXn1, gXo1, gXp1, gXq1, gXr1, gXs1, gXt1, gXu1, k_mn, k_mx, gXv1, gXw1, gXx1, gXy1, gXz1, gX02, gX12, gX22, gX32, gX42, gX52, gX62, gX72, Dn.setLast, Dn.getLast, evalO, mapO, Dn.get, putE, keepE, TV.one, TV.isAgg, Dn.part]
    · rw [List.drop_length]; rfl
  | f + 1, i, a, h, ha => by
    have hi : i < rows.length := by omega
    have hr : rows[i]? = some rows[i] := List.getElem?_eq_getElem hi
    have hd : rows.drop i = rows[i] :: rows.drop (i + 1) := List.drop_eq_getElem_cons hi
    obtain ⟨r0, r1⟩ := hs _ (List.getElem_mem hi)
    generalize rows[i] = r at hr hd r0 r1
    have e1 : ((i : Int) < (rows.length : Int)) := by omega
    have e2 : wrapR .i64 ((i : Int) + 1) = .i .i64 ((i : Int) + 1) := gX82 (by omega)
    obtain ⟨p, hp, hv⟩ := ixI (pg := pg) (R := den pg) hR (nI_at hr)
    have hng := neg_eq r1
    have hlo := lo_eq r0 r1
    have hle := lo_le r
    have hand := and_eq (m := a) (k := lo r) ha (by omega)
    have hx := xor_eq ha r1
    have ht := lo_test r0 r1 a
    have hstep : red (rows.drop i) a = red (rows.drop (i + 1)) (if a.testBit (li r) then a ^^^ r else a) := by rw [hd]; rfl
    by_cases hc : a.testBit (li r) = true
    · rw [hc] at ht
      rw [if_pos hc] at hstep
      obtain ⟨e, h1, g⟩ := l54_1_all (pg := pg) (H := H) (N := N) (L := L) (LL := LL) (IX := IX) hR hs hl f (i + 1) (a ^^^ r) (by omega) (Nat.xor_lt_two_pow (n := 16) ha r1)
      refine ⟨e, Eq.trans ?_ h1, by rw [hstep]; exact g⟩
      rw [l54_1, den_loop]
      simp [l54_1, b54_0, gX0, gX1, gX2, gX3, gX4, gX5, gX6, gX7, gX8, gX9, gXa, gXb, gXc, gXd, gXe, gXf, gXg, gXh, gXi, gXj, gXk, gXl, gXm, gXn, gXo, gXp, gXq, gXr, gXs, gXt, gXu, gXv, gXw, gXx, k_mv, gXy, gXz, gX01, gX11, gX21, gX31, gX41, gX51, gX61, gX71, gX81, gX91, gXa1, gXb1, gXc1, gXd1, gXe1, gXf1, gXg1, gXh1, gXi1, gXj1, gXk1, gXl1, gXm1, gXn1, gXo1, gXp1, gXq1, gXr1, gXs1, gXt1, gXu1, k_mn, k_mx, gXv1, gXw1, gXx1, gXy1, gXz1, gX02, gX12, gX22, gX32, gX42, gX52, gX62, gX72, Dn.setLast, Dn.getLast, evalO, mapO, Dn.get, putE, keepE, TV.one, TV.isAgg, Dn.part, e1, e2, hp, hv, hng, hlo, hand, hx, ht]
    · have hc' : a.testBit (li r) = false := by simpa using hc
      rw [hc'] at ht
      rw [if_neg hc] at hstep
      obtain ⟨e, h1, g⟩ := l54_1_all (pg := pg) (H := H) (N := N) (L := L) (LL := LL) (IX := IX) hR hs hl f (i + 1) a (by omega) ha
      refine ⟨e, Eq.trans ?_ h1, by rw [hstep]; exact g⟩
      rw [l54_1, den_loop]
      simp [l54_1, b54_0, gX0, gX1, gX2, gX3, gX4, gX5, gX6, gX7, gX8, gX9, gXa, gXb, gXc, gXd, gXe, gXf, gXg, gXh, gXi, gXj, gXk, gXl, gXm, gXn, gXo, gXp, gXq, gXr, gXs, gXt, gXu, gXv, gXw, gXx, k_mv, gXy, gXz, gX01, gX11, gX21, gX31, gX41, gX51, gX61, gX71, gX81, gX91, gXa1, gXb1, gXc1, gXd1, gXe1, gXf1, gXg1, gXh1, gXi1, gXj1, gXk1, gXl1, gXm1, gXn1, gXo1, gXp1, gXq1, gXr1, gXs1, gXt1, gXu1, k_mn, k_mx, gXv1, gXw1, gXx1, gXy1, gXz1, gX02, gX12, gX22, gX32, gX42, gX52, gX62, gX72, Dn.setLast, Dn.getLast, evalO, mapO, Dn.get, putE, keepE, TV.one, TV.isAgg, Dn.part, e1, e2, hp, hv, hng, hlo, hand, hx, ht]

def fixRow (w r : Nat) : Nat := if r.testBit (li w) then r ^^^ w else r

theorem l54_3_all {pg : Pg} {N R L LL IX : TV} {w : Nat} (hw0 : 0 < w) (hw : w < 65536) {rows : List Nat} (hs : Small rows) (hl : rows.length ≤ 100) : ∀ (f i : Nat) (H : Heap), i + f = rows.length → elI.Own H R (nI ((rows.take i).map (fixRow w) ++ rows.drop i)) →
    ∃ e H', den pg l54_3 [(0, N), (5, R), (8, .i .i64 (w : Int)), (21, L), (22, LL), (23, IX), (60, R), (61, .i .i64 (rows.length : Int)), (62, .i .i64 (i : Int))] H = some ⟨.exit 4, e, H'⟩ ∧
      get e 0 = some N ∧ get e 5 = some R ∧ get e 8 = some (.i .i64 (w : Int)) ∧ get e 21 = some L ∧ get e 22 = some LL ∧ get e 23 = some IX ∧ elI.Own H' R (nI (rows.map (fixRow w))) ∧ H'.length = H.length ∧ ∀ j, R.idOf ≠ some j → H'[j]? = H[j]?
  | 0, i, H, h, ho => by
    obtain rfl : i = rows.length := by omega
    refine ⟨[(0, N), (5, R), (8, .i .i64 (w : Int)), (21, L), (22, LL), (23, IX), (60, R), (61, .i .i64 (rows.length : Int)), (62, .i .i64 (rows.length : Int)), (63, .b false)], H, ?_, rfl, rfl, rfl, rfl, rfl, rfl, ?_, rfl, fun _ _ => rfl⟩
    · rw [l54_3, den_loop]
      simp [b54_2, gX0, gX1, gX2, gX3, gX4, gX5, gX6, gX7, gX8, gX9, gXa, gXb, gXc, gXd, gXe, gXf, gXg, gXh, gXi, gXj, gXk, gXl, gXm, gXn, gXo, gXp, gXq, gXr, gXs, gXt, gXu, gXv, gXw, gXx, k_mv, gXy, gXz, gX01, gX11, gX21, gX31, gX41, gX51, gX61, gX71, gX81, gX91, gXa1, gXb1, gXc1, gXd1, gXe1, gXf1, gXg1, gXh1, gXi1, gXj1, gXk1, gXl1, gXm1, gXn1, gXo1, gXp1, gXq1, gXr1, gXs1, gXt1, gXu1, k_mn, k_mx, gXv1, gXw1, gXx1, gXy1, gXz1, gX02, gX12, gX22, gX32, gX42, gX52, gX62, gX72, Dn.setLast, Dn.getLast, evalO, mapO, Dn.get, putE, keepE, TV.one, TV.isAgg, Dn.part]
    · simpa using ho
  | f + 1, i, H, h, ho => by
    have hi : i < rows.length := by omega
    have hr : rows[i]? = some rows[i] := List.getElem?_eq_getElem hi
    have hd : rows.drop i = rows[i] :: rows.drop (i + 1) := List.drop_eq_getElem_cons hi
    obtain ⟨r0, r1⟩ := hs _ (List.getElem_mem hi)
    generalize rows[i] = r at hr hd r0 r1
    have e1 : ((i : Int) < (rows.length : Int)) := by omega
    have e2 : wrapR .i64 ((i : Int) + 1) = .i .i64 ((i : Int) + 1) := gX82 (by omega)
    have hlen : ((rows.take i).map (fixRow w)).length = i := by simp; omega
    have hat : ((rows.take i).map (fixRow w) ++ rows.drop i)[i]? = some r := by
      rw [List.getElem?_append_right (by omega), hlen, Nat.sub_self, hd]; rfl
    have hset : ∀ v : Nat, ((rows.take i).map (fixRow w) ++ rows.drop i).set i v = (rows.take i).map (fixRow w) ++ v :: rows.drop (i + 1) := by
      intro v
      rw [List.set_append_right _ _ (by omega), hlen, Nat.sub_self, hd]; rfl
    have htk : (rows.take (i + 1)).map (fixRow w) ++ rows.drop (i + 1) = (rows.take i).map (fixRow w) ++ fixRow w r :: rows.drop (i + 1) := by
      rw [List.take_add_one, hr]; simp
    obtain ⟨p, hp, hv⟩ := ixI (pg := pg) (R := den pg) ho.view (nI_at hat)
    have hng := neg_eq hw
    have hlo := lo_eq hw0 hw
    have hle := lo_le w
    have hand := and_eq (m := r) (k := lo w) r1 (by omega)
    have hx := xor_eq r1 hw
    have ht := lo_test hw0 hw r
    by_cases hc : r.testBit (li w) = true
    · rw [hc] at ht
      obtain ⟨p', H1, hp', hst, ho1, l1, k1⟩ := ownSet (pg := pg) (R := den pg) ho (i := i) (by rw [nI_len]; simp; omega) ((r ^^^ w : Nat) : Int)
      have hfix : fixRow w r = r ^^^ w := by unfold fixRow; rw [if_pos hc]
      have ho1' : elI.Own H1 R (nI ((rows.take (i + 1)).map (fixRow w) ++ rows.drop (i + 1))) := by
        rw [htk, hfix, ← hset]
        unfold nI at ho1 ⊢
        rwa [List.map_set]
      obtain ⟨e, H', h1, g0, g1, g2, g3, g4, g5, g6, g7, g8⟩ := l54_3_all (pg := pg) (N := N) (L := L) (LL := LL) (IX := IX) hw0 hw hs hl f (i + 1) H1 (by omega) ho1'
      refine ⟨e, H', Eq.trans ?_ h1, g0, g1, g2, g3, g4, g5, g6, by omega, fun j hj => by rw [g8 j hj, k1 j hj]⟩
      rw [l54_3, den_loop]
      simp [l54_3, b54_2, gX0, gX1, gX2, gX3, gX4, gX5, gX6, gX7, gX8, gX9, gXa, gXb, gXc, gXd, gXe, gXf, gXg, gXh, gXi, gXj, gXk, gXl, gXm, gXn, gXo, gXp, gXq, gXr, gXs, gXt, gXu, gXv, gXw, gXx, k_mv, gXy, gXz, gX01, gX11, gX21, gX31, gX41, gX51, gX61, gX71, gX81, gX91, gXa1, gXb1, gXc1, gXd1, gXe1, gXf1, gXg1, gXh1, gXi1, gXj1, gXk1, gXl1, gXm1, gXn1, gXo1, gXp1, gXq1, gXr1, gXs1, gXt1, gXu1, k_mn, k_mx, gXv1, gXw1, gXx1, gXy1, gXz1, gX02, gX12, gX22, gX32, gX42, gX52, gX62, gX72, Dn.setLast, Dn.getLast, evalO, mapO, Dn.get, putE, keepE, TV.one, TV.isAgg, Dn.part, e1, e2, hp, hv, hng, hlo, hand, hx, ht, hp', hst]
      rw [hp] at hp'
      simp only [Option.some.injEq, Prod.mk.injEq, and_true] at hp'
      subst hp'
      simp [gX0, gX1, gX2, gX3, gX4, gX5, gX6, gX7, gX8, gX9, gXa, gXb, gXc, gXd, gXe, gXf, gXg, gXh, gXi, gXj, gXk, gXl, gXm, gXn, gXo, gXp, gXq, gXr, gXs, gXt, gXu, gXv, gXw, gXx, k_mv, gXy, gXz, gX01, gX11, gX21, gX31, gX41, gX51, gX61, gX71, gX81, gX91, gXa1, gXb1, gXc1, gXd1, gXe1, gXf1, gXg1, gXh1, gXi1, gXj1, gXk1, gXl1, gXm1, gXn1, gXo1, gXp1, gXq1, gXr1, gXs1, gXt1, gXu1, k_mn, k_mx, gXv1, gXw1, gXx1, gXy1, gXz1, gX02, gX12, gX22, gX32, gX42, gX52, gX62, gX72, Dn.setLast, Dn.getLast, evalO, mapO, Dn.get, putE, keepE, TV.one, TV.isAgg, Dn.part, e2, hst]
    · have hc' : r.testBit (li w) = false := by simpa using hc
      rw [hc'] at ht
      have hfix : fixRow w r = r := by unfold fixRow; rw [if_neg hc]
      have ho1 : elI.Own H R (nI ((rows.take (i + 1)).map (fixRow w) ++ rows.drop (i + 1))) := by
        rw [htk, hfix, ← hd]; exact ho
      obtain ⟨e, H', h1, g⟩ := l54_3_all (pg := pg) (N := N) (L := L) (LL := LL) (IX := IX) hw0 hw hs hl f (i + 1) H (by omega) ho1
      refine ⟨e, H', Eq.trans ?_ h1, g⟩
      rw [l54_3, den_loop]
      simp [l54_3, b54_2, gX0, gX1, gX2, gX3, gX4, gX5, gX6, gX7, gX8, gX9, gXa, gXb, gXc, gXd, gXe, gXf, gXg, gXh, gXi, gXj, gXk, gXl, gXm, gXn, gXo, gXp, gXq, gXr, gXs, gXt, gXu, gXv, gXw, gXx, k_mv, gXy, gXz, gX01, gX11, gX21, gX31, gX41, gX51, gX61, gX71, gX81, gX91, gXa1, gXb1, gXc1, gXd1, gXe1, gXf1, gXg1, gXh1, gXi1, gXj1, gXk1, gXl1, gXm1, gXn1, gXo1, gXp1, gXq1, gXr1, gXs1, gXt1, gXu1, k_mn, k_mx, gXv1, gXw1, gXx1, gXy1, gXz1, gX02, gX12, gX22, gX32, gX42, gX52, gX62, gX72, Dn.setLast, Dn.getLast, evalO, mapO, Dn.get, putE, keepE, TV.one, TV.isAgg, Dn.part, e1, e2, hp, hv, hng, hlo, hand, hx, ht]

end Go.Proofs.Try.Dn

/-
  Rules: the walk through 'rules', to its end.
-/

namespace Go.Proofs.Try.Dn
open Go.Dn

theorem appI {H : Heap} {t x : TV} {l k : List Int} (h : elI.Own H t l) (hx : elI.View H x k) (hb : l.length + k.length ≤ 1000000) :
    ∃ t' H', appRun 1 false 8 t x H = some (t', H') ∧ elI.Own H' t' (l ++ k) ∧ H.length ≤ H'.length ∧ (∀ j, j < H.length → t.idOf ≠ some j → H'[j]? = H[j]?) ∧ (t' = t ∨ ∀ id, t'.idOf = some id → H.length ≤ id) := El.app (E := elI) (bytes := 8) h hx (by omega)

theorem one_view (H : Heap) (v : Int) : elI.View (H ++ [.cells [.i .i64 v] false]) (.sl H.length 0 1 false 1 (some 1)) [v] :=
  .inr (.inr ⟨H.length, 0, some 1, _, false, rfl, by simp, getLast _ _, by simp [elI], by simp [elI, El.flat]⟩)

theorem Rows.small {n : Nat} (hn : n ≤ 16) {rows : List Nat} (h : Rows n rows) : Small rows := fun r hr => by
  have h16 := two16 hn
  have := h.lt r hr
  exact ⟨h.pos r hr, by omega⟩

theorem push_len (rows : List Nat) (x : Nat) : (push rows x).length ≤ rows.length + 1 := by
  unfold push; split <;> simp

theorem l54_5_round {pg : Pg} {n : Nat} (hn : n ≤ 16) {N R : TV} {l : List Line} {rows : List Nat} (h : Rows n rows) (hrl : rows.length ≤ 50) (hl : l.length ≤ 40) {i : Nat} {x : Line} (hx : l[i]? = some x) (hf : Fits (n : Int) x) {H : Heap} (ho : elI.Own H R (nI rows)) :
    ∃ R' H', den pg l54_5 [(0, N), (5, R), (21, LT true l), (22, .i .i64 (l.length : Int)), (23, .i .i64 (i : Int))] H = den pg l54_5 [(0, N), (5, R'), (21, LT true l), (22, .i .i64 (l.length : Int)), (23, .i .i64 ((i + 1 : Nat) : Int))] H' ∧ elI.Own H' R' (nI (push rows (vec x))) := by
  have hi := (List.getElem?_eq_some_iff.1 hx).1
  have hs := h.small hn
  have hv := vec_lt hf
  have h16 := two16 hn
  have e1 : ((i : Int) < (l.length : Int)) := by omega
  have e2 : wrapR .i64 ((i : Int) + 1) = .i .i64 ((i : Int) + 1) := gX82 (by omega)
  have hV : elL.View H (LT true l) l := by rw [LT_lt]; exact El.lt_view _ _ _
  obtain ⟨r, hr, hat, _⟩ := ixL (pg := pg) (R := den pg) hV hx
  have hld := ldL (pg := pg) (R := den pg) hat
  have ho1 : elI.Own (H ++ [cl x]) R (nI rows) := ho.mono fun id hid => by rw [List.getElem?_append_left (ho.lt id hid)]
  have hlen1 := fun H' => ho1.view.lenK H'
  rw [nI_len] at hlen1
  obtain ⟨f1, f2, f3, f4, f5, f6, f7, f8, f9⟩ := hf
  have ta := two_lt (a := x.1.toNat) (by omega)
  have tb := two_lt (a := x.2.1.toNat) (by omega)
  have tc := two_lt (a := x.2.2.toNat) (by omega)
  have tab : 2 ^ x.1.toNat ||| 2 ^ x.2.1.toNat < 65536 := Nat.or_lt_two_pow (n := 16) ta tb
  have hor := or_eq ta tb
  have hor2 := or_eq tab tc
  have ha := shl_eq (k := .u64) f1 (by omega)
  have hb := shl_eq (k := .u64) f3 (by omega)
  have hcc := shl_eq (k := .u64) f5 (by omega)
  have ua := u64_hole f1 (by omega)
  have ub := u64_hole f3 (by omega)
  have uc := u64_hole f5 (by omega)
  have hve : 2 ^ x.1.toNat ||| 2 ^ x.2.1.toNat ||| 2 ^ x.2.2.toNat = vec x := rfl
  obtain ⟨e, w1, g0, g5, g8, g21, g22, g23⟩ := l54_1_all (pg := pg) (N := N) (L := LT true l) (LL := .i .i64 (l.length : Int)) (IX := .i .i64 (i : Int)) ho1.view hs (by omega) rows.length 0 (vec x) (by omega) (by omega)
  simp only [List.drop_zero, Int.natCast_zero] at w1 g8
  have hcl : dkc pg (den pg) (.ld 1 false) [.ref H.length 0] (H ++ [cl x]) = some (.i .i64 x.1, H ++ [cl x]) ∧ dkc pg (den pg) (.ld 1 false) [.ref H.length 1] (H ++ [cl x]) = some (.i .i64 x.2.1, H ++ [cl x]) ∧ dkc pg (den pg) (.ld 1 false) [.ref H.length 2] (H ++ [cl x]) = some (.i .i64 x.2.2, H ++ [cl x]) := (ld_cl (getLast _ _)).2
  rw [hve] at hor2
  have hrl2 := red_lt h.lt hv
  unfold push
  by_cases h0 : red rows (vec x) = 0
  · rw [if_pos h0]
    refine ⟨R, H ++ [cl x], ?_, ho1⟩
    rw [h0] at g8
    obtain ⟨l0, l1, l2⟩ := hcl
    simp only [lineTV, cl] at hld w1 l0 l1 l2 hlen1
    generalize 2 ^ x.1.toNat = A at *
    generalize 2 ^ x.2.1.toNat = B at *
    generalize 2 ^ x.2.2.toNat = C at *
    generalize A ||| B = AB at *
    rw [l54_5, den_loop]
    simp [l54_5, b54_4, gX0, gX1, gX2, gX3, gX4, gX5, gX6, gX7, gX8, gX9, gXa, gXb, gXc, gXd, gXe, gXf, gXg, gXh, gXi, gXj, gXk, gXl, gXm, gXn, gXo, gXp, gXq, gXr, gXs, gXt, gXu, gXv, gXw, gXx, k_mv, gXy, gXz, gX01, gX11, gX21, gX31, gX41, gX51, gX61, gX71, gX81, gX91, gXa1, gXb1, gXc1, gXd1, gXe1, gXf1, gXg1, gXh1, gXi1, gXj1, gXk1, gXl1, gXm1, gXn1, gXo1, gXp1, gXq1, gXr1, gXs1, gXt1, gXu1, k_mn, k_mx, gXv1, gXw1, gXx1, gXy1, gXz1, gX02, gX12, gX22, gX32, gX42, gX52, gX62, gX72, Dn.setLast, Dn.getLast, evalO, mapO, Dn.get, putE, keepE, TV.one, TV.isAgg, Dn.part, e1, e2, hr, hld, put2, l0, l1, l2, ua, ub, uc, ha, hb, hcc, hor, hor2, hlen1, go_denK (c := l54_1) rfl, w1, g0, g5, g8, g21, g22, g23, cl]
  · rw [if_neg h0]
    have h0' : ¬ (((red rows (vec x) : Nat) : Int) = 0) := by omega
    obtain ⟨e', H2, w2, k0, k5, k8, k21, k22, k23, o2, l2, fr2⟩ := l54_3_all (pg := pg) (R := R) (N := N) (L := LT true l) (LL := .i .i64 (l.length : Int)) (IX := .i .i64 (i : Int)) (w := red rows (vec x)) (by omega) (by omega) hs (by omega) rows.length 0 (H ++ [cl x]) (by omega) (by simpa using ho1)
    simp only [Int.natCast_zero] at w2
    have o3 : elI.Own (H2 ++ [.cells [.i .i64 ((red rows (vec x) : Nat) : Int)] false]) R (nI (rows.map (fixRow (red rows (vec x))))) := o2.mono fun id hid => by rw [List.getElem?_append_left (o2.lt id hid)]
    obtain ⟨R', H4, a4, o4, _⟩ := appI o3 (one_view H2 ((red rows (vec x) : Nat) : Int)) (by rw [nI_len]; simp; omega)
    refine ⟨R', H4, ?_, ?_⟩
    · obtain ⟨l0, l1, l2⟩ := hcl
      simp only [lineTV, cl] at hld w1 w2 l0 l1 l2 hlen1
      generalize red rows (vec x) = W at *
      generalize 2 ^ x.1.toNat = A at *
      generalize 2 ^ x.2.1.toNat = B at *
      generalize 2 ^ x.2.2.toNat = C at *
      generalize A ||| B = AB at *
      have h0b : ((W : Int) == 0) = false := by simp; omega
      rw [l54_5, den_loop]
      simp [l54_5, b54_4, gX0, gX1, gX2, gX3, gX4, gX5, gX6, gX7, gX8, gX9, gXa, gXb, gXc, gXd, gXe, gXf, gXg, gXh, gXi, gXj, gXk, gXl, gXm, gXn, gXo, gXp, gXq, gXr, gXs, gXt, gXu, gXv, gXw, gXx, k_mv, gXy, gXz, gX01, gX11, gX21, gX31, gX41, gX51, gX61, gX71, gX81, gX91, gXa1, gXb1, gXc1, gXd1, gXe1, gXf1, gXg1, gXh1, gXi1, gXj1, gXk1, gXl1, gXm1, gXn1, gXo1, gXp1, gXq1, gXr1, gXs1, gXt1, gXu1, k_mn, k_mx, gXv1, gXw1, gXx1, gXy1, gXz1, gX02, gX12, gX22, gX32, gX42, gX52, gX62, gX72, Dn.setLast, Dn.getLast, evalO, mapO, Dn.get, putE, keepE, TV.one, TV.isAgg, Dn.part, e1, e2, hr, hld, put2, l0, l1, l2, ua, ub, uc, ha, hb, hcc, hor, hor2, hlen1, go_denK (c := l54_1) rfl, w1, g0, g5, g8, g21, g22, g23, h0b, h0, go_denK (c := l54_3) rfl, w2, k0, k5, k8, k21, k22, k23, a4]
    · have : nI (rows.map (fun r => if r.testBit (li (red rows (vec x))) then r ^^^ red rows (vec x) else r) ++ [red rows (vec x)]) = nI (rows.map (fixRow (red rows (vec x)))) ++ [((red rows (vec x) : Nat) : Int)] := by
        unfold nI; rw [List.map_append]; rfl
      rw [this]
      exact o4

theorem l54_5_all {pg : Pg} {n : Nat} (hn : n ≤ 16) {N : TV} {l : List Line} (hl : l.length ≤ 40) (hf : ∀ x ∈ l, Fits (n : Int) x) : ∀ (f i : Nat) (H : Heap) (R : TV) (rows : List Nat), i + f = l.length → Rows n rows → rows.length ≤ i → elI.Own H R (nI rows) →
    ∃ e R' H', den pg l54_5 [(0, N), (5, R), (21, LT true l), (22, .i .i64 (l.length : Int)), (23, .i .i64 (i : Int))] H = some ⟨.exit 0, e, H'⟩ ∧ get e 0 = some N ∧ get e 5 = some R' ∧ elI.Own H' R' (nI ((l.drop i).foldl (fun rows x => push rows (vec x)) rows)) ∧ ((l.drop i).foldl (fun rows x => push rows (vec x)) rows).length ≤ 40
  | 0, i, H, R, rows, h, hr, hrl, ho => by
    obtain rfl : i = l.length := by omega
    refine ⟨[(0, N), (5, R), (21, LT true l), (22, .i .i64 (l.length : Int)), (23, .i .i64 (l.length : Int)), (24, .b false)], R, H, ?_, rfl, rfl, ?_, ?_⟩
    · rw [l54_5, den_loop]
      simp [b54_4, gX0, gX1, gX2, gX3, gX4, gX5, gX6, gX7, gX8, gX9, gXa, gXb, gXc, gXd, gXe, gXf, gXg, gXh, gXi, gXj, gXk, gXl, gXm, gXn, gXo, gXp, gXq, gXr, gXs, gXt, gXu, gXv, gXw, gXx, k_mv, gXy, gXz, gX01, gX11, gX21, gX31, gX41, gX51, gX61, gX71, gX81, gX91, gXa1, gXb1, gXc1, gXd1, gXe1, gXf1, gXg1, gXh1, gXi1, gXj1, gXk1, gXl1, gXm1, gXn1, gXo1, gXp1, gXq1, gXr1, gXs1, gXt1, gXu1, k_mn, k_mx, gXv1, gXw1, gXx1, gXy1, gXz1, gX02, gX12, gX22, gX32, gX42, gX52, gX62, gX72, Dn.setLast, Dn.getLast, evalO, mapO, Dn.get, putE, keepE, TV.one, TV.isAgg, Dn.part]
    · rw [List.drop_length]; exact ho
    · rw [List.drop_length]; simp only [List.foldl_nil]; omega
  | f + 1, i, H, R, rows, h, hr, hrl, ho => by
    have hi : i < l.length := by omega
    have hx : l[i]? = some l[i] := List.getElem?_eq_getElem hi
    have hd : l.drop i = l[i] :: l.drop (i + 1) := List.drop_eq_getElem_cons hi
    have hfx := hf _ (List.getElem_mem hi)
    obtain ⟨R1, H1, w1, o1⟩ := l54_5_round (pg := pg) (N := N) hn hr (by omega) hl hx hfx ho
    obtain ⟨e, R', H', w2, g⟩ := l54_5_all (pg := pg) (N := N) hn hl hf f (i + 1) H1 R1 _ (by omega) (push_ok hn hr (vec_lt hfx)) (by have := push_len rows (vec l[i]); omega) o1
    refine ⟨e, R', H', w1.trans w2, ?_⟩
    rw [hd]; exact g

theorem l54_7_all {pg : Pg} {N R : TV} {H : Heap} {rows : List Nat} (hs : Small rows) (hl : rows.length ≤ 100) (hR : elI.View H R (nI rows)) : ∀ (f i a : Nat), i + f = rows.length → a < 65536 →
    ∃ e, den pg l54_7 [(0, N), (5, R), (13, .i .i64 (a : Int)), (86, R), (87, .i .i64 (rows.length : Int)), (88, .i .i64 (i : Int))] H = some ⟨.exit 6, e, H⟩ ∧ get e 0 = some N ∧ get e 5 = some R ∧ get e 13 = some (.i .i64 (((rows.drop i).foldl (fun a r => a ||| lo r) a : Nat) : Int)) ∧ (rows.drop i).foldl (fun a r => a ||| lo r) a < 65536
  | 0, i, a, h, ha => by
    obtain rfl : i = rows.length := by omega
    refine ⟨[(0, N), (5, R), (13, .i .i64 (a : Int)), (86, R), (87, .i .i64 (rows.length : Int)), (88, .i .i64 (rows.length : Int)), (89, .b false)], ?_, rfl, rfl, ?_, ?_⟩
    · rw [l54_7, den_loop]
      simp [b54_6, gX0, gX1, gX2, gX3, gX4, gX5, gX6, gX7, gX8, gX9, gXa, gXb, gXc, gXd, gXe, gXf, gXg, gXh, gXi, gXj, gXk, gXl, gXm, gXn, gXo, gXp, gXq, gXr, gXs, gXt, gXu, gXv, gXw, gXx, k_mv, gXy, gXz, gX01, gX11, gX21, gX31, gX41, gX51, gX61, gX71, gX81, gX91, gXa1, gXb1, gXc1, gXd1, gXe1, gXf1, gXg1, gXh1, gXi1, gXj1, gXk1, gXl1, gXm1, gXn1, gXo1, gXp1, gXq1, gXr1, gXs1, gXt1, gXu1, k_mn, k_mx, gXv1, gXw1, gXx1, gXy1, gXz1, gX02, gX12, gX22, gX32, gX42, gX52, gX62, gX72, Dn.setLast, Dn.getLast, evalO, mapO, Dn.get, putE, keepE, TV.one, TV.isAgg, Dn.part]
    · rw [List.drop_length]; rfl
    · rw [List.drop_length]; exact ha
  | f + 1, i, a, h, ha => by
    have hi : i < rows.length := by omega
    have hr : rows[i]? = some rows[i] := List.getElem?_eq_getElem hi
    have hd : rows.drop i = rows[i] :: rows.drop (i + 1) := List.drop_eq_getElem_cons hi
    obtain ⟨r0, r1⟩ := hs _ (List.getElem_mem hi)
    generalize rows[i] = r at hr hd r0 r1
    have e1 : ((i : Int) < (rows.length : Int)) := by omega
    have e2 : wrapR .i64 ((i : Int) + 1) = .i .i64 ((i : Int) + 1) := gX82 (by omega)
    obtain ⟨p, hp, hv⟩ := ixI (pg := pg) (R := den pg) hR (nI_at hr)
    have hng := neg_eq r1
    have hlo := lo_eq r0 r1
    have hle := lo_le r
    have hor := or_eq (m := a) (k := lo r) ha (by omega)
    obtain ⟨e, h1, g0, g5, g13, gl⟩ := l54_7_all (pg := pg) (N := N) hs hl hR f (i + 1) (a ||| lo r) (by omega) (Nat.or_lt_two_pow (n := 16) ha (by omega))
    refine ⟨e, Eq.trans ?_ h1, g0, g5, by rw [hd]; exact g13, by rw [hd]; exact gl⟩
    rw [l54_7, den_loop]
    simp [l54_7, b54_6, gX0, gX1, gX2, gX3, gX4, gX5, gX6, gX7, gX8, gX9, gXa, gXb, gXc, gXd, gXe, gXf, gXg, gXh, gXi, gXj, gXk, gXl, gXm, gXn, gXo, gXp, gXq, gXr, gXs, gXt, gXu, gXv, gXw, gXx, k_mv, gXy, gXz, gX01, gX11, gX21, gX31, gX41, gX51, gX61, gX71, gX81, gX91, gXa1, gXb1, gXc1, gXd1, gXe1, gXf1, gXg1, gXh1, gXi1, gXj1, gXk1, gXl1, gXm1, gXn1, gXo1, gXp1, gXq1, gXr1, gXs1, gXt1, gXu1, k_mn, k_mx, gXv1, gXw1, gXx1, gXy1, gXz1, gX02, gX12, gX22, gX32, gX42, gX52, gX62, gX72, Dn.setLast, Dn.getLast, evalO, mapO, Dn.get, putE, keepE, TV.one, TV.isAgg, Dn.part, e1, e2, hp, hv, hng, hlo, hor]

theorem l54_9_all {pg : Pg} {F O R N IX : TV} {H : Heap} {rows : List Nat} {t : Nat} (ht : t < 16) (hs : Small rows) (hl : rows.length ≤ 100) (hR : elI.View H R (nI rows)) : ∀ (f i a : Nat), i + f = rows.length → a < 65536 →
    ∃ e, den pg l54_9 [(5, R), (13, F), (16, O), (17, .i .i64 (t : Int)), (18, .i .i64 (a : Int)), (99, N), (100, IX), (112, R), (113, .i .i64 (rows.length : Int)), (114, .i .i64 (i : Int))] H = some ⟨.exit 10, e, H⟩ ∧ get e 5 = some R ∧ get e 13 = some F ∧ get e 16 = some O ∧ get e 99 = some N ∧ get e 100 = some IX ∧
      get e 18 = some (.i .i64 (((rows.drop i).foldl (fun a r => if r.testBit t then a ||| lo r else a) a : Nat) : Int))
  | 0, i, a, h, ha => by
    obtain rfl : i = rows.length := by omega
    refine ⟨[(5, R), (13, F), (16, O), (17, .i .i64 (t : Int)), (18, .i .i64 (a : Int)), (99, N), (100, IX), (112, R), (113, .i .i64 (rows.length : Int)), (114, .i .i64 (rows.length : Int)), (115, .b false)], ?_, rfl, rfl, rfl, rfl, rfl, ?_⟩
    · rw [l54_9, den_loop]
      simp [b54_8, gX0, gX1, gX2, gX3, gX4, gX5, gX6, gX7, gX8, gX9, gXa, gXb, gXc, gXd, gXe, gXf, gXg, gXh, gXi, gXj, gXk, gXl, gXm, gXn, gXo, gXp, gXq, gXr, gXs, gXt, gXu, gXv, gXw, gXx, k_mv, gXy, gXz, gX01, gX11, gX21, gX31, gX41, gX51, gX61, gX71, gX81, gX91, gXa1, gXb1, gXc1, gXd1, gXe1, gXf1, gXg1, gXh1, gXi1, gXj1, gXk1, gXl1, gXm1, gXn1, gXo1, gXp1, gXq1, gXr1, gXs1, gXt1, gXu1, k_mn, k_mx, gXv1, gXw1, gXx1, gXy1, gXz1, gX02, gX12, gX22, gX32, gX42, gX52, gX62, gX72, Dn.setLast, Dn.getLast, evalO, mapO, Dn.get, putE, keepE, TV.one, TV.isAgg, Dn.part]
    · rw [List.drop_length]; rfl
  | f + 1, i, a, h, ha => by
    have hi : i < rows.length := by omega
    have hr : rows[i]? = some rows[i] := List.getElem?_eq_getElem hi
    have hd : rows.drop i = rows[i] :: rows.drop (i + 1) := List.drop_eq_getElem_cons hi
    obtain ⟨r0, r1⟩ := hs _ (List.getElem_mem hi)
    generalize rows[i] = r at hr hd r0 r1
    have e1 : ((i : Int) < (rows.length : Int)) := by omega
    have e2 : wrapR .i64 ((i : Int) + 1) = .i .i64 ((i : Int) + 1) := gX82 (by omega)
    obtain ⟨p, hp, hv⟩ := ixI (pg := pg) (R := den pg) hR (nI_at hr)
    have hng := neg_eq r1
    have hlo := lo_eq r0 r1
    have hle := lo_le r
    have hor := or_eq (m := a) (k := lo r) ha (by omega)
    have eu := u64_hole (a := (t : Int)) (by omega) (by omega)
    have hsr := shr_eq (p := (r : Int)) (i := t) (k := .u64) (by omega)
    have hnn : 0 ≤ (r : Int) / 2 ^ t := Int.ediv_nonneg (by omega) (Int.le_of_lt (Int.pow_pos (by decide)))
    have hle2 : (r : Int) / 2 ^ t ≤ r := Int.ediv_le_self _ (by omega)
    have ha1 : binI .and (.i .i64 ((r : Int) / 2 ^ t)) (.i .i64 1) = some (.i .i64 (bt (r : Int) t)) := and1_eq hnn (by omega)
    have hbt := bt_test r t
    by_cases hc : r.testBit t = true
    · rw [if_pos hc] at hbt
      rw [hbt] at ha1
      obtain ⟨e, h1, g5, g13, g16, g99, g100, g18⟩ := l54_9_all (pg := pg) (F := F) (O := O) (N := N) (IX := IX) ht hs hl hR f (i + 1) (a ||| lo r) (by omega) (Nat.or_lt_two_pow (n := 16) ha (by omega))
      refine ⟨e, Eq.trans ?_ h1, g5, g13, g16, g99, g100, by rw [hd, List.foldl_cons, if_pos hc]; exact g18⟩
      rw [l54_9, den_loop]
      simp [l54_9, b54_8, gX0, gX1, gX2, gX3, gX4, gX5, gX6, gX7, gX8, gX9, gXa, gXb, gXc, gXd, gXe, gXf, gXg, gXh, gXi, gXj, gXk, gXl, gXm, gXn, gXo, gXp, gXq, gXr, gXs, gXt, gXu, gXv, gXw, gXx, k_mv, gXy, gXz, gX01, gX11, gX21, gX31, gX41, gX51, gX61, gX71, gX81, gX91, gXa1, gXb1, gXc1, gXd1, gXe1, gXf1, gXg1, gXh1, gXi1, gXj1, gXk1, gXl1, gXm1, gXn1, gXo1, gXp1, gXq1, gXr1, gXs1, gXt1, gXu1, k_mn, k_mx, gXv1, gXw1, gXx1, gXy1, gXz1, gX02, gX12, gX22, gX32, gX42, gX52, gX62, gX72, Dn.setLast, Dn.getLast, evalO, mapO, Dn.get, putE, keepE, TV.one, TV.isAgg, Dn.part, e1, e2, hp, hv, hng, hlo, hor, eu, hsr, ha1]
    · rw [if_neg hc] at hbt
      rw [hbt] at ha1
      obtain ⟨e, h1, g5, g13, g16, g99, g100, g18⟩ := l54_9_all (pg := pg) (F := F) (O := O) (N := N) (IX := IX) ht hs hl hR f (i + 1) a (by omega) ha
      refine ⟨e, Eq.trans ?_ h1, g5, g13, g16, g99, g100, by rw [hd, List.foldl_cons, if_neg hc]; exact g18⟩
      rw [l54_9, den_loop]
      simp [l54_9, b54_8, gX0, gX1, gX2, gX3, gX4, gX5, gX6, gX7, gX8, gX9, gXa, gXb, gXc, gXd, gXe, gXf, gXg, gXh, gXi, gXj, gXk, gXl, gXm, gXn, gXo, gXp, gXq, gXr, gXs, gXt, gXu, gXv, gXw, gXx, k_mv, gXy, gXz, gX01, gX11, gX21, gX31, gX41, gX51, gX61, gX71, gX81, gX91, gXa1, gXb1, gXc1, gXd1, gXe1, gXf1, gXg1, gXh1, gXi1, gXj1, gXk1, gXl1, gXm1, gXn1, gXo1, gXp1, gXq1, gXr1, gXs1, gXt1, gXu1, k_mn, k_mx, gXv1, gXw1, gXx1, gXy1, gXz1, gX02, gX12, gX22, gX32, gX42, gX52, gX62, gX72, Dn.setLast, Dn.getLast, evalO, mapO, Dn.get, putE, keepE, TV.one, TV.isAgg, Dn.part, e1, e2, hp, hv, hng, hlo, hor, eu, hsr, ha1]

theorem l54_11_all {pg : Pg} {n : Nat} (hn : n ≤ 16) {R : TV} {rows : List Nat} (hs : Small rows) (hl : rows.length ≤ 100) {F : Nat} (hF : F < 65536) : ∀ (f i : Nat) (H : Heap) (O : TV) (out : List Nat), i + f = n → out.length ≤ i → elI.Own H R (nI rows) → elI.Own H O (nI out) → (∀ id, R.idOf = some id → O.idOf ≠ some id) →
    ∃ e O' H', den pg l54_11 [(5, R), (13, .i .i64 (F : Int)), (16, O), (99, .i .i64 (n : Int)), (100, .i .i64 (i : Int))] H = some ⟨.exit 8, e, H'⟩ ∧ get e 16 = some O' ∧ elI.Own H' O' (nI (out ++ ((List.range' i f).filter fun i => !F.testBit i).map (ruleOf rows)))
  | 0, i, H, O, out, h, hol, hR, ho, hne => by
    obtain rfl : i = n := by omega
    refine ⟨[(5, R), (13, .i .i64 (F : Int)), (16, O), (99, .i .i64 (i : Int)), (100, .i .i64 (i : Int)), (101, .b false)], O, H, ?_, rfl, by simpa using ho⟩
    rw [l54_11, den_loop]
    simp [b54_10, gX0, gX1, gX2, gX3, gX4, gX5, gX6, gX7, gX8, gX9, gXa, gXb, gXc, gXd, gXe, gXf, gXg, gXh, gXi, gXj, gXk, gXl, gXm, gXn, gXo, gXp, gXq, gXr, gXs, gXt, gXu, gXv, gXw, gXx, k_mv, gXy, gXz, gX01, gX11, gX21, gX31, gX41, gX51, gX61, gX71, gX81, gX91, gXa1, gXb1, gXc1, gXd1, gXe1, gXf1, gXg1, gXh1, gXi1, gXj1, gXk1, gXl1, gXm1, gXn1, gXo1, gXp1, gXq1, gXr1, gXs1, gXt1, gXu1, k_mn, k_mx, gXv1, gXw1, gXx1, gXy1, gXz1, gX02, gX12, gX22, gX32, gX42, gX52, gX62, gX72, Dn.setLast, Dn.getLast, evalO, mapO, Dn.get, putE, keepE, TV.one, TV.isAgg, Dn.part]
  | f + 1, i, H, O, out, h, hol, hR, ho, hne => by
    have e1 : ((i : Int) < (n : Int)) := by omega
    have e2 : wrapR .i64 ((i : Int) + 1) = .i .i64 ((i : Int) + 1) := gX82 (by omega)
    have eu := u64_hole (a := (i : Int)) (by omega) (by omega)
    have hsr := shr_eq (p := (F : Int)) (i := i) (k := .u64) (by omega)
    have hnn : 0 ≤ (F : Int) / 2 ^ i := Int.ediv_nonneg (by omega) (Int.le_of_lt (Int.pow_pos (by decide)))
    have hle2 : (F : Int) / 2 ^ i ≤ F := Int.ediv_le_self _ (by omega)
    have ha1 : binI .and (.i .i64 ((F : Int) / 2 ^ i)) (.i .i64 1) = some (.i .i64 (bt (F : Int) i)) := and1_eq hnn (by omega)
    have hbt := bt_test F i
    have hrg : List.range' i (f + 1) = i :: List.range' (i + 1) f := by rw [List.range'_succ]
    by_cases hc : F.testBit i = true
    · rw [if_pos hc] at hbt
      rw [hbt] at ha1
      obtain ⟨e, O', H', h1, g16, o'⟩ := l54_11_all (pg := pg) hn hs hl hF f (i + 1) H O out (by omega) (by omega) hR ho hne
      refine ⟨e, O', H', Eq.trans ?_ h1, g16, by rw [hrg, List.filter_cons_of_neg (by simp [hc])]; exact o'⟩
      rw [l54_11, den_loop]
      simp [l54_11, b54_10, gX0, gX1, gX2, gX3, gX4, gX5, gX6, gX7, gX8, gX9, gXa, gXb, gXc, gXd, gXe, gXf, gXg, gXh, gXi, gXj, gXk, gXl, gXm, gXn, gXo, gXp, gXq, gXr, gXs, gXt, gXu, gXv, gXw, gXx, k_mv, gXy, gXz, gX01, gX11, gX21, gX31, gX41, gX51, gX61, gX71, gX81, gX91, gXa1, gXb1, gXc1, gXd1, gXe1, gXf1, gXg1, gXh1, gXi1, gXj1, gXk1, gXl1, gXm1, gXn1, gXo1, gXp1, gXq1, gXr1, gXs1, gXt1, gXu1, k_mn, k_mx, gXv1, gXw1, gXx1, gXy1, gXz1, gX02, gX12, gX22, gX32, gX42, gX52, gX62, gX72, Dn.setLast, Dn.getLast, evalO, mapO, Dn.get, putE, keepE, TV.one, TV.isAgg, Dn.part, e1, e2, eu, hsr, ha1]
    · rw [if_neg hc] at hbt
      rw [hbt] at ha1
      have hsh := shl_eq (k := .u64) (a := (i : Int)) (by omega) (by omega)
      simp only [Int.toNat_natCast] at hsh
      have hlenR := fun H' => hR.view.lenK H'
      rw [nI_len] at hlenR
      obtain ⟨e, w1, g5, g13, g16, g99, g100, g18⟩ := l54_9_all (pg := pg) (F := .i .i64 (F : Int)) (O := O) (N := .i .i64 (n : Int)) (IX := .i .i64 (i : Int)) (t := i) (by omega) hs hl hR.view rows.length 0 (2 ^ i) (by omega) (two_lt (by omega))
      simp only [List.drop_zero, Int.natCast_zero] at w1 g18
      change get e 18 = some (.i .i64 ((ruleOf rows i : Nat) : Int)) at g18
      have o3 : elI.Own (H ++ [.cells [.i .i64 ((ruleOf rows i : Nat) : Int)] false]) O (nI out) := ho.mono fun id hid => by rw [List.getElem?_append_left (ho.lt id hid)]
      obtain ⟨O1, H1, a4, o4, l4, k4, n4⟩ := appI o3 (one_view H ((ruleOf rows i : Nat) : Int)) (by rw [nI_len]; simp; omega)
      have hR1 : elI.Own H1 R (nI rows) := hR.mono fun id hid => by
        have := hR.lt id hid
        rw [k4 id (by simp; omega) (hne id hid), List.getElem?_append_left this]
      obtain ⟨e', O', H', h1, g', o'⟩ := l54_11_all (pg := pg) hn hs hl hF f (i + 1) H1 O1 (out ++ [ruleOf rows i]) (by omega) (by simp; omega) hR1 (by unfold nI at o4 ⊢; rw [List.map_append]; exact o4) (fun id hid he => by
        rcases n4 with rfl | n4
        · exact hne id hid he
        · have h2 := hR.lt id hid
          have := n4 id he
          simp only [List.length_append, List.length_singleton] at this
          omega)
      refine ⟨e', O', H', Eq.trans ?_ h1, g', ?_⟩
      · generalize ruleOf rows i = W at *
        generalize 2 ^ i = PW at hsh w1
        rw [l54_11, den_loop]
        simp [l54_11, b54_10, gX0, gX1, gX2, gX3, gX4, gX5, gX6, gX7, gX8, gX9, gXa, gXb, gXc, gXd, gXe, gXf, gXg, gXh, gXi, gXj, gXk, gXl, gXm, gXn, gXo, gXp, gXq, gXr, gXs, gXt, gXu, gXv, gXw, gXx, k_mv, gXy, gXz, gX01, gX11, gX21, gX31, gX41, gX51, gX61, gX71, gX81, gX91, gXa1, gXb1, gXc1, gXd1, gXe1, gXf1, gXg1, gXh1, gXi1, gXj1, gXk1, gXl1, gXm1, gXn1, gXo1, gXp1, gXq1, gXr1, gXs1, gXt1, gXu1, k_mn, k_mx, gXv1, gXw1, gXx1, gXy1, gXz1, gX02, gX12, gX22, gX32, gX42, gX52, gX62, gX72, Dn.setLast, Dn.getLast, evalO, mapO, Dn.get, putE, keepE, TV.one, TV.isAgg, Dn.part, e1, e2, eu, hsr, ha1, hsh, hlenR, go_denK (c := l54_9) rfl, w1, g5, g13, g16, g99, g100, g18, a4]
      · rw [hrg, List.filter_cons_of_pos (by simpa using hc), List.map_cons]
        rw [List.append_assoc] at o'
        exact o'

theorem body54 {pg : Pg} (hF : Free pg) {n : Nat} {l : List Line} (hc : chk (n : Int) l = 0) : ∃ O H', bodyRun pg (den pg) 54 [.i .i64 (n : Int), LT true l] [] = some (O, H') ∧ elI.Own H' O (nI (rulesP n (rowsOf l))) := by
  obtain ⟨hn1, hn2, hl, hf⟩ := chk_ok hc
  have hn : n ≤ 16 := by omega
  obtain ⟨hr, _⟩ := rowsOf_ok hn hf
  obtain ⟨e, R, H1, w1, g0, g5, o1, l1⟩ := l54_5_all (pg := pg) (N := .i .i64 (n : Int)) hn hl hf l.length 0 [] .nilsl [] (by omega) ⟨by simp, by simp, .nil⟩ (by simp) (.inl ⟨rfl, rfl⟩)
  simp only [List.drop_zero, Int.natCast_zero] at w1 o1 l1
  change elI.Own H1 R (nI (rowsOf l)) at o1
  change (rowsOf l).length ≤ 40 at l1
  have hs := hr.small hn
  obtain ⟨e2, w2, k0, k5, k13, kl⟩ := l54_7_all (pg := pg) (N := .i .i64 (n : Int)) hs (by omega) o1.view (rowsOf l).length 0 0 (by omega) (by omega)
  simp only [List.drop_zero, Int.natCast_zero] at w2 k13 kl
  change get e2 13 = some (.i .i64 ((firstOf (rowsOf l) : Nat) : Int)) at k13
  change firstOf (rowsOf l) < 65536 at kl
  obtain ⟨e3, O, H3, w3, q16, o3⟩ := l54_11_all (pg := pg) hn hs (by omega) kl n 0 H1 .nilsl [] (by omega) (by simp) o1 (.inl ⟨rfl, rfl⟩) (fun _ _ h => by cases h)
  simp only [Int.natCast_zero, List.nil_append] at w3 o3
  have hrg : ((List.range' 0 n).filter fun i => !(firstOf (rowsOf l)).testBit i).map (ruleOf (rowsOf l)) = rulesP n (rowsOf l) := by rw [← List.range_eq_range']; rfl
  rw [hrg] at o3
  have hlL := LT_len true l
  have hlR := fun H' => o1.view.lenK H'
  rw [nI_len] at hlR
  refine ⟨O, H3, bodyRun_of (vs := [O]) (o := ⟨.ret, [(4, O)], H3⟩) (d := d54) (by rw [hF.F]; rfl) rfl ?_ (by simp) rfl, o3⟩
  rw [runC_go]
  generalize firstOf (rowsOf l) = FO at *
  simp [d54, c54, zipE, gX0, gX1, gX2, gX3, gX4, gX5, gX6, gX7, gX8, gX9, gXa, gXb, gXc, gXd, gXe, gXf, gXg, gXh, gXi, gXj, gXk, gXl, gXm, gXn, gXo, gXp, gXq, gXr, gXs, gXt, gXu, gXv, gXw, gXx, k_mv, gXy, gXz, gX01, gX11, gX21, gX31, gX41, gX51, gX61, gX71, gX81, gX91, gXa1, gXb1, gXc1, gXd1, gXe1, gXf1, gXg1, gXh1, gXi1, gXj1, gXk1, gXl1, gXm1, gXn1, gXo1, gXp1, gXq1, gXr1, gXs1, gXt1, gXu1, k_mn, k_mx, gXv1, gXw1, gXx1, gXy1, gXz1, gX02, gX12, gX22, gX32, gX42, gX52, gX62, gX72, Dn.setLast, Dn.getLast, evalO, mapO, Dn.get, putE, keepE, TV.one, TV.isAgg, Dn.part, hlL, go_denK (c := l54_5) rfl, w1, g0, g5, hlR, go_denK (c := l54_7) rfl, w2, k0, k5, k13, go_denK (c := l54_11) rfl, w3, q16]

theorem fn54 {pg : Pg} (hF : Free pg) {n : Nat} {l : List Line} (hc : chk (n : Int) l = 0) : Fn pg 54 [.i .i64 (n : Int), LT true l] (elI.lt false (nI (rulesP n (rowsOf l)))) := by
  obtain ⟨O, H', r, o⟩ := body54 hF hc
  exact .inr ⟨hF.S _ _ (by decide), O, H', r, o.fin elI_flat⟩

end Go.Proofs.Try.Dn

/-
  Rules: the reference's rules.
-/

namespace Go.Proofs.Try.Dn
open Go.Dn

theorem shr_nat {s i : Nat} {k : IntKind} (hi : i ≤ 60) : binI .shr (.i .i64 (s : Int)) (.i k (i : Int)) = some (.i .i64 ((s / 2 ^ i : Nat) : Int)) := by
  rw [shr_eq hi]
  congr 2

def isR (l : List Line) (s : Nat) : Bool := l.all fun x => !dot3 s x

theorem l45_all {pg : Pg} {n : Nat} (hn : n ≤ 16) {b : Bool} {l : List Line} (hl : l.length ≤ 40) (hf : ∀ x ∈ l, Fits (n : Int) x) {s : Nat} (hs : s < 65536) : ∀ (f i : Nat) (H : Heap), i + f = l.length →
    ∃ x e H', den pg l45_1 [(0, LT b l), (1, .i .i64 (s : Int)), (5, .i .i64 (i : Int))] H = some ⟨x, e, H'⟩ ∧ (x = .exit 0 ∧ (l.drop i).all (fun x => !dot3 s x) = true ∨ x = .ret ∧ e = [(4, .b false)] ∧ (l.drop i).all (fun x => !dot3 s x) = false)
  | 0, i, H, h => by
    obtain rfl : i = l.length := by omega
    have hlen := LT_len b l
    refine ⟨.exit 0, [(0, LT b l), (1, .i .i64 (s : Int)), (5, .i .i64 (l.length : Int)), (10, .b false)], H, ?_, .inl ⟨rfl, by rw [List.drop_length]; rfl⟩⟩
    rw [l45_1, den_loop]
    simp [b45_0, gX0, gX1, gX2, gX3, gX4, gX5, gX6, gX7, gX8, gX9, gXa, gXb, gXc, gXd, gXe, gXf, gXg, gXh, gXi, gXj, gXk, gXl, gXm, gXn, gXo, gXp, gXq, gXr, gXs, gXt, gXu, gXv, gXw, gXx, k_mv, gXy, gXz, gX01, gX11, gX21, gX31, gX41, gX51, gX61, gX71, gX81, gX91, gXa1, gXb1, gXc1, gXd1, gXe1, gXf1, gXg1, gXh1, gXi1, gXj1, gXk1, gXl1, gXm1, gXn1, gXo1, gXp1, gXq1, gXr1, gXs1, gXt1, gXu1, k_mn, k_mx, gXv1, gXw1, gXx1, gXy1, gXz1, gX02, gX12, gX22, gX32, gX42, gX52, gX62, gX72, Dn.setLast, Dn.getLast, evalO, mapO, Dn.get, putE, keepE, TV.one, TV.isAgg, Dn.part, hlen]
  | f + 1, i, H, h => by
    have hi : i < l.length := by omega
    have hx : l[i]? = some l[i] := List.getElem?_eq_getElem hi
    have hd : l.drop i = l[i] :: l.drop (i + 1) := List.drop_eq_getElem_cons hi
    have hfx := hf _ (List.getElem_mem hi)
    generalize l[i] = x at hx hd hfx
    obtain ⟨f1, f2, f3, f4, f5, f6, f7, f8, f9⟩ := hfx
    have e1 : ((i : Int) < (l.length : Int)) := by omega
    have e2 : wrapR .i64 ((i : Int) + 1) = .i .i64 ((i : Int) + 1) := gX82 (by omega)
    have hlen := LT_len b l
    have hV : elL.View H (LT b l) l := by rw [LT_lt]; exact El.lt_view _ _ _
    obtain ⟨r, hr, hat, _⟩ := ixL (pg := pg) (R := den pg) hV hx
    have hld := ldL (pg := pg) (R := den pg) hat
    obtain ⟨_, l0, l1, l2⟩ := ld_cl (pg := pg) (R := den pg) (getLast H (cl x))
    have hsh : ∀ a : Int, 0 ≤ a → a < 16 → binI .shr (.i .i64 (s : Int)) (.i .i64 a) = some (.i .i64 ((s / 2 ^ a.toNat : Nat) : Int)) := by
      intro a h0 h1
      have := shr_nat (s := s) (i := a.toNat) (k := .i64) (by omega)
      rwa [show ((a.toNat : Nat) : Int) = a by omega] at this
    have sa := hsh x.1 f1 (by omega)
    have sb := hsh x.2.1 f3 (by omega)
    have sc := hsh x.2.2 f5 (by omega)
    have ba := Nat.testBit_eq_decide_div_mod_eq (x := s) (i := x.1.toNat)
    have bb := Nat.testBit_eq_decide_div_mod_eq (x := s) (i := x.2.1.toNat)
    have bc := Nat.testBit_eq_decide_div_mod_eq (x := s) (i := x.2.2.toNat)
    have la := Nat.div_le_self s (2 ^ x.1.toNat)
    have lb := Nat.div_le_self s (2 ^ x.2.1.toNat)
    have lc := Nat.div_le_self s (2 ^ x.2.2.toNat)
    have hdot : dot3 s x = decide ((s / 2 ^ x.1.toNat + s / 2 ^ x.2.1.toNat + s / 2 ^ x.2.2.toNat) % 2 = 1) := by
      unfold dot3
      rw [ba, bb, bc]
      generalize s / 2 ^ x.1.toNat = A
      generalize s / 2 ^ x.2.1.toNat = B
      generalize s / 2 ^ x.2.2.toNat = C
      rcases (by omega : A % 2 = 0 ∨ A % 2 = 1) with a | a <;> rcases (by omega : B % 2 = 0 ∨ B % 2 = 1) with b | b <;> rcases (by omega : C % 2 = 0 ∨ C % 2 = 1) with c | c <;> simp [a, b, c, Nat.add_mod]
    generalize s / 2 ^ x.1.toNat = A at *
    generalize s / 2 ^ x.2.1.toNat = B at *
    generalize s / 2 ^ x.2.2.toNat = C at *
    have w1 : wrapR .i64 ((A : Int) + (B : Int)) = .i .i64 ((A : Int) + (B : Int)) := gX82 (by omega)
    have w2 : wrapR .i64 ((A : Int) + (B : Int) + (C : Int)) = .i .i64 ((A : Int) + (B : Int) + (C : Int)) := gX82 (by omega)
    have hrm : binI .rem (.i .i64 ((A : Int) + (B : Int) + (C : Int))) (.i .i64 2) = some (.i .i64 (((A + B + C) % 2 : Nat) : Int)) := by
      rw [b_rem, if_neg (by decide), Int.tmod_eq_emod_of_nonneg (by omega)]
      simp
    rw [hd, List.all_cons, hdot]
    simp only [cl] at l0 l1 l2
    simp only [lineTV] at hld
    rcases (by omega : (A + B + C) % 2 = 0 ∨ (A + B + C) % 2 = 1) with e | e
    · rw [e] at hrm
      obtain ⟨y, e', H', h1, h2⟩ := l45_all (pg := pg) hn (b := b) hl hf hs f (i + 1) (H ++ [cl x]) (by omega)
      refine ⟨y, e', H', Eq.trans ?_ h1, by rw [e]; simpa using h2⟩
      rw [l45_1, den_loop]
      simp only [Int.natCast_zero] at hrm
      simp [l45_1, b45_0, gX0, gX1, gX2, gX3, gX4, gX5, gX6, gX7, gX8, gX9, gXa, gXb, gXc, gXd, gXe, gXf, gXg, gXh, gXi, gXj, gXk, gXl, gXm, gXn, gXo, gXp, gXq, gXr, gXs, gXt, gXu, gXv, gXw, gXx, k_mv, gXy, gXz, gX01, gX11, gX21, gX31, gX41, gX51, gX61, gX71, gX81, gX91, gXa1, gXb1, gXc1, gXd1, gXe1, gXf1, gXg1, gXh1, gXi1, gXj1, gXk1, gXl1, gXm1, gXn1, gXo1, gXp1, gXq1, gXr1, gXs1, gXt1, gXu1, k_mn, k_mx, gXv1, gXw1, gXx1, gXy1, gXz1, gX02, gX12, gX22, gX32, gX42, gX52, gX62, gX72, Dn.setLast, Dn.getLast, evalO, mapO, Dn.get, putE, keepE, TV.one, TV.isAgg, Dn.part, hlen, e1, e2, hr, hld, put2, l0, l1, l2, sa, sb, sc, w1, w2, hrm, cl]
    · rw [e] at hrm
      refine ⟨.ret, [(4, .b false)], H ++ [cl x], ?_, .inr ⟨rfl, rfl, by rw [e]; rfl⟩⟩
      rw [l45_1, den_loop]
      simp only [Int.natCast_one] at hrm
      simp [b45_0, gX0, gX1, gX2, gX3, gX4, gX5, gX6, gX7, gX8, gX9, gXa, gXb, gXc, gXd, gXe, gXf, gXg, gXh, gXi, gXj, gXk, gXl, gXm, gXn, gXo, gXp, gXq, gXr, gXs, gXt, gXu, gXv, gXw, gXx, k_mv, gXy, gXz, gX01, gX11, gX21, gX31, gX41, gX51, gX61, gX71, gX81, gX91, gXa1, gXb1, gXc1, gXd1, gXe1, gXf1, gXg1, gXh1, gXi1, gXj1, gXk1, gXl1, gXm1, gXn1, gXo1, gXp1, gXq1, gXr1, gXs1, gXt1, gXu1, k_mn, k_mx, gXv1, gXw1, gXx1, gXy1, gXz1, gX02, gX12, gX22, gX32, gX42, gX52, gX62, gX72, Dn.setLast, Dn.getLast, evalO, mapO, Dn.get, putE, keepE, TV.one, TV.isAgg, Dn.part, hlen, e1, e2, hr, hld, put2, l0, l1, l2, sa, sb, sc, w1, w2, hrm, cl]

theorem fn45 {pg : Pg} (hF : Free pg) {n : Nat} {l : List Line} (hc : chk (n : Int) l = 0) {s : Nat} (hs : s < 65536) : Fn pg 45 [LT true l, .i .i64 (s : Int)] (.b (isR l s)) := by
  obtain ⟨hn1, hn2, hl, hf⟩ := chk_ok hc
  obtain ⟨x, e, H', h1, h2⟩ := l45_all (pg := pg) (n := n) (by omega) (b := true) hl hf hs l.length 0 [] (by omega)
  simp only [Int.natCast_zero, List.drop_zero] at h1 h2
  unfold isR
  rcases h2 with ⟨rfl, h4⟩ | ⟨rfl, rfl, h4⟩
  · rw [h4]
    refine .of1 (x := .ret) (e := [(4, .b true)]) (H' := H') (hF.S _ _ (by decide)) (d := d45) (by rw [hF.F]; rfl) rfl ?_ (.inl rfl) rfl (by simp [sn_i, sn_b, gX92, gXa2, gXb2, gXc2, gXd2, gXe2, gXf2, gXg2, gXh2, gXi2, gXj2, gXk2, mapO, elems])
    simp [d45, c45, zipE, gX0, gX1, gX2, gX3, gX4, gX5, gX6, gX7, gX8, gX9, gXa, gXb, gXc, gXd, gXe, gXf, gXg, gXh, gXi, gXj, gXk, gXl, gXm, gXn, gXo, gXp, gXq, gXr, gXs, gXt, gXu, gXv, gXw, gXx, k_mv, gXy, gXz, gX01, gX11, gX21, gX31, gX41, gX51, gX61, gX71, gX81, gX91, gXa1, gXb1, gXc1, gXd1, gXe1, gXf1, gXg1, gXh1, gXi1, gXj1, gXk1, gXl1, gXm1, gXn1, gXo1, gXp1, gXq1, gXr1, gXs1, gXt1, gXu1, k_mn, k_mx, gXv1, gXw1, gXx1, gXy1, gXz1, gX02, gX12, gX22, gX32, gX42, gX52, gX62, gX72, Dn.setLast, Dn.getLast, evalO, mapO, Dn.get, putE, keepE, TV.one, TV.isAgg, Dn.part, go_denK (c := l45_1) rfl, h1]
  · rw [h4]
    refine .of1 (x := .ret) (e := [(4, .b false)]) (H' := H') (hF.S _ _ (by decide)) (d := d45) (by rw [hF.F]; rfl) rfl ?_ (.inl rfl) rfl (by simp [sn_i, sn_b, gX92, gXa2, gXb2, gXc2, gXd2, gXe2, gXf2, gXg2, gXh2, gXi2, gXj2, gXk2, mapO, elems])
    simp [d45, c45, zipE, gX0, gX1, gX2, gX3, gX4, gX5, gX6, gX7, gX8, gX9, gXa, gXb, gXc, gXd, gXe, gXf, gXg, gXh, gXi, gXj, gXk, gXl, gXm, gXn, gXo, gXp, gXq, gXr, gXs, gXt, gXu, gXv, gXw, gXx, k_mv, gXy, gXz, gX01, gX11, gX21, gX31, gX41, gX51, gX61, gX71, gX81, gX91, gXa1, gXb1, gXc1, gXd1, gXe1, gXf1, gXg1, gXh1, gXi1, gXj1, gXk1, gXl1, gXm1, gXn1, gXo1, gXp1, gXq1, gXr1, gXs1, gXt1, gXu1, k_mn, k_mx, gXv1, gXw1, gXx1, gXy1, gXz1, gX02, gX12, gX22, gX32, gX42, gX52, gX62, gX72, Dn.setLast, Dn.getLast, evalO, mapO, Dn.get, putE, keepE, TV.one, TV.isAgg, Dn.part, go_denK (c := l45_1) rfl, h1]

end Go.Proofs.Try.Dn

/-
  Rules: the reference's basis and Alike; Rules and Alike.
-/

namespace Go.Proofs.Try.Dn
open Go.Dn

theorem and_zero {s t : Nat} : s &&& t = 0 ↔ ∀ j, s.testBit j = true → t.testBit j = false := by
  constructor
  · intro h j hj
    have := congrArg (·.testBit j) h
    simpa [Nat.testBit_and, hj] using this
  · intro h
    apply Nat.eq_of_testBit_eq
    intro j
    rw [Nat.testBit_and, Nat.zero_testBit]
    cases hj : s.testBit j with
    | true => rw [h j hj]; rfl
    | false => rfl

theorem isR_iff {l : List Line} {n : Nat} (hn : n ≤ 16) (hf : ∀ x ∈ l, Fits (n : Int) x) (s : Nat) : isR l s = true ↔ ∀ r ∈ rowsOf l, dot s r = false := by
  rw [(rowsOf_ok hn hf).2 s]
  unfold isR
  rw [List.all_eq_true]
  simp

end Go.Proofs.Try.Dn

/-
  PegRules: Alike; the whole run.
-/

namespace Go.Proofs.Try.Dn
open Go.Dn

theorem dot_sum (s p q : Nat) : decide ((pegs (s &&& p) + pegs (s &&& q)) % 2 = 1) = dot s (p ^^^ q) := by
  rw [dot_xor_r]
  unfold dot par
  generalize pegs (s &&& p) = a
  generalize pegs (s &&& q) = b
  rcases (by omega : a % 2 = 0 ∨ a % 2 = 1) with e | e <;> rcases (by omega : b % 2 = 0 ∨ b % 2 = 1) with e' | e' <;> simp [e, e', Nat.add_mod]

def alikeB (n : Nat) (l : List Line) (p q : Nat) : Bool := (rulesP n (rowsOf l)).all fun r => !dot r (p ^^^ q)

theorem alike_iff {n : Nat} {l : List Line} (hc : chk (n : Int) l = 0) (p q : Nat) : alikeB n l p q = true ↔ ∀ t, t < 2 ^ n → isR l t = true → dot t (p ^^^ q) = false := by
  obtain ⟨hn1, hn2, hl, hf⟩ := chk_ok hc
  have hn : n ≤ 16 := by omega
  obtain ⟨hr, _⟩ := rowsOf_ok hn hf
  have := hr.alike hn (d := p ^^^ q)
  unfold alikeB
  rw [List.all_eq_true]
  simp only [Bool.not_eq_true']
  rw [← this]
  simp only [isR_iff hn hf]

def TellsOn (pg : Pg) (f : TV) (H : Heap) (P : Int → Bool) (l : List Int) : Prop := ∀ v ∈ l, callRun pg (den pg) .sh [f, .i .i64 v] H = some (.b (P v), H)

theorem l74_on {pg : Pg} (hF : Free pg) {H : Heap} {s f : TV} {l : List Int} {P : Int → Bool} (hs : elI.View H s l) (hf : TellsOn pg f H P l) (hl : l.length ≤ 9223372036854775807) : ∀ (k i : Nat), i + k = l.length →
    ∃ x e, den pg l74_1 [(0, s), (1, f), (7, .i .i64 (l.length : Int)), (8, .i .i64 (i : Int))] H = some ⟨x, e, H⟩ ∧ (x = .exit 0 ∧ firstIdx P (l.drop i) i = -1 ∨ x = .ret ∧ e = [(4, .i .i64 (firstIdx P (l.drop i) i))])
  | 0, i, h => by
    have e1 : ¬ ((i : Int) < (l.length : Int)) := by omega
    refine ⟨.exit 0, [(0, s), (1, f), (7, .i .i64 (l.length : Int)), (8, .i .i64 (i : Int)), (9, .b false)], ?_, .inl ⟨rfl, ?_⟩⟩
    · rw [l74_1, den_loop]
      simp [b74_0, gX0, gX1, gX2, gX3, gX4, gX5, gX6, gX7, gX8, gX9, gXa, gXb, gXc, gXd, gXe, gXf, gXg, gXh, gXi, gXj, gXk, gXl, gXm, gXn, gXo, gXp, gXq, gXr, gXs, gXt, gXu, gXv, gXw, gXx, k_mv, gXy, gXz, gX01, gX11, gX21, gX31, gX41, gX51, gX61, gX71, gX81, gX91, gXa1, gXb1, gXc1, gXd1, gXe1, gXf1, gXg1, gXh1, gXi1, gXj1, gXk1, gXl1, gXm1, gXn1, gXo1, gXp1, gXq1, gXr1, gXs1, gXt1, gXu1, k_mn, k_mx, gXv1, gXw1, gXx1, gXy1, gXz1, gX02, gX12, gX22, gX32, gX42, gX52, gX62, gX72, Dn.setLast, Dn.getLast, evalO, mapO, Dn.get, putE, keepE, TV.one, TV.isAgg, Dn.part, e1]
    · rw [List.drop_eq_nil_of_le (by omega)]; rfl
  | k + 1, i, h => by
    have hi : i < l.length := by omega
    have e1 : ((i : Int) < (l.length : Int)) := by omega
    have e2 : wrapR .i64 ((i : Int) + 1) = .i .i64 ((i : Int) + 1) := gX82 (by omega)
    obtain ⟨p, hp, hv⟩ := ixI (pg := pg) (R := den pg) hs (List.getElem?_eq_getElem hi)
    have hd : l.drop i = l[i] :: l.drop (i + 1) := List.drop_eq_getElem_cons hi
    rw [hd]
    by_cases hP : P l[i] = true
    · refine ⟨.ret, [(4, .i .i64 (i : Int))], ?_, .inr ⟨rfl, by simp [firstIdx, hP]⟩⟩
      have hc := hf l[i] (List.getElem_mem hi)
      rw [hP] at hc
      rw [l74_1, den_loop]
      simp [b74_0, gX0, gX1, gX2, gX3, gX4, gX5, gX6, gX7, gX8, gX9, gXa, gXb, gXc, gXd, gXe, gXf, gXg, gXh, gXi, gXj, gXk, gXl, gXm, gXn, gXo, gXp, gXq, gXr, gXs, gXt, gXu, gXv, gXw, gXx, k_mv, gXy, gXz, gX01, gX11, gX21, gX31, gX41, gX51, gX61, gX71, gX81, gX91, gXa1, gXb1, gXc1, gXd1, gXe1, gXf1, gXg1, gXh1, gXi1, gXj1, gXk1, gXl1, gXm1, gXn1, gXo1, gXp1, gXq1, gXr1, gXs1, gXt1, gXu1, k_mn, k_mx, gXv1, gXw1, gXx1, gXy1, gXz1, gX02, gX12, gX22, gX32, gX42, gX52, gX62, gX72, Dn.setLast, Dn.getLast, evalO, mapO, Dn.get, putE, keepE, TV.one, TV.isAgg, Dn.part, e1, hp, hv, hc]
    · have hP' : P l[i] = false := by simpa using hP
      have hc := hf l[i] (List.getElem_mem hi)
      rw [hP'] at hc
      obtain ⟨x, e, h1, h2⟩ := l74_on hF hs hf hl k (i + 1) (by omega)
      refine ⟨x, e, Eq.trans ?_ h1, by simpa [firstIdx, hP'] using h2⟩
      rw [l74_1, den_loop]
      simp [l74_1, b74_0, gX0, gX1, gX2, gX3, gX4, gX5, gX6, gX7, gX8, gX9, gXa, gXb, gXc, gXd, gXe, gXf, gXg, gXh, gXi, gXj, gXk, gXl, gXm, gXn, gXo, gXp, gXq, gXr, gXs, gXt, gXu, gXv, gXw, gXx, k_mv, gXy, gXz, gX01, gX11, gX21, gX31, gX41, gX51, gX61, gX71, gX81, gX91, gXa1, gXb1, gXc1, gXd1, gXe1, gXf1, gXg1, gXh1, gXi1, gXj1, gXk1, gXl1, gXm1, gXn1, gXo1, gXp1, gXq1, gXr1, gXs1, gXt1, gXu1, k_mn, k_mx, gXv1, gXw1, gXx1, gXy1, gXz1, gX02, gX12, gX22, gX32, gX42, gX52, gX62, gX72, Dn.setLast, Dn.getLast, evalO, mapO, Dn.get, putE, keepE, TV.one, TV.isAgg, Dn.part, e1, e2, hp, hv, hc]

theorem body55on {pg : Pg} (hF : Free pg) {H : Heap} {s f : TV} {l : List Int} {P : Int → Bool} (hs : elI.View H s l) (hf : TellsOn pg f H P l) (hl : l.length ≤ 9223372036854775807) : bodyRun pg (den pg) 55 [s, f] H = some (.b (l.any P), H) := by
  have h74 : bodyRun pg (den pg) 74 [s, f] H = some (.i .i64 (firstIdx P l 0), H) := by
    refine body_of (x := .ret) (e := [(4, .i .i64 (firstIdx P l 0))]) (d := d74) (by rw [hF.F]; rfl) rfl ?_ (.inl rfl) rfl
    obtain ⟨x, e, h1, h2⟩ := l74_on hF hs hf hl l.length 0 (by omega)
    simp only [List.drop_zero, Int.natCast_zero] at h1 h2
    have hlen := hs.lenK
    rcases h2 with ⟨rfl, h2⟩ | ⟨rfl, rfl⟩
    · simp [d74, c74, zipE, gX0, gX1, gX2, gX3, gX4, gX5, gX6, gX7, gX8, gX9, gXa, gXb, gXc, gXd, gXe, gXf, gXg, gXh, gXi, gXj, gXk, gXl, gXm, gXn, gXo, gXp, gXq, gXr, gXs, gXt, gXu, gXv, gXw, gXx, k_mv, gXy, gXz, gX01, gX11, gX21, gX31, gX41, gX51, gX61, gX71, gX81, gX91, gXa1, gXb1, gXc1, gXd1, gXe1, gXf1, gXg1, gXh1, gXi1, gXj1, gXk1, gXl1, gXm1, gXn1, gXo1, gXp1, gXq1, gXr1, gXs1, gXt1, gXu1, k_mn, k_mx, gXv1, gXw1, gXx1, gXy1, gXz1, gX02, gX12, gX22, gX32, gX42, gX52, gX62, gX72, Dn.setLast, Dn.getLast, evalO, mapO, Dn.get, putE, keepE, TV.one, TV.isAgg, Dn.part, hlen, go_den l74_1, h1, h2]
    · simp [d74, c74, zipE, gX0, gX1, gX2, gX3, gX4, gX5, gX6, gX7, gX8, gX9, gXa, gXb, gXc, gXd, gXe, gXf, gXg, gXh, gXi, gXj, gXk, gXl, gXm, gXn, gXo, gXp, gXq, gXr, gXs, gXt, gXu, gXv, gXw, gXx, k_mv, gXy, gXz, gX01, gX11, gX21, gX31, gX41, gX51, gX61, gX71, gX81, gX91, gXa1, gXb1, gXc1, gXd1, gXe1, gXf1, gXg1, gXh1, gXi1, gXj1, gXk1, gXl1, gXm1, gXn1, gXo1, gXp1, gXq1, gXr1, gXs1, gXt1, gXu1, k_mn, k_mx, gXv1, gXw1, gXx1, gXy1, gXz1, gX02, gX12, gX22, gX32, gX42, gX52, gX62, gX72, Dn.setLast, Dn.getLast, evalO, mapO, Dn.get, putE, keepE, TV.one, TV.isAgg, Dn.part, hlen, go_den l74_1, h1]
  refine body_of (x := .ret) (e := [(4, .b (l.any P))]) (d := d55) (by rw [hF.F]; rfl) rfl ?_ (.inl rfl) rfl
  simp [d55, c55, zipE, gX0, gX1, gX2, gX3, gX4, gX5, gX6, gX7, gX8, gX9, gXa, gXb, gXc, gXd, gXe, gXf, gXg, gXh, gXi, gXj, gXk, gXl, gXm, gXn, gXo, gXp, gXq, gXr, gXs, gXt, gXu, gXv, gXw, gXx, k_mv, gXy, gXz, gX01, gX11, gX21, gX31, gX41, gX51, gX61, gX71, gX81, gX91, gXa1, gXb1, gXc1, gXd1, gXe1, gXf1, gXg1, gXh1, gXi1, gXj1, gXk1, gXl1, gXm1, gXn1, gXo1, gXp1, gXq1, gXr1, gXs1, gXt1, gXu1, k_mn, k_mx, gXv1, gXw1, gXx1, gXy1, gXz1, gX02, gX12, gX22, gX32, gX42, gX52, gX62, gX72, Dn.setLast, Dn.getLast, evalO, mapO, Dn.get, putE, keepE, TV.one, TV.isAgg, Dn.part, sh_fn, h74, firstIdx_any]

theorem rulesP_lt {n : Nat} {l : List Line} (hc : chk (n : Int) l = 0) : ∀ r ∈ rulesP n (rowsOf l), r < 2 ^ n := by
  obtain ⟨hn1, hn2, hl, hf⟩ := chk_ok hc
  have hn : n ≤ 16 := by omega
  obtain ⟨hr, _⟩ := rowsOf_ok hn hf
  intro r hm
  obtain ⟨i, hi, hfi, rfl⟩ := mem_rulesP.1 hm
  have h1 := (hr.rule_log hn hfi).2.2.2
  have h2 : 2 ^ (i + 1) ≤ 2 ^ n := Nat.pow_le_pow_right (by decide) hi
  omega

theorem rulesP_len {n : Nat} {rows : List Nat} : (rulesP n rows).length ≤ n := by
  unfold rulesP
  rw [List.length_map]
  exact Nat.le_trans (List.length_filter_le _ _) (by simp)

theorem body27 {pg : Pg} (hF : Free pg) {n : Nat} {l : List Line} (hc : chk (n : Int) l = 0) : ∃ O H', bodyRun pg (den pg) 27 [.i .i64 (n : Int), LT true l] [] = some (.tup [O, .i .i64 0], H') ∧ elI.Own H' O (nI (rulesP n (rowsOf l))) := by
  have ho := opn0 hF hc
  obtain ⟨O, H', r, o⟩ := body54 hF hc
  have c54 : callRun pg (den pg) .sh [.fn 54 [] [], .i .i64 (n : Int), LT true l] [] = some (O, H') := r
  refine ⟨O, H', bodyRun_of (vs := [O, .i .i64 0]) (o := ⟨.ret, [(4, O), (5, .i .i64 0)], H'⟩) (d := d27) (by rw [hF.F]; rfl) rfl ?_ (by simp) (by simp [d27, mapO, resRun, Dn.get]), o⟩
  rw [runC_go]
  simp [d27, c27, zipE, gX0, gX1, gX2, gX3, gX4, gX5, gX6, gX7, gX8, gX9, gXa, gXb, gXc, gXd, gXe, gXf, gXg, gXh, gXi, gXj, gXk, gXl, gXm, gXn, gXo, gXp, gXq, gXr, gXs, gXt, gXu, gXv, gXw, gXx, k_mv, gXy, gXz, gX01, gX11, gX21, gX31, gX41, gX51, gX61, gX71, gX81, gX91, gXa1, gXb1, gXc1, gXd1, gXe1, gXf1, gXg1, gXh1, gXi1, gXj1, gXk1, gXl1, gXm1, gXn1, gXo1, gXp1, gXq1, gXr1, gXs1, gXt1, gXu1, k_mn, k_mx, gXv1, gXw1, gXx1, gXy1, gXz1, gX02, gX12, gX22, gX32, gX42, gX52, gX62, gX72, Dn.setLast, Dn.getLast, evalO, mapO, Dn.get, putE, keepE, TV.one, TV.isAgg, Dn.part, ho.call, c54]

theorem fn27 {pg : Pg} (hF : Free pg) {n : Nat} {l : List Line} (hc : chk (n : Int) l = 0) : Fn pg 27 [.i .i64 (n : Int), LT true l] (.tup [elI.lt false (nI (rulesP n (rowsOf l))), .i .i64 0]) := by
  obtain ⟨O, H', r, o⟩ := body27 hF hc
  exact .inr ⟨hF.S _ _ (by decide), _, H', r, by rw [gXi2]; simp [mapO, o.fin8 elI_flat, gXa2]⟩

end Go.Proofs.Try.Dn

