/-
  Ways from one observation to another one: plain Lean.
-/
import Derived.Test.YtgmlmmgpcbollaaDoorQa
import Derived.Test.YtgmlmmgpcbollaaDoorQd
set_option linter.unusedSimpArgs false
set_option linter.unusedVariables false

namespace Go.Proofs.Tryd.Dn
open Go.Dn

/-- one leads to another one, in some steps -/
inductive Rch (E : Nat → Nat → Bool) (a : Nat) : Nat → Prop
  | here : Rch E a a
  | step {b c : Nat} : Rch E a b → E b c = true → Rch E a c

/-- a way back -/
inductive Trail (E : Nat → Nat → Bool) (M : List (Nat × Nat)) (a : Nat) : Nat → List Nat → Prop
  | here : Trail E M a a [a]
  | step {t b : Nat} {p : List Nat} : t ≠ a → (t, b) ∈ M → E b t = true → t ∉ p → Trail E M a b p → Trail E M a t (t :: p)

/-- what a search has found: whence each came, and those to look at -/
structure Sr where
  M : List (Nat × Nat)
  qs : List Nat

def Sr.keys (s : Sr) : List Nat := s.M.map (·.1)

def Sr.step (E : Nat → Nat → Bool) (now : Nat) (s : Sr) (k : Nat) : Sr :=
  if E now k && !s.keys.contains k then ⟨s.M ++ [(k, now)], s.qs ++ [k]⟩ else s

structure SInv (E : Nat → Nat → Bool) (n a : Nat) (s : Sr) : Prop where
  start : a ∈ s.keys
  sound : ∀ q ∈ s.keys, Rch E a q
  lt : ∀ q ∈ s.keys, q < n
  once : s.keys.Nodup
  qin : ∀ q ∈ s.qs, q ∈ s.keys
  way : ∀ q ∈ s.keys, ∃ p, Trail E s.M a q p

theorem Trail.mono {E : Nat → Nat → Bool} {M M' : List (Nat × Nat)} {a t : Nat} {p : List Nat} (h : Trail E M a t p) (hm : ∀ e ∈ M, e ∈ M') : Trail E M' a t p := by
  induction h with
  | here => exact .here
  | step h1 h2 h3 h4 _ ih => exact .step h1 (hm _ h2) h3 h4 ih

theorem Trail.keys {E : Nat → Nat → Bool} {M : List (Nat × Nat)} {a t : Nat} {p : List Nat} (h : Trail E M a t p) (ha : a ∈ M.map (·.1)) : ∀ x ∈ p, x ∈ M.map (·.1) := by
  induction h with
  | here => intro x hx; simp at hx; subst hx; exact ha
  | step h1 h2 h3 h4 _ ih =>
    intro x hx
    rcases List.mem_cons.1 hx with rfl | hx
    · exact List.mem_map.2 ⟨_, h2, rfl⟩
    · exact ih x hx

theorem SInv.init {E : Nat → Nat → Bool} {n a : Nat} (ha : a < n) : SInv E n a ⟨[(a, a)], [a]⟩ where
  start := by simp [Sr.keys]
  sound := by intro q hq; simp [Sr.keys] at hq; subst hq; exact .here
  lt := by intro q hq; simp [Sr.keys] at hq; omega
  once := by simp [Sr.keys]
  qin := by intro q hq; simpa [Sr.keys] using hq
  way := by intro q hq; simp [Sr.keys] at hq; subst hq; exact ⟨_, .here⟩

theorem Sr.step_mono {E : Nat → Nat → Bool} {now k q : Nat} {s : Sr} (h : q ∈ s.keys) : q ∈ (s.step E now k).keys := by
  unfold Sr.step
  split
  · simp [Sr.keys] at h ⊢; exact .inl h
  · exact h

theorem Sr.step_new {E : Nat → Nat → Bool} {now k : Nat} {s : Sr} (h : E now k = true) : k ∈ (s.step E now k).keys := by
  unfold Sr.step
  split
  · simp [Sr.keys]
  · rename_i hc
    simp only [h, Bool.true_and, Bool.not_eq_true, Bool.not_eq_false', List.contains_iff_mem] at hc
    exact hc

theorem Sr.step_keys {E : Nat → Nat → Bool} {now k q : Nat} {s : Sr} (h : q ∈ (s.step E now k).keys) : q ∈ s.keys ∨ q ∈ (s.step E now k).qs := by
  unfold Sr.step at h ⊢
  split at h
  · rename_i hc
    rw [if_pos hc]
    simp only [Sr.keys, List.map_append, List.map_cons, List.map_nil, List.mem_append, List.mem_singleton] at h
    rcases h with h | rfl
    · exact .inl h
    · exact .inr (by simp)
  · exact .inl h

theorem Sr.step_qs {E : Nat → Nat → Bool} {now k q : Nat} {s : Sr} (h : q ∈ s.qs) : q ∈ (s.step E now k).qs := by
  unfold Sr.step
  split
  · simp [h]
  · exact h

theorem SInv.step {E : Nat → Nat → Bool} {n a now k : Nat} {s : Sr} (h : SInv E n a s) (hn : now ∈ s.keys) (hk : E now k = true → k < n) : SInv E n a (s.step E now k) := by
  unfold Sr.step
  split
  · rename_i hc
    simp only [Bool.and_eq_true, Bool.not_eq_true', List.contains_eq_mem, decide_eq_false_iff_not] at hc
    obtain ⟨he, hnew⟩ := hc
    have hkeys : (Sr.keys ⟨s.M ++ [(k, now)], s.qs ++ [k]⟩) = s.keys ++ [k] := by simp [Sr.keys]
    refine ⟨by rw [hkeys]; simp [h.start], ?_, ?_, ?_, ?_, ?_⟩
    · intro q hq
      rw [hkeys] at hq
      simp only [List.mem_append, List.mem_singleton] at hq
      rcases hq with hq | rfl
      · exact h.sound q hq
      · exact .step (h.sound now hn) he
    · intro q hq
      rw [hkeys] at hq
      simp only [List.mem_append, List.mem_singleton] at hq
      rcases hq with hq | rfl
      · exact h.lt q hq
      · exact hk he
    · rw [hkeys, List.nodup_append]
      exact ⟨h.once, by simp, fun x hx y hy => by simp at hy; subst hy; rintro rfl; exact hnew hx⟩
    · intro q hq
      rw [hkeys]
      simp only [List.mem_append, List.mem_singleton] at hq ⊢
      rcases hq with hq | rfl
      · exact .inl (h.qin q hq)
      · exact .inr rfl
    · intro q hq
      rw [hkeys] at hq
      simp only [List.mem_append, List.mem_singleton] at hq
      rcases hq with hq | rfl
      · obtain ⟨p, hp⟩ := h.way q hq
        exact ⟨p, hp.mono fun e he => by simp [he]⟩
      · obtain ⟨p, hp⟩ := h.way now hn
        refine ⟨q :: p, .step ?_ (by simp) he ?_ (hp.mono fun e he => by simp [he])⟩
        · rintro rfl; exact hnew h.start
        · exact fun hq => hnew (hp.keys h.start q hq)
  · exact h

/-- all nodes from one on -/
def Sr.steps (E : Nat → Nat → Bool) (now : Nat) (s : Sr) (L : List Nat) : Sr := L.foldl (Sr.step E now) s

theorem Sr.steps_inv {E : Nat → Nat → Bool} {n a now : Nat} (hE : ∀ i k, E i k = true → k < n) : ∀ (L : List Nat) (s : Sr), SInv E n a s → now ∈ s.keys → SInv E n a (s.steps E now L) ∧ (∀ q ∈ s.keys, q ∈ (s.steps E now L).keys) ∧ (∀ q ∈ s.qs, q ∈ (s.steps E now L).qs) ∧
    (∀ q ∈ (s.steps E now L).keys, q ∈ s.keys ∨ q ∈ (s.steps E now L).qs) ∧ (∀ k ∈ L, E now k = true → k ∈ (s.steps E now L).keys)
  | [], s, h, hn => ⟨h, fun _ h => h, fun _ h => h, fun _ h => .inl h, fun k hk => by cases hk⟩
  | k :: L, s, h, hn => by
    obtain ⟨h1, h2, h3, h4, h5⟩ := Sr.steps_inv hE L (s.step E now k) (h.step hn (hE now k)) (Sr.step_mono hn)
    refine ⟨h1, fun q hq => h2 q (Sr.step_mono hq), fun q hq => h3 q (Sr.step_qs hq), fun q hq => ?_, fun x hx he => ?_⟩
    · rcases h4 q hq with h | h
      · rcases Sr.step_keys h with h | h
        · exact .inl h
        · exact .inr (h3 q h)
      · exact .inr h
    · rcases List.mem_cons.1 hx with rfl | hx
      · exact h2 _ (Sr.step_new he)
      · exact h5 x hx he

/-- the measure of a search -/
def Sr.mu (n : Nat) (s : Sr) : Nat := 2 * (n - s.M.length) + s.qs.length

theorem nodup_len : ∀ (n : Nat) (l : List Nat), l.Nodup → (∀ x ∈ l, x < n) → l.length ≤ n
  | 0, l, _, h => by
    cases l with
    | nil => simp
    | cons x l => exact absurd (h x (by simp)) (by omega)
  | n + 1, l, hn, h => by
    by_cases hm : n ∈ l
    · have := nodup_len n (l.erase n) (hn.erase n) fun x hx => by
        have h1 := hn.mem_erase_iff.1 hx
        have := h x h1.2
        have := h1.1
        omega
      rw [List.length_erase_of_mem hm] at this
      omega
    · have := nodup_len n l hn fun x hx => by
        have h1 := h x hx
        have : x ≠ n := by rintro rfl; exact hm hx
        omega
      omega

theorem SInv.len {E : Nat → Nat → Bool} {n a : Nat} {s : Sr} (h : SInv E n a s) : s.M.length ≤ n := by
  have := nodup_len n s.keys h.once h.lt
  simpa [Sr.keys] using this

theorem Sr.step_mu {E : Nat → Nat → Bool} {n a now k : Nat} {s : Sr} (h : SInv E n a s) (hn : now ∈ s.keys) (hk : E now k = true → k < n) : (s.step E now k).mu n ≤ s.mu n := by
  have h2 := (h.step hn hk).len
  unfold Sr.step at h2 ⊢
  split
  · rename_i hc
    rw [if_pos hc] at h2
    simp only [Sr.mu, List.length_append, List.length_cons, List.length_nil] at h2 ⊢
    omega
  · exact Nat.le_refl _

theorem Sr.steps_mu {E : Nat → Nat → Bool} {n a now : Nat} (hE : ∀ i k, E i k = true → k < n) : ∀ (L : List Nat) (s : Sr), SInv E n a s → now ∈ s.keys → (s.steps E now L).mu n ≤ s.mu n
  | [], s, h, hn => Nat.le_refl _
  | k :: L, s, h, hn => Nat.le_trans (Sr.steps_mu hE L (s.step E now k) (h.step hn (hE now k)) (Sr.step_mono hn)) (Sr.step_mu h hn (hE now k))

/-- all that one knows is looked at, or will be -/
def Sr.Clo (E : Nat → Nat → Bool) (s : Sr) : Prop := ∀ q ∈ s.keys, q ∈ s.qs ∨ ∀ k, E q k = true → k ∈ s.keys

theorem Sr.round {E : Nat → Nat → Bool} {n a now : Nat} {s : Sr} {rest : List Nat} (hE : ∀ i k, E i k = true → k < n) (h : SInv E n a s) (hc : s.Clo E) (hq : s.qs = now :: rest) :
    SInv E n a (Sr.steps E now ⟨s.M, rest⟩ (List.range n)) ∧ (Sr.steps E now ⟨s.M, rest⟩ (List.range n)).Clo E ∧ (Sr.steps E now ⟨s.M, rest⟩ (List.range n)).mu n < s.mu n := by
  have hn : now ∈ s.keys := h.qin now (by rw [hq]; simp)
  have h' : SInv E n a ⟨s.M, rest⟩ := ⟨h.start, h.sound, h.lt, h.once, fun q hx => h.qin q (by rw [hq]; simp [hx]), h.way⟩
  obtain ⟨h1, h2, h3, h4, h5⟩ := Sr.steps_inv hE (List.range n) ⟨s.M, rest⟩ h' hn
  refine ⟨h1, ?_, ?_⟩
  · intro q hk
    rcases h4 q hk with h6 | h6
    · rcases hc q h6 with h7 | h7
      · rw [hq] at h7
        rcases List.mem_cons.1 h7 with rfl | h7
        · exact .inr fun k he => h5 k (List.mem_range.2 (hE _ _ he)) he
        · exact .inl (h3 q h7)
      · exact .inr fun k he => h2 k (h7 k he)
    · exact .inl h6
  · have := Sr.steps_mu hE (List.range n) ⟨s.M, rest⟩ h' hn
    simp only [Sr.mu] at this ⊢
    rw [hq]
    simp only [List.length_cons]
    omega

theorem Sr.all {E : Nat → Nat → Bool} {n a : Nat} {s : Sr} (h : SInv E n a s) (hc : s.Clo E) (hq : s.qs = []) {t : Nat} (hr : Rch E a t) : t ∈ s.keys := by
  induction hr with
  | here => exact h.start
  | step _ he ih =>
    rcases hc _ ih with h1 | h1
    · rw [hq] at h1; cases h1
    · exact h1 _ he

/-! ways as lists -/

theorem Trail.nodup {E : Nat → Nat → Bool} {M : List (Nat × Nat)} {a t : Nat} {p : List Nat} (h : Trail E M a t p) : p.Nodup := by
  induction h with
  | here => simp
  | step _ _ _ h4 _ ih => exact List.nodup_cons.2 ⟨h4, ih⟩

theorem Trail.head {E : Nat → Nat → Bool} {M : List (Nat × Nat)} {a t : Nat} {p : List Nat} (h : Trail E M a t p) : ∃ q, p = t :: q := by
  cases h with
  | here => exact ⟨[], rfl⟩
  | step _ _ _ _ _ => exact ⟨_, rfl⟩

theorem Trail.last {E : Nat → Nat → Bool} {M : List (Nat × Nat)} {a t : Nat} {p : List Nat} (h : Trail E M a t p) : ∃ q, p = q ++ [a] := by
  induction h with
  | here => exact ⟨[], rfl⟩
  | @step t b p _ _ _ _ _ ih => obtain ⟨q, rfl⟩ := ih; exact ⟨t :: q, rfl⟩

theorem Trail.link {E : Nat → Nat → Bool} {M : List (Nat × Nat)} {a t : Nat} {p : List Nat} (h : Trail E M a t p) : ∀ i x y, p[i]? = some x → p[i + 1]? = some y → E y x = true := by
  induction h with
  | here => intro i x y h1 h2; simp at h2
  | step _ _ h3 _ h5 ih =>
    intro i x y h1 h2
    cases i with
    | zero =>
      obtain ⟨q, rfl⟩ := h5.head
      simp at h1 h2
      subst h1 h2
      exact h3
    | succ i => exact ih i x y (by simpa using h1) (by simpa using h2)

/-! the closure of a table -/

def wstep (j : Nat) (T : Nat → Nat → Bool) : Nat → Nat → Bool := fun i k => T i k || (T i j && T j k)

def wall (T : Nat → Nat → Bool) : Nat → Nat → Nat → Bool
  | 0 => T
  | j + 1 => wstep j (wall T j)

theorem wall_mono (T : Nat → Nat → Bool) : ∀ (j : Nat) {i k : Nat}, T i k = true → wall T j i k = true
  | 0, _, _, h => h
  | j + 1, i, k, h => by simp [wall, wstep, wall_mono T j h]

theorem wall_trans (T : Nat → Nat → Bool) : ∀ (j m : Nat), m < j → ∀ {i k : Nat}, wall T j i m = true → wall T j m k = true → wall T j i k = true
  | 0, m, h, _, _, _, _ => absurd h (by omega)
  | j + 1, m, h, i, k, h1, h2 => by
    have ih := fun (m : Nat) (h : m < j) {i k : Nat} => wall_trans T j m h (i := i) (k := k)
    simp only [wall, wstep, Bool.or_eq_true, Bool.and_eq_true] at h1 h2 ⊢
    by_cases hm : m = j
    · subst hm
      have a1 : wall T m i m = true := by rcases h1 with h | h; exact h; exact h.1
      have a2 : wall T m m k = true := by rcases h2 with h | h; exact h; exact h.2
      exact .inr ⟨a1, a2⟩
    · have hm' : m < j := by omega
      rcases h1 with h1 | ⟨h1, h1'⟩ <;> rcases h2 with h2 | ⟨h2, h2'⟩
      · exact .inl (ih m hm' h1 h2)
      · exact .inr ⟨ih m hm' h1 h2, h2'⟩
      · exact .inr ⟨h1, ih m hm' h1' h2⟩
      · exact .inr ⟨h1, h2'⟩

theorem Rch.trans {E : Nat → Nat → Bool} {a b c : Nat} (h : Rch E a b) (h2 : Rch E b c) : Rch E a c := by
  induction h2 with
  | here => exact h
  | step _ he ih => exact .step ih he

/-- at least one step -/
def Rch1 (E : Nat → Nat → Bool) (a c : Nat) : Prop := ∃ b, Rch E a b ∧ E b c = true

theorem Rch1.rch {E : Nat → Nat → Bool} {a c : Nat} (h : Rch1 E a c) : Rch E a c := by obtain ⟨b, h1, h2⟩ := h; exact .step h1 h2

theorem Rch.rch1 {E : Nat → Nat → Bool} {a c : Nat} (h : Rch E a c) (hne : a ≠ c) : Rch1 E a c := by
  cases h with
  | here => exact absurd rfl hne
  | step h1 h2 => exact ⟨_, h1, h2⟩

theorem wall_sound (T : Nat → Nat → Bool) : ∀ (j : Nat) {i k : Nat}, wall T j i k = true → Rch1 T i k
  | 0, i, k, h => ⟨i, .here, h⟩
  | j + 1, i, k, h => by
    simp only [wall, wstep, Bool.or_eq_true, Bool.and_eq_true] at h
    rcases h with h | ⟨h1, h2⟩
    · exact wall_sound T j h
    · obtain ⟨b, h3, h4⟩ := wall_sound T j h2
      exact ⟨b, (wall_sound T j h1).rch.trans h3, h4⟩

theorem wall_all {T : Nat → Nat → Bool} {n : Nat} (hT : ∀ i k, T i k = true → k < n) {i k : Nat} (h : Rch1 T i k) : wall T n i k = true := by
  obtain ⟨b, h1, h2⟩ := h
  have : ∀ b, Rch T i b → i = b ∨ wall T n i b = true ∧ b < n := by
    intro b hb
    induction hb with
    | here => exact .inl rfl
    | @step x y hx he ih =>
      rcases ih with rfl | ⟨h3, h4⟩
      · exact .inr ⟨wall_mono T n he, hT _ _ he⟩
      · exact .inr ⟨wall_trans T n x h4 h3 (wall_mono T n he), hT _ _ he⟩
  rcases this b h1 with rfl | ⟨h3, h4⟩
  · exact wall_mono T n h2
  · exact wall_trans T n b h4 h3 (wall_mono T n h2)

theorem wall_iff {T : Nat → Nat → Bool} {n : Nat} (hT : ∀ i k, T i k = true → k < n) {i k : Nat} : wall T n i k = true ↔ Rch1 T i k :=
  ⟨fun h => wall_sound T n h, fun h => wall_all hT h⟩

end Go.Proofs.Tryd.Dn

/-
  Ways: bits, maps of whole numbers, queues.
-/

namespace Go.Proofs.Tryd.Dn
open Go.Dn

theorem shr_eq {p : Int} {i : Nat} {k : IntKind} (hi : i ≤ 60) : binI .shr (.i .i64 p) (.i k (i : Int)) = some (.i .i64 (p / 2 ^ i)) := by
  have h0 : ¬ ((i : Int) < 0) := by omega
  have h1 : min i 64 = i := by omega
  have h2 : (0 : Int) ≤ 2 ^ i := Int.le_of_lt (Int.pow_pos (by decide))
  simp [binI, h1, IntKind.bits, Int.fdiv_eq_ediv_of_nonneg _ h2]

theorem and1_eq {x : Int} (h0 : 0 ≤ x) (h1 : x < 9223372036854775808) : binI .and (.i .i64 x) (.i .i64 1) = some (.i .i64 (x % 2)) := by
  obtain ⟨m, rfl⟩ := Int.eq_ofNat_of_zero_le h0
  have h2 : ((BitVec.ofInt 64 (m : Int)) &&& (BitVec.ofInt 64 1)).toNat = m % 2 := by
    have hm : BitVec.ofInt 64 (m : Int) = BitVec.ofNat 64 m := by simp
    have h1' : BitVec.ofInt 64 1 = BitVec.ofNat 64 1 := by decide
    rw [hm, h1', BitVec.toNat_and]
    simp only [BitVec.toNat_ofNat]
    rw [show 1 % 2 ^ 64 = 1 by decide, Nat.mod_eq_of_lt (by omega : m < 2 ^ 64), Nat.and_one_is_mod]
  have h3 : wrapR .i64 ((m % 2 : Nat) : Int) = .i .i64 ((m : Int) % 2) := by rw [wrapR_i64 (by omega)]; simp
  rw [show binI .and (.i .i64 (m : Int)) (.i .i64 1) = some (wrapR .i64 ((BitVec.ofInt 64 (m : Int)) &&& (BitVec.ofInt 64 1)).toNat) from rfl, h2, h3]


def bitV (s k : Nat) : Int := if s.testBit k then 1 else 0

theorem bit_run {s k : Nat} (hs : s < 65536) (hk : k ≤ 60) : binI .shr (.i .i64 (s : Int)) (.i .u64 (k : Int)) = some (.i .i64 ((s / 2 ^ k : Nat) : Int)) ∧ binI .and (.i .i64 ((s / 2 ^ k : Nat) : Int)) (.i .i64 1) = some (.i .i64 (bitV s k)) := by
  constructor
  · rw [shr_eq hk]; congr 2
  · have h1 : s / 2 ^ k ≤ s := Nat.div_le_self _ _
    rw [and1_eq (Int.natCast_nonneg _) (by omega)]
    congr 2
    unfold bitV
    rw [Nat.testBit_eq_decide_div_mod_eq]
    by_cases h : s / 2 ^ k % 2 = 1
    · simp only [h, decide_true, if_true]; omega
    · simp only [h, decide_false, Bool.false_eq_true, if_false]; omega

theorem bitV_1 (s k : Nat) : (bitV s k == 1) = s.testBit k := by
  unfold bitV; cases s.testBit k <;> rfl
theorem bitV_0 (s k : Nat) : (bitV s k == 0) = !s.testBit k := by
  unfold bitV; cases s.testBit k <;> rfl

/-! maps -/

def encP (e : Nat × Nat) : TV × TV := (.i .i64 (e.1 : Int), .i .i64 (e.2 : Int))

def lookP : List (Nat × Nat) → Nat → Option (Nat × Nat)
  | [], _ => none
  | e :: M, q => if q = e.1 then some (0, e.2) else (lookP M q).map fun x => (x.1 + 1, x.2)

theorem findK_P {q : Nat} : ∀ {es : List (TV × TV × Nat)} {M : List (Nat × Nat)}, es.map (fun e => (e.1, e.2.1)) = M.map encP → findK .int (.i .i64 (q : Int)) es = some ((lookP M q).map fun x => (x.1, .i .i64 (x.2 : Int)))
  | [], [], _ => rfl
  | [], _ :: _, h => by simp at h
  | _ :: _, [], h => by simp at h
  | (k, v, n) :: es, e :: M, h => by
    simp only [List.map_cons, List.cons.injEq] at h
    obtain ⟨h1, h2⟩ := h
    have ih := findK_P (q := q) h2
    simp only [encP, Prod.mk.injEq] at h1
    obtain ⟨rfl, rfl⟩ := h1
    simp only [findK, eqK, eqS, if_true, Option.bind_some, ih, lookP]
    by_cases hq : q = e.1
    · rw [if_pos hq]
      simp [hq]
    · have : ((q : Int) == (e.1 : Int)) = false := by simp; omega
      rw [if_neg hq, this]
      cases lookP M q <;> simp

theorem lookP_none {q : Nat} : ∀ {M : List (Nat × Nat)}, q ∉ M.map (·.1) → lookP M q = none
  | [], _ => rfl
  | e :: M, h => by
    simp only [List.map_cons, List.mem_cons, not_or] at h
    rw [lookP, if_neg h.1, lookP_none h.2]; rfl

theorem lookP_mem {q b : Nat} : ∀ {M : List (Nat × Nat)}, (M.map (·.1)).Nodup → (q, b) ∈ M → ∃ i, lookP M q = some (i, b)
  | [], _, h => by cases h
  | e :: M, hn, h => by
    rw [List.map_cons, List.nodup_cons] at hn
    rw [lookP]
    rcases List.mem_cons.1 h with rfl | h
    · exact ⟨0, by rw [if_pos rfl]⟩
    · obtain ⟨i, hi⟩ := lookP_mem hn.2 h
      have : q ≠ e.1 := by
        rintro rfl
        exact hn.1 (List.mem_map.2 ⟨_, h, rfl⟩)
      exact ⟨i + 1, by rw [if_neg this, hi]; rfl⟩

/-- a map that holds such pairs -/
def MapAt (H : Heap) (id : Nat) (M : List (Nat × Nat)) : Prop := ∃ es ck, H[id]? = some (.map es ck) ∧ es.map (fun e => (e.1, e.2.1)) = M.map encP

section
variable {pg : Pg} {R : Rec}
theorem MapAt.known {H : Heap} {id q : Nat} {M : List (Nat × Nat)} (h : MapAt H id M) (hn : (M.map (·.1)).Nodup) (hq : q ∈ M.map (·.1)) : ∃ v, dkc pg R (.lkp .int (.i .i64 0) true) [.mp id, .i .i64 (q : Int)] H = some (.tup [.i .i64 v, .b true], H) := by
  obtain ⟨es, ck, h1, h2⟩ := h
  obtain ⟨e, he, rfl⟩ := List.mem_map.1 hq
  obtain ⟨i, hi⟩ := lookP_mem (b := e.2) hn he
  have hf := findK_P (q := e.1) h2
  rw [hi] at hf
  exact ⟨(e.2 : Int), by simp [dkc, dk, h1, hf, eqK, eqS]⟩
theorem MapAt.unknown {H : Heap} {id q : Nat} {M : List (Nat × Nat)} (h : MapAt H id M) (hq : q ∉ M.map (·.1)) : dkc pg R (.lkp .int (.i .i64 0) true) [.mp id, .i .i64 (q : Int)] H = some (.tup [.i .i64 0, .b false], H) := by
  obtain ⟨es, ck, h1, h2⟩ := h
  have hf := findK_P (q := q) h2
  rw [lookP_none hq] at hf
  simp [dkc, dk, h1, hf, eqK, eqS]
theorem MapAt.val {H : Heap} {id q b : Nat} {M : List (Nat × Nat)} (h : MapAt H id M) (hn : (M.map (·.1)).Nodup) (hq : (q, b) ∈ M) : dkc pg R (.lkp .int (.i .i64 0) false) [.mp id, .i .i64 (q : Int)] H = some (.i .i64 (b : Int), H) := by
  obtain ⟨es, ck, h1, h2⟩ := h
  obtain ⟨i, hi⟩ := lookP_mem hn hq
  have hf := findK_P (q := q) h2
  rw [hi] at hf
  simp [dkc, dk, h1, hf, eqK, eqS]
theorem MapAt.put {H : Heap} {id q b : Nat} {M : List (Nat × Nat)} (h : MapAt H id M) (hq : q ∉ M.map (·.1)) :
    ∃ H', dkc pg R (.mset .int) [.mp id, .i .i64 (q : Int), .i .i64 (b : Int)] H = some (.undef, H') ∧ MapAt H' id (M ++ [(q, b)]) ∧ H'.length = H.length ∧ ∀ j, j ≠ id → H'[j]? = H[j]? := by
  obtain ⟨es, ck, h1, h2⟩ := h
  have hid := (List.getElem?_eq_some_iff.1 h1).1
  have hf := findK_P (q := q) h2
  rw [lookP_none hq] at hf
  refine ⟨H.set id (.map (es ++ [(.i .i64 (q : Int), .i .i64 (b : Int), ck)]) (ck + 1)), by simp [dkc, dk, h1, hf, eqK, eqS], ⟨_, _, List.getElem?_set_self hid, by simp [h2, encP]⟩, by simp, fun j hj => List.getElem?_set_ne (by omega)⟩
theorem MapAt.mono {H H' : Heap} {id : Nat} {M : List (Nat × Nat)} (h : MapAt H id M) (hf : H'[id]? = H[id]?) : MapAt H' id M := by
  obtain ⟨es, ck, h1, h2⟩ := h
  exact ⟨es, ck, by rw [hf]; exact h1, h2⟩
theorem MapAt.lt {H : Heap} {id : Nat} {M : List (Nat × Nat)} (h : MapAt H id M) : id < H.length := by
  obtain ⟨es, ck, h1, h2⟩ := h
  exact (List.getElem?_eq_some_iff.1 h1).1

/-- an element of such a slice, put into place -/
theorem _root_.Go.Dn.Que.put {H : Heap} {t : TV} {l : List Int} (h : Que H t l) {i : Nat} (hi : i < l.length) :
    ∃ p, dkc pg R (.ixS 1 false) [t, .i .i64 (i : Int)] H = some (p, H) ∧ ∀ (v : Int) (H1 : Heap), (∀ id, t.idOf = some id → H1[id]? = H[id]?) →
      ∃ H', dkc pg R (.st 1) [p, .i .i64 v] H1 = some (.undef, H') ∧ (Que H1 t l → Que H' t (l.set i v)) ∧ H'.length = H1.length ∧ ∀ j, t.idOf ≠ some j → H'[j]? = H1[j]? := by
  obtain ⟨id, off, cap, c, ag, rfl, h1, h2, h3, h4⟩ := h
  refine ⟨.ref id (off + i), (k_ixSl 1 false false id off l.length cap .i64 i H (by omega) (by simpa using hi)).trans (by simp), fun v H1 hf => ?_⟩
  have h1' : H1[id]? = some (.cells c ag) := by rw [hf id rfl]; exact h1
  have hid := (List.getElem?_eq_some_iff.1 h1').1
  refine ⟨H1.set id (.cells (put2 c (off + i) [.i .i64 v]) ag), ?_, fun _ => ?_, by simp, fun j hj => List.getElem?_set_ne (fun he => hj (by rw [← he]; rfl))⟩
  · rw [k_stI, h1', stC_some, if_pos ⟨rfl, rfl, by omega⟩]
  · have hput : put2 c (off + i) [TV.i .i64 v] = c.set (off + i) (.i .i64 v) := El.put2_set _ (by omega) _
    refine ⟨id, off, cap, put2 c (off + i) [.i .i64 v], ag, by rw [List.length_set], List.getElem?_set_self hid, ?_, ?_, ?_⟩
    · rw [hput, List.length_set, List.length_set]; exact h2
    · rw [hput, List.length_set, List.map_set, ← h3]
      apply List.ext_getElem?
      intro j
      by_cases hj : j < l.length
      · rw [List.getElem?_take, if_pos hj, List.getElem?_drop]
        by_cases hji : j = i
        · subst hji
          rw [List.getElem?_set_self (by omega), List.getElem?_set_self (by simp; omega)]
        · rw [List.getElem?_set_ne (by omega), List.getElem?_set_ne (by omega), List.getElem?_take, if_pos hj, List.getElem?_drop]
      · rw [List.getElem?_eq_none (by simp; omega), List.getElem?_eq_none (by simp; omega)]
    · intro k hk
      rw [List.length_set, hput, List.length_set]
      exact h4 k hk
end

theorem _root_.Go.Dn.Que.fin {H : Heap} {t : TV} {l : List Int} (h : Que H t l) (f : Nat) : Dn.snap .fin H (f + 2) t = some (.bs false 1 (l.map elI.val)) := by
  obtain ⟨id, off, cap, c, ag, rfl, h1, h2, h3, h4⟩ := h
  rw [snS_sl _ (by decide), h1, slB_some, if_pos ⟨by omega, .inr rfl⟩, Nat.mul_one, h3]
  have : elems 1 false l.length (l.map fun n => TV.i .i64 n) = l.map elI.val := rfl
  rw [this, mapO_map (f := elI.val) (k := elI.val) (l := l) fun a _ => snS_i _ _ _ _ _]
  rfl

/-! a slice turned round -/

def swapTo (l : List Int) (i : Nat) : List Int := (List.range l.length).map fun j => if j < i ∨ l.length ≤ j + i then l.getD (l.length - 1 - j) 0 else l.getD j 0

end Go.Proofs.Tryd.Dn

/-
  A slice turned round in place.
-/

namespace Go.Proofs.Tryd.Dn
open Go.Dn

theorem _root_.Go.Dn.Que.at {pg : Pg} {R : Rec} {H : Heap} {t : TV} {l : List Int} (h : Que H t l) {i : Nat} {x : Int} (hx : l[i]? = some x) :
    ∃ p, dkc pg R (.ixS 1 false) [t, .i .i64 (i : Int)] H = some (p, H) ∧ dkc pg R (.ld 1 false) [p] H = some (.i .i64 x, H) ∧
      ∀ v : Int, ∃ H', dkc pg R (.st 1) [p, .i .i64 v] H = some (.undef, H') ∧ Que H' t (l.set i v) ∧ H'.length = H.length ∧ ∀ j, t.idOf ≠ some j → H'[j]? = H[j]? := by
  obtain ⟨p, h1, h2⟩ := ixI (pg := pg) (R := R) h.view hx
  obtain ⟨p', h3, h4⟩ := h.put (pg := pg) (R := R) (List.getElem?_eq_some_iff.1 hx).1
  rw [h1] at h3
  simp only [Option.some.injEq, Prod.mk.injEq, and_true] at h3
  subst h3
  refine ⟨p, h1, h2, fun v => ?_⟩
  obtain ⟨H', a1, a2, a3, a4⟩ := h4 v H fun _ _ => rfl
  exact ⟨H', a1, a2 h, a3, a4⟩

theorem swapTo_len (l : List Int) (i : Nat) : (swapTo l i).length = l.length := by simp [swapTo]
theorem swapTo_get {l : List Int} {i j : Nat} (hj : j < l.length) : (swapTo l i)[j]? = some (if j < i ∨ l.length ≤ j + i then l.getD (l.length - 1 - j) 0 else l.getD j 0) := by
  unfold swapTo
  rw [List.getElem?_map, List.getElem?_range hj]; rfl
theorem swapTo_0 (l : List Int) : swapTo l 0 = l := by
  apply List.ext_getElem?
  intro j
  by_cases hj : j < l.length
  · rw [swapTo_get hj, if_neg (by omega), List.getElem?_eq_getElem hj, List.getD, List.getElem?_eq_getElem hj]; rfl
  · rw [List.getElem?_eq_none (by rw [swapTo_len]; omega), List.getElem?_eq_none (by omega)]
theorem swapTo_end {l : List Int} {i : Nat} (h : l.length ≤ i + i + 1) : swapTo l i = l.reverse := by
  apply List.ext_getElem?
  intro j
  by_cases hj : j < l.length
  · rw [swapTo_get hj, List.getElem?_reverse hj, List.getElem?_eq_getElem (by omega)]
    congr 1
    have hd : ∀ k (hk : k < l.length), l.getD k 0 = l[k] := fun k hk => by rw [List.getD, List.getElem?_eq_getElem hk]; rfl
    by_cases hc : j < i ∨ l.length ≤ j + i
    · rw [if_pos hc, hd _ (by omega)]
    · rw [if_neg hc, hd _ hj]
      have : j = l.length - 1 - j := by omega
      congr 1
  · rw [List.getElem?_eq_none (by rw [swapTo_len]; omega), List.getElem?_eq_none (by simp; omega)]
theorem swapTo_step {l : List Int} {i : Nat} (h : i + i + 1 < l.length) : ((swapTo l i).set i (l.getD (l.length - 1 - i) 0)).set (l.length - 1 - i) (l.getD i 0) = swapTo l (i + 1) := by
  apply List.ext_getElem?
  intro j
  by_cases hj : j < l.length
  · rw [swapTo_get hj]
    by_cases h1 : j = l.length - 1 - i
    · subst h1
      rw [List.getElem?_set_self (by rw [List.length_set, swapTo_len]; omega), if_pos (by omega)]
      congr 2
      omega
    · rw [List.getElem?_set_ne (by omega)]
      by_cases h2 : j = i
      · subst h2
        rw [List.getElem?_set_self (by rw [swapTo_len]; omega), if_pos (by omega)]
      · rw [List.getElem?_set_ne (by omega), swapTo_get hj]
        congr 1
        by_cases hc : j < i ∨ l.length ≤ j + i
        · rw [if_pos hc, if_pos (by omega)]
        · rw [if_neg hc, if_neg (by omega)]
  · rw [List.getElem?_eq_none (by rw [List.length_set, List.length_set, swapTo_len]; omega), List.getElem?_eq_none (by rw [swapTo_len]; omega)]

theorem l80_all {pg : Pg} {t : TV} {l : List Int} (hl : l.length ≤ 1000000) : ∀ (d i : Nat) (H : Heap), i + d = l.length / 2 → Que H t (swapTo l i) →
    ∃ e H', den pg l80_1 [(0, t), (2, .i .i64 (i : Int)), (3, .i .i64 ((l.length : Int) - 1 - (i : Int)))] H = some ⟨.exit 0, e, H'⟩ ∧ Que H' t l.reverse ∧ H'.length = H.length ∧ ∀ j, t.idOf ≠ some j → H'[j]? = H[j]?
  | 0, i, H, h, hq => by
    have e1 : ¬ ((i : Int) < (l.length : Int) - 1 - (i : Int)) := by omega
    rw [swapTo_end (by omega)] at hq
    refine ⟨[(0, t), (2, .i .i64 (i : Int)), (3, .i .i64 ((l.length : Int) - 1 - (i : Int))), (9, .b false)], H, ?_, hq, rfl, fun _ _ => rfl⟩
    rw [l80_1, den_loop]
    simp [b80_0, go_nil, go_last, go_past, go_pastR, go_blkN, go_blkR, go_blkE, go_skip, go_exit, go_ret, go_scope, go_seq, go_reg, go_regd, go_opdN, go_opd, go_opdG, grdd_b, grdd_u, stpd_some, find_some, go_block, go_cond, cnd_b, go_opsN, go_ops, go_opsG, grd_b, grd_u, stp_some, fin_some, up_some, cont_some, k_call, k_mv, k_pick, k_bin, k_eqB, k_eqA, k_not, k_neg, k_conv, k_alloc, k_boxA, k_boxI, k_boxB, k_boxN, k_boxBs, k_ldR, k_ldA, k_ldI, k_ldB, k_stA, k_stI, k_stB, ldC_some, stC_some, k_mkfn, k_slc, k_slcA, k_ixA, k_ixBs, k_ixSl, k_fadr, k_fld, k_ext, k_len, k_app, k_mn, k_mx, k_nilck, k_build, k_bsl1, k_bsl2, b_add, b_sub, b_mul, b_eql, b_neq, b_lss, b_leq, b_gtr, b_geq, Dn.setLast, Dn.getLast, evalO, mapO, Dn.get, putE, keepE, TV.one, TV.isAgg, Dn.part, e1]
  | d + 1, i, H, h, hq => by
    have hii : i + i + 1 < l.length := by omega
    have e1 : ((i : Int) < (l.length : Int) - 1 - (i : Int)) := by omega
    have hj : ((l.length : Int) - 1 - (i : Int)) = ((l.length - 1 - i : Nat) : Int) := by omega
    have e2 : wrapR .i64 ((i : Int) + 1) = .i .i64 ((i : Int) + 1) := wrapR_i64 (by omega)
    have e3 : wrapR .i64 (((l.length - 1 - i : Nat) : Int) - 1) = .i .i64 ((l.length : Int) - 1 - ((i + 1 : Nat) : Int)) := by
      rw [show (((l.length - 1 - i : Nat) : Int) - 1) = (l.length : Int) - 1 - ((i + 1 : Nat) : Int) by omega]; exact wrapR_i64 (by omega)
    have hgi : (swapTo l i)[i]? = some (l.getD i 0) := by rw [swapTo_get (by omega), if_neg (by omega)]
    have hgj : (swapTo l i)[l.length - 1 - i]? = some (l.getD (l.length - 1 - i) 0) := by rw [swapTo_get (by omega), if_neg (by omega)]
    obtain ⟨pi, a1, a2, a3⟩ := hq.at (pg := pg) (R := den pg) hgi
    obtain ⟨pj, b1, b2, _⟩ := hq.at (pg := pg) (R := den pg) hgj
    obtain ⟨H1, s1, q1, l1, f1⟩ := a3 (l.getD (l.length - 1 - i) 0)
    obtain ⟨pj', c1, _, c3⟩ := q1.at (pg := pg) (R := den pg) (i := l.length - 1 - i) (x := l.getD (l.length - 1 - i) 0) (by rw [List.getElem?_set_ne (by omega)]; exact hgj)
    obtain ⟨H2, s2, q2, l2, f2⟩ := c3 (l.getD i 0)
    rw [swapTo_step hii] at q2
    obtain ⟨e, H3, h3, q3, l3, f3⟩ := l80_all (pg := pg) hl d (i + 1) H2 (by omega) q2
    refine ⟨e, H3, Eq.trans ?_ h3, q3, by omega, fun j hj => by rw [f3 j hj, f2 j hj, f1 j hj]⟩
    rw [hj] at e1 ⊢
    generalize l.getD (l.length - 1 - i) 0 = vj at *
    generalize l.getD i 0 = vi at *
    generalize ((l.length - 1 - i : Nat) : Int) = jj at *
    generalize (l.length : Int) - 1 - ((i + 1 : Nat) : Int) = jn at *
    rw [l80_1, den_loop]
    simp [l80_1, b80_0, go_nil, go_last, go_past, go_pastR, go_blkN, go_blkR, go_blkE, go_skip, go_exit, go_ret, go_scope, go_seq, go_reg, go_regd, go_opdN, go_opd, go_opdG, grdd_b, grdd_u, stpd_some, find_some, go_block, go_cond, cnd_b, go_opsN, go_ops, go_opsG, grd_b, grd_u, stp_some, fin_some, up_some, cont_some, k_call, k_mv, k_pick, k_bin, k_eqB, k_eqA, k_not, k_neg, k_conv, k_alloc, k_boxA, k_boxI, k_boxB, k_boxN, k_boxBs, k_ldR, k_ldA, k_ldI, k_ldB, k_stA, k_stI, k_stB, ldC_some, stC_some, k_mkfn, k_slc, k_slcA, k_ixA, k_ixBs, k_ixSl, k_fadr, k_fld, k_ext, k_len, k_app, k_mn, k_mx, k_nilck, k_build, k_bsl1, k_bsl2, b_add, b_sub, b_mul, b_eql, b_neq, b_lss, b_leq, b_gtr, b_geq, Dn.setLast, Dn.getLast, evalO, mapO, Dn.get, putE, keepE, TV.one, TV.isAgg, Dn.part, e1, e2, e3, a1, a2, b1, b2, s1, c1, s2]

theorem body80 {pg : Pg} (hF : Free pg) {t : TV} {l : List Int} {H : Heap} (hq : Que H t l) (hl : l.length ≤ 1000000) : ∃ r H', bodyRun pg (den pg) 80 [t] H = some (r, H') ∧ Que H' t l.reverse ∧ H'.length = H.length ∧ ∀ j, t.idOf ≠ some j → H'[j]? = H[j]? := by
  have hlen := hq.view.lenK
  have e2 : wrapR .i64 ((l.length : Int) - 1) = .i .i64 ((l.length : Int) - 1) := wrapR_i64 (by omega)
  obtain ⟨e, H', h1, h2, h3, h4⟩ := l80_all (pg := pg) (t := t) hl (l.length / 2) 0 H (by omega) (by rw [swapTo_0]; exact hq)
  simp only [Int.natCast_zero, Int.sub_zero] at h1
  refine ⟨tupR [], H', body_ofs (x := .normal) (e := e) (vs := []) (d := d80) (by rw [hF.F]; rfl) rfl ?_ (.inr rfl) rfl, h2, h3, h4⟩
  simp [d80, c80, zipE, go_nil, go_last, go_past, go_pastR, go_blkN, go_blkR, go_blkE, go_skip, go_exit, go_ret, go_scope, go_seq, go_reg, go_regd, go_opdN, go_opd, go_opdG, grdd_b, grdd_u, stpd_some, find_some, go_block, go_cond, cnd_b, go_opsN, go_ops, go_opsG, grd_b, grd_u, stp_some, fin_some, up_some, cont_some, k_call, k_mv, k_pick, k_bin, k_eqB, k_eqA, k_not, k_neg, k_conv, k_alloc, k_boxA, k_boxI, k_boxB, k_boxN, k_boxBs, k_ldR, k_ldA, k_ldI, k_ldB, k_stA, k_stI, k_stB, ldC_some, stC_some, k_mkfn, k_slc, k_slcA, k_ixA, k_ixBs, k_ixSl, k_fadr, k_fld, k_ext, k_len, k_app, k_mn, k_mx, k_nilck, k_build, k_bsl1, k_bsl2, b_add, b_sub, b_mul, b_eql, b_neq, b_lss, b_leq, b_gtr, b_geq, Dn.setLast, Dn.getLast, evalO, mapO, Dn.get, putE, keepE, TV.one, TV.isAgg, Dn.part, hlen, e2, go_denK (c := l80_1) rfl, h1]

end Go.Proofs.Tryd.Dn

/-
  A way from one observation to another one: the program's search.
-/

namespace Go.Proofs.Tryd.Dn
open Go.Dn

def nI (l : List Nat) : List Int := l.map fun (n : Nat) => (n : Int)
theorem nI_len (l : List Nat) : (nI l).length = l.length := by simp [nI]

/-- one observation of a set is preferred to another one, by a share -/
def wE (X : List Obs) (s : Nat) (ba bb : Int) (i k : Nat) : Bool := decide (i < X.length) && decide (k < X.length) && s.testBit k && decide (0 < pref X ba bb i k)

theorem wE_lt {X : List Obs} {s : Nat} {ba bb : Int} : ∀ i k, wE X s ba bb i k = true → k < X.length := by
  intro i k h
  simp only [wE, Bool.and_eq_true, decide_eq_true_eq] at h
  exact h.1.1.2

structure SB (ba bb : Int) (H : Heap) (s : Sr) (Q : TV) : Prop where
  box : H[0]? = some (.cells [.i .i64 ba, .i .i64 bb] true)
  map : MapAt H 1 s.M
  que : Que H Q (nI s.qs)
  ids : ∀ id, Q.idOf = some id → 2 ≤ id

theorem l56_1_round {pg : Pg} (hF : Free pg) {X : List Obs} {g : Nat} (hm : Market X g) {s0 : Nat} (hs0 : s0 < 65536) {ba bb : Int} (hba : 0 ≤ ba ∧ ba ≤ 1000000) (hbb : 0 ≤ bb ∧ bb ≤ 1000000) {a now k : Nat} {A T Q : TV} {H : Heap} {s : Sr} (hi : SInv (wE X s0 ba bb) X.length a s) (hnow : now ∈ s.keys) (hk : k < X.length) (hb : SB ba bb H s Q) (hq : s.qs.length ≤ 1000) :
    ∃ Q' H', den pg l56_1 [(0, mV X), (1, A), (2, T), (3, .i .i64 (s0 : Int)), (9, .ref 0 0), (11, .mp 1), (12, Q), (13, .i .i64 (now : Int)), (40, .i .i64 (X.length : Int)), (41, .i .i64 (k : Int))] H =
        den pg l56_1 [(0, mV X), (1, A), (2, T), (3, .i .i64 (s0 : Int)), (9, .ref 0 0), (11, .mp 1), (12, Q'), (13, .i .i64 (now : Int)), (40, .i .i64 (X.length : Int)), (41, .i .i64 ((k + 1 : Nat) : Int))] H' ∧ SB ba bb H' (s.step (wE X s0 ba bb) now k) Q' := by
  have hn5 := hm.n5
  have hnl := hi.lt now hnow
  have e1 : ((k : Int) < (X.length : Int)) := by omega
  have e2 : wrapR .i64 ((k : Int) + 1) = .i .i64 ((k : Int) + 1) := wrapR_i64 (by omega)
  have eU : wrapR .u64 (k : Int) = .i .u64 (k : Int) := by unfold wrapR; simp [IntKind.wrap, IntKind.signed, IntKind.bits]; omega
  obtain ⟨b1, b2⟩ := bit_run (s := s0) (k := k) hs0 (by omega)
  have ldb : dkc pg (den pg) (.ld 2 true) [.ref 0 0] H = some (.agg [.i .i64 ba, .i .i64 bb], H) := by
    rw [k_ldR, hb.box, ldC_some]; simp [Dn.part, up]
  have c74 := call74v hF hm hnl hk hba hbb H
  by_cases hkn : k ∈ s.keys
  · have hst : s.step (wE X s0 ba bb) now k = s := by
      unfold Sr.step
      rw [if_neg (by simp [hkn])]
    obtain ⟨v, hlk⟩ := hb.map.known (pg := pg) (R := den pg) (q := k) hi.once hkn
    refine ⟨Q, H, ?_, by rw [hst]; exact hb⟩
    rw [l56_1, den_loop]
    simp [l56_1, b56_0, go_nil, go_last, go_past, go_pastR, go_blkN, go_blkR, go_blkE, go_skip, go_exit, go_ret, go_scope, go_seq, go_reg, go_regd, go_opdN, go_opd, go_opdG, grdd_b, grdd_u, stpd_some, find_some, go_block, go_cond, cnd_b, go_opsN, go_ops, go_opsG, grd_b, grd_u, stp_some, fin_some, up_some, cont_some, k_call, k_mv, k_pick, k_bin, k_eqB, k_eqA, k_not, k_neg, k_conv, k_alloc, k_boxA, k_boxI, k_boxB, k_boxN, k_boxBs, k_ldR, k_ldA, k_ldI, k_ldB, k_stA, k_stI, k_stB, ldC_some, stC_some, k_mkfn, k_slc, k_slcA, k_ixA, k_ixBs, k_ixSl, k_fadr, k_fld, k_ext, k_len, k_app, k_mn, k_mx, k_nilck, k_build, k_bsl1, k_bsl2, b_add, b_sub, b_mul, b_eql, b_neq, b_lss, b_leq, b_gtr, b_geq, Dn.setLast, Dn.getLast, evalO, mapO, Dn.get, putE, keepE, TV.one, TV.isAgg, Dn.part, e1, e2, hlk]
  · have hlk := hb.map.unknown (pg := pg) (R := den pg) (q := k) hkn
    cases hbit : s0.testBit k with
    | false =>
      have hE : wE X s0 ba bb now k = false := by simp [wE, hbit]
      have hst : s.step (wE X s0 ba bb) now k = s := by
        unfold Sr.step
        rw [if_neg (by simp [hE])]
      refine ⟨Q, H, ?_, by rw [hst]; exact hb⟩
      generalize ((s0 / 2 ^ k : Nat) : Int) = sh at b1 b2
      rw [l56_1, den_loop]
      simp [l56_1, b56_0, go_nil, go_last, go_past, go_pastR, go_blkN, go_blkR, go_blkE, go_skip, go_exit, go_ret, go_scope, go_seq, go_reg, go_regd, go_opdN, go_opd, go_opdG, grdd_b, grdd_u, stpd_some, find_some, go_block, go_cond, cnd_b, go_opsN, go_ops, go_opsG, grd_b, grd_u, stp_some, fin_some, up_some, cont_some, k_call, k_mv, k_pick, k_bin, k_eqB, k_eqA, k_not, k_neg, k_conv, k_alloc, k_boxA, k_boxI, k_boxB, k_boxN, k_boxBs, k_ldR, k_ldA, k_ldI, k_ldB, k_stA, k_stI, k_stB, ldC_some, stC_some, k_mkfn, k_slc, k_slcA, k_ixA, k_ixBs, k_ixSl, k_fadr, k_fld, k_ext, k_len, k_app, k_mn, k_mx, k_nilck, k_build, k_bsl1, k_bsl2, b_add, b_sub, b_mul, b_eql, b_neq, b_lss, b_leq, b_gtr, b_geq, Dn.setLast, Dn.getLast, evalO, mapO, Dn.get, putE, keepE, TV.one, TV.isAgg, Dn.part, e1, e2, hlk, eU, b1, b2, bitV_1, hbit]
    | true =>
      by_cases hp : 0 < pref X ba bb now k
      · have hE : wE X s0 ba bb now k = true := by simp [wE, hbit, hp, hnl, hk]
        have hst : s.step (wE X s0 ba bb) now k = ⟨s.M ++ [(k, now)], s.qs ++ [k]⟩ := by
          unfold Sr.step
          rw [if_pos (by simp [hE, hkn])]
        obtain ⟨H1, m1, m2, m3, m4⟩ := hb.map.put (pg := pg) (R := den pg) (q := k) (b := now) hkn
        have hml := hb.map.lt
        have hq1 : Que H1 Q (nI s.qs) := hb.que.mono fun id hid => m4 id (by have := hb.ids id hid; omega)
        obtain ⟨Q', H2, q1, q2, q3, q4, q5⟩ := hq1.app (x := (k : Int)) (by rw [nI_len]; omega)
        have hids : ∀ id, Q'.idOf = some id → 2 ≤ id := by
          intro id hid
          rcases q5 with q5 | q5
          · exact hb.ids id (by rw [← q5]; exact hid)
          · have := q5 id hid; omega
        refine ⟨Q', H2, ?_, ?_⟩
        · generalize ((s0 / 2 ^ k : Nat) : Int) = sh at b1 b2
          rw [l56_1, den_loop]
          simp [l56_1, b56_0, go_nil, go_last, go_past, go_pastR, go_blkN, go_blkR, go_blkE, go_skip, go_exit, go_ret, go_scope, go_seq, go_reg, go_regd, go_opdN, go_opd, go_opdG, grdd_b, grdd_u, stpd_some, find_some, go_block, go_cond, cnd_b, go_opsN, go_ops, go_opsG, grd_b, grd_u, stp_some, fin_some, up_some, cont_some, k_call, k_mv, k_pick, k_bin, k_eqB, k_eqA, k_not, k_neg, k_conv, k_alloc, k_boxA, k_boxI, k_boxB, k_boxN, k_boxBs, k_ldR, k_ldA, k_ldI, k_ldB, k_stA, k_stI, k_stB, ldC_some, stC_some, k_mkfn, k_slc, k_slcA, k_ixA, k_ixBs, k_ixSl, k_fadr, k_fld, k_ext, k_len, k_app, k_mn, k_mx, k_nilck, k_build, k_bsl1, k_bsl2, b_add, b_sub, b_mul, b_eql, b_neq, b_lss, b_leq, b_gtr, b_geq, Dn.setLast, Dn.getLast, evalO, mapO, Dn.get, putE, keepE, TV.one, TV.isAgg, Dn.part, e1, e2, hlk, eU, b1, b2, bitV_1, hbit, ldb, c74, hp, m1, q1]
        · rw [hst]
          refine ⟨?_, m2.mono (q4 1 (by omega) (fun he => by have := hb.ids 1 he; omega)), ?_, hids⟩
          · rw [q4 0 (by omega) (fun he => by have := hb.ids 0 he; omega), m4 0 (by omega)]; exact hb.box
          · simpa [nI] using q2
      · have hE : wE X s0 ba bb now k = false := by simp [wE, hp]
        have hst : s.step (wE X s0 ba bb) now k = s := by
          unfold Sr.step
          rw [if_neg (by simp [hE])]
        refine ⟨Q, H, ?_, by rw [hst]; exact hb⟩
        generalize ((s0 / 2 ^ k : Nat) : Int) = sh at b1 b2
        rw [l56_1, den_loop]
        simp [l56_1, b56_0, go_nil, go_last, go_past, go_pastR, go_blkN, go_blkR, go_blkE, go_skip, go_exit, go_ret, go_scope, go_seq, go_reg, go_regd, go_opdN, go_opd, go_opdG, grdd_b, grdd_u, stpd_some, find_some, go_block, go_cond, cnd_b, go_opsN, go_ops, go_opsG, grd_b, grd_u, stp_some, fin_some, up_some, cont_some, k_call, k_mv, k_pick, k_bin, k_eqB, k_eqA, k_not, k_neg, k_conv, k_alloc, k_boxA, k_boxI, k_boxB, k_boxN, k_boxBs, k_ldR, k_ldA, k_ldI, k_ldB, k_stA, k_stI, k_stB, ldC_some, stC_some, k_mkfn, k_slc, k_slcA, k_ixA, k_ixBs, k_ixSl, k_fadr, k_fld, k_ext, k_len, k_app, k_mn, k_mx, k_nilck, k_build, k_bsl1, k_bsl2, b_add, b_sub, b_mul, b_eql, b_neq, b_lss, b_leq, b_gtr, b_geq, Dn.setLast, Dn.getLast, evalO, mapO, Dn.get, putE, keepE, TV.one, TV.isAgg, Dn.part, e1, e2, hlk, eU, b1, b2, bitV_1, hbit, ldb, c74, hp]

theorem l56_1_all {pg : Pg} (hF : Free pg) {X : List Obs} {g : Nat} (hm : Market X g) {s0 : Nat} (hs0 : s0 < 65536) {ba bb : Int} (hba : 0 ≤ ba ∧ ba ≤ 1000000) (hbb : 0 ≤ bb ∧ bb ≤ 1000000) {a now : Nat} {A T : TV} : ∀ (d k : Nat) (Q : TV) (H : Heap) (s : Sr), k + d = X.length → SInv (wE X s0 ba bb) X.length a s → now ∈ s.keys → SB ba bb H s Q → s.mu X.length ≤ 1000 →
    ∃ e Q' H', den pg l56_1 [(0, mV X), (1, A), (2, T), (3, .i .i64 (s0 : Int)), (9, .ref 0 0), (11, .mp 1), (12, Q), (13, .i .i64 (now : Int)), (40, .i .i64 (X.length : Int)), (41, .i .i64 (k : Int))] H = some ⟨.exit 2, e, H'⟩ ∧
      keepE [0, 1, 2, 3, 9, 11, 12] e = [(0, mV X), (1, A), (2, T), (3, .i .i64 (s0 : Int)), (9, .ref 0 0), (11, .mp 1), (12, Q')] ∧ SB ba bb H' (Sr.steps (wE X s0 ba bb) now s ((List.range X.length).drop k)) Q'
  | 0, k, Q, H, s, h, hi, hn, hb, hmu => by
    have e1 : ¬ ((k : Int) < (X.length : Int)) := by omega
    refine ⟨[(0, mV X), (1, A), (2, T), (3, .i .i64 (s0 : Int)), (9, .ref 0 0), (11, .mp 1), (12, Q), (13, .i .i64 (now : Int)), (40, .i .i64 (X.length : Int)), (41, .i .i64 (k : Int)), (42, .b false)], Q, H, ?_, rfl, ?_⟩
    · rw [l56_1, den_loop]
      simp [b56_0, go_nil, go_last, go_past, go_pastR, go_blkN, go_blkR, go_blkE, go_skip, go_exit, go_ret, go_scope, go_seq, go_reg, go_regd, go_opdN, go_opd, go_opdG, grdd_b, grdd_u, stpd_some, find_some, go_block, go_cond, cnd_b, go_opsN, go_ops, go_opsG, grd_b, grd_u, stp_some, fin_some, up_some, cont_some, k_call, k_mv, k_pick, k_bin, k_eqB, k_eqA, k_not, k_neg, k_conv, k_alloc, k_boxA, k_boxI, k_boxB, k_boxN, k_boxBs, k_ldR, k_ldA, k_ldI, k_ldB, k_stA, k_stI, k_stB, ldC_some, stC_some, k_mkfn, k_slc, k_slcA, k_ixA, k_ixBs, k_ixSl, k_fadr, k_fld, k_ext, k_len, k_app, k_mn, k_mx, k_nilck, k_build, k_bsl1, k_bsl2, b_add, b_sub, b_mul, b_eql, b_neq, b_lss, b_leq, b_gtr, b_geq, Dn.setLast, Dn.getLast, evalO, mapO, Dn.get, putE, keepE, TV.one, TV.isAgg, Dn.part, e1]
    · rw [List.drop_eq_nil_of_le (by simp; omega)]; exact hb
  | d + 1, k, Q, H, s, h, hi, hn, hb, hmu => by
    have hk : k < X.length := by omega
    have hlt := wE_lt (X := X) (s := s0) (ba := ba) (bb := bb)
    obtain ⟨Q1, H1, h1, h2⟩ := l56_1_round hF hm hs0 hba hbb (A := A) (T := T) hi hn hk hb (by simp only [Sr.mu] at hmu; omega)
    have hmu1 := Sr.step_mu hi hn (hlt now k)
    obtain ⟨e, Q2, H2, h3, h4, h5⟩ := l56_1_all hF hm hs0 hba hbb (A := A) (T := T) d (k + 1) Q1 H1 _ (by omega) (hi.step hn (hlt now k)) (Sr.step_mono hn) h2 (by omega)
    refine ⟨e, Q2, H2, h1.trans h3, h4, ?_⟩
    rw [range_drop hk]
    exact h5

theorem den_keep {pg : Pg} (ks : List Nat) (x : DC) (e : Env) (H : Heap) : den pg (.loop ks x) e H = den pg (.loop ks x) (keepE ks e) H := by
  rw [den_loop, den_loop ks x (keepE ks e), keepE_keepE]

theorem l56_3_all {pg : Pg} (hF : Free pg) {X : List Obs} {g : Nat} (hm : Market X g) {s0 : Nat} (hs0 : s0 < 65536) {ba bb : Int} (hba : 0 ≤ ba ∧ ba ≤ 1000000) (hbb : 0 ≤ bb ∧ bb ≤ 1000000) {a t : Nat} {A : TV} : ∀ (m : Nat) (Q : TV) (H : Heap) (s : Sr), s.mu X.length ≤ m → m ≤ 1000 → SInv (wE X s0 ba bb) X.length a s → s.Clo (wE X s0 ba bb) → SB ba bb H s Q →
    ∃ e H' s', den pg l56_3 [(0, mV X), (1, A), (2, .i .i64 (t : Int)), (3, .i .i64 (s0 : Int)), (9, .ref 0 0), (11, .mp 1), (12, Q)] H = some ⟨.exit 0, e, H'⟩ ∧
      Dn.get e 1 = some A ∧ Dn.get e 2 = some (.i .i64 (t : Int)) ∧ Dn.get e 11 = some (.mp 1) ∧ MapAt H' 1 s'.M ∧ SInv (wE X s0 ba bb) X.length a s' ∧ (t ∈ s'.keys ∨ s'.qs = [] ∧ s'.Clo (wE X s0 ba bb))
  | m, Q, H, s, hmu, hm1, hi, hc, hb => by
    have hlen := hb.que.view.lenK
    rw [nI_len] at hlen
    match hqs : s.qs with
    | [] =>
      rw [hqs] at hlen
      refine ⟨[(0, mV X), (1, A), (2, .i .i64 (t : Int)), (3, .i .i64 (s0 : Int)), (9, .ref 0 0), (11, .mp 1), (12, Q), (28, .b false)], H, s, ?_, rfl, rfl, rfl, hb.map, hi, .inr ⟨hqs, hc⟩⟩
      rw [l56_3, den_loop]
      simp [b56_2, go_nil, go_last, go_past, go_pastR, go_blkN, go_blkR, go_blkE, go_skip, go_exit, go_ret, go_scope, go_seq, go_reg, go_regd, go_opdN, go_opd, go_opdG, grdd_b, grdd_u, stpd_some, find_some, go_block, go_cond, cnd_b, go_opsN, go_ops, go_opsG, grd_b, grd_u, stp_some, fin_some, up_some, cont_some, k_call, k_mv, k_pick, k_bin, k_eqB, k_eqA, k_not, k_neg, k_conv, k_alloc, k_boxA, k_boxI, k_boxB, k_boxN, k_boxBs, k_ldR, k_ldA, k_ldI, k_ldB, k_stA, k_stI, k_stB, ldC_some, stC_some, k_mkfn, k_slc, k_slcA, k_ixA, k_ixBs, k_ixSl, k_fadr, k_fld, k_ext, k_len, k_app, k_mn, k_mx, k_nilck, k_build, k_bsl1, k_bsl2, b_add, b_sub, b_mul, b_eql, b_neq, b_lss, b_leq, b_gtr, b_geq, Dn.setLast, Dn.getLast, evalO, mapO, Dn.get, putE, keepE, TV.one, TV.isAgg, Dn.part, hlen]
    | now :: rest =>
      have hn : now ∈ s.keys := hi.qin now (by rw [hqs]; simp)
      rw [hqs] at hlen
      have e0 : (0 : Int) < (rest.length : Int) + 1 := by omega
      have hque := hb.que
      rw [hqs] at hque
      obtain ⟨p, hp, hv⟩ := ixI (pg := pg) (R := den pg) hque.view (i := 0) (x := (now : Int)) rfl
      simp only [Int.natCast_zero] at hp
      obtain ⟨Q1, t1, t2, t3⟩ := Que.tail (x := (now : Int)) (l := nI rest) hque
      have fN := fadr_mN (pg := pg) (R := den pg) true (X.length : Int) (costF X) H
      by_cases hnt : now = t
      · subst hnt
        refine ⟨[(0, mV X), (1, A), (2, .i .i64 (now : Int)), (3, .i .i64 (s0 : Int)), (9, .ref 0 0), (11, .mp 1), (12, Q1), (13, .i .i64 (now : Int)), (36, .b true)], H, s, ?_, rfl, rfl, rfl, hb.map, hi, .inl hn⟩
        rw [l56_3, den_loop]
        simp [b56_2, go_nil, go_last, go_past, go_pastR, go_blkN, go_blkR, go_blkE, go_skip, go_exit, go_ret, go_scope, go_seq, go_reg, go_regd, go_opdN, go_opd, go_opdG, grdd_b, grdd_u, stpd_some, find_some, go_block, go_cond, cnd_b, go_opsN, go_ops, go_opsG, grd_b, grd_u, stp_some, fin_some, up_some, cont_some, k_call, k_mv, k_pick, k_bin, k_eqB, k_eqA, k_not, k_neg, k_conv, k_alloc, k_boxA, k_boxI, k_boxB, k_boxN, k_boxBs, k_ldR, k_ldA, k_ldI, k_ldB, k_stA, k_stI, k_stB, ldC_some, stC_some, k_mkfn, k_slc, k_slcA, k_ixA, k_ixBs, k_ixSl, k_fadr, k_fld, k_ext, k_len, k_app, k_mn, k_mx, k_nilck, k_build, k_bsl1, k_bsl2, b_add, b_sub, b_mul, b_eql, b_neq, b_lss, b_leq, b_gtr, b_geq, Dn.setLast, Dn.getLast, evalO, mapO, Dn.get, putE, keepE, TV.one, TV.isAgg, Dn.part, hlen, e0, hp, hv, t1]
      · have e3 : ((now : Int) == (t : Int)) = false := by simp; omega
        obtain ⟨r1, r2, r3⟩ := Sr.round wE_lt hi hc hqs
        have hi' : SInv (wE X s0 ba bb) X.length a ⟨s.M, rest⟩ := ⟨hi.start, hi.sound, hi.lt, hi.once, fun q hx => hi.qin q (by rw [hqs]; simp [hx]), hi.way⟩
        have hb1 : SB ba bb H ⟨s.M, rest⟩ Q1 := ⟨hb.box, hb.map, t2, fun id hid => hb.ids id (by rw [← t3]; exact hid)⟩
        obtain ⟨e, Q2, H2, h1, h2, h3⟩ := l56_1_all hF hm hs0 hba hbb (A := A) (T := .i .i64 (t : Int)) X.length 0 Q1 H ⟨s.M, rest⟩ (by omega) hi' hn hb1 (by simp only [Sr.mu] at hmu ⊢; rw [hqs] at hmu; simp at hmu; omega)
        simp only [Int.natCast_zero, List.drop_zero] at h1 h3
        have g0 := keep_get h2 (s := 0) (by simp) rfl
        have g1 := keep_get h2 (s := 1) (by simp) rfl
        have g2 := keep_get h2 (s := 2) (by simp) rfl
        have g3 := keep_get h2 (s := 3) (by simp) rfl
        have g9 := keep_get h2 (s := 9) (by simp) rfl
        have g11 := keep_get h2 (s := 11) (by simp) rfl
        have g12 := keep_get h2 (s := 12) (by simp) rfl
        match m, hmu with
        | m + 1, hmu =>
          obtain ⟨e', H', s', k1, k2, k3, k4, k5, k6, k7⟩ := l56_3_all hF hm hs0 hba hbb (A := A) (t := t) m Q2 H2 _ (by omega) (by omega) r1 r2 h3
          refine ⟨e', H', s', Eq.trans ?_ k1, k2, k3, k4, k5, k6, k7⟩
          rw [l56_3, den_loop]
          simp only [mV, mX] at h1 fN g0 ⊢
          simp [l56_3, b56_2, go_nil, go_last, go_past, go_pastR, go_blkN, go_blkR, go_blkE, go_skip, go_exit, go_ret, go_scope, go_seq, go_reg, go_regd, go_opdN, go_opd, go_opdG, grdd_b, grdd_u, stpd_some, find_some, go_block, go_cond, cnd_b, go_opsN, go_ops, go_opsG, grd_b, grd_u, stp_some, fin_some, up_some, cont_some, k_call, k_mv, k_pick, k_bin, k_eqB, k_eqA, k_not, k_neg, k_conv, k_alloc, k_boxA, k_boxI, k_boxB, k_boxN, k_boxBs, k_ldR, k_ldA, k_ldI, k_ldB, k_stA, k_stI, k_stB, ldC_some, stC_some, k_mkfn, k_slc, k_slcA, k_ixA, k_ixBs, k_ixSl, k_fadr, k_fld, k_ext, k_len, k_app, k_mn, k_mx, k_nilck, k_build, k_bsl1, k_bsl2, b_add, b_sub, b_mul, b_eql, b_neq, b_lss, b_leq, b_gtr, b_geq, Dn.setLast, Dn.getLast, evalO, mapO, Dn.get, putE, keepE, TV.one, TV.isAgg, Dn.part, hlen, e0, hp, hv, t1, e3, k_nilckB, fN, go_denK (c := l56_1) rfl, h1]
          rw [den_keep, h2]
          rfl
        | 0, hmu => simp only [Sr.mu] at hmu; rw [hqs] at hmu; simp at hmu
termination_by m => m

/-- the way back -/
theorem l56_5_all {pg : Pg} {E : Nat → Nat → Bool} {M : List (Nat × Nat)} (hn : (M.map (·.1)).Nodup) {a cur : Nat} {p : List Nat} (ht : Trail E M a cur p) : ∀ (out : TV) (done : List Nat) (H : Heap), MapAt H 1 M → Que H out (nI (done ++ [cur])) → out.idOf ≠ some 1 → done.length + p.length ≤ 1000 →
    ∃ e out' H', den pg l56_5 [(1, .i .i64 (a : Int)), (2, .i .i64 (cur : Int)), (11, .mp 1), (19, out)] H = some ⟨.exit 4, e, H'⟩ ∧ Dn.get e 19 = some out' ∧ Que H' out' (nI (done ++ p)) := by
  induction ht with
  | here =>
    intro out done H hm hq hne hl
    refine ⟨[(1, .i .i64 (a : Int)), (2, .i .i64 (a : Int)), (11, .mp 1), (19, out), (88, .b false)], out, H, ?_, rfl, hq⟩
    rw [l56_5, den_loop]
    simp [b56_4, go_nil, go_last, go_past, go_pastR, go_blkN, go_blkR, go_blkE, go_skip, go_exit, go_ret, go_scope, go_seq, go_reg, go_regd, go_opdN, go_opd, go_opdG, grdd_b, grdd_u, stpd_some, find_some, go_block, go_cond, cnd_b, go_opsN, go_ops, go_opsG, grd_b, grd_u, stp_some, fin_some, up_some, cont_some, k_call, k_mv, k_pick, k_bin, k_eqB, k_eqA, k_not, k_neg, k_conv, k_alloc, k_boxA, k_boxI, k_boxB, k_boxN, k_boxBs, k_ldR, k_ldA, k_ldI, k_ldB, k_stA, k_stI, k_stB, ldC_some, stC_some, k_mkfn, k_slc, k_slcA, k_ixA, k_ixBs, k_ixSl, k_fadr, k_fld, k_ext, k_len, k_app, k_mn, k_mx, k_nilck, k_build, k_bsl1, k_bsl2, b_add, b_sub, b_mul, b_eql, b_neq, b_lss, b_leq, b_gtr, b_geq, Dn.setLast, Dn.getLast, evalO, mapO, Dn.get, putE, keepE, TV.one, TV.isAgg, Dn.part]
  | @step t b p h1 h2 h3 h4 h5 ih =>
    intro out done H hm hq hne hl
    have hne' : ((t : Int) != (a : Int)) = true := by simp; omega
    have hv := hm.val (pg := pg) (R := den pg) hn h2
    simp only [List.length_cons] at hl
    obtain ⟨out1, H1, q1, q2, q3, q4, q5⟩ := hq.app (x := (b : Int)) (by rw [nI_len]; simp; omega)
    have hml := hm.lt
    have hne1 : out1.idOf ≠ some 1 := by
      rcases q5 with q5 | q5
      · rw [q5]; exact hne
      · intro he; have := q5 1 he; omega
    obtain ⟨e, out2, H2, k1, k2, k3⟩ := ih out1 (done ++ [t]) H1 (hm.mono (q4 1 hml hne)) (by simpa [nI] using q2) hne1 (by simp; omega)
    refine ⟨e, out2, H2, Eq.trans ?_ k1, k2, by simpa using k3⟩
    rw [l56_5, den_loop]
    simp [l56_5, b56_4, go_nil, go_last, go_past, go_pastR, go_blkN, go_blkR, go_blkE, go_skip, go_exit, go_ret, go_scope, go_seq, go_reg, go_regd, go_opdN, go_opd, go_opdG, grdd_b, grdd_u, stpd_some, find_some, go_block, go_cond, cnd_b, go_opsN, go_ops, go_opsG, grd_b, grd_u, stp_some, fin_some, up_some, cont_some, k_call, k_mv, k_pick, k_bin, k_eqB, k_eqA, k_not, k_neg, k_conv, k_alloc, k_boxA, k_boxI, k_boxB, k_boxN, k_boxBs, k_ldR, k_ldA, k_ldI, k_ldB, k_stA, k_stI, k_stB, ldC_some, stC_some, k_mkfn, k_slc, k_slcA, k_ixA, k_ixBs, k_ixSl, k_fadr, k_fld, k_ext, k_len, k_app, k_mn, k_mx, k_nilck, k_build, k_bsl1, k_bsl2, b_add, b_sub, b_mul, b_eql, b_neq, b_lss, b_leq, b_gtr, b_geq, Dn.setLast, Dn.getLast, evalO, mapO, Dn.get, putE, keepE, TV.one, TV.isAgg, Dn.part, hne', hv, q1]

/-- what a way is, from one to another one -/
structure IsWay (E : Nat → Nat → Bool) (n a t : Nat) (r : List Nat) : Prop where
  first : r.head? = some a
  last : r.getLast? = some t
  nodup : r.Nodup
  lt : ∀ x ∈ r, x < n
  link : ∀ i x y, r[i]? = some x → r[i + 1]? = some y → E x y = true

theorem IsWay.of {E : Nat → Nat → Bool} {n a t : Nat} {s : Sr} {p : List Nat} (hi : SInv E n a s) (h : Trail E s.M a t p) : IsWay E n a t p.reverse := by
  refine ⟨?_, ?_, ?_, ?_, ?_⟩
  · obtain ⟨q, rfl⟩ := h.last; simp
  · obtain ⟨q, rfl⟩ := h.head; simp
  · exact List.pairwise_reverse.2 (h.nodup.imp fun hne he => hne he.symm)
  · intro x hx
    rw [List.mem_reverse] at hx
    exact hi.lt x (h.keys hi.start x hx)
  · intro i x y hx hy
    have hi1 := (List.getElem?_eq_some_iff.1 hy).1
    simp only [List.length_reverse] at hi1
    rw [List.getElem?_reverse (by omega)] at hx hy
    have := h.link (p.length - 1 - (i + 1)) y x hy (by rw [show p.length - 1 - (i + 1) + 1 = p.length - 1 - i by omega]; exact hx)
    exact this

theorem IsWay.ne {E : Nat → Nat → Bool} {n a t : Nat} {r : List Nat} (h : IsWay E n a t r) : r ≠ [] := by rintro rfl; have := h.first; simp at this

theorem fn56 {pg : Pg} (hF : Free pg) {X : List Obs} {g : Nat} (hm : Market X g) {s0 : Nat} (hs0 : s0 < 65536) {ba bb : Int} (hba : 0 ≤ ba ∧ ba ≤ 1000000) (hbb : 0 ≤ bb ∧ bb ≤ 1000000) {a t : Nat} (ha : a < X.length) :
    ∃ r : List Nat, PFn pg 56 [mV X, .i .i64 (a : Int), .i .i64 (t : Int), .i .i64 (s0 : Int), shV ba bb] (elI.lt false (nI r)) ∧ (r = [] ↔ ¬ Rch (wE X s0 ba bb) a t) ∧ (r ≠ [] → IsWay (wE X s0 ba bb) X.length a t r) := by
  have hn5 := hm.n5
  let s1 : Sr := ⟨[(a, a)], [a]⟩
  have hi := SInv.init (E := wE X s0 ba bb) ha
  have hc : s1.Clo (wE X s0 ba bb) := fun q hq => .inl (by simpa [s1, Sr.keys] using hq)
  let H0 : Heap := [.cells [.i .i64 ba, .i .i64 bb] true, .map [(.i .i64 (a : Int), .i .i64 (a : Int), 0)] 1, .cells [.i .i64 (a : Int)] false]
  have hb : SB ba bb H0 s1 (.sl 2 0 1 false 1 (some 1)) :=
    ⟨rfl, ⟨_, _, rfl, rfl⟩, ⟨2, 0, some 1, _, false, rfl, rfl, by simp [nI, s1], rfl, fun k hk => by cases hk; exact ⟨Nat.le_refl _, by simp⟩⟩, fun id hid => by simp [TV.idOf] at hid; omega⟩
  obtain ⟨e, H1, s', h1, g1, g2, g11, hmap, hi', hend⟩ := l56_3_all hF hm hs0 hba hbb (a := a) (t := t) (A := .i .i64 (a : Int)) (s1.mu X.length) (.sl 2 0 1 false 1 (some 1)) H0 s1 (Nat.le_refl _) (by simp only [Sr.mu, s1]; simp; omega) hi hc hb
  have ms : dkc pg (den pg) (.mset .int) [.mp 1, .i .i64 (a : Int), .i .i64 (a : Int)] [.cells [.i .i64 ba, .i .i64 bb] true, .map [] 0] = some (.undef, [.cells [.i .i64 ba, .i .i64 bb] true, .map [(.i .i64 (a : Int), .i .i64 (a : Int), 0)] 1]) := by
    simp [dkc, dk, findK, eqK, eqS]
  have mk : dkc pg (den pg) .mkmap [] [.cells [.i .i64 ba, .i .i64 bb] true] = some (.mp 1, [.cells [.i .i64 ba, .i .i64 bb] true, .map [] 0]) := rfl
  have hd : pg.F 56 = some d56 := by rw [hF.F]; rfl
  by_cases hk : t ∈ s'.keys
  · obtain ⟨p, hp⟩ := hi'.way t hk
    obtain ⟨v, hlk⟩ := hmap.known (pg := pg) (R := den pg) (q := t) hi'.once hk
    have hpl := nodup_len X.length p hp.nodup fun x hx => hi'.lt x (hp.keys hi'.start x hx)
    have hml := hmap.lt
    have hmap2 : MapAt (H1 ++ [.cells [.i .i64 (t : Int)] false]) 1 s'.M := hmap.mono (List.getElem?_append_left hml)
    have hq0 : Que (H1 ++ [.cells [.i .i64 (t : Int)] false]) (.sl H1.length 0 1 false 1 (some 1)) (nI ([] ++ [t])) :=
      ⟨H1.length, 0, some 1, _, false, rfl, getLast _ _, by simp [nI], rfl, fun k hk => by cases hk; exact ⟨Nat.le_refl _, by simp⟩⟩
    obtain ⟨e2, out, H2, k1, k2, k3⟩ := l56_5_all (pg := pg) hi'.once hp (.sl H1.length 0 1 false 1 (some 1)) [] _ hmap2 hq0 (by intro he; simp [TV.idOf] at he; omega) (by simp; omega)
    rw [List.nil_append] at k3
    obtain ⟨r, H3, r1, r2, r3, r4⟩ := body80 hF k3 (by rw [nI_len]; omega)
    have hw := IsWay.of hi' hp
    have hrev : (nI p).reverse = nI p.reverse := by simp [nI]
    rw [hrev] at r2
    have hne : nI p.reverse ≠ [] := by intro h; exact hw.ne (by simpa [nI] using h)
    refine ⟨p.reverse, .of_go (x := .ret) (e := [(10, out)]) (H' := H3) (vs := [out]) (hF.S _ _ (by decide)) hd rfl ?_ (.inl rfl) rfl (by rw [El.lt_ne hne]; exact r2.fin 7), ⟨fun h => absurd h hw.ne, fun h => absurd (hi'.sound t hk) h⟩, fun _ => hw⟩
    simp [d56, c56, zipE, go_nil, go_last, go_past, go_pastR, go_blkN, go_blkR, go_blkE, go_skip, go_exit, go_ret, go_scope, go_seq, go_reg, go_regd, go_opdN, go_opd, go_opdG, grdd_b, grdd_u, stpd_some, find_some, go_block, go_cond, cnd_b, go_opsN, go_ops, go_opsG, grd_b, grd_u, stp_some, fin_some, up_some, cont_some, k_call, k_mv, k_pick, k_bin, k_eqB, k_eqA, k_not, k_neg, k_conv, k_alloc, k_boxA, k_boxI, k_boxB, k_boxN, k_boxBs, k_ldR, k_ldA, k_ldI, k_ldB, k_stA, k_stI, k_stB, ldC_some, stC_some, k_mkfn, k_slc, k_slcA, k_ixA, k_ixBs, k_ixSl, k_fadr, k_fld, k_ext, k_len, k_app, k_mn, k_mx, k_nilck, k_build, k_bsl1, k_bsl2, b_add, b_sub, b_mul, b_eql, b_neq, b_lss, b_leq, b_gtr, b_geq, Dn.setLast, Dn.getLast, evalO, mapO, Dn.get, putE, keepE, TV.one, TV.isAgg, Dn.part, shV, mk, ms, go_denK (c := l56_3) rfl, H0] at h1 ⊢
    simp [h1, go_nil, go_last, go_past, go_pastR, go_blkN, go_blkR, go_blkE, go_skip, go_exit, go_ret, go_scope, go_seq, go_reg, go_regd, go_opdN, go_opd, go_opdG, grdd_b, grdd_u, stpd_some, find_some, go_block, go_cond, cnd_b, go_opsN, go_ops, go_opsG, grd_b, grd_u, stp_some, fin_some, up_some, cont_some, k_call, k_mv, k_pick, k_bin, k_eqB, k_eqA, k_not, k_neg, k_conv, k_alloc, k_boxA, k_boxI, k_boxB, k_boxN, k_boxBs, k_ldR, k_ldA, k_ldI, k_ldB, k_stA, k_stI, k_stB, ldC_some, stC_some, k_mkfn, k_slc, k_slcA, k_ixA, k_ixBs, k_ixSl, k_fadr, k_fld, k_ext, k_len, k_app, k_mn, k_mx, k_nilck, k_build, k_bsl1, k_bsl2, b_add, b_sub, b_mul, b_eql, b_neq, b_lss, b_leq, b_gtr, b_geq, Dn.setLast, Dn.getLast, evalO, mapO, Dn.get, putE, keepE, TV.one, TV.isAgg, Dn.part, g1, g2, g11, hlk, go_denK (c := l56_5) rfl, k1, k2, sh_fn, r1]
  · have hlk := hmap.unknown (pg := pg) (R := den pg) (q := t) hk
    have hno : ¬ Rch (wE X s0 ba bb) a t := by
      intro hr
      rcases hend with h | ⟨h, hcl⟩
      · exact hk h
      · exact hk (Sr.all hi' hcl h hr)
    refine ⟨[], .of1 (x := .ret) (e := [(10, .nilsl)]) (H' := H1) (hF.S _ _ (by decide)) hd rfl ?_ (.inl rfl) rfl (by simp [sn_i, sn_b, sn_nil, sn8_i, sn8_b, sn8_nil, sn7_i, sn7_b, sn_sl, sn8_sl, slB_some, sn_tup, sn_agg, sn8_agg, mapO, elems, nI, El.lt]), ⟨fun _ => hno, fun _ => rfl⟩, fun h => absurd rfl h⟩
    simp [d56, c56, zipE, go_nil, go_last, go_past, go_pastR, go_blkN, go_blkR, go_blkE, go_skip, go_exit, go_ret, go_scope, go_seq, go_reg, go_regd, go_opdN, go_opd, go_opdG, grdd_b, grdd_u, stpd_some, find_some, go_block, go_cond, cnd_b, go_opsN, go_ops, go_opsG, grd_b, grd_u, stp_some, fin_some, up_some, cont_some, k_call, k_mv, k_pick, k_bin, k_eqB, k_eqA, k_not, k_neg, k_conv, k_alloc, k_boxA, k_boxI, k_boxB, k_boxN, k_boxBs, k_ldR, k_ldA, k_ldI, k_ldB, k_stA, k_stI, k_stB, ldC_some, stC_some, k_mkfn, k_slc, k_slcA, k_ixA, k_ixBs, k_ixSl, k_fadr, k_fld, k_ext, k_len, k_app, k_mn, k_mx, k_nilck, k_build, k_bsl1, k_bsl2, b_add, b_sub, b_mul, b_eql, b_neq, b_lss, b_leq, b_gtr, b_geq, Dn.setLast, Dn.getLast, evalO, mapO, Dn.get, putE, keepE, TV.one, TV.isAgg, Dn.part, shV, mk, ms, go_denK (c := l56_3) rfl, H0] at h1 ⊢
    simp [h1, go_nil, go_last, go_past, go_pastR, go_blkN, go_blkR, go_blkE, go_skip, go_exit, go_ret, go_scope, go_seq, go_reg, go_regd, go_opdN, go_opd, go_opdG, grdd_b, grdd_u, stpd_some, find_some, go_block, go_cond, cnd_b, go_opsN, go_ops, go_opsG, grd_b, grd_u, stp_some, fin_some, up_some, cont_some, k_call, k_mv, k_pick, k_bin, k_eqB, k_eqA, k_not, k_neg, k_conv, k_alloc, k_boxA, k_boxI, k_boxB, k_boxN, k_boxBs, k_ldR, k_ldA, k_ldI, k_ldB, k_stA, k_stI, k_stB, ldC_some, stC_some, k_mkfn, k_slc, k_slcA, k_ixA, k_ixBs, k_ixSl, k_fadr, k_fld, k_ext, k_len, k_app, k_mn, k_mx, k_nilck, k_build, k_bsl1, k_bsl2, b_add, b_sub, b_mul, b_eql, b_neq, b_lss, b_leq, b_gtr, b_geq, Dn.setLast, Dn.getLast, evalO, mapO, Dn.get, putE, keepE, TV.one, TV.isAgg, Dn.part, g1, g2, g11, hlk, nI, El.lt]

end Go.Proofs.Tryd.Dn

/-
  A ring of a set, by a share: the program's.
-/

namespace Go.Proofs.Tryd.Dn
open Go.Dn

theorem pow5 {n : Nat} (hn : n ≤ 5) : 1 ≤ 2 ^ n ∧ 2 ^ n ≤ 32 := ⟨Nat.one_le_two_pow, Nat.pow_le_pow_right (by decide) hn⟩

theorem fn57 {pg : Pg} (hF : Free pg) {X : List Obs} {g : Nat} (hm : Market X g) : PFn pg 57 [mV X] (.i .i64 ((2 ^ X.length - 1 : Nat) : Int)) := by
  have hn5 := hm.n5
  obtain ⟨p1, p2⟩ := pow5 hn5
  have fN := fadr_mN (pg := pg) (R := den pg) true (X.length : Int) (costF X) []
  have eU : wrapR .u64 (X.length : Int) = .i .u64 (X.length : Int) := by unfold wrapR; simp [IntKind.wrap, IntKind.signed, IntKind.bits]; omega
  have hsh : binI .shl (.i .i64 1) (.i .u64 (X.length : Int)) = some (.i .i64 ((2 ^ X.length : Nat) : Int)) := by
    have h0 : ¬ (X.length : Int) < 0 := by omega
    have h1 : min X.length 64 = X.length := by omega
    have h3 : wrapR .i64 (((2 ^ X.length : Nat) : Int)) = .i .i64 ((2 ^ X.length : Nat) : Int) := wrapR_i64 (by omega)
    rw [Int.natCast_pow] at h3
    simp [binI, h0, h1, IntKind.bits]
    exact h3
  have e3 : wrapR .i64 (((2 ^ X.length : Nat) : Int) - 1) = .i .i64 ((2 ^ X.length - 1 : Nat) : Int) := by
    rw [show (((2 ^ X.length : Nat) : Int) - 1) = ((2 ^ X.length - 1 : Nat) : Int) by omega]; exact wrapR_i64 (by omega)
  generalize ((2 ^ X.length - 1 : Nat) : Int) = R at *
  generalize ((2 ^ X.length : Nat) : Int) = Q at *
  refine .of1 (x := .ret) (e := [(2, .i .i64 R)]) (H' := []) (hF.S _ _ (by decide)) (d := d57) (by rw [hF.F]; rfl) rfl ?_ (.inl rfl) rfl (by simp [sn_i, sn_b, sn_nil, sn8_i, sn8_b, sn8_nil, sn7_i, sn7_b, sn_sl, sn8_sl, slB_some, sn_tup, sn_agg, sn8_agg, mapO, elems])
  simp [d57, c57, zipE, go_nil, go_last, go_past, go_pastR, go_blkN, go_blkR, go_blkE, go_skip, go_exit, go_ret, go_scope, go_seq, go_reg, go_regd, go_opdN, go_opd, go_opdG, grdd_b, grdd_u, stpd_some, find_some, go_block, go_cond, cnd_b, go_opsN, go_ops, go_opsG, grd_b, grd_u, stp_some, fin_some, up_some, cont_some, k_call, k_mv, k_pick, k_bin, k_eqB, k_eqA, k_not, k_neg, k_conv, k_alloc, k_boxA, k_boxI, k_boxB, k_boxN, k_boxBs, k_ldR, k_ldA, k_ldI, k_ldB, k_stA, k_stI, k_stB, ldC_some, stC_some, k_mkfn, k_slc, k_slcA, k_ixA, k_ixBs, k_ixSl, k_fadr, k_fld, k_ext, k_len, k_app, k_mn, k_mx, k_nilck, k_build, k_bsl1, k_bsl2, b_add, b_sub, b_mul, b_eql, b_neq, b_lss, b_leq, b_gtr, b_geq, Dn.setLast, Dn.getLast, evalO, mapO, Dn.get, putE, keepE, TV.one, TV.isAgg, Dn.part, mV, mX, k_nilckB, fN, eU, hsh, e3]

theorem call57 {pg : Pg} (hF : Free pg) {X : List Obs} {g : Nat} (hm : Market X g) {M : Nat} {H : Heap} (hM : H[M]? = some (.cells (mX X) true)) : callRun pg (den pg) (.pu []) [.fn 57 [] [], .ref M 0] H = some (.i .i64 ((2 ^ X.length - 1 : Nat) : Int), H) :=
  PFn.call (fn57 hF hm) (args := [.ref M 0]) (by simp [snapArgs, mR_snap hM 7])

theorem all_bits {n k : Nat} : (2 ^ n - 1).testBit k = decide (k < n) := Nat.testBit_two_pow_sub_one n k

/-- the way as a call: with the market as a value -/
theorem call56v {pg : Pg} (hF : Free pg) {X : List Obs} {g : Nat} (hm : Market X g) {s0 : Nat} (hs0 : s0 < 65536) {ba bb : Int} (hba : 0 ≤ ba ∧ ba ≤ 1000000) (hbb : 0 ≤ bb ∧ bb ≤ 1000000) {a t : Nat} (ha : a < X.length) :
    ∃ r : List Nat, (∀ H, callRun pg (den pg) (.pu []) [.fn 56 [] [], mV X, .i .i64 (a : Int), .i .i64 (t : Int), .i .i64 (s0 : Int), .agg [.i .i64 ba, .i .i64 bb]] H = some (elI.lt false (nI r), H)) ∧
      (∀ H M, H[M]? = some (.cells (mX X) true) → callRun pg (den pg) (.pu []) [.fn 56 [] [], .ref M 0, .i .i64 (a : Int), .i .i64 (t : Int), .i .i64 (s0 : Int), .agg [.i .i64 ba, .i .i64 bb]] H = some (elI.lt false (nI r), H)) ∧
      (r = [] ↔ ¬ Rch (wE X s0 ba bb) a t) ∧ (r ≠ [] → IsWay (wE X s0 ba bb) X.length a t r) := by
  obtain ⟨r, h1, h2, h3⟩ := fn56 (t := t) hF hm hs0 hba hbb ha
  refine ⟨r, fun H => ?_, fun H M hM => ?_, h2, h3⟩
  · have h4 := mV_snap X H 6
    exact PFn.call h1 (args := [mV X, .i .i64 (a : Int), .i .i64 (t : Int), .i .i64 (s0 : Int), .agg [.i .i64 ba, .i .i64 bb]]) (by simp [snapArgs, sn_i, h4, sn_i, sn_b, sn_nil, sn8_i, sn8_b, sn8_nil, sn7_i, sn7_b, sn_sl, sn8_sl, slB_some, sn_tup, sn_agg, sn8_agg, mapO, elems]; rfl)
  · have h4 := mR_snap hM 7
    exact PFn.call h1 (args := [.ref M 0, .i .i64 (a : Int), .i .i64 (t : Int), .i .i64 (s0 : Int), .agg [.i .i64 ba, .i .i64 bb]]) (by simp [snapArgs, sn_i, h4, sn_i, sn_b, sn_nil, sn8_i, sn8_b, sn8_nil, sn7_i, sn7_b, sn_sl, sn8_sl, slB_some, sn_tup, sn_agg, sn8_agg, mapO, elems]; rfl)

theorem nil_ne {pg : Pg} {R : Rec} (r : List Nat) (H : Heap) : dkc pg R (.eqN 0 true) [elI.lt false (nI r), .nilsl] H = some (.b (decide (r ≠ [])), H) := by
  cases r <;> rfl

/-- a pair of a ring: one strictly preferred to another one, which leads back to it -/
def Pair (X : List Obs) (s : Nat) (ba bb : Int) (i k : Nat) : Prop := i ≠ k ∧ i < X.length ∧ k < X.length ∧ s.testBit i = true ∧ s.testBit k = true ∧ pref X ba bb i k = 2 ∧ Rch (wE X s ba bb) k i

theorem l60_1_all {pg : Pg} (hF : Free pg) {X : List Obs} {g : Nat} (hm : Market X g) {s0 : Nat} (hs0 : s0 < 65536) {ba bb : Int} (hba : 0 ≤ ba ∧ ba ≤ 1000000) (hbb : 0 ≤ bb ∧ bb ≤ 1000000) {i : Nat} (hi : i < X.length) : ∀ (d k : Nat), k + d = X.length →
    (∃ (r : List Nat) (k' : Nat), den pg l60_1 [(0, mV X), (1, .i .i64 (s0 : Int)), (5, .ref 0 0), (7, .i .i64 (i : Int)), (13, .i .i64 (X.length : Int)), (14, .i .i64 (i : Int)), (20, .i .i64 (X.length : Int)), (21, .i .i64 (k : Int))] [.cells [.i .i64 ba, .i .i64 bb] true] = some ⟨.ret, [(6, elI.lt false (nI r))], [.cells [.i .i64 ba, .i .i64 bb] true]⟩ ∧ r ≠ [] ∧ Pair X s0 ba bb i k' ∧ IsWay (wE X s0 ba bb) X.length k' i r) ∨
    (∃ e, den pg l60_1 [(0, mV X), (1, .i .i64 (s0 : Int)), (5, .ref 0 0), (7, .i .i64 (i : Int)), (13, .i .i64 (X.length : Int)), (14, .i .i64 (i : Int)), (20, .i .i64 (X.length : Int)), (21, .i .i64 (k : Int))] [.cells [.i .i64 ba, .i .i64 bb] true] = some ⟨.exit 2, e, [.cells [.i .i64 ba, .i .i64 bb] true]⟩ ∧
      keepE [0, 1, 5, 13, 14] e = [(0, mV X), (1, .i .i64 (s0 : Int)), (5, .ref 0 0), (13, .i .i64 (X.length : Int)), (14, .i .i64 (i : Int))] ∧ ∀ k', k ≤ k' → ¬ Pair X s0 ba bb i k')
  | 0, k, h => by
    have e1 : ¬ ((k : Int) < (X.length : Int)) := by omega
    refine .inr ⟨[(0, mV X), (1, .i .i64 (s0 : Int)), (5, .ref 0 0), (7, .i .i64 (i : Int)), (13, .i .i64 (X.length : Int)), (14, .i .i64 (i : Int)), (20, .i .i64 (X.length : Int)), (21, .i .i64 (k : Int)), (22, .b false)], ?_, rfl, fun k' hk' hp => ?_⟩
    · rw [l60_1, den_loop]
      simp [b60_0, go_nil, go_last, go_past, go_pastR, go_blkN, go_blkR, go_blkE, go_skip, go_exit, go_ret, go_scope, go_seq, go_reg, go_regd, go_opdN, go_opd, go_opdG, grdd_b, grdd_u, stpd_some, find_some, go_block, go_cond, cnd_b, go_opsN, go_ops, go_opsG, grd_b, grd_u, stp_some, fin_some, up_some, cont_some, k_call, k_mv, k_pick, k_bin, k_eqB, k_eqA, k_not, k_neg, k_conv, k_alloc, k_boxA, k_boxI, k_boxB, k_boxN, k_boxBs, k_ldR, k_ldA, k_ldI, k_ldB, k_stA, k_stI, k_stB, ldC_some, stC_some, k_mkfn, k_slc, k_slcA, k_ixA, k_ixBs, k_ixSl, k_fadr, k_fld, k_ext, k_len, k_app, k_mn, k_mx, k_nilck, k_build, k_bsl1, k_bsl2, b_add, b_sub, b_mul, b_eql, b_neq, b_lss, b_leq, b_gtr, b_geq, Dn.setLast, Dn.getLast, evalO, mapO, Dn.get, putE, keepE, TV.one, TV.isAgg, Dn.part, e1]
    · have := hp.2.2.1; omega
  | d + 1, k, h => by
    have hn5 := hm.n5
    have hk : k < X.length := by omega
    have e1 : ((k : Int) < (X.length : Int)) := by omega
    have e2 : wrapR .i64 ((k : Int) + 1) = .i .i64 ((k : Int) + 1) := wrapR_i64 (by omega)
    have eU : ∀ j : Nat, j ≤ 5 → wrapR .u64 (j : Int) = .i .u64 (j : Int) := fun j hj => by unfold wrapR; simp [IntKind.wrap, IntKind.signed, IntKind.bits]; omega
    have eUi := eU i (by omega)
    have eUk := eU k (by omega)
    obtain ⟨b1, b2⟩ := bit_run (s := s0) (k := k) hs0 (by omega)
    obtain ⟨b3, b4⟩ := bit_run (s := s0) (k := i) hs0 (by omega)
    have ldb : dkc pg (den pg) (.ld 2 true) [.ref 0 0] [.cells [.i .i64 ba, .i .i64 bb] true] = some (.agg [.i .i64 ba, .i .i64 bb], [.cells [.i .i64 ba, .i .i64 bb] true]) := rfl
    have c74 := call74v hF hm hi hk hba hbb [.cells [.i .i64 ba, .i .i64 bb] true]
    obtain ⟨r, c56, _, w1, w2⟩ := call56v (pg := pg) (t := i) hF hm hs0 hba hbb hk
    have hnn := nil_ne (pg := pg) (R := den pg) r
    have ih := l60_1_all hF hm hs0 hba hbb hi d (k + 1) (by omega)
    have next : ¬ Pair X s0 ba bb i k →
        den pg l60_1 [(0, mV X), (1, .i .i64 (s0 : Int)), (5, .ref 0 0), (7, .i .i64 (i : Int)), (13, .i .i64 (X.length : Int)), (14, .i .i64 (i : Int)), (20, .i .i64 (X.length : Int)), (21, .i .i64 (k : Int))] [.cells [.i .i64 ba, .i .i64 bb] true] =
        den pg l60_1 [(0, mV X), (1, .i .i64 (s0 : Int)), (5, .ref 0 0), (7, .i .i64 (i : Int)), (13, .i .i64 (X.length : Int)), (14, .i .i64 (i : Int)), (20, .i .i64 (X.length : Int)), (21, .i .i64 ((k + 1 : Nat) : Int))] [.cells [.i .i64 ba, .i .i64 bb] true] := by
      intro hno
      generalize ((s0 / 2 ^ k : Nat) : Int) = sh at b1 b2
      generalize ((s0 / 2 ^ i : Nat) : Int) = sh' at b3 b4
      rw [l60_1, den_loop]
      by_cases hik : i = k
      · subst hik
        simp [l60_1, b60_0, go_nil, go_last, go_past, go_pastR, go_blkN, go_blkR, go_blkE, go_skip, go_exit, go_ret, go_scope, go_seq, go_reg, go_regd, go_opdN, go_opd, go_opdG, grdd_b, grdd_u, stpd_some, find_some, go_block, go_cond, cnd_b, go_opsN, go_ops, go_opsG, grd_b, grd_u, stp_some, fin_some, up_some, cont_some, k_call, k_mv, k_pick, k_bin, k_eqB, k_eqA, k_not, k_neg, k_conv, k_alloc, k_boxA, k_boxI, k_boxB, k_boxN, k_boxBs, k_ldR, k_ldA, k_ldI, k_ldB, k_stA, k_stI, k_stB, ldC_some, stC_some, k_mkfn, k_slc, k_slcA, k_ixA, k_ixBs, k_ixSl, k_fadr, k_fld, k_ext, k_len, k_app, k_mn, k_mx, k_nilck, k_build, k_bsl1, k_bsl2, b_add, b_sub, b_mul, b_eql, b_neq, b_lss, b_leq, b_gtr, b_geq, Dn.setLast, Dn.getLast, evalO, mapO, Dn.get, putE, keepE, TV.one, TV.isAgg, Dn.part, e1, e2]
      · have hik' : ((i : Int) == (k : Int)) = false := by simp; omega
        cases hbi : s0.testBit i with
        | false => simp [l60_1, b60_0, go_nil, go_last, go_past, go_pastR, go_blkN, go_blkR, go_blkE, go_skip, go_exit, go_ret, go_scope, go_seq, go_reg, go_regd, go_opdN, go_opd, go_opdG, grdd_b, grdd_u, stpd_some, find_some, go_block, go_cond, cnd_b, go_opsN, go_ops, go_opsG, grd_b, grd_u, stp_some, fin_some, up_some, cont_some, k_call, k_mv, k_pick, k_bin, k_eqB, k_eqA, k_not, k_neg, k_conv, k_alloc, k_boxA, k_boxI, k_boxB, k_boxN, k_boxBs, k_ldR, k_ldA, k_ldI, k_ldB, k_stA, k_stI, k_stB, ldC_some, stC_some, k_mkfn, k_slc, k_slcA, k_ixA, k_ixBs, k_ixSl, k_fadr, k_fld, k_ext, k_len, k_app, k_mn, k_mx, k_nilck, k_build, k_bsl1, k_bsl2, b_add, b_sub, b_mul, b_eql, b_neq, b_lss, b_leq, b_gtr, b_geq, Dn.setLast, Dn.getLast, evalO, mapO, Dn.get, putE, keepE, TV.one, TV.isAgg, Dn.part, e1, e2, hik', eUi, b3, b4, bitV_0, hbi]
        | true =>
          cases hbk : s0.testBit k with
          | false => simp [l60_1, b60_0, go_nil, go_last, go_past, go_pastR, go_blkN, go_blkR, go_blkE, go_skip, go_exit, go_ret, go_scope, go_seq, go_reg, go_regd, go_opdN, go_opd, go_opdG, grdd_b, grdd_u, stpd_some, find_some, go_block, go_cond, cnd_b, go_opsN, go_ops, go_opsG, grd_b, grd_u, stp_some, fin_some, up_some, cont_some, k_call, k_mv, k_pick, k_bin, k_eqB, k_eqA, k_not, k_neg, k_conv, k_alloc, k_boxA, k_boxI, k_boxB, k_boxN, k_boxBs, k_ldR, k_ldA, k_ldI, k_ldB, k_stA, k_stI, k_stB, ldC_some, stC_some, k_mkfn, k_slc, k_slcA, k_ixA, k_ixBs, k_ixSl, k_fadr, k_fld, k_ext, k_len, k_app, k_mn, k_mx, k_nilck, k_build, k_bsl1, k_bsl2, b_add, b_sub, b_mul, b_eql, b_neq, b_lss, b_leq, b_gtr, b_geq, Dn.setLast, Dn.getLast, evalO, mapO, Dn.get, putE, keepE, TV.one, TV.isAgg, Dn.part, e1, e2, hik', eUi, eUk, b1, b2, b3, b4, bitV_0, hbi, hbk]
          | true =>
            by_cases hp : pref X ba bb i k = 2
            · have hr : r = [] := by
                apply w1.2
                intro hr
                exact hno ⟨hik, hi, hk, hbi, hbk, hp, hr⟩
              rw [hr] at hnn c56
              simp [l60_1, b60_0, go_nil, go_last, go_past, go_pastR, go_blkN, go_blkR, go_blkE, go_skip, go_exit, go_ret, go_scope, go_seq, go_reg, go_regd, go_opdN, go_opd, go_opdG, grdd_b, grdd_u, stpd_some, find_some, go_block, go_cond, cnd_b, go_opsN, go_ops, go_opsG, grd_b, grd_u, stp_some, fin_some, up_some, cont_some, k_call, k_mv, k_pick, k_bin, k_eqB, k_eqA, k_not, k_neg, k_conv, k_alloc, k_boxA, k_boxI, k_boxB, k_boxN, k_boxBs, k_ldR, k_ldA, k_ldI, k_ldB, k_stA, k_stI, k_stB, ldC_some, stC_some, k_mkfn, k_slc, k_slcA, k_ixA, k_ixBs, k_ixSl, k_fadr, k_fld, k_ext, k_len, k_app, k_mn, k_mx, k_nilck, k_build, k_bsl1, k_bsl2, b_add, b_sub, b_mul, b_eql, b_neq, b_lss, b_leq, b_gtr, b_geq, Dn.setLast, Dn.getLast, evalO, mapO, Dn.get, putE, keepE, TV.one, TV.isAgg, Dn.part, e1, e2, hik', eUi, eUk, b1, b2, b3, b4, bitV_0, hbi, hbk, ldb, c74, hp, c56, hnn]
            · have hp' : (pref X ba bb i k != 2) = true := by simpa using hp
              simp [l60_1, b60_0, go_nil, go_last, go_past, go_pastR, go_blkN, go_blkR, go_blkE, go_skip, go_exit, go_ret, go_scope, go_seq, go_reg, go_regd, go_opdN, go_opd, go_opdG, grdd_b, grdd_u, stpd_some, find_some, go_block, go_cond, cnd_b, go_opsN, go_ops, go_opsG, grd_b, grd_u, stp_some, fin_some, up_some, cont_some, k_call, k_mv, k_pick, k_bin, k_eqB, k_eqA, k_not, k_neg, k_conv, k_alloc, k_boxA, k_boxI, k_boxB, k_boxN, k_boxBs, k_ldR, k_ldA, k_ldI, k_ldB, k_stA, k_stI, k_stB, ldC_some, stC_some, k_mkfn, k_slc, k_slcA, k_ixA, k_ixBs, k_ixSl, k_fadr, k_fld, k_ext, k_len, k_app, k_mn, k_mx, k_nilck, k_build, k_bsl1, k_bsl2, b_add, b_sub, b_mul, b_eql, b_neq, b_lss, b_leq, b_gtr, b_geq, Dn.setLast, Dn.getLast, evalO, mapO, Dn.get, putE, keepE, TV.one, TV.isAgg, Dn.part, e1, e2, hik', eUi, eUk, b1, b2, b3, b4, bitV_0, hbi, hbk, ldb, c74, hp']
    by_cases hP : Pair X s0 ba bb i k
    · have hP' := hP
      obtain ⟨hik, _, _, hbi, hbk, hp, hr⟩ := hP'
      have hne : r ≠ [] := fun h => w1.1 h hr
      refine .inl ⟨r, k, ?_, hne, hP, w2 hne⟩
      have hik' : ((i : Int) == (k : Int)) = false := by simp; omega
      have hd : decide (r ≠ []) = true := by simpa using hne
      rw [hd] at hnn
      generalize ((s0 / 2 ^ k : Nat) : Int) = sh at b1 b2
      generalize ((s0 / 2 ^ i : Nat) : Int) = sh' at b3 b4
      rw [l60_1, den_loop]
      simp [l60_1, b60_0, go_nil, go_last, go_past, go_pastR, go_blkN, go_blkR, go_blkE, go_skip, go_exit, go_ret, go_scope, go_seq, go_reg, go_regd, go_opdN, go_opd, go_opdG, grdd_b, grdd_u, stpd_some, find_some, go_block, go_cond, cnd_b, go_opsN, go_ops, go_opsG, grd_b, grd_u, stp_some, fin_some, up_some, cont_some, k_call, k_mv, k_pick, k_bin, k_eqB, k_eqA, k_not, k_neg, k_conv, k_alloc, k_boxA, k_boxI, k_boxB, k_boxN, k_boxBs, k_ldR, k_ldA, k_ldI, k_ldB, k_stA, k_stI, k_stB, ldC_some, stC_some, k_mkfn, k_slc, k_slcA, k_ixA, k_ixBs, k_ixSl, k_fadr, k_fld, k_ext, k_len, k_app, k_mn, k_mx, k_nilck, k_build, k_bsl1, k_bsl2, b_add, b_sub, b_mul, b_eql, b_neq, b_lss, b_leq, b_gtr, b_geq, Dn.setLast, Dn.getLast, evalO, mapO, Dn.get, putE, keepE, TV.one, TV.isAgg, Dn.part, e1, e2, hik', eUi, eUk, b1, b2, b3, b4, bitV_0, hbi, hbk, ldb, c74, hp, c56, hnn]
    · rw [next hP]
      rcases ih with ih | ⟨e, h1, h2, h3⟩
      · exact .inl ih
      · refine .inr ⟨e, h1, h2, fun k' hk' => ?_⟩
        by_cases he : k' = k
        · subst he; exact hP
        · exact h3 k' (by omega)

theorem l60_3_all {pg : Pg} (hF : Free pg) {X : List Obs} {g : Nat} (hm : Market X g) {s0 : Nat} (hs0 : s0 < 65536) {ba bb : Int} (hba : 0 ≤ ba ∧ ba ≤ 1000000) (hbb : 0 ≤ bb ∧ bb ≤ 1000000) : ∀ (d i : Nat), i + d = X.length →
    (∃ (r : List Nat) (i' k' : Nat), den pg l60_3 [(0, mV X), (1, .i .i64 (s0 : Int)), (5, .ref 0 0), (13, .i .i64 (X.length : Int)), (14, .i .i64 (i : Int))] [.cells [.i .i64 ba, .i .i64 bb] true] = some ⟨.ret, [(6, elI.lt false (nI r))], [.cells [.i .i64 ba, .i .i64 bb] true]⟩ ∧ r ≠ [] ∧ Pair X s0 ba bb i' k' ∧ IsWay (wE X s0 ba bb) X.length k' i' r) ∨
    (∃ e, den pg l60_3 [(0, mV X), (1, .i .i64 (s0 : Int)), (5, .ref 0 0), (13, .i .i64 (X.length : Int)), (14, .i .i64 (i : Int))] [.cells [.i .i64 ba, .i .i64 bb] true] = some ⟨.exit 0, e, [.cells [.i .i64 ba, .i .i64 bb] true]⟩ ∧ ∀ i' k', i ≤ i' → ¬ Pair X s0 ba bb i' k')
  | 0, i, h => by
    have e1 : ¬ ((i : Int) < (X.length : Int)) := by omega
    refine .inr ⟨[(0, mV X), (1, .i .i64 (s0 : Int)), (5, .ref 0 0), (13, .i .i64 (X.length : Int)), (14, .i .i64 (i : Int)), (15, .b false)], ?_, fun i' k' hi' hp => ?_⟩
    · rw [l60_3, den_loop]
      simp [b60_2, go_nil, go_last, go_past, go_pastR, go_blkN, go_blkR, go_blkE, go_skip, go_exit, go_ret, go_scope, go_seq, go_reg, go_regd, go_opdN, go_opd, go_opdG, grdd_b, grdd_u, stpd_some, find_some, go_block, go_cond, cnd_b, go_opsN, go_ops, go_opsG, grd_b, grd_u, stp_some, fin_some, up_some, cont_some, k_call, k_mv, k_pick, k_bin, k_eqB, k_eqA, k_not, k_neg, k_conv, k_alloc, k_boxA, k_boxI, k_boxB, k_boxN, k_boxBs, k_ldR, k_ldA, k_ldI, k_ldB, k_stA, k_stI, k_stB, ldC_some, stC_some, k_mkfn, k_slc, k_slcA, k_ixA, k_ixBs, k_ixSl, k_fadr, k_fld, k_ext, k_len, k_app, k_mn, k_mx, k_nilck, k_build, k_bsl1, k_bsl2, b_add, b_sub, b_mul, b_eql, b_neq, b_lss, b_leq, b_gtr, b_geq, Dn.setLast, Dn.getLast, evalO, mapO, Dn.get, putE, keepE, TV.one, TV.isAgg, Dn.part, e1]
    · have := hp.2.1; omega
  | d + 1, i, h => by
    have hn5 := hm.n5
    have hi : i < X.length := by omega
    have e1 : ((i : Int) < (X.length : Int)) := by omega
    have e2 : wrapR .i64 ((i : Int) + 1) = .i .i64 ((i : Int) + 1) := wrapR_i64 (by omega)
    have fN := fadr_mN (pg := pg) (R := den pg) true (X.length : Int) (costF X) [.cells [.i .i64 ba, .i .i64 bb] true]
    have hin := l60_1_all hF hm hs0 hba hbb hi X.length 0 (by omega)
    simp only [Int.natCast_zero] at hin
    rcases hin with ⟨r, k', h1, h2, h3, h4⟩ | ⟨e, h1, h2, h3⟩
    · refine .inl ⟨r, i, k', ?_, h2, h3, h4⟩
      simp only [mV, mX] at h1 fN ⊢
      rw [l60_3, den_loop]
      simp [b60_2, go_nil, go_last, go_past, go_pastR, go_blkN, go_blkR, go_blkE, go_skip, go_exit, go_ret, go_scope, go_seq, go_reg, go_regd, go_opdN, go_opd, go_opdG, grdd_b, grdd_u, stpd_some, find_some, go_block, go_cond, cnd_b, go_opsN, go_ops, go_opsG, grd_b, grd_u, stp_some, fin_some, up_some, cont_some, k_call, k_mv, k_pick, k_bin, k_eqB, k_eqA, k_not, k_neg, k_conv, k_alloc, k_boxA, k_boxI, k_boxB, k_boxN, k_boxBs, k_ldR, k_ldA, k_ldI, k_ldB, k_stA, k_stI, k_stB, ldC_some, stC_some, k_mkfn, k_slc, k_slcA, k_ixA, k_ixBs, k_ixSl, k_fadr, k_fld, k_ext, k_len, k_app, k_mn, k_mx, k_nilck, k_build, k_bsl1, k_bsl2, b_add, b_sub, b_mul, b_eql, b_neq, b_lss, b_leq, b_gtr, b_geq, Dn.setLast, Dn.getLast, evalO, mapO, Dn.get, putE, keepE, TV.one, TV.isAgg, Dn.part, e1, e2, k_nilckB, fN, go_denK (c := l60_1) rfl, h1]
    · have g0 := keep_get h2 (s := 0) (by simp) rfl
      have g1 := keep_get h2 (s := 1) (by simp) rfl
      have g5 := keep_get h2 (s := 5) (by simp) rfl
      have g13 := keep_get h2 (s := 13) (by simp) rfl
      have g14 := keep_get h2 (s := 14) (by simp) rfl
      have hstep : den pg l60_3 [(0, mV X), (1, .i .i64 (s0 : Int)), (5, .ref 0 0), (13, .i .i64 (X.length : Int)), (14, .i .i64 (i : Int))] [.cells [.i .i64 ba, .i .i64 bb] true] = den pg l60_3 [(0, mV X), (1, .i .i64 (s0 : Int)), (5, .ref 0 0), (13, .i .i64 (X.length : Int)), (14, .i .i64 ((i + 1 : Nat) : Int))] [.cells [.i .i64 ba, .i .i64 bb] true] := by
        simp only [mV, mX] at h1 fN g0 ⊢
        rw [l60_3, den_loop]
        simp [l60_3, b60_2, go_nil, go_last, go_past, go_pastR, go_blkN, go_blkR, go_blkE, go_skip, go_exit, go_ret, go_scope, go_seq, go_reg, go_regd, go_opdN, go_opd, go_opdG, grdd_b, grdd_u, stpd_some, find_some, go_block, go_cond, cnd_b, go_opsN, go_ops, go_opsG, grd_b, grd_u, stp_some, fin_some, up_some, cont_some, k_call, k_mv, k_pick, k_bin, k_eqB, k_eqA, k_not, k_neg, k_conv, k_alloc, k_boxA, k_boxI, k_boxB, k_boxN, k_boxBs, k_ldR, k_ldA, k_ldI, k_ldB, k_stA, k_stI, k_stB, ldC_some, stC_some, k_mkfn, k_slc, k_slcA, k_ixA, k_ixBs, k_ixSl, k_fadr, k_fld, k_ext, k_len, k_app, k_mn, k_mx, k_nilck, k_build, k_bsl1, k_bsl2, b_add, b_sub, b_mul, b_eql, b_neq, b_lss, b_leq, b_gtr, b_geq, Dn.setLast, Dn.getLast, evalO, mapO, Dn.get, putE, keepE, TV.one, TV.isAgg, Dn.part, e1, e2, k_nilckB, fN, go_denK (c := l60_1) rfl, h1, g0, g1, g5, g13, g14]
      rw [hstep]
      rcases l60_3_all hF hm hs0 hba hbb d (i + 1) (by omega) with ih | ⟨e', k1, k2⟩
      · exact .inl ih
      · refine .inr ⟨e', k1, fun i' k' hi' => ?_⟩
        by_cases he : i' = i
        · subst he; exact h3 k' (Nat.zero_le _)
        · exact k2 i' k' (by omega)

/-- a ring of a set, if there is one -/
theorem fn60 {pg : Pg} (hF : Free pg) {X : List Obs} {g : Nat} (hm : Market X g) {s0 : Nat} (hs0 : s0 < 65536) {ba bb : Int} (hba : 0 ≤ ba ∧ ba ≤ 1000000) (hbb : 0 ≤ bb ∧ bb ≤ 1000000) :
    ∃ r : List Nat, PFn pg 60 [mV X, .i .i64 (s0 : Int), shV ba bb] (elI.lt false (nI r)) ∧ (r = [] ↔ ¬ ∃ i k, Pair X s0 ba bb i k) ∧ (r ≠ [] → ∃ i k, Pair X s0 ba bb i k ∧ IsWay (wE X s0 ba bb) X.length k i r) := by
  have hd : pg.F 60 = some d60 := by rw [hF.F]; rfl
  have fN := fadr_mN (pg := pg) (R := den pg) true (X.length : Int) (costF X) [.cells [.i .i64 ba, .i .i64 bb] true]
  rcases l60_3_all hF hm hs0 hba hbb X.length 0 (by omega) with ⟨r, i, k, h1, h2, h3, h4⟩ | ⟨e, h1, h2⟩
  · refine ⟨r, .of1 (x := .ret) (e := [(6, elI.lt false (nI r))]) (H' := [.cells [.i .i64 ba, .i .i64 bb] true]) (hF.S _ _ (by decide)) hd rfl ?_ (.inl rfl) rfl (snap_intsF _ 7 _), ⟨fun h => absurd h h2, fun h => absurd ⟨i, k, h3⟩ h⟩, fun _ => ⟨i, k, h3, h4⟩⟩
    simp only [mV, mX, Int.natCast_zero] at h1 fN ⊢
    simp [d60, c60, zipE, go_nil, go_last, go_past, go_pastR, go_blkN, go_blkR, go_blkE, go_skip, go_exit, go_ret, go_scope, go_seq, go_reg, go_regd, go_opdN, go_opd, go_opdG, grdd_b, grdd_u, stpd_some, find_some, go_block, go_cond, cnd_b, go_opsN, go_ops, go_opsG, grd_b, grd_u, stp_some, fin_some, up_some, cont_some, k_call, k_mv, k_pick, k_bin, k_eqB, k_eqA, k_not, k_neg, k_conv, k_alloc, k_boxA, k_boxI, k_boxB, k_boxN, k_boxBs, k_ldR, k_ldA, k_ldI, k_ldB, k_stA, k_stI, k_stB, ldC_some, stC_some, k_mkfn, k_slc, k_slcA, k_ixA, k_ixBs, k_ixSl, k_fadr, k_fld, k_ext, k_len, k_app, k_mn, k_mx, k_nilck, k_build, k_bsl1, k_bsl2, b_add, b_sub, b_mul, b_eql, b_neq, b_lss, b_leq, b_gtr, b_geq, Dn.setLast, Dn.getLast, evalO, mapO, Dn.get, putE, keepE, TV.one, TV.isAgg, Dn.part, shV, k_nilckB, fN, go_denK (c := l60_3) rfl, h1]
  · refine ⟨[], .of1 (x := .ret) (e := [(6, .nilsl)]) (H' := [.cells [.i .i64 ba, .i .i64 bb] true]) (hF.S _ _ (by decide)) hd rfl ?_ (.inl rfl) rfl (by simp [sn_i, sn_b, sn_nil, sn8_i, sn8_b, sn8_nil, sn7_i, sn7_b, sn_sl, sn8_sl, slB_some, sn_tup, sn_agg, sn8_agg, mapO, elems, nI, El.lt]), ⟨fun _ ⟨i, k, h⟩ => h2 i k (Nat.zero_le _) h, fun _ => rfl⟩, fun h => absurd rfl h⟩
    simp only [mV, mX, Int.natCast_zero] at h1 fN ⊢
    simp [d60, c60, zipE, go_nil, go_last, go_past, go_pastR, go_blkN, go_blkR, go_blkE, go_skip, go_exit, go_ret, go_scope, go_seq, go_reg, go_regd, go_opdN, go_opd, go_opdG, grdd_b, grdd_u, stpd_some, find_some, go_block, go_cond, cnd_b, go_opsN, go_ops, go_opsG, grd_b, grd_u, stp_some, fin_some, up_some, cont_some, k_call, k_mv, k_pick, k_bin, k_eqB, k_eqA, k_not, k_neg, k_conv, k_alloc, k_boxA, k_boxI, k_boxB, k_boxN, k_boxBs, k_ldR, k_ldA, k_ldI, k_ldB, k_stA, k_stI, k_stB, ldC_some, stC_some, k_mkfn, k_slc, k_slcA, k_ixA, k_ixBs, k_ixSl, k_fadr, k_fld, k_ext, k_len, k_app, k_mn, k_mx, k_nilck, k_build, k_bsl1, k_bsl2, b_add, b_sub, b_mul, b_eql, b_neq, b_lss, b_leq, b_gtr, b_geq, Dn.setLast, Dn.getLast, evalO, mapO, Dn.get, putE, keepE, TV.one, TV.isAgg, Dn.part, shV, k_nilckB, fN, go_denK (c := l60_3) rfl, h1, nI, El.lt]

theorem call60 {pg : Pg} (hF : Free pg) {X : List Obs} {g : Nat} (hm : Market X g) {s0 : Nat} (hs0 : s0 < 65536) {ba bb : Int} (hba : 0 ≤ ba ∧ ba ≤ 1000000) (hbb : 0 ≤ bb ∧ bb ≤ 1000000) :
    ∃ r : List Nat, (∀ H M, H[M]? = some (.cells (mX X) true) → callRun pg (den pg) (.pu []) [.fn 60 [] [], .ref M 0, .i .i64 (s0 : Int), .agg [.i .i64 ba, .i .i64 bb]] H = some (elI.lt false (nI r), H)) ∧ (r = [] ↔ ¬ ∃ i k, Pair X s0 ba bb i k) ∧ (r ≠ [] → ∃ i k, Pair X s0 ba bb i k ∧ IsWay (wE X s0 ba bb) X.length k i r) := by
  obtain ⟨r, h1, h2, h3⟩ := fn60 hF hm hs0 hba hbb
  refine ⟨r, fun H M hM => ?_, h2, h3⟩
  have h4 := mR_snap hM 7
  exact PFn.call h1 (args := [.ref M 0, .i .i64 (s0 : Int), .agg [.i .i64 ba, .i .i64 bb]]) (by simp [snapArgs, sn_i, h4, sn_i, sn_b, sn_nil, sn8_i, sn8_b, sn8_nil, sn7_i, sn7_b, sn_sl, sn8_sl, slB_some, sn_tup, sn_agg, sn8_agg, mapO, elems]; rfl)

end Go.Proofs.Tryd.Dn

