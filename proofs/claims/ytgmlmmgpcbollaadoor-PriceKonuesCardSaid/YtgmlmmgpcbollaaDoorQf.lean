/-
  Ways from one observation to another one: plain Lean.
-/
import Derived.Test.YtgmlmmgpcbollaaDoorQa
import Derived.Test.YtgmlmmgpcbollaaDoorQd
set_option linter.unusedSimpArgs false
set_option linter.unusedVariables false

namespace Go.Proofs.Tryd.Dn
open Go.Dn

/-- one leads to another one, in some steps -/
inductive Rch (E : Nat → Nat → Bool) (a : Nat) : Nat → Prop
  | here : Rch E a a
  | step {b c : Nat} : Rch E a b → E b c = true → Rch E a c

/-- a way back -/
inductive Trail (E : Nat → Nat → Bool) (M : List (Nat × Nat)) (a : Nat) : Nat → List Nat → Prop
  | here : Trail E M a a [a]
  | step {t b : Nat} {p : List Nat} : t ≠ a → (t, b) ∈ M → E b t = true → t ∉ p → Trail E M a b p → Trail E M a t (t :: p)

/-- what a search has found: whence each came, and those to look at -/
structure Sr where
  M : List (Nat × Nat)
  qs : List Nat

def Sr.keys (s : Sr) : List Nat := s.M.map (·.1)

def Sr.step (E : Nat → Nat → Bool) (now : Nat) (s : Sr) (k : Nat) : Sr :=
  if E now k && !s.keys.contains k then ⟨s.M ++ [(k, now)], s.qs ++ [k]⟩ else s

structure SInv (E : Nat → Nat → Bool) (n a : Nat) (s : Sr) : Prop where
  start : a ∈ s.keys
  sound : ∀ q ∈ s.keys, Rch E a q
  lt : ∀ q ∈ s.keys, q < n
  once : s.keys.Nodup
  qin : ∀ q ∈ s.qs, q ∈ s.keys
  way : ∀ q ∈ s.keys, ∃ p, Trail E s.M a q p

theorem Trail.mono {E : Nat → Nat → Bool} {M M' : List (Nat × Nat)} {a t : Nat} {p : List Nat} (h : Trail E M a t p) (hm : ∀ e ∈ M, e ∈ M') : Trail E M' a t p := by
  induction h with
  | here => exact .here
  | step h1 h2 h3 h4 _ ih => exact .step h1 (hm _ h2) h3 h4 ih

theorem Trail.keys {E : Nat → Nat → Bool} {M : List (Nat × Nat)} {a t : Nat} {p : List Nat} (h : Trail E M a t p) (ha : a ∈ M.map (·.1)) : ∀ x ∈ p, x ∈ M.map (·.1) := by
  induction h with
  | here => intro x hx; simp at hx; subst hx; exact ha
  | step h1 h2 h3 h4 _ ih =>
    intro x hx
    rcases List.mem_cons.1 hx with rfl | hx
    · exact List.mem_map.2 ⟨_, h2, rfl⟩
    · exact ih x hx

theorem SInv.init {E : Nat → Nat → Bool} {n a : Nat} (ha : a < n) : SInv E n a ⟨[(a, a)], [a]⟩ where
  start := by simp [Sr.keys]
  sound := by intro q hq; simp [Sr.keys] at hq; subst hq; exact .here
  lt := by intro q hq; simp [Sr.keys] at hq; omega
  once := by simp [Sr.keys]
  qin := by intro q hq; simpa [Sr.keys] using hq
  way := by intro q hq; simp [Sr.keys] at hq; subst hq; exact ⟨_, .here⟩

theorem Sr.step_mono {E : Nat → Nat → Bool} {now k q : Nat} {s : Sr} (h : q ∈ s.keys) : q ∈ (s.step E now k).keys := by
  unfold Sr.step
  split
  · simp [Sr.keys] at h ⊢; exact .inl h
  · exact h

theorem Sr.step_new {E : Nat → Nat → Bool} {now k : Nat} {s : Sr} (h : E now k = true) : k ∈ (s.step E now k).keys := by
  unfold Sr.step
  split
  · simp [Sr.keys]
  · rename_i hc
    simp only [h, Bool.true_and, Bool.not_eq_true, Bool.not_eq_false', List.contains_iff_mem] at hc
    exact hc

theorem Sr.step_keys {E : Nat → Nat → Bool} {now k q : Nat} {s : Sr} (h : q ∈ (s.step E now k).keys) : q ∈ s.keys ∨ q ∈ (s.step E now k).qs := by
  unfold Sr.step at h ⊢
  split at h
  · rename_i hc
    rw [if_pos hc]
    simp only [Sr.keys, List.map_append, List.map_cons, List.map_nil, List.mem_append, List.mem_singleton] at h
    rcases h with h | rfl
    · exact .inl h
    · exact .inr (by simp)
  · exact .inl h

theorem Sr.step_qs {E : Nat → Nat → Bool} {now k q : Nat} {s : Sr} (h : q ∈ s.qs) : q ∈ (s.step E now k).qs := by
  unfold Sr.step
  split
  · simp [h]
  · exact h

theorem SInv.step {E : Nat → Nat → Bool} {n a now k : Nat} {s : Sr} (h : SInv E n a s) (hn : now ∈ s.keys) (hk : E now k = true → k < n) : SInv E n a (s.step E now k) := by
  unfold Sr.step
  split
  · rename_i hc
    simp only [Bool.and_eq_true, Bool.not_eq_true', List.contains_eq_mem, decide_eq_false_iff_not] at hc
    obtain ⟨he, hnew⟩ := hc
    have hkeys : (Sr.keys ⟨s.M ++ [(k, now)], s.qs ++ [k]⟩) = s.keys ++ [k] := by simp [Sr.keys]
    refine ⟨by rw [hkeys]; simp [h.start], ?_, ?_, ?_, ?_, ?_⟩
    · intro q hq
      rw [hkeys] at hq
      simp only [List.mem_append, List.mem_singleton] at hq
      rcases hq with hq | rfl
      · exact h.sound q hq
      · exact .step (h.sound now hn) he
    · intro q hq
      rw [hkeys] at hq
      simp only [List.mem_append, List.mem_singleton] at hq
      rcases hq with hq | rfl
      · exact h.lt q hq
      · exact hk he
    · rw [hkeys, List.nodup_append]
      exact ⟨h.once, by simp, fun x hx y hy => by simp at hy; subst hy; rintro rfl; exact hnew hx⟩
    · intro q hq
      rw [hkeys]
      simp only [List.mem_append, List.mem_singleton] at hq ⊢
      rcases hq with hq | rfl
      · exact .inl (h.qin q hq)
      · exact .inr rfl
    · intro q hq
      rw [hkeys] at hq
      simp only [List.mem_append, List.mem_singleton] at hq
      rcases hq with hq | rfl
      · obtain ⟨p, hp⟩ := h.way q hq
        exact ⟨p, hp.mono fun e he => by simp [he]⟩
      · obtain ⟨p, hp⟩ := h.way now hn
        refine ⟨q :: p, .step ?_ (by simp) he ?_ (hp.mono fun e he => by simp [he])⟩
        · rintro rfl; exact hnew h.start
        · exact fun hq => hnew (hp.keys h.start q hq)
  · exact h

/-- all nodes from one on -/
def Sr.steps (E : Nat → Nat → Bool) (now : Nat) (s : Sr) (L : List Nat) : Sr := L.foldl (Sr.step E now) s

theorem Sr.steps_inv {E : Nat → Nat → Bool} {n a now : Nat} (hE : ∀ i k, E i k = true → k < n) : ∀ (L : List Nat) (s : Sr), SInv E n a s → now ∈ s.keys → SInv E n a (s.steps E now L) ∧ (∀ q ∈ s.keys, q ∈ (s.steps E now L).keys) ∧ (∀ q ∈ s.qs, q ∈ (s.steps E now L).qs) ∧
    (∀ q ∈ (s.steps E now L).keys, q ∈ s.keys ∨ q ∈ (s.steps E now L).qs) ∧ (∀ k ∈ L, E now k = true → k ∈ (s.steps E now L).keys)
  | [], s, h, hn => ⟨h, fun _ h => h, fun _ h => h, fun _ h => .inl h, fun k hk => by cases hk⟩
  | k :: L, s, h, hn => by
    obtain ⟨h1, h2, h3, h4, h5⟩ := Sr.steps_inv hE L (s.step E now k) (h.step hn (hE now k)) (Sr.step_mono hn)
    refine ⟨h1, fun q hq => h2 q (Sr.step_mono hq), fun q hq => h3 q (Sr.step_qs hq), fun q hq => ?_, fun x hx he => ?_⟩
    · rcases h4 q hq with h | h
      · rcases Sr.step_keys h with h | h
        · exact .inl h
        · exact .inr (h3 q h)
      · exact .inr h
    · rcases List.mem_cons.1 hx with rfl | hx
      · exact h2 _ (Sr.step_new he)
      · exact h5 x hx he

/-- the measure of a search -/
def Sr.mu (n : Nat) (s : Sr) : Nat := 2 * (n - s.M.length) + s.qs.length

theorem nodup_len : ∀ (n : Nat) (l : List Nat), l.Nodup → (∀ x ∈ l, x < n) → l.length ≤ n
  | 0, l, _, h => by
    cases l with
    | nil => simp
    | cons x l => exact absurd (h x (by simp)) (by omega)
  | n + 1, l, hn, h => by
    by_cases hm : n ∈ l
    · have := nodup_len n (l.erase n) (hn.erase n) fun x hx => by
        have h1 := hn.mem_erase_iff.1 hx
        have := h x h1.2
        have := h1.1
        omega
      rw [List.length_erase_of_mem hm] at this
      omega
    · have := nodup_len n l hn fun x hx => by
        have h1 := h x hx
        have : x ≠ n := by rintro rfl; exact hm hx
        omega
      omega

theorem SInv.len {E : Nat → Nat → Bool} {n a : Nat} {s : Sr} (h : SInv E n a s) : s.M.length ≤ n := by
  have := nodup_len n s.keys h.once h.lt
  simpa [Sr.keys] using this

theorem Sr.step_mu {E : Nat → Nat → Bool} {n a now k : Nat} {s : Sr} (h : SInv E n a s) (hn : now ∈ s.keys) (hk : E now k = true → k < n) : (s.step E now k).mu n ≤ s.mu n := by
  have h2 := (h.step hn hk).len
  unfold Sr.step at h2 ⊢
  split
  · rename_i hc
    rw [if_pos hc] at h2
    simp only [Sr.mu, List.length_append, List.length_cons, List.length_nil] at h2 ⊢
    omega
  · exact Nat.le_refl _

theorem Sr.steps_mu {E : Nat → Nat → Bool} {n a now : Nat} (hE : ∀ i k, E i k = true → k < n) : ∀ (L : List Nat) (s : Sr), SInv E n a s → now ∈ s.keys → (s.steps E now L).mu n ≤ s.mu n
  | [], s, h, hn => Nat.le_refl _
  | k :: L, s, h, hn => Nat.le_trans (Sr.steps_mu hE L (s.step E now k) (h.step hn (hE now k)) (Sr.step_mono hn)) (Sr.step_mu h hn (hE now k))

/-- all that one knows is looked at, or will be -/
def Sr.Clo (E : Nat → Nat → Bool) (s : Sr) : Prop := ∀ q ∈ s.keys, q ∈ s.qs ∨ ∀ k, E q k = true → k ∈ s.keys

theorem Sr.round {E : Nat → Nat → Bool} {n a now : Nat} {s : Sr} {rest : List Nat} (hE : ∀ i k, E i k = true → k < n) (h : SInv E n a s) (hc : s.Clo E) (hq : s.qs = now :: rest) :
    SInv E n a (Sr.steps E now ⟨s.M, rest⟩ (List.range n)) ∧ (Sr.steps E now ⟨s.M, rest⟩ (List.range n)).Clo E ∧ (Sr.steps E now ⟨s.M, rest⟩ (List.range n)).mu n < s.mu n := by
  have hn : now ∈ s.keys := h.qin now (by rw [hq]; simp)
  have h' : SInv E n a ⟨s.M, rest⟩ := ⟨h.start, h.sound, h.lt, h.once, fun q hx => h.qin q (by rw [hq]; simp [hx]), h.way⟩
  obtain ⟨h1, h2, h3, h4, h5⟩ := Sr.steps_inv hE (List.range n) ⟨s.M, rest⟩ h' hn
  refine ⟨h1, ?_, ?_⟩
  · intro q hk
    rcases h4 q hk with h6 | h6
    · rcases hc q h6 with h7 | h7
      · rw [hq] at h7
        rcases List.mem_cons.1 h7 with rfl | h7
        · exact .inr fun k he => h5 k (List.mem_range.2 (hE _ _ he)) he
        · exact .inl (h3 q h7)
      · exact .inr fun k he => h2 k (h7 k he)
    · exact .inl h6
  · have := Sr.steps_mu hE (List.range n) ⟨s.M, rest⟩ h' hn
    simp only [Sr.mu] at this ⊢
    rw [hq]
    simp only [List.length_cons]
    omega

theorem Sr.all {E : Nat → Nat → Bool} {n a : Nat} {s : Sr} (h : SInv E n a s) (hc : s.Clo E) (hq : s.qs = []) {t : Nat} (hr : Rch E a t) : t ∈ s.keys := by
  induction hr with
  | here => exact h.start
  | step _ he ih =>
    rcases hc _ ih with h1 | h1
    · rw [hq] at h1; cases h1
    · exact h1 _ he

/-! ways as lists -/

theorem Trail.nodup {E : Nat → Nat → Bool} {M : List (Nat × Nat)} {a t : Nat} {p : List Nat} (h : Trail E M a t p) : p.Nodup := by
  induction h with
  | here => simp
  | step _ _ _ h4 _ ih => exact List.nodup_cons.2 ⟨h4, ih⟩

theorem Trail.head {E : Nat → Nat → Bool} {M : List (Nat × Nat)} {a t : Nat} {p : List Nat} (h : Trail E M a t p) : ∃ q, p = t :: q := by
  cases h with
  | here => exact ⟨[], rfl⟩
  | step _ _ _ _ _ => exact ⟨_, rfl⟩

theorem Trail.last {E : Nat → Nat → Bool} {M : List (Nat × Nat)} {a t : Nat} {p : List Nat} (h : Trail E M a t p) : ∃ q, p = q ++ [a] := by
  induction h with
  | here => exact ⟨[], rfl⟩
  | @step t b p _ _ _ _ _ ih => obtain ⟨q, rfl⟩ := ih; exact ⟨t :: q, rfl⟩

theorem Trail.link {E : Nat → Nat → Bool} {M : List (Nat × Nat)} {a t : Nat} {p : List Nat} (h : Trail E M a t p) : ∀ i x y, p[i]? = some x → p[i + 1]? = some y → E y x = true := by
  induction h with
  | here => intro i x y h1 h2; simp at h2
  | step _ _ h3 _ h5 ih =>
    intro i x y h1 h2
    cases i with
    | zero =>
      obtain ⟨q, rfl⟩ := h5.head
      simp at h1 h2
      subst h1 h2
      exact h3
    | succ i => exact ih i x y (by simpa using h1) (by simpa using h2)

/-! the closure of a table -/

theorem Rch.trans {E : Nat → Nat → Bool} {a b c : Nat} (h : Rch E a b) (h2 : Rch E b c) : Rch E a c := by
  induction h2 with
  | here => exact h
  | step _ he ih => exact .step ih he

end Go.Proofs.Tryd.Dn

/-
  Ways: bits, maps of whole numbers, queues.
-/

namespace Go.Proofs.Tryd.Dn
open Go.Dn

/-! maps -/

def encP (e : Nat × Nat) : TV × TV := (.i .i64 (e.1 : Int), .i .i64 (e.2 : Int))

def lookP : List (Nat × Nat) → Nat → Option (Nat × Nat)
  | [], _ => none
  | e :: M, q => if q = e.1 then some (0, e.2) else (lookP M q).map fun x => (x.1 + 1, x.2)

theorem findK_P {q : Nat} : ∀ {es : List (TV × TV × Nat)} {M : List (Nat × Nat)}, es.map (fun e => (e.1, e.2.1)) = M.map encP → findK .int (.i .i64 (q : Int)) es = some ((lookP M q).map fun x => (x.1, .i .i64 (x.2 : Int)))
  | [], [], _ => rfl
  | [], _ :: _, h => by simp at h
  | _ :: _, [], h => by simp at h
  | (k, v, n) :: es, e :: M, h => by
    simp only [List.map_cons, List.cons.injEq] at h
    obtain ⟨h1, h2⟩ := h
    have ih := findK_P (q := q) h2
    simp only [encP, Prod.mk.injEq] at h1
    obtain ⟨rfl, rfl⟩ := h1
    simp only [findK, eqK, eqS, if_true, Option.bind_some, ih, lookP]
    by_cases hq : q = e.1
    · rw [if_pos hq]
      simp [hq]
    · have : ((q : Int) == (e.1 : Int)) = false := by simp; omega
      rw [if_neg hq, this]
      cases lookP M q <;> simp

theorem lookP_none {q : Nat} : ∀ {M : List (Nat × Nat)}, q ∉ M.map (·.1) → lookP M q = none
  | [], _ => rfl
  | e :: M, h => by
    simp only [List.map_cons, List.mem_cons, not_or] at h
    rw [lookP, if_neg h.1, lookP_none h.2]; rfl

theorem lookP_mem {q b : Nat} : ∀ {M : List (Nat × Nat)}, (M.map (·.1)).Nodup → (q, b) ∈ M → ∃ i, lookP M q = some (i, b)
  | [], _, h => by cases h
  | e :: M, hn, h => by
    rw [List.map_cons, List.nodup_cons] at hn
    rw [lookP]
    rcases List.mem_cons.1 h with rfl | h
    · exact ⟨0, by rw [if_pos rfl]⟩
    · obtain ⟨i, hi⟩ := lookP_mem hn.2 h
      have : q ≠ e.1 := by
        rintro rfl
        exact hn.1 (List.mem_map.2 ⟨_, h, rfl⟩)
      exact ⟨i + 1, by rw [if_neg this, hi]; rfl⟩

/-- a map that holds such pairs -/
def MapAt (H : Heap) (id : Nat) (M : List (Nat × Nat)) : Prop := ∃ es ck, H[id]? = some (.map es ck) ∧ es.map (fun e => (e.1, e.2.1)) = M.map encP

section
variable {pg : Pg} {R : Rec}
theorem MapAt.known {H : Heap} {id q : Nat} {M : List (Nat × Nat)} (h : MapAt H id M) (hn : (M.map (·.1)).Nodup) (hq : q ∈ M.map (·.1)) : ∃ v, dkc pg R (.lkp .int (.i .i64 0) true) [.mp id, .i .i64 (q : Int)] H = some (.tup [.i .i64 v, .b true], H) := by
  obtain ⟨es, ck, h1, h2⟩ := h
  obtain ⟨e, he, rfl⟩ := List.mem_map.1 hq
  obtain ⟨i, hi⟩ := lookP_mem (b := e.2) hn he
  have hf := findK_P (q := e.1) h2
  rw [hi] at hf
  exact ⟨(e.2 : Int), by simp [dkc, dk, h1, hf, eqK, eqS]⟩
theorem MapAt.val {H : Heap} {id q b : Nat} {M : List (Nat × Nat)} (h : MapAt H id M) (hn : (M.map (·.1)).Nodup) (hq : (q, b) ∈ M) : dkc pg R (.lkp .int (.i .i64 0) false) [.mp id, .i .i64 (q : Int)] H = some (.i .i64 (b : Int), H) := by
  obtain ⟨es, ck, h1, h2⟩ := h
  obtain ⟨i, hi⟩ := lookP_mem hn hq
  have hf := findK_P (q := q) h2
  rw [hi] at hf
  simp [dkc, dk, h1, hf, eqK, eqS]
theorem MapAt.put {H : Heap} {id q b : Nat} {M : List (Nat × Nat)} (h : MapAt H id M) (hq : q ∉ M.map (·.1)) :
    ∃ H', dkc pg R (.mset .int) [.mp id, .i .i64 (q : Int), .i .i64 (b : Int)] H = some (.undef, H') ∧ MapAt H' id (M ++ [(q, b)]) ∧ H'.length = H.length ∧ ∀ j, j ≠ id → H'[j]? = H[j]? := by
  obtain ⟨es, ck, h1, h2⟩ := h
  have hid := (List.getElem?_eq_some_iff.1 h1).1
  have hf := findK_P (q := q) h2
  rw [lookP_none hq] at hf
  refine ⟨H.set id (.map (es ++ [(.i .i64 (q : Int), .i .i64 (b : Int), ck)]) (ck + 1)), by simp [dkc, dk, h1, hf, eqK, eqS], ⟨_, _, List.getElem?_set_self hid, by simp [h2, encP]⟩, by simp, fun j hj => List.getElem?_set_ne (by omega)⟩
theorem MapAt.mono {H H' : Heap} {id : Nat} {M : List (Nat × Nat)} (h : MapAt H id M) (hf : H'[id]? = H[id]?) : MapAt H' id M := by
  obtain ⟨es, ck, h1, h2⟩ := h
  exact ⟨es, ck, by rw [hf]; exact h1, h2⟩
theorem MapAt.lt {H : Heap} {id : Nat} {M : List (Nat × Nat)} (h : MapAt H id M) : id < H.length := by
  obtain ⟨es, ck, h1, h2⟩ := h
  exact (List.getElem?_eq_some_iff.1 h1).1

/-- an element of such a slice, put into place -/
theorem _root_.Go.Dn.Que.put {H : Heap} {t : TV} {l : List Int} (h : Que H t l) {i : Nat} (hi : i < l.length) :
    ∃ p, dkc pg R (.ixS 1 false) [t, .i .i64 (i : Int)] H = some (p, H) ∧ ∀ (v : Int) (H1 : Heap), (∀ id, t.idOf = some id → H1[id]? = H[id]?) →
      ∃ H', dkc pg R (.st 1) [p, .i .i64 v] H1 = some (.undef, H') ∧ (Que H1 t l → Que H' t (l.set i v)) ∧ H'.length = H1.length ∧ ∀ j, t.idOf ≠ some j → H'[j]? = H1[j]? := by
  obtain ⟨id, off, cap, c, ag, rfl, h1, h2, h3, h4⟩ := h
  refine ⟨.ref id (off + i), (k_ixSl 1 false false id off l.length cap .i64 i H (by omega) (by simpa using hi)).trans (by simp), fun v H1 hf => ?_⟩
  have h1' : H1[id]? = some (.cells c ag) := by rw [hf id rfl]; exact h1
  have hid := (List.getElem?_eq_some_iff.1 h1').1
  refine ⟨H1.set id (.cells (put2 c (off + i) [.i .i64 v]) ag), ?_, fun _ => ?_, by simp, fun j hj => List.getElem?_set_ne (fun he => hj (by rw [← he]; rfl))⟩
  · rw [k_stI, h1', stC_some, if_pos ⟨rfl, rfl, by omega⟩]
  · have hput : put2 c (off + i) [TV.i .i64 v] = c.set (off + i) (.i .i64 v) := El.put2_set _ (by omega) _
    refine ⟨id, off, cap, put2 c (off + i) [.i .i64 v], ag, by rw [List.length_set], List.getElem?_set_self hid, ?_, ?_, ?_⟩
    · rw [hput, List.length_set, List.length_set]; exact h2
    · rw [hput, List.length_set, List.map_set, ← h3]
      apply List.ext_getElem?
      intro j
      by_cases hj : j < l.length
      · rw [List.getElem?_take, if_pos hj, List.getElem?_drop]
        by_cases hji : j = i
        · subst hji
          rw [List.getElem?_set_self (by omega), List.getElem?_set_self (by simp; omega)]
        · rw [List.getElem?_set_ne (by omega), List.getElem?_set_ne (by omega), List.getElem?_take, if_pos hj, List.getElem?_drop]
      · rw [List.getElem?_eq_none (by simp; omega), List.getElem?_eq_none (by simp; omega)]
    · intro k hk
      rw [List.length_set, hput, List.length_set]
      exact h4 k hk
end

theorem _root_.Go.Dn.Que.fin {H : Heap} {t : TV} {l : List Int} (h : Que H t l) (f : Nat) : Dn.snap .fin H (f + 2) t = some (.bs false 1 (l.map elI.val)) := by
  obtain ⟨id, off, cap, c, ag, rfl, h1, h2, h3, h4⟩ := h
  rw [snS_sl _ (by decide), h1, slB_some, if_pos ⟨by omega, .inr rfl⟩, Nat.mul_one, h3]
  have : elems 1 false l.length (l.map fun n => TV.i .i64 n) = l.map elI.val := rfl
  rw [this, mapO_map (f := elI.val) (k := elI.val) (l := l) fun a _ => snS_i _ _ _ _ _]
  rfl

/-! a slice turned round -/

end Go.Proofs.Tryd.Dn

/-
  A slice turned round in place.
-/

namespace Go.Proofs.Tryd.Dn
open Go.Dn

theorem _root_.Go.Dn.Que.at {pg : Pg} {R : Rec} {H : Heap} {t : TV} {l : List Int} (h : Que H t l) {i : Nat} {x : Int} (hx : l[i]? = some x) :
    ∃ p, dkc pg R (.ixS 1 false) [t, .i .i64 (i : Int)] H = some (p, H) ∧ dkc pg R (.ld 1 false) [p] H = some (.i .i64 x, H) ∧
      ∀ v : Int, ∃ H', dkc pg R (.st 1) [p, .i .i64 v] H = some (.undef, H') ∧ Que H' t (l.set i v) ∧ H'.length = H.length ∧ ∀ j, t.idOf ≠ some j → H'[j]? = H[j]? := by
  obtain ⟨p, h1, h2⟩ := ixI (pg := pg) (R := R) h.view hx
  obtain ⟨p', h3, h4⟩ := h.put (pg := pg) (R := R) (List.getElem?_eq_some_iff.1 hx).1
  rw [h1] at h3
  simp only [Option.some.injEq, Prod.mk.injEq, and_true] at h3
  subst h3
  refine ⟨p, h1, h2, fun v => ?_⟩
  obtain ⟨H', a1, a2, a3, a4⟩ := h4 v H fun _ _ => rfl
  exact ⟨H', a1, a2 h, a3, a4⟩

end Go.Proofs.Tryd.Dn

/-
  A way from one observation to another one: the program's search.
-/

namespace Go.Proofs.Tryd.Dn
open Go.Dn

def nI (l : List Nat) : List Int := l.map fun (n : Nat) => (n : Int)
theorem nI_len (l : List Nat) : (nI l).length = l.length := by simp [nI]

/-- one observation of a set is preferred to another one, by a share -/
def wE (X : List Obs) (s : Nat) (ba bb : Int) (i k : Nat) : Bool := decide (i < X.length) && decide (k < X.length) && s.testBit k && decide (0 < pref X ba bb i k)

/-- what a way is, from one to another one -/
structure IsWay (E : Nat → Nat → Bool) (n a t : Nat) (r : List Nat) : Prop where
  first : r.head? = some a
  last : r.getLast? = some t
  nodup : r.Nodup
  lt : ∀ x ∈ r, x < n
  link : ∀ i x y, r[i]? = some x → r[i + 1]? = some y → E x y = true

theorem IsWay.of {E : Nat → Nat → Bool} {n a t : Nat} {s : Sr} {p : List Nat} (hi : SInv E n a s) (h : Trail E s.M a t p) : IsWay E n a t p.reverse := by
  refine ⟨?_, ?_, ?_, ?_, ?_⟩
  · obtain ⟨q, rfl⟩ := h.last; simp
  · obtain ⟨q, rfl⟩ := h.head; simp
  · exact List.pairwise_reverse.2 (h.nodup.imp fun hne he => hne he.symm)
  · intro x hx
    rw [List.mem_reverse] at hx
    exact hi.lt x (h.keys hi.start x hx)
  · intro i x y hx hy
    have hi1 := (List.getElem?_eq_some_iff.1 hy).1
    simp only [List.length_reverse] at hi1
    rw [List.getElem?_reverse (by omega)] at hx hy
    have := h.link (p.length - 1 - (i + 1)) y x hy (by rw [show p.length - 1 - (i + 1) + 1 = p.length - 1 - i by omega]; exact hx)
    exact this

theorem IsWay.ne {E : Nat → Nat → Bool} {n a t : Nat} {r : List Nat} (h : IsWay E n a t r) : r ≠ [] := by rintro rfl; have := h.first; simp at this

end Go.Proofs.Tryd.Dn

/-
  A ring of a set, by a share: the program's.
-/

namespace Go.Proofs.Tryd.Dn
open Go.Dn

/-- a pair of a ring: one strictly preferred to another one, which leads back to it -/
def Pair (X : List Obs) (s : Nat) (ba bb : Int) (i k : Nat) : Prop := i ≠ k ∧ i < X.length ∧ k < X.length ∧ s.testBit i = true ∧ s.testBit k = true ∧ pref X ba bb i k = 2 ∧ Rch (wE X s ba bb) k i

end Go.Proofs.Tryd.Dn

