/-
  Which positions a game leads to: plain Lean.
-/
import Derived.Test.YtegihfgibonhpaaPe
set_option linter.unusedSimpArgs false
set_option linter.unusedVariables false

namespace Go.Proofs.Try.Dn
open Go.Dn

inductive Reach (l : List Line) (p : Nat) : Nat → Prop
  | here : Reach l p p
  | jump {q : Nat} {j : Line} : Reach l p q → j ∈ js l → can q j = true → Reach l p (leap q j)

theorem Reach.lt {n : Int} {l : List Line} {p q : Nat} (hn : n ≤ 16) (hf : ∀ x ∈ l, Fits n x) (hp : p < 65536) (h : Reach l p q) : q < 65536 := by
  induction h with
  | here => exact hp
  | jump h hj hc ih =>
    have := Hole3.of hn (js_fits hf _ hj)
    unfold Hole3 at this
    exact leap_lt ih (by omega)

structure St where
  S : Nat → Bool
  qs : List Nat
  M : List (Nat × Nat × Line)

def St.step (now : Nat) (s : St) (j : Line) : St :=
  if can now j && !s.S (leap now j) then ⟨fun q => q == leap now j || s.S q, s.qs ++ [leap now j], s.M ++ [(leap now j, now, j)]⟩ else s

structure Inv (l : List Line) (p : Nat) (s : St) : Prop where
  start : s.S p = true
  sound : ∀ q, s.S q = true → Reach l p q
  qin : ∀ q ∈ s.qs, s.S q = true
  how : ∀ e ∈ s.M, s.S e.1 = true ∧ s.S e.2.1 = true ∧ e.2.2 ∈ js l ∧ can e.2.1 e.2.2 = true ∧ leap e.2.1 e.2.2 = e.1
  has : ∀ q, s.S q = true → q = p ∨ ∃ e ∈ s.M, e.1 = q
  once : (s.M.map (·.1)).Nodup
  ord : ∀ M1 e M2, s.M = M1 ++ e :: M2 → e.2.1 = p ∨ ∃ x ∈ M1, x.1 = e.2.1

def Closed (l : List Line) (s : St) (q : Nat) : Prop := ∀ j ∈ js l, can q j = true → s.S (leap q j) = true

theorem St.step_mono (now : Nat) (s : St) (j : Line) {q : Nat} (h : s.S q = true) : (s.step now j).S q = true := by
  unfold St.step
  split
  · simp [h]
  · exact h

theorem St.step_new (now : Nat) (s : St) (j : Line) (h : can now j = true) : (s.step now j).S (leap now j) = true := by
  unfold St.step
  cases hs : s.S (leap now j) with
  | true => simp [hs]
  | false => simp [h, hs]

theorem Inv.step {l : List Line} {p now : Nat} {s : St} {j : Line} (h : Inv l p s) (hn : s.S now = true) (hj : j ∈ js l) : Inv l p (s.step now j) := by
  unfold St.step
  split
  · rename_i hc
    simp only [Bool.and_eq_true, Bool.not_eq_true'] at hc
    obtain ⟨hcan, hnew⟩ := hc
    refine ⟨by simp [h.start], ?_, ?_, ?_, ?_, ?_, ?_⟩
    · intro q hq
      simp only [Bool.or_eq_true, beq_iff_eq] at hq
      rcases hq with rfl | hq
      · exact .jump (h.sound _ hn) hj hcan
      · exact h.sound q hq
    · intro q hq
      simp only [List.mem_append, List.mem_singleton] at hq
      rcases hq with hq | rfl
      · simp [h.qin q hq]
      · simp
    · intro e he
      simp only [List.mem_append, List.mem_singleton] at he
      rcases he with he | rfl
      · obtain ⟨h1, h2, h3⟩ := h.how e he
        exact ⟨by simp [h1], by simp [h2], h3⟩
      · exact ⟨by simp, by simp [hn], hj, hcan, rfl⟩
    · intro q hq
      simp only [Bool.or_eq_true, beq_iff_eq] at hq
      rcases hq with rfl | hq
      · exact .inr ⟨(leap now j, now, j), by simp, rfl⟩
      · rcases h.has q hq with h1 | ⟨e, h1, h2⟩
        · exact .inl h1
        · exact .inr ⟨e, by simp [h1], h2⟩
    · simp only [List.map_append, List.map_cons, List.map_nil]
      rw [List.nodup_append]
      refine ⟨h.once, by simp, ?_⟩
      intro x hx y hy
      simp only [List.mem_singleton] at hy
      subst hy
      rintro rfl
      obtain ⟨e, he, h2⟩ := List.mem_map.1 hx
      have := (h.how e he).1
      rw [h2] at this
      rw [this] at hnew; cases hnew
    · intro M1 e M2 hM
      change s.M ++ [(leap now j, now, j)] = M1 ++ e :: M2 at hM
      rcases List.eq_nil_or_concat M2 with rfl | ⟨M2', y, rfl⟩
      · obtain ⟨rfl, he⟩ := List.append_inj' hM rfl
        simp at he
        subst he
        exact h.has now hn
      · have hM' : s.M ++ [(leap now j, now, j)] = (M1 ++ e :: M2') ++ [y] := by rw [hM]; simp
        obtain ⟨h1, _⟩ := List.append_inj' hM' rfl
        exact h.ord M1 e M2' h1
  · exact h

theorem St.step_keep {now : Nat} {s : St} {j : Line} {q : Nat} (h : q ∉ (s.step now j).qs) (hs : (s.step now j).S q = true) : q ∉ s.qs ∧ s.S q = true := by
  unfold St.step at h hs
  split at h
  · rename_i hc
    simp only [if_pos hc] at hs
    simp only [List.mem_append, List.mem_singleton, not_or] at h
    simp only [Bool.or_eq_true, beq_iff_eq] at hs
    exact ⟨h.1, hs.resolve_left h.2⟩
  · rename_i hc
    rw [if_neg hc] at hs
    exact ⟨h, hs⟩

def St.left (s : St) : Nat := (List.range 65536).countP fun q => !s.S q

theorem countP_le {P Q : Nat → Bool} : ∀ L : List Nat, (∀ y ∈ L, P y = true → Q y = true) → L.countP P ≤ L.countP Q
  | [], _ => by simp
  | y :: L, h => by
    have ih := countP_le L fun z hz => h z (by simp [hz])
    rw [List.countP_cons, List.countP_cons]
    have := h y (by simp)
    cases hP : P y with
    | true => simp [this hP]; omega
    | false => simp; omega

theorem countP_lt {P Q : Nat → Bool} {x : Nat} : ∀ L : List Nat, (∀ y ∈ L, P y = true → Q y = true) → x ∈ L → Q x = true → P x = false → L.countP P + 1 ≤ L.countP Q
  | [], _, hx, _, _ => by cases hx
  | y :: L, h, hx, hQ, hP => by
    have hle := countP_le L fun z hz => h z (by simp [hz])
    rw [List.countP_cons, List.countP_cons]
    rcases List.mem_cons.1 hx with rfl | hx
    · simp [hQ, hP]; omega
    · have ih := countP_lt L (fun z hz => h z (by simp [hz])) hx hQ hP
      have := h y (by simp)
      cases hPy : P y with
      | true => simp [this hPy]; omega
      | false => simp; omega

def St.mu (s : St) : Nat := 2 * s.left + s.qs.length

theorem St.step_mu {now : Nat} {s : St} {j : Line} (hlt : leap now j < 65536) : (s.step now j).mu ≤ s.mu := by
  unfold St.step
  split
  · rename_i hc
    simp only [Bool.and_eq_true, Bool.not_eq_true'] at hc
    have := countP_lt (P := fun q => !(q == leap now j || s.S q)) (Q := fun q => !s.S q) (x := leap now j) (List.range 65536) (by
      intro y _ hy
      simp only [Bool.not_eq_true', Bool.or_eq_false_iff] at hy
      simp [hy.2]) (List.mem_range.2 hlt) (by simp [hc.2]) (by simp)
    simp only [St.mu, St.left, List.length_append, List.length_singleton]
    omega
  · exact Nat.le_refl _

def St.steps (now : Nat) (s : St) (g : List Line) : St := g.foldl (fun s j => s.step now j) s

theorem St.steps_inv {l : List Line} {p now n : Nat} (hfit : ∀ j ∈ js l, ∀ m, m < 65536 → leap m j < 65536) (hnow : now < 65536) : ∀ (g : List Line) (s : St), (∀ j ∈ g, j ∈ js l) → Inv l p s → s.S now = true →
    Inv l p (s.steps now g) ∧ (s.steps now g).mu ≤ s.mu ∧ (∀ q, s.S q = true → (s.steps now g).S q = true) ∧ (∀ j ∈ g, can now j = true → (s.steps now g).S (leap now j) = true) ∧ (∀ q, q ∉ (s.steps now g).qs → (s.steps now g).S q = true → q ∉ s.qs ∧ s.S q = true)
  | [], s, _, h, _ => ⟨h, Nat.le_refl _, fun _ h => h, fun _ h => by (cases h), fun q h1 h2 => ⟨h1, h2⟩⟩
  | j :: g, s, hg, h, hn => by
    have hj := hg j (by simp)
    obtain ⟨i1, i2, i3, i4, i5⟩ := St.steps_inv (n := n) hfit hnow g (s.step now j) (fun x hx => hg x (by simp [hx])) (h.step hn hj) (s.step_mono now j hn)
    refine ⟨i1, Nat.le_trans i2 (St.step_mu (hfit j hj now hnow)), fun q hq => i3 q (s.step_mono now j hq), ?_, ?_⟩
    · intro x hx hc
      rcases List.mem_cons.1 hx with rfl | hx
      · exact i3 _ (s.step_new now x hc)
      · exact i4 x hx hc
    · intro q h1 h2
      obtain ⟨h3, h4⟩ := i5 q h1 h2
      exact St.step_keep h3 h4

theorem St.round {l : List Line} {p now : Nat} {s : St} {qs : List Nat} (hfit : ∀ j ∈ js l, ∀ m, m < 65536 → leap m j < 65536) (hlt : ∀ q, s.S q = true → q < 65536) (hq : s.qs = now :: qs) (h : Inv l p s) (hc : ∀ q, q ∉ s.qs → s.S q = true → Closed l s q) :
    Inv l p (St.steps now { s with qs := qs } (js l)) ∧ (St.steps now { s with qs := qs } (js l)).mu < s.mu ∧ (∀ q, q ∉ (St.steps now { s with qs := qs } (js l)).qs → (St.steps now { s with qs := qs } (js l)).S q = true → Closed l (St.steps now { s with qs := qs } (js l)) q) := by
  have hnow : s.S now = true := h.qin now (by rw [hq]; simp)
  have h1 : Inv l p { s with qs := qs } := ⟨h.start, h.sound, fun q hx => h.qin q (by rw [hq]; simp [hx]), h.how, h.has, h.once, h.ord⟩
  obtain ⟨i1, i2, i3, i4, i5⟩ := St.steps_inv (n := 0) hfit (hlt now hnow) (js l) { s with qs := qs } (fun _ h => h) h1 hnow
  refine ⟨i1, ?_, ?_⟩
  · refine Nat.lt_of_le_of_lt i2 ?_
    simp only [St.mu, St.left, hq, List.length_cons]
    omega
  · intro q hx hS
    obtain ⟨h2, h3⟩ := i5 q hx hS
    intro j hj hcan
    by_cases hqn : q = now
    · subst hqn; exact i4 j hj hcan
    · exact i3 _ (hc q (by rw [hq]; simp [hqn]; exact h2) h3 j hj hcan)

theorem Inv.all {l : List Line} {p : Nat} {s : St} (h : Inv l p s) (hq : s.qs = []) (hc : ∀ q, q ∉ s.qs → s.S q = true → Closed l s q) (q : Nat) : s.S q = true ↔ Reach l p q := by
  refine ⟨h.sound q, fun hr => ?_⟩
  induction hr with
  | here => exact h.start
  | jump _ hj hcan ih => exact hc _ (by rw [hq]; simp) ih _ hj hcan

end Go.Proofs.Try.Dn

/-
  Which positions a game leads to: the search's memory.
-/

namespace Go.Proofs.Try.Dn
open Go.Dn

theorem st_box {pg : Pg} {R : Rec} {H : Heap} {id : Nat} {u v : TV} {ag : Bool} (h : H[id]? = some (.cells [u] ag)) (hv : v.one = true) : dkc pg R (.st 1) [.ref id 0, v] H = some (.undef, H.set id (.cells [v] ag)) := by
  have hc : v.cells = [v] := by cases v <;> simp_all [TV.cells, TV.one]
  simp [dkc, dk, h, hc, hv, put2]

def Que (H : Heap) (t : TV) (l : List Int) : Prop :=
  ∃ id off cap c ag, t = .sl id off 1 false l.length cap ∧ H[id]? = some (.cells c ag) ∧ off + l.length ≤ c.length ∧ (c.drop off).take l.length = l.map (fun n => .i .i64 n) ∧ (∀ k, cap = some k → l.length ≤ k ∧ off + k ≤ c.length)

theorem elI_flat_map (l : List Int) : elI.flat l = l.map (fun n => .i .i64 n) := by
  induction l with
  | nil => rfl
  | cons x l ih => rw [El.flat_cons, ih]; rfl

theorem Que.view {H : Heap} {t : TV} {l : List Int} (h : Que H t l) : elI.View H t l := by
  obtain ⟨id, off, cap, c, ag, rfl, h1, h2, h3, h4⟩ := h
  refine .inr (.inr ⟨id, off, cap, c, ag, rfl, ?_, h1, ?_, ?_⟩)
  · cases cap with
    | none => exact Nat.le_refl _
    | some k => exact (h4 k rfl).1
  · show off + l.length * 1 ≤ c.length; omega
  · rw [elI_flat_map, ← h3]; show List.take (l.length * 1) _ = _; rw [Nat.mul_one]

theorem Que.mono {H H' : Heap} {t : TV} {l : List Int} (h : Que H t l) (hf : ∀ id, t.idOf = some id → H'[id]? = H[id]?) : Que H' t l := by
  obtain ⟨id, off, cap, c, ag, rfl, h1, h2⟩ := h
  exact ⟨id, off, cap, c, ag, rfl, by rw [hf id rfl]; exact h1, h2⟩

theorem Que.lt {H : Heap} {t : TV} {l : List Int} (h : Que H t l) : ∀ id, t.idOf = some id → id < H.length := by
  obtain ⟨id, off, cap, c, ag, rfl, h1, h2⟩ := h
  intro i hi
  cases hi
  exact (List.getElem?_eq_some_iff.1 h1).1

theorem Que.one {H : Heap} {t : TV} {l : List Int} (h : Que H t l) : t.one = true ∧ t.isAgg = false := by
  obtain ⟨id, off, cap, c, ag, rfl, h1, h2⟩ := h
  exact ⟨rfl, rfl⟩

theorem Que.tail {H : Heap} {t : TV} {x : Int} {l : List Int} (h : Que H t (x :: l)) : ∃ t', slcRun true false false 1 false t [.i .i64 1] = some t' ∧ Que H t' l ∧ t'.idOf = t.idOf := by
  obtain ⟨id, off, cap, c, ag, rfl, h1, h2, h3, h4⟩ := h
  have hb : bounds3 true false false (l.length + 1) [.i .i64 1] = some (1, l.length + 1, none) := by simp [bounds3, bound]
  have hcap : l.length + 1 ≤ cap.getD (l.length + 1) := by
    cases cap with
    | none => exact Nat.le_refl _
    | some k => have := (h4 k rfl).1; simpa using this
  refine ⟨.sl id (off + 1) 1 false l.length (cap.map (· - 1)), ?_, ⟨id, off + 1, cap.map (· - 1), c, ag, rfl, h1, ?_, ?_, ?_⟩, rfl⟩
  · simp only [slcRun, hb, Option.bind_some, List.length_cons, true_and, Option.getD_none, Nat.le_refl, hcap, and_self, if_true]
    rfl
  · simp only [List.length_cons] at h2; omega
  · have h5 := congrArg (List.drop 1) h3
    simp only [List.length_cons, List.map_cons, List.drop_succ_cons, List.drop_zero] at h5
    rw [← h5, List.drop_take, List.drop_drop]
    rfl
  · intro k hk
    cases cap with
    | none => cases hk
    | some m =>
      have := h4 m rfl
      simp only [List.length_cons] at this
      simp at hk
      omega

theorem Que.app {H : Heap} {t : TV} {l : List Int} {x : Int} (h : Que H t l) (hl : l.length ≤ 1000000) :
    ∃ t' H', appRun 1 false 8 t (.sl H.length 0 1 false 1 (some 1)) (H ++ [.cells [.i .i64 x] false]) = some (t', H') ∧ Que H' t' (l ++ [x]) ∧ H.length ≤ H'.length ∧ (∀ j, j < H.length → t.idOf ≠ some j → H'[j]? = H[j]?) ∧ (t'.idOf = t.idOf ∨ ∀ id, t'.idOf = some id → H.length ≤ id) := by
  obtain ⟨id, off, cap, c, ag, rfl, h1, h2, h3, h4⟩ := h
  have hid := (List.getElem?_eq_some_iff.1 h1).1
  have h1' : (H ++ [AObj.cells [TV.i .i64 x] false])[id]? = some (.cells c ag) := by rw [List.getElem?_append_left hid]; exact h1
  have hgl := getLast H (.cells [.i .i64 x] false)
  have hb : (l.length + 1) * 8 ≤ 140737488355328 := by omega
  have e0 : ¬ (1 = 0) := by decide
  have hone : [TV.i IntKind.i64 x].all TV.one = true := rfl
  have hlen : (l ++ [x]).length = l.length + 1 := by simp
  have fresh : ∀ H2 : Heap, (∀ j, j < H.length → j ≠ id → H2[j]? = H[j]?) → H2.length = H.length + 1 → 
      Que (H2 ++ [.cells ((c.drop off).take (l.length * 1) ++ [.i .i64 x]) false]) (.sl (H ++ [AObj.cells [TV.i .i64 x] false]).length 0 1 false (l.length + 1) none) (l ++ [x]) ∧ H.length ≤ (H2 ++ [AObj.cells ((c.drop off).take (l.length * 1) ++ [.i .i64 x]) false]).length ∧
        (∀ j, j < H.length → (TV.sl id off 1 false l.length cap).idOf ≠ some j → (H2 ++ [AObj.cells ((c.drop off).take (l.length * 1) ++ [.i .i64 x]) false])[j]? = H[j]?) := by
    intro H2 hf hl2
    refine ⟨⟨_, 0, none, (c.drop off).take (l.length * 1) ++ [.i .i64 x], false, by rw [hlen], ?_, ?_, ?_, fun k hk => by cases hk⟩, by simp; omega, ?_⟩
    · rw [List.getElem?_append_right (by simp; omega)]
      simp [hl2]
    · rw [Nat.mul_one, h3]; simp
    · rw [Nat.mul_one, h3, hlen, List.drop_zero, List.take_of_length_le (by simp)]
      simp
    · intro j hj hne
      rw [List.getElem?_append_left (by omega)]
      exact hf j hj (fun he => hne (by rw [he]; rfl))
  cases cap with
  | none =>
    obtain ⟨q1, q2, q3⟩ := fresh ((H ++ [AObj.cells [TV.i .i64 x] false]).set id .dead) (fun j hj hne => by rw [List.getElem?_set_ne (by omega), List.getElem?_append_left hj]) (by simp)
    refine ⟨_, _, ?_, q1, q2, q3, .inr fun i hi => by cases hi; simp⟩
    simp only [appRun, lenOf, flatOf, Option.bind_some, hgl, List.length_singleton, Nat.zero_add, Nat.mul_one, Nat.le_refl, and_self, if_true, List.drop_zero, List.take_succ_cons, List.take_nil, List.take_zero, hone, hb, e0, if_false, h1', h2]
  | some k =>
    obtain ⟨k1, k2⟩ := h4 k rfl
    by_cases hk : l.length + 1 ≤ k
    · have hroom : off + (l.length + 1) * 1 ≤ c.length := by omega
      refine ⟨.sl id off 1 false (l.length + 1) (some k), (H ++ [AObj.cells [TV.i .i64 x] false]).set id (AObj.cells (put2 c (off + l.length * 1) [.i .i64 x]) ag), by
        simp only [appRun, lenOf, flatOf, Option.bind_some, hgl, List.length_singleton, Nat.zero_add, Nat.mul_one, Nat.le_refl, and_self, if_true, List.drop_zero, List.take_succ_cons, List.take_nil, List.take_zero, hone, hb, e0, if_false, h1', h2, hk]
        rw [if_pos (by omega)], ⟨id, off, some k, put2 c (off + l.length * 1) [.i .i64 x], ag, by rw [hlen], ?_, ?_, ?_, ?_⟩, by simp, ?_, .inl rfl⟩
      · rw [List.getElem?_set_self (by simp; omega)]
      · simp [put2]; omega
      · have hput : put2 c (off + l.length * 1) [TV.i .i64 x] = c.set (off + l.length) (.i .i64 x) := by
          simp only [put2, List.length_singleton, Nat.mul_one]
          rw [List.set_eq_take_append_cons_drop, if_pos (by omega)]
          simp
        rw [hput, hlen]
        apply List.ext_getElem?
        intro i
        have h3i := congrArg (·[i]?) h3
        simp only [List.getElem?_take, List.getElem?_drop] at h3i
        simp only [List.getElem?_take, List.getElem?_drop, List.map_append, List.map_cons, List.map_nil]
        by_cases hi : i < l.length
        · rw [if_pos (by omega), List.getElem?_set_ne (by omega), List.getElem?_append_left (by simpa using hi), ← h3i, if_pos hi]
        · by_cases hi2 : i = l.length
          · subst hi2
            rw [if_pos (by omega), List.getElem?_set_self (by omega), List.getElem?_append_right (by simp)]
            simp
          · rw [if_neg (by omega), List.getElem?_eq_none (by simp; omega)]
      · intro m hm
        cases hm
        simp [put2]; omega
      · intro j hj hne
        rw [List.getElem?_set_ne (fun he => hne (by rw [← he]; rfl)), List.getElem?_append_left hj]
    · obtain ⟨q1, q2, q3⟩ := fresh (H ++ [AObj.cells [TV.i .i64 x] false]) (fun j hj hne => by rw [List.getElem?_append_left hj]) (by simp)
      refine ⟨_, _, ?_, q1, q2, q3, .inr fun i hi => by cases hi; simp⟩
      simp only [appRun, lenOf, flatOf, Option.bind_some, hgl, List.length_singleton, Nat.zero_add, Nat.mul_one, Nat.le_refl, and_self, if_true, List.drop_zero, List.take_succ_cons, List.take_nil, List.take_zero, hone, hb, e0, if_false, h1', h2, hk]

end Go.Proofs.Try.Dn

/-
  Which positions a game leads to: one jump of the search.
-/

namespace Go.Proofs.Try.Dn
open Go.Dn

def encM (e : Nat × Nat × Line) : TV × TV := (.i .i64 (e.1 : Int), .agg [.i .i64 (e.2.1 : Int), .i .i64 e.2.2.1, .i .i64 e.2.2.2.1, .i .i64 e.2.2.2.2])

structure HB (a : Nat) (H : Heap) (s : St) (t : TV) : Prop where
  seen : ∃ c, H[a]? = some (.cells c true) ∧ c.length = 65536 ∧ ∀ q, q < 65536 → c[q]? = some (.b (s.S q))
  map : ∃ es ck, H[a + 1]? = some (.map es ck) ∧ es.map (fun e => (e.1, e.2.1)) = s.M.map encM
  mc : H[a + 2]? = some (.cells [.mp (a + 1)] false)
  qc : H[a + 4]? = some (.cells [t] false)
  que : Que H t (s.qs.map fun (n : Nat) => (n : Int))
  qid : ∀ id, t.idOf = some id → a + 3 ≤ id ∧ id ≠ a + 4

theorem HB.mono {a : Nat} {H H' : Heap} {s : St} {t : TV} (h : HB a H s t) (hf : ∀ i, (i = a ∨ i = a + 1 ∨ i = a + 2 ∨ i = a + 4 ∨ t.idOf = some i) → H'[i]? = H[i]?) : HB a H' s t where
  seen := by rw [hf a (.inl rfl)]; exact h.seen
  map := by rw [hf (a + 1) (.inr (.inl rfl))]; exact h.map
  mc := by rw [hf (a + 2) (.inr (.inr (.inl rfl)))]; exact h.mc
  qc := by rw [hf (a + 4) (.inr (.inr (.inr (.inl rfl))))]; exact h.qc
  que := h.que.mono fun id hid => hf id (.inr (.inr (.inr (.inr hid))))
  qid := h.qid

theorem HB.lt {a : Nat} {H : Heap} {s : St} {t : TV} (h : HB a H s t) : a + 4 < H.length := (List.getElem?_eq_some_iff.1 h.qc).1

theorem HB.append {a : Nat} {H : Heap} {s : St} {t : TV} (h : HB a H s t) (X : Heap) : HB a (H ++ X) s t :=
  h.mono fun i hi => by
    have hl := h.lt
    rw [List.getElem?_append_left]
    rcases hi with rfl | rfl | rfl | rfl | hi
    · omega
    · omega
    · omega
    · omega
    · exact h.que.lt i hi

end Go.Proofs.Try.Dn

/-
  Which positions a game leads to: the program's search.
-/

namespace Go.Proofs.Try.Dn
open Go.Dn

theorem Que.cells {H : Heap} {t : TV} {l : List Int} (h : Que H t l) {id : Nat} (hid : t.idOf = some id) : ∃ c ag, H[id]? = some (.cells c ag) := by
  obtain ⟨i, off, cap, c, ag, rfl, h1, h2⟩ := h
  cases hid
  exact ⟨c, ag, h1⟩

def zeros : List TV := List.replicate 65536 (.b false)

end Go.Proofs.Try.Dn

/-
  Reached: the positions that are reached, in their order.
-/

namespace Go.Proofs.Try.Dn
open Go.Dn

end Go.Proofs.Try.Dn

/-
  Solve: a list turned round in place; whence a position came.
-/

namespace Go.Dn

theorem El.ownSet {α : Type} {E : El α} {pg : Pg} {R : Rec} {H : Heap} {t : TV} {l : List α} (h : E.Own H t l) {i : Nat} (hi : i < l.length) (x : α) (k : IntKind) :
    ∃ p H', dkc pg R (.ixS E.sz E.ag) [t, .i k (i : Int)] H = some (p, H) ∧ dkc pg R (.st E.sz) [p, E.val x] H = some (.undef, H') ∧ E.Own H' t (l.set i x) ∧ H'.length = H.length ∧ (∀ j, t.idOf ≠ some j → H'[j]? = H[j]?) := by
  rcases h with ⟨rfl, rfl⟩ | ⟨h0, id, ag, c, rfl, h1, h2, h3⟩
  · simp at hi
  · have hid := (List.getElem?_eq_some_iff.1 h1).1
    have hroom : (i + 1) * E.sz ≤ l.length * E.sz := Nat.mul_le_mul_right _ hi
    have hroom' : i * E.sz + E.sz ≤ l.length * E.sz := by rw [Nat.add_mul] at hroom; omega
    refine ⟨.ref id (i * E.sz), H.set id (.cells (put2 c (i * E.sz) (E.enc x)) ag), ?_, ?_, ?_, by simp, ?_⟩
    · exact (gXp1 E.sz E.ag E.ag id 0 l.length none k i H (by omega) (by simpa using hi)).trans (by simp)
    · have hc : (E.val x).cells = E.enc x := E.val_cells x
      simp only [dkc, dk, h1, hc, E.len x, E.one x, true_and]
      rw [if_pos (by omega)]
    · refine .inr ⟨by simpa using h0, id, ag, put2 c (i * E.sz) (E.enc x), by rw [List.length_set], by simp [hid], ?_, ?_⟩
      · have := E.len x
        simp only [put2, List.length_append, List.length_take, List.length_drop, List.length_set]
        omega
      · have hcs : c = E.flat l ++ c.drop (l.length * E.sz) := by rw [← h3, List.take_append_drop]
        have hfl := E.flat_len l
        have htk : c.take (i * E.sz) = E.flat (l.take i) := by
          rw [hcs, List.take_append_of_le_length (by rw [hfl]; omega), E.flat_take]
        have hdr : c.drop (i * E.sz + (E.enc x).length) = E.flat (l.drop (i + 1)) ++ c.drop (l.length * E.sz) := by
          rw [E.len x, show i * E.sz + E.sz = (i + 1) * E.sz by rw [Nat.add_mul]; omega]
          conv => lhs; rw [hcs]
          rw [List.drop_append_of_le_length (by rw [hfl]; exact hroom), E.flat_drop]
        have hset : E.flat (l.set i x) = E.flat (l.take i) ++ E.enc x ++ E.flat (l.drop (i + 1)) := by
          rw [List.set_eq_take_append_cons_drop, if_pos hi, E.flat_append, E.flat_cons, List.append_assoc]
        rw [List.length_set]
        unfold put2
        rw [htk, hdr, ← List.append_assoc, ← hset, List.take_append_of_le_length (by rw [E.flat_len, List.length_set]; exact Nat.le_refl _)]
        have hls : (l.set i x).length = l.length := List.length_set
        rw [← hls, ← E.flat_len, List.take_length]
    · intro j hj
      rw [List.getElem?_set_ne]
      intro he
      exact hj (by rw [← he]; rfl)

end Go.Dn
namespace Go.Proofs.Try.Dn
open Go.Dn

theorem fn50 {pg : Pg} (hF : Free pg) (j : Line) : Fn pg 50 [lineTV j] (lineTV j) := by
  obtain ⟨a, b, c⟩ := j
  refine .of1 (x := .ret) (e := [(2, .ref 1 0)]) (H' := [.cells [.i .i64 a, .i .i64 b, .i .i64 c] true, .cells [.i .i64 a, .i .i64 b, .i .i64 c] true]) (hF.S _ _ (by decide)) (d := d50) (by rw [hF.F]; rfl) rfl ?_ (.inl rfl) (by simp [d50, resRun, mapO, Dn.get, dk, Dn.part, lineTV]) (snap_line _ _ 7 _)
  simp [d50, c50, zipE, gX0, gX1, gX2, gX3, gX4, gX5, gX6, gX7, gX8, gX9, gXa, gXb, gXc, gXd, gXe, gXf, gXg, gXh, gXi, gXj, gXk, gXl, gXm, gXn, gXo, gXp, gXq, gXr, gXs, gXt, gXu, gXv, gXw, gXx, k_mv, gXy, gXz, gX01, gX11, gX21, gX31, gX41, gX51, gX61, gX71, gX81, gX91, gXa1, gXb1, gXc1, gXd1, gXe1, gXf1, gXg1, gXh1, gXi1, gXj1, gXk1, gXl1, gXm1, gXn1, gXo1, gXp1, gXq1, gXr1, gXs1, gXt1, gXu1, k_mn, k_mx, gXv1, gXw1, gXx1, gXy1, gXz1, gX02, gX12, gX22, gX32, gX42, gX52, gX62, gX72, Dn.setLast, Dn.getLast, evalO, mapO, Dn.get, putE, keepE, TV.one, TV.isAgg, Dn.part, lineTV, fillP, put2, TV.cells]

end Go.Proofs.Try.Dn

/-
  PegBack: games turned round; the whole run.
-/

namespace Go.Proofs.Try.Dn
open Go.Dn

theorem nd_bit {m k i : Nat} (hm : m < 65536) : (nd m k).testBit i = (m.testBit i && !k.testBit i) := by
  unfold nd
  rw [BitVec.testBit_toNat, BitVec.getLsbD_and, BitVec.getLsbD_not, BitVec.getLsbD_ofNat, BitVec.getLsbD_ofNat]
  by_cases hi : i < 64
  · simp [hi]
  · have : m.testBit i = false := Nat.testBit_lt_two_pow (Nat.lt_of_lt_of_le hm (Nat.le_trans (by decide : 65536 ≤ 2 ^ 64) (Nat.pow_le_pow_right (by decide) (by omega))))
    simp [hi, this]

theorem two_bit (a i : Nat) : (2 ^ a).testBit i = decide (a = i) := Nat.testBit_two_pow

theorem leap_bit {m : Nat} {j : Line} (hm : m < 65536) (i : Nat) : (leap m j).testBit i = ((m.testBit i && !(decide (j.1.toNat = i) || decide (j.2.1.toNat = i))) || decide (j.2.2.toNat = i)) := by
  unfold leap
  rw [Nat.testBit_or, nd_bit hm, Nat.testBit_or, two_bit, two_bit, two_bit]

theorem leap_ltn {m k : Nat} {j : Line} (hm : m < 2 ^ k) (hj : j.2.2.toNat < k) : leap m j < 2 ^ k := by
  have h1 := nd_le m (2 ^ j.1.toNat ||| 2 ^ j.2.1.toNat)
  exact Nat.or_lt_two_pow (by omega) (Nat.pow_lt_pow_right (by decide) hj)

theorem Reach.head {l : List Line} {p q : Nat} {j : Line} (hj : j ∈ js l) (hc : can p j = true) (h : Reach l (leap p j) q) : Reach l p q := by
  induction h with
  | here => exact .jump .here hj hc
  | jump _ hj' hc' ih => exact .jump ih hj' hc'

end Go.Proofs.Try.Dn

