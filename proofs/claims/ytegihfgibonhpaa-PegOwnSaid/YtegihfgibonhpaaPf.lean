/-
  Which positions a game leads to: plain Lean.
-/
import Derived.Test.YtegihfgibonhpaaPe
set_option linter.unusedSimpArgs false
set_option linter.unusedVariables false

namespace Go.Proofs.Try.Dn
open Go.Dn

inductive Reach (l : List Line) (p : Nat) : Nat → Prop
  | here : Reach l p p
  | jump {q : Nat} {j : Line} : Reach l p q → j ∈ js l → can q j = true → Reach l p (leap q j)

theorem Reach.lt {n : Int} {l : List Line} {p q : Nat} (hn : n ≤ 16) (hf : ∀ x ∈ l, Fits n x) (hp : p < 65536) (h : Reach l p q) : q < 65536 := by
  induction h with
  | here => exact hp
  | jump h hj hc ih =>
    have := Hole3.of hn (js_fits hf _ hj)
    unfold Hole3 at this
    exact leap_lt ih (by omega)

structure St where
  S : Nat → Bool
  qs : List Nat
  M : List (Nat × Nat × Line)

def St.step (now : Nat) (s : St) (j : Line) : St :=
  if can now j && !s.S (leap now j) then ⟨fun q => q == leap now j || s.S q, s.qs ++ [leap now j], s.M ++ [(leap now j, now, j)]⟩ else s

structure Inv (l : List Line) (p : Nat) (s : St) : Prop where
  start : s.S p = true
  sound : ∀ q, s.S q = true → Reach l p q
  qin : ∀ q ∈ s.qs, s.S q = true
  how : ∀ e ∈ s.M, s.S e.1 = true ∧ s.S e.2.1 = true ∧ e.2.2 ∈ js l ∧ can e.2.1 e.2.2 = true ∧ leap e.2.1 e.2.2 = e.1
  has : ∀ q, s.S q = true → q = p ∨ ∃ e ∈ s.M, e.1 = q
  once : (s.M.map (·.1)).Nodup
  ord : ∀ M1 e M2, s.M = M1 ++ e :: M2 → e.2.1 = p ∨ ∃ x ∈ M1, x.1 = e.2.1

def Closed (l : List Line) (s : St) (q : Nat) : Prop := ∀ j ∈ js l, can q j = true → s.S (leap q j) = true

theorem St.step_mono (now : Nat) (s : St) (j : Line) {q : Nat} (h : s.S q = true) : (s.step now j).S q = true := by
  unfold St.step
  split
  · simp [h]
  · exact h

theorem St.step_new (now : Nat) (s : St) (j : Line) (h : can now j = true) : (s.step now j).S (leap now j) = true := by
  unfold St.step
  cases hs : s.S (leap now j) with
  | true => simp [hs]
  | false => simp [h, hs]

theorem Inv.step {l : List Line} {p now : Nat} {s : St} {j : Line} (h : Inv l p s) (hn : s.S now = true) (hj : j ∈ js l) : Inv l p (s.step now j) := by
  unfold St.step
  split
  · rename_i hc
    simp only [Bool.and_eq_true, Bool.not_eq_true'] at hc
    obtain ⟨hcan, hnew⟩ := hc
    refine ⟨by simp [h.start], ?_, ?_, ?_, ?_, ?_, ?_⟩
    · intro q hq
      simp only [Bool.or_eq_true, beq_iff_eq] at hq
      rcases hq with rfl | hq
      · exact .jump (h.sound _ hn) hj hcan
      · exact h.sound q hq
    · intro q hq
      simp only [List.mem_append, List.mem_singleton] at hq
      rcases hq with hq | rfl
      · simp [h.qin q hq]
      · simp
    · intro e he
      simp only [List.mem_append, List.mem_singleton] at he
      rcases he with he | rfl
      · obtain ⟨h1, h2, h3⟩ := h.how e he
        exact ⟨by simp [h1], by simp [h2], h3⟩
      · exact ⟨by simp, by simp [hn], hj, hcan, rfl⟩
    · intro q hq
      simp only [Bool.or_eq_true, beq_iff_eq] at hq
      rcases hq with rfl | hq
      · exact .inr ⟨(leap now j, now, j), by simp, rfl⟩
      · rcases h.has q hq with h1 | ⟨e, h1, h2⟩
        · exact .inl h1
        · exact .inr ⟨e, by simp [h1], h2⟩
    · simp only [List.map_append, List.map_cons, List.map_nil]
      rw [List.nodup_append]
      refine ⟨h.once, by simp, ?_⟩
      intro x hx y hy
      simp only [List.mem_singleton] at hy
      subst hy
      rintro rfl
      obtain ⟨e, he, h2⟩ := List.mem_map.1 hx
      have := (h.how e he).1
      rw [h2] at this
      rw [this] at hnew; cases hnew
    · intro M1 e M2 hM
      change s.M ++ [(leap now j, now, j)] = M1 ++ e :: M2 at hM
      rcases List.eq_nil_or_concat M2 with rfl | ⟨M2', y, rfl⟩
      · obtain ⟨rfl, he⟩ := List.append_inj' hM rfl
        simp at he
        subst he
        exact h.has now hn
      · have hM' : s.M ++ [(leap now j, now, j)] = (M1 ++ e :: M2') ++ [y] := by rw [hM]; simp
        obtain ⟨h1, _⟩ := List.append_inj' hM' rfl
        exact h.ord M1 e M2' h1
  · exact h

theorem St.step_keep {now : Nat} {s : St} {j : Line} {q : Nat} (h : q ∉ (s.step now j).qs) (hs : (s.step now j).S q = true) : q ∉ s.qs ∧ s.S q = true := by
  unfold St.step at h hs
  split at h
  · rename_i hc
    simp only [if_pos hc] at hs
    simp only [List.mem_append, List.mem_singleton, not_or] at h
    simp only [Bool.or_eq_true, beq_iff_eq] at hs
    exact ⟨h.1, hs.resolve_left h.2⟩
  · rename_i hc
    rw [if_neg hc] at hs
    exact ⟨h, hs⟩

def St.left (s : St) : Nat := (List.range 65536).countP fun q => !s.S q

theorem countP_le {P Q : Nat → Bool} : ∀ L : List Nat, (∀ y ∈ L, P y = true → Q y = true) → L.countP P ≤ L.countP Q
  | [], _ => by simp
  | y :: L, h => by
    have ih := countP_le L fun z hz => h z (by simp [hz])
    rw [List.countP_cons, List.countP_cons]
    have := h y (by simp)
    cases hP : P y with
    | true => simp [this hP]; omega
    | false => simp; omega

theorem countP_lt {P Q : Nat → Bool} {x : Nat} : ∀ L : List Nat, (∀ y ∈ L, P y = true → Q y = true) → x ∈ L → Q x = true → P x = false → L.countP P + 1 ≤ L.countP Q
  | [], _, hx, _, _ => by cases hx
  | y :: L, h, hx, hQ, hP => by
    have hle := countP_le L fun z hz => h z (by simp [hz])
    rw [List.countP_cons, List.countP_cons]
    rcases List.mem_cons.1 hx with rfl | hx
    · simp [hQ, hP]; omega
    · have ih := countP_lt L (fun z hz => h z (by simp [hz])) hx hQ hP
      have := h y (by simp)
      cases hPy : P y with
      | true => simp [this hPy]; omega
      | false => simp; omega

def St.mu (s : St) : Nat := 2 * s.left + s.qs.length

theorem St.step_mu {now : Nat} {s : St} {j : Line} (hlt : leap now j < 65536) : (s.step now j).mu ≤ s.mu := by
  unfold St.step
  split
  · rename_i hc
    simp only [Bool.and_eq_true, Bool.not_eq_true'] at hc
    have := countP_lt (P := fun q => !(q == leap now j || s.S q)) (Q := fun q => !s.S q) (x := leap now j) (List.range 65536) (by
      intro y _ hy
      simp only [Bool.not_eq_true', Bool.or_eq_false_iff] at hy
      simp [hy.2]) (List.mem_range.2 hlt) (by simp [hc.2]) (by simp)
    simp only [St.mu, St.left, List.length_append, List.length_singleton]
    omega
  · exact Nat.le_refl _

def St.steps (now : Nat) (s : St) (g : List Line) : St := g.foldl (fun s j => s.step now j) s

theorem St.steps_inv {l : List Line} {p now n : Nat} (hfit : ∀ j ∈ js l, ∀ m, m < 65536 → leap m j < 65536) (hnow : now < 65536) : ∀ (g : List Line) (s : St), (∀ j ∈ g, j ∈ js l) → Inv l p s → s.S now = true →
    Inv l p (s.steps now g) ∧ (s.steps now g).mu ≤ s.mu ∧ (∀ q, s.S q = true → (s.steps now g).S q = true) ∧ (∀ j ∈ g, can now j = true → (s.steps now g).S (leap now j) = true) ∧ (∀ q, q ∉ (s.steps now g).qs → (s.steps now g).S q = true → q ∉ s.qs ∧ s.S q = true)
  | [], s, _, h, _ => ⟨h, Nat.le_refl _, fun _ h => h, fun _ h => by (cases h), fun q h1 h2 => ⟨h1, h2⟩⟩
  | j :: g, s, hg, h, hn => by
    have hj := hg j (by simp)
    obtain ⟨i1, i2, i3, i4, i5⟩ := St.steps_inv (n := n) hfit hnow g (s.step now j) (fun x hx => hg x (by simp [hx])) (h.step hn hj) (s.step_mono now j hn)
    refine ⟨i1, Nat.le_trans i2 (St.step_mu (hfit j hj now hnow)), fun q hq => i3 q (s.step_mono now j hq), ?_, ?_⟩
    · intro x hx hc
      rcases List.mem_cons.1 hx with rfl | hx
      · exact i3 _ (s.step_new now x hc)
      · exact i4 x hx hc
    · intro q h1 h2
      obtain ⟨h3, h4⟩ := i5 q h1 h2
      exact St.step_keep h3 h4

theorem St.round {l : List Line} {p now : Nat} {s : St} {qs : List Nat} (hfit : ∀ j ∈ js l, ∀ m, m < 65536 → leap m j < 65536) (hlt : ∀ q, s.S q = true → q < 65536) (hq : s.qs = now :: qs) (h : Inv l p s) (hc : ∀ q, q ∉ s.qs → s.S q = true → Closed l s q) :
    Inv l p (St.steps now { s with qs := qs } (js l)) ∧ (St.steps now { s with qs := qs } (js l)).mu < s.mu ∧ (∀ q, q ∉ (St.steps now { s with qs := qs } (js l)).qs → (St.steps now { s with qs := qs } (js l)).S q = true → Closed l (St.steps now { s with qs := qs } (js l)) q) := by
  have hnow : s.S now = true := h.qin now (by rw [hq]; simp)
  have h1 : Inv l p { s with qs := qs } := ⟨h.start, h.sound, fun q hx => h.qin q (by rw [hq]; simp [hx]), h.how, h.has, h.once, h.ord⟩
  obtain ⟨i1, i2, i3, i4, i5⟩ := St.steps_inv (n := 0) hfit (hlt now hnow) (js l) { s with qs := qs } (fun _ h => h) h1 hnow
  refine ⟨i1, ?_, ?_⟩
  · refine Nat.lt_of_le_of_lt i2 ?_
    simp only [St.mu, St.left, hq, List.length_cons]
    omega
  · intro q hx hS
    obtain ⟨h2, h3⟩ := i5 q hx hS
    intro j hj hcan
    by_cases hqn : q = now
    · subst hqn; exact i4 j hj hcan
    · exact i3 _ (hc q (by rw [hq]; simp [hqn]; exact h2) h3 j hj hcan)

theorem Inv.all {l : List Line} {p : Nat} {s : St} (h : Inv l p s) (hq : s.qs = []) (hc : ∀ q, q ∉ s.qs → s.S q = true → Closed l s q) (q : Nat) : s.S q = true ↔ Reach l p q := by
  refine ⟨h.sound q, fun hr => ?_⟩
  induction hr with
  | here => exact h.start
  | jump _ hj hcan ih => exact hc _ (by rw [hq]; simp) ih _ hj hcan

end Go.Proofs.Try.Dn

/-
  Which positions a game leads to: the search's memory.
-/

namespace Go.Proofs.Try.Dn
open Go.Dn

theorem st_box {pg : Pg} {R : Rec} {H : Heap} {id : Nat} {u v : TV} {ag : Bool} (h : H[id]? = some (.cells [u] ag)) (hv : v.one = true) : dkc pg R (.st 1) [.ref id 0, v] H = some (.undef, H.set id (.cells [v] ag)) := by
  have hc : v.cells = [v] := by cases v <;> simp_all [TV.cells, TV.one]
  simp [dkc, dk, h, hc, hv, put2]

def Que (H : Heap) (t : TV) (l : List Int) : Prop :=
  ∃ id off cap c ag, t = .sl id off 1 false l.length cap ∧ H[id]? = some (.cells c ag) ∧ off + l.length ≤ c.length ∧ (c.drop off).take l.length = l.map (fun n => .i .i64 n) ∧ (∀ k, cap = some k → l.length ≤ k ∧ off + k ≤ c.length)

theorem elI_flat_map (l : List Int) : elI.flat l = l.map (fun n => .i .i64 n) := by
  induction l with
  | nil => rfl
  | cons x l ih => rw [El.flat_cons, ih]; rfl

theorem Que.view {H : Heap} {t : TV} {l : List Int} (h : Que H t l) : elI.View H t l := by
  obtain ⟨id, off, cap, c, ag, rfl, h1, h2, h3, h4⟩ := h
  refine .inr (.inr ⟨id, off, cap, c, ag, rfl, ?_, h1, ?_, ?_⟩)
  · cases cap with
    | none => exact Nat.le_refl _
    | some k => exact (h4 k rfl).1
  · show off + l.length * 1 ≤ c.length; omega
  · rw [elI_flat_map, ← h3]; show List.take (l.length * 1) _ = _; rw [Nat.mul_one]

theorem Que.mono {H H' : Heap} {t : TV} {l : List Int} (h : Que H t l) (hf : ∀ id, t.idOf = some id → H'[id]? = H[id]?) : Que H' t l := by
  obtain ⟨id, off, cap, c, ag, rfl, h1, h2⟩ := h
  exact ⟨id, off, cap, c, ag, rfl, by rw [hf id rfl]; exact h1, h2⟩

theorem Que.lt {H : Heap} {t : TV} {l : List Int} (h : Que H t l) : ∀ id, t.idOf = some id → id < H.length := by
  obtain ⟨id, off, cap, c, ag, rfl, h1, h2⟩ := h
  intro i hi
  cases hi
  exact (List.getElem?_eq_some_iff.1 h1).1

theorem Que.one {H : Heap} {t : TV} {l : List Int} (h : Que H t l) : t.one = true ∧ t.isAgg = false := by
  obtain ⟨id, off, cap, c, ag, rfl, h1, h2⟩ := h
  exact ⟨rfl, rfl⟩

theorem Que.tail {H : Heap} {t : TV} {x : Int} {l : List Int} (h : Que H t (x :: l)) : ∃ t', slcRun true false false 1 false t [.i .i64 1] = some t' ∧ Que H t' l ∧ t'.idOf = t.idOf := by
  obtain ⟨id, off, cap, c, ag, rfl, h1, h2, h3, h4⟩ := h
  have hb : bounds3 true false false (l.length + 1) [.i .i64 1] = some (1, l.length + 1, none) := by simp [bounds3, bound]
  have hcap : l.length + 1 ≤ cap.getD (l.length + 1) := by
    cases cap with
    | none => exact Nat.le_refl _
    | some k => have := (h4 k rfl).1; simpa using this
  refine ⟨.sl id (off + 1) 1 false l.length (cap.map (· - 1)), ?_, ⟨id, off + 1, cap.map (· - 1), c, ag, rfl, h1, ?_, ?_, ?_⟩, rfl⟩
  · simp only [slcRun, hb, Option.bind_some, List.length_cons, true_and, Option.getD_none, Nat.le_refl, hcap, and_self, if_true]
    rfl
  · simp only [List.length_cons] at h2; omega
  · have h5 := congrArg (List.drop 1) h3
    simp only [List.length_cons, List.map_cons, List.drop_succ_cons, List.drop_zero] at h5
    rw [← h5, List.drop_take, List.drop_drop]
    rfl
  · intro k hk
    cases cap with
    | none => cases hk
    | some m =>
      have := h4 m rfl
      simp only [List.length_cons] at this
      simp at hk
      omega

theorem Que.app {H : Heap} {t : TV} {l : List Int} {x : Int} (h : Que H t l) (hl : l.length ≤ 1000000) :
    ∃ t' H', appRun 1 false 8 t (.sl H.length 0 1 false 1 (some 1)) (H ++ [.cells [.i .i64 x] false]) = some (t', H') ∧ Que H' t' (l ++ [x]) ∧ H.length ≤ H'.length ∧ (∀ j, j < H.length → t.idOf ≠ some j → H'[j]? = H[j]?) ∧ (t'.idOf = t.idOf ∨ ∀ id, t'.idOf = some id → H.length ≤ id) := by
  obtain ⟨id, off, cap, c, ag, rfl, h1, h2, h3, h4⟩ := h
  have hid := (List.getElem?_eq_some_iff.1 h1).1
  have h1' : (H ++ [AObj.cells [TV.i .i64 x] false])[id]? = some (.cells c ag) := by rw [List.getElem?_append_left hid]; exact h1
  have hgl := getLast H (.cells [.i .i64 x] false)
  have hb : (l.length + 1) * 8 ≤ 140737488355328 := by omega
  have e0 : ¬ (1 = 0) := by decide
  have hone : [TV.i IntKind.i64 x].all TV.one = true := rfl
  have hlen : (l ++ [x]).length = l.length + 1 := by simp
  have fresh : ∀ H2 : Heap, (∀ j, j < H.length → j ≠ id → H2[j]? = H[j]?) → H2.length = H.length + 1 → 
      Que (H2 ++ [.cells ((c.drop off).take (l.length * 1) ++ [.i .i64 x]) false]) (.sl (H ++ [AObj.cells [TV.i .i64 x] false]).length 0 1 false (l.length + 1) none) (l ++ [x]) ∧ H.length ≤ (H2 ++ [AObj.cells ((c.drop off).take (l.length * 1) ++ [.i .i64 x]) false]).length ∧
        (∀ j, j < H.length → (TV.sl id off 1 false l.length cap).idOf ≠ some j → (H2 ++ [AObj.cells ((c.drop off).take (l.length * 1) ++ [.i .i64 x]) false])[j]? = H[j]?) := by
    intro H2 hf hl2
    refine ⟨⟨_, 0, none, (c.drop off).take (l.length * 1) ++ [.i .i64 x], false, by rw [hlen], ?_, ?_, ?_, fun k hk => by cases hk⟩, by simp; omega, ?_⟩
    · rw [List.getElem?_append_right (by simp; omega)]
      simp [hl2]
    · rw [Nat.mul_one, h3]; simp
    · rw [Nat.mul_one, h3, hlen, List.drop_zero, List.take_of_length_le (by simp)]
      simp
    · intro j hj hne
      rw [List.getElem?_append_left (by omega)]
      exact hf j hj (fun he => hne (by rw [he]; rfl))
  cases cap with
  | none =>
    obtain ⟨q1, q2, q3⟩ := fresh ((H ++ [AObj.cells [TV.i .i64 x] false]).set id .dead) (fun j hj hne => by rw [List.getElem?_set_ne (by omega), List.getElem?_append_left hj]) (by simp)
    refine ⟨_, _, ?_, q1, q2, q3, .inr fun i hi => by cases hi; simp⟩
    simp only [appRun, lenOf, flatOf, Option.bind_some, hgl, List.length_singleton, Nat.zero_add, Nat.mul_one, Nat.le_refl, and_self, if_true, List.drop_zero, List.take_succ_cons, List.take_nil, List.take_zero, hone, hb, e0, if_false, h1', h2]
  | some k =>
    obtain ⟨k1, k2⟩ := h4 k rfl
    by_cases hk : l.length + 1 ≤ k
    · have hroom : off + (l.length + 1) * 1 ≤ c.length := by omega
      refine ⟨.sl id off 1 false (l.length + 1) (some k), (H ++ [AObj.cells [TV.i .i64 x] false]).set id (AObj.cells (put2 c (off + l.length * 1) [.i .i64 x]) ag), by
        simp only [appRun, lenOf, flatOf, Option.bind_some, hgl, List.length_singleton, Nat.zero_add, Nat.mul_one, Nat.le_refl, and_self, if_true, List.drop_zero, List.take_succ_cons, List.take_nil, List.take_zero, hone, hb, e0, if_false, h1', h2, hk]
        rw [if_pos (by omega)], ⟨id, off, some k, put2 c (off + l.length * 1) [.i .i64 x], ag, by rw [hlen], ?_, ?_, ?_, ?_⟩, by simp, ?_, .inl rfl⟩
      · rw [List.getElem?_set_self (by simp; omega)]
      · simp [put2]; omega
      · have hput : put2 c (off + l.length * 1) [TV.i .i64 x] = c.set (off + l.length) (.i .i64 x) := by
          simp only [put2, List.length_singleton, Nat.mul_one]
          rw [List.set_eq_take_append_cons_drop, if_pos (by omega)]
          simp
        rw [hput, hlen]
        apply List.ext_getElem?
        intro i
        have h3i := congrArg (·[i]?) h3
        simp only [List.getElem?_take, List.getElem?_drop] at h3i
        simp only [List.getElem?_take, List.getElem?_drop, List.map_append, List.map_cons, List.map_nil]
        by_cases hi : i < l.length
        · rw [if_pos (by omega), List.getElem?_set_ne (by omega), List.getElem?_append_left (by simpa using hi), ← h3i, if_pos hi]
        · by_cases hi2 : i = l.length
          · subst hi2
            rw [if_pos (by omega), List.getElem?_set_self (by omega), List.getElem?_append_right (by simp)]
            simp
          · rw [if_neg (by omega), List.getElem?_eq_none (by simp; omega)]
      · intro m hm
        cases hm
        simp [put2]; omega
      · intro j hj hne
        rw [List.getElem?_set_ne (fun he => hne (by rw [← he]; rfl)), List.getElem?_append_left hj]
    · obtain ⟨q1, q2, q3⟩ := fresh (H ++ [AObj.cells [TV.i .i64 x] false]) (fun j hj hne => by rw [List.getElem?_append_left hj]) (by simp)
      refine ⟨_, _, ?_, q1, q2, q3, .inr fun i hi => by cases hi; simp⟩
      simp only [appRun, lenOf, flatOf, Option.bind_some, hgl, List.length_singleton, Nat.zero_add, Nat.mul_one, Nat.le_refl, and_self, if_true, List.drop_zero, List.take_succ_cons, List.take_nil, List.take_zero, hone, hb, e0, if_false, h1', h2, hk]

end Go.Proofs.Try.Dn

/-
  Which positions a game leads to: one jump of the search.
-/

namespace Go.Proofs.Try.Dn
open Go.Dn

def encM (e : Nat × Nat × Line) : TV × TV := (.i .i64 (e.1 : Int), .agg [.i .i64 (e.2.1 : Int), .i .i64 e.2.2.1, .i .i64 e.2.2.2.1, .i .i64 e.2.2.2.2])

def lookM : List (Nat × Nat × Line) → Nat → Option (Nat × (Nat × Nat × Line))
  | [], _ => none
  | e :: M, q => if q = e.1 then some (0, e) else (lookM M q).map fun x => (x.1 + 1, x.2)

theorem findK_look {q : Nat} : ∀ {es : List (TV × TV × Nat)} {M : List (Nat × Nat × Line)}, es.map (fun e => (e.1, e.2.1)) = M.map encM → findK .int (.i .i64 (q : Int)) es = some ((lookM M q).map fun x => (x.1, (encM x.2).2))
  | [], [], _ => rfl
  | [], _ :: _, h => by simp at h
  | _ :: _, [], h => by simp at h
  | (k, v, n) :: es, e :: M, h => by
    simp only [List.map_cons, List.cons.injEq] at h
    obtain ⟨h1, h2⟩ := h
    have ih := findK_look (q := q) h2
    simp only [encM, Prod.mk.injEq] at h1
    obtain ⟨rfl, rfl⟩ := h1
    simp only [findK, eqK, eqS, if_true, Option.bind_some, ih, lookM]
    by_cases hq : q = e.1
    · rw [if_pos hq]
      simp [hq, encM]
    · have : ((q : Int) == (e.1 : Int)) = false := by simp; omega
      rw [if_neg hq, this]
      cases lookM M q <;> simp

theorem lookM_none {M : List (Nat × Nat × Line)} {q : Nat} (h : ∀ e ∈ M, e.1 ≠ q) : lookM M q = none := by
  induction M with
  | nil => rfl
  | cons e M ih =>
    have h1 := h e (by simp)
    rw [lookM, if_neg (by omega), ih fun x hx => h x (by simp [hx])]
    rfl

theorem k_msetNew {pg : Pg} {R : Rec} {H : Heap} {id : Nat} {es : List (TV × TV × Nat)} {ck : Nat} {k : Int} {v : TV} (h : H[id]? = some (.map es ck)) (hf : findK .int (.i .i64 k) es = some none) : dkc pg R (.mset .int) [.mp id, .i .i64 k, v] H = some (.undef, H.set id (.map (es ++ [(.i .i64 k, v, ck)]) (ck + 1))) := by
  simp [dkc, dk, h, hf, eqK, eqS]

structure HB (a : Nat) (H : Heap) (s : St) (t : TV) : Prop where
  seen : ∃ c, H[a]? = some (.cells c true) ∧ c.length = 65536 ∧ ∀ q, q < 65536 → c[q]? = some (.b (s.S q))
  map : ∃ es ck, H[a + 1]? = some (.map es ck) ∧ es.map (fun e => (e.1, e.2.1)) = s.M.map encM
  mc : H[a + 2]? = some (.cells [.mp (a + 1)] false)
  qc : H[a + 4]? = some (.cells [t] false)
  que : Que H t (s.qs.map fun (n : Nat) => (n : Int))
  qid : ∀ id, t.idOf = some id → a + 3 ≤ id ∧ id ≠ a + 4

theorem HB.mono {a : Nat} {H H' : Heap} {s : St} {t : TV} (h : HB a H s t) (hf : ∀ i, (i = a ∨ i = a + 1 ∨ i = a + 2 ∨ i = a + 4 ∨ t.idOf = some i) → H'[i]? = H[i]?) : HB a H' s t where
  seen := by rw [hf a (.inl rfl)]; exact h.seen
  map := by rw [hf (a + 1) (.inr (.inl rfl))]; exact h.map
  mc := by rw [hf (a + 2) (.inr (.inr (.inl rfl)))]; exact h.mc
  qc := by rw [hf (a + 4) (.inr (.inr (.inr (.inl rfl))))]; exact h.qc
  que := h.que.mono fun id hid => hf id (.inr (.inr (.inr (.inr hid))))
  qid := h.qid

theorem HB.lt {a : Nat} {H : Heap} {s : St} {t : TV} (h : HB a H s t) : a + 4 < H.length := (List.getElem?_eq_some_iff.1 h.qc).1

theorem HB.append {a : Nat} {H : Heap} {s : St} {t : TV} (h : HB a H s t) (X : Heap) : HB a (H ++ X) s t :=
  h.mono fun i hi => by
    have hl := h.lt
    rw [List.getElem?_append_left]
    rcases hi with rfl | rfl | rfl | rfl | hi
    · omega
    · omega
    · omega
    · omega
    · exact h.que.lt i hi

theorem b49_run {pg : Pg} (hF : Free pg) {a d m now : Nat} {j : Line} {H : Heap} {s : St} {t : TV} (h : HB a H s t) (hkeys : ∀ e ∈ s.M, s.S e.1 = true) (hqs : s.qs.length ≤ 1000000) (hd : H[d]? = some (.cells [.i .i64 (now : Int)] false)) (hm : H[m]? = some (cl j)) (hda : a + 5 ≤ d) (hma : a + 5 ≤ m) (htd : t.idOf ≠ some d) (htm : t.idOf ≠ some m) (hnow : now < 65536) (hj : Hole3 j) :
    ∃ e H' t', den pg b49_1 [(6, .ref a 0), (7, .ref (a + 2) 0), (8, .ref (a + 4) 0), (9, .ref d 0), (11, .ref m 0)] H = some ⟨.normal, e, H'⟩ ∧ HB a H' (s.step now j) t' ∧ H.length ≤ H'.length ∧
      (∀ i, i < H.length → i ≠ a → i ≠ a + 1 → i ≠ a + 4 → t.idOf ≠ some i → H'[i]? = H[i]?) ∧ (t'.idOf = t.idOf ∨ ∀ id, t'.idOf = some id → H.length ≤ id) := by
  obtain ⟨c, hc1, hc2, hc3⟩ := h.seen
  obtain ⟨es, ck, he1, he2⟩ := h.map
  have hlen := h.lt
  obtain ⟨r3, _⟩ := ld_cl (pg := pg) (R := den pg) hm
  have rd := ld_box (pg := pg) (R := den pg) hd rfl
  have c65 := fun H => Fn.call (fn65 hF hnow hj) (args := [lineTV j, .i .i64 (now : Int)]) (ks := []) (fs := []) (cs := []) (H := H) (by simp [snapArgs, sn_i, snap_line _ _ 7])
  simp only [lineTV] at c65
  cases hcan : can now j with
  | false =>
    rw [hcan] at c65
    have hst : s.step now j = s := by unfold St.step; rw [hcan]; rfl
    refine ⟨[(6, .ref a 0), (7, .ref (a + 2) 0), (8, .ref (a + 4) 0), (9, .ref d 0), (11, .ref m 0), (12, .i .i64 0), (43, .b false)], H, t, ?_, by rw [hst]; exact h, Nat.le_refl _, fun _ _ _ _ _ _ => rfl, .inl rfl⟩
    · rw [den_eq, runC_go]
      simp [b49_1, gX0, gX1, gX2, gX3, gX4, gX5, gX6, gX7, gX8, gX9, gXa, gXb, gXc, gXd, gXe, gXf, gXg, gXh, gXi, gXj, gXk, gXl, gXm, gXn, gXo, gXp, gXq, gXr, gXs, gXt, gXu, gXv, gXw, gXx, k_mv, gXy, gXz, gX01, gX11, gX21, gX31, gX41, gX51, gX61, gX71, gX81, gX91, gXa1, gXb1, gXc1, gXd1, gXe1, gXf1, gXg1, gXh1, gXi1, gXj1, gXk1, gXl1, gXm1, gXn1, gXo1, gXp1, gXq1, gXr1, gXs1, gXt1, gXu1, k_mn, k_mx, gXv1, gXw1, gXx1, gXy1, gXz1, gX02, gX12, gX22, gX32, gX42, gX52, gX62, gX72, Dn.setLast, Dn.getLast, evalO, mapO, Dn.get, putE, keepE, TV.one, TV.isAgg, Dn.part, r3, rd, c65]
  | true =>
    rw [hcan] at c65
    have hl := leap_lt hnow (j := j) (by unfold Hole3 at hj; omega)
    generalize hq : leap now j = q at c65 hl
    have hix : dkc pg (den pg) (.ixA 65536 1 false) [.ref a 0, .i .i64 (q : Int)] H = some (.ref a q, H) := by
      rw [gXn1 _ _ _ _ _ _ _ _ (by omega) (by omega)]; simp
    have hlds : dkc pg (den pg) (.ld 1 false) [.ref a q] H = some (.b (s.S q), H) := by
      rw [gXb1, hc1, gXi1, part_one (hc3 q hl) rfl]; rfl
    cases hS : s.S q with
    | true =>
      rw [hS] at hlds
      have hst : s.step now j = s := by unfold St.step; rw [hcan, hq, hS]; rfl
      refine ⟨[(6, .ref a 0), (7, .ref (a + 2) 0), (8, .ref (a + 4) 0), (9, .ref d 0), (11, .ref m 0), (12, .i .i64 (q : Int)), (43, .b false)], H, t, ?_, by rw [hst]; exact h, Nat.le_refl _, fun _ _ _ _ _ _ => rfl, .inl rfl⟩
      · rw [den_eq, runC_go]
        simp [b49_1, gX0, gX1, gX2, gX3, gX4, gX5, gX6, gX7, gX8, gX9, gXa, gXb, gXc, gXd, gXe, gXf, gXg, gXh, gXi, gXj, gXk, gXl, gXm, gXn, gXo, gXp, gXq, gXr, gXs, gXt, gXu, gXv, gXw, gXx, k_mv, gXy, gXz, gX01, gX11, gX21, gX31, gX41, gX51, gX61, gX71, gX81, gX91, gXa1, gXb1, gXc1, gXd1, gXe1, gXf1, gXg1, gXh1, gXi1, gXj1, gXk1, gXl1, gXm1, gXn1, gXo1, gXp1, gXq1, gXr1, gXs1, gXt1, gXu1, k_mn, k_mx, gXv1, gXw1, gXx1, gXy1, gXz1, gX02, gX12, gX22, gX32, gX42, gX52, gX62, gX72, Dn.setLast, Dn.getLast, evalO, mapO, Dn.get, putE, keepE, TV.one, TV.isAgg, Dn.part, r3, rd, c65, hix, hlds]
    | false =>
      rw [hS] at hlds
      have hst : s.step now j = ⟨fun x => x == q || s.S x, s.qs ++ [q], s.M ++ [(q, now, j)]⟩ := by unfold St.step; rw [hcan, hq, hS]; rfl
      -- the array
      let H1 := H.set a (.cells (put2 c q [.b true]) true)
      have hst1 : dkc pg (den pg) (.st 1) [.ref a q, .b true] H = some (.undef, H1) := by
        rw [gXh1, hc1, gXj1, if_pos ⟨rfl, rfl, by omega⟩]
      have g1 : ∀ i, i ≠ a → H1[i]? = H[i]? := fun i hi => List.getElem?_set_ne (by omega)
      -- the map
      let H2 := H1.set (a + 1) (.map (es ++ [(.i .i64 (q : Int), .agg [.i .i64 (now : Int), .i .i64 j.1, .i .i64 j.2.1, .i .i64 j.2.2], ck)]) (ck + 1))
      have hfk : findK .int (.i .i64 (q : Int)) es = some none := by
        rw [findK_look he2, lookM_none (fun e he hk => by have := hkeys e he; rw [hk, hS] at this; cases this)]
        rfl
      have hms : dkc pg (den pg) (.mset .int) [.mp (a + 1), .i .i64 (q : Int), .agg [.i .i64 (now : Int), .i .i64 j.1, .i .i64 j.2.1, .i .i64 j.2.2]] H1 = some (.undef, H2) :=
        k_msetNew (by rw [g1 _ (by omega)]; exact he1) hfk
      have g2 : ∀ i, i ≠ a → i ≠ a + 1 → H2[i]? = H[i]? := fun i h0 h1 => by rw [show H2[i]? = H1[i]? from List.getElem?_set_ne (by omega), g1 i h0]
      have l2 : H2.length = H.length := by simp [H2, H1]
      have ld7 : dkc pg (den pg) (.ld 1 false) [.ref (a + 2) 0] H1 = some (.mp (a + 1), H1) := ld_box (by rw [g1 _ (by omega)]; exact h.mc) rfl
      have ld9 : dkc pg (den pg) (.ld 1 false) [.ref d 0] H1 = some (.i .i64 (now : Int), H1) := ld_box (by rw [g1 _ (by omega)]; exact hd) rfl
      have ld11 := (ld_cl (pg := pg) (R := den pg) (H := H1) (id := m) (x := j) (by rw [g1 _ (by omega)]; exact hm)).1
      -- the queue
      have ld8 : dkc pg (den pg) (.ld 1 false) [.ref (a + 4) 0] H2 = some (t, H2) := ld_box (by rw [g2 _ (by omega) (by omega)]; exact h.qc) h.que.one.2
      have hque2 : Que H2 t (s.qs.map fun (n : Nat) => (n : Int)) := h.que.mono fun id hid => g2 id (by have := h.qid id hid; omega) (by have := h.qid id hid; omega)
      obtain ⟨t', H3, ha, q3, l3, f3, i3⟩ := hque2.app (x := (q : Int)) (by simpa using hqs)
      have hti : ∀ i, i = a ∨ i = a + 1 ∨ i = a + 2 ∨ i = a + 4 → t.idOf ≠ some i := fun i hi he => by have := h.qid i he; omega
      have g3 : ∀ i, i < H.length → t.idOf ≠ some i → H3[i]? = H2[i]? := fun i hi hne => f3 i (by omega) hne
      have h3c : H3[a + 4]? = some (.cells [t] false) := by rw [g3 _ (by omega) (hti _ (by omega)), g2 _ (by omega) (by omega)]; exact h.qc
      have hst8 : dkc pg (den pg) (.st 1) [.ref (a + 4) 0, t'] H3 = some (.undef, H3.set (a + 4) (.cells [t'] false)) := st_box h3c q3.one.1
      have hl3 : a + 4 < H3.length := (List.getElem?_eq_some_iff.1 h3c).1
      have hid' : ∀ id, t'.idOf = some id → a + 3 ≤ id ∧ id ≠ a + 4 := by
        intro id hid
        rcases i3 with i3 | i3
        · exact h.qid id (by rw [← i3]; exact hid)
        · have := i3 id hid; omega
      refine ⟨[], H3.set (a + 4) (.cells [t'] false), t', ?_, ?_, by simp; omega, ?_, ?_⟩
      · rw [den_eq, runC_go]
        simp [b49_1, gX0, gX1, gX2, gX3, gX4, gX5, gX6, gX7, gX8, gX9, gXa, gXb, gXc, gXd, gXe, gXf, gXg, gXh, gXi, gXj, gXk, gXl, gXm, gXn, gXo, gXp, gXq, gXr, gXs, gXt, gXu, gXv, gXw, gXx, k_mv, gXy, gXz, gX01, gX11, gX21, gX31, gX41, gX51, gX61, gX71, gX81, gX91, gXa1, gXb1, gXc1, gXd1, gXe1, gXf1, gXg1, gXh1, gXi1, gXj1, gXk1, gXl1, gXm1, gXn1, gXo1, gXp1, gXq1, gXr1, gXs1, gXt1, gXu1, k_mn, k_mx, gXv1, gXw1, gXx1, gXy1, gXz1, gX02, gX12, gX22, gX32, gX42, gX52, gX62, gX72, Dn.setLast, Dn.getLast, evalO, mapO, Dn.get, putE, keepE, TV.one, TV.isAgg, Dn.part, r3, rd, c65, hix, hlds, hst1, ld7, ld9, ld11, fillP, TV.cells, put2, hms, ld8, ha, hst8]
      · rw [hst]
        refine ⟨⟨put2 c q [.b true], ?_, ?_, ?_⟩, ⟨es ++ [(.i .i64 (q : Int), .agg [.i .i64 (now : Int), .i .i64 j.1, .i .i64 j.2.1, .i .i64 j.2.2], ck)], ck + 1, ?_, ?_⟩, ?_, ?_, ?_, hid'⟩
        · rw [List.getElem?_set_ne (by omega), g3 _ (by omega) (hti _ (by omega)), show H2[a]? = H1[a]? from List.getElem?_set_ne (by omega)]
          exact List.getElem?_set_self (by omega)
        · simp [put2]; omega
        · have hput : put2 c q [TV.b true] = c.set q (.b true) := by
            simp only [put2, List.length_singleton]
            rw [List.set_eq_take_append_cons_drop, if_pos (by omega)]
            simp
          intro x hx
          rw [hput]
          by_cases hxq : x = q
          · subst hxq
            rw [List.getElem?_set_self (by omega)]; simp
          · rw [List.getElem?_set_ne (by omega), hc3 x hx]; simp [hxq]
        · rw [List.getElem?_set_ne (by omega), g3 _ (by omega) (hti _ (by omega))]
          exact List.getElem?_set_self (by simp [H1]; omega)
        · simp only [List.map_append, he2]; rfl
        · rw [List.getElem?_set_ne (by omega), g3 _ (by omega) (hti _ (by omega)), g2 _ (by omega) (by omega)]; exact h.mc
        · exact List.getElem?_set_self hl3
        · simp only [List.map_append, List.map_cons, List.map_nil]
          exact q3.mono fun id hid => List.getElem?_set_ne (by have := hid' id hid; omega)
      · intro i hi h0 h1 h4 hne
        rw [List.getElem?_set_ne (by omega), g3 i hi hne, g2 i h0 h1]
      · rcases i3 with i3 | i3
        · exact .inl i3
        · exact .inr fun id hid => by have := i3 id hid; omega

end Go.Proofs.Try.Dn

/-
  Which positions a game leads to: the program's search.
-/

namespace Go.Proofs.Try.Dn
open Go.Dn

theorem den_keep {pg : Pg} (ks : List Nat) (x : DC) (e : Env) (H : Heap) : den pg (.loop ks x) e H = den pg (.loop ks x) (keepE ks e) H := by
  rw [den_loop, den_loop ks x (keepE ks e), keepE_keepE]

theorem Que.cells {H : Heap} {t : TV} {l : List Int} (h : Que H t l) {id : Nat} (hid : t.idOf = some id) : ∃ c ag, H[id]? = some (.cells c ag) := by
  obtain ⟨i, off, cap, c, ag, rfl, h1, h2⟩ := h
  cases hid
  exact ⟨c, ag, h1⟩

def L49 (a d : Nat) (T : TV) : ALoop := { env := [(0, T), (6, .ref a 0), (7, .ref (a + 2) 0), (8, .ref (a + 4) 0), (9, .ref d 0)], params := [29, 30], assign := a49_0, body := b49_1, st := .ready, pend := none }

def I49 (a d lp now : Nat) (L : ALoop) (l : List Line) (s : St) (k : Nat) (H : Heap) : Prop :=
  ∃ t, HB a H (St.steps now s ((js l).take k)) t ∧ H[d]? = some (.cells [.i .i64 (now : Int)] false) ∧ H[lp]? = some (.loop L) ∧ t.idOf ≠ some d

theorem over49 {pg : Pg} (hF : Free pg) {a d lp now p : Nat} {T : TV} {l : List Line} {n : Int} {s : St} (hn : n ≤ 16) (hf : ∀ x ∈ l, Fits n x) (hi : Inv l p s) (hnow : s.S now = true) (hnl : now < 65536) (hmu : s.mu ≤ 1000000) (hd : a + 5 ≤ d) (hlp : d < lp) :
    Over pg lp (L49 a d T) l (I49 a d lp now (L49 a d T) l s) (fun _ _ _ => False) where
  ready := rfl
  pend := rfl
  two := rfl
  step := by
    intro k j H X hj ⟨t, hb, hdd, hL', htd⟩ hL
    have hjm := List.mem_of_getElem? hj
    have hfits := js_fits hf
    have hlt := (List.getElem?_eq_some_iff.1 hL).1
    have hab := hb.lt
    have htl : ∀ id, t.idOf = some id → id < H.length := hb.que.lt
    have htlp : t.idOf ≠ some lp := by
      intro he
      obtain ⟨c, ag, h⟩ := hb.que.cells he
      rw [hL'] at h; cases h
    have hfit : ∀ j ∈ js l, ∀ m, m < 65536 → leap m j < 65536 := fun j hj m hm => leap_lt hm (by have := Hole3.of hn (hfits j hj); unfold Hole3 at this; omega)
    obtain ⟨i1, i2, _⟩ := St.steps_inv (n := 0) hfit hnl ((js l).take k) s (fun x hx => List.mem_of_mem_take hx) hi hnow
    have hassign : den pg a49_0 [(30, lineTV j), (29, .i .i64 (k : Int)), (0, T), (6, .ref a 0), (7, .ref (a + 2) 0), (8, .ref (a + 4) 0), (9, .ref d 0)] (H ++ X) = some ⟨.normal, [(6, .ref a 0), (7, .ref (a + 2) 0), (8, .ref (a + 4) 0), (9, .ref d 0), (11, .ref (H ++ X).length 0)], H ++ X ++ [cl j]⟩ := by
      rw [den_eq, runC_go]
      generalize H ++ X = HX
      simp [a49_0, gX0, gX1, gX2, gX3, gX4, gX5, gX6, gX7, gX8, gX9, gXa, gXb, gXc, gXd, gXe, gXf, gXg, gXh, gXi, gXj, gXk, gXl, gXm, gXn, gXo, gXp, gXq, gXr, gXs, gXt, gXu, gXv, gXw, gXx, k_mv, gXy, gXz, gX01, gX11, gX21, gX31, gX41, gX51, gX61, gX71, gX81, gX91, gXa1, gXb1, gXc1, gXd1, gXe1, gXf1, gXg1, gXh1, gXi1, gXj1, gXk1, gXl1, gXm1, gXn1, gXo1, gXp1, gXq1, gXr1, gXs1, gXt1, gXu1, k_mn, k_mx, gXv1, gXw1, gXx1, gXy1, gXz1, gX02, gX12, gX22, gX32, gX42, gX52, gX62, gX72, Dn.setLast, Dn.getLast, evalO, mapO, Dn.get, putE, keepE, TV.one, TV.isAgg, Dn.part, lineTV, put2, cl]
    have hpre : ∀ (i : Nat), i < H.length → (H ++ X ++ [cl j])[i]? = H[i]? := by
      intro i h
      rw [List.append_assoc, List.getElem?_append_left h]
    have h4' : (H ++ X ++ [cl j])[lp]? = some (.loop (L49 a d T)) := by rw [hpre lp hlt]; exact hL
    have hlen : lp < (H ++ X ++ [cl j]).length := (List.getElem?_eq_some_iff.1 h4').1
    have hnl' : H.length ≤ (H ++ X).length := by simp
    have hB : ∀ i, i ≠ lp → ((H ++ X ++ [cl j]).set lp (.loop { L49 a d T with st := .busy }))[i]? = (H ++ X ++ [cl j])[i]? := fun i hi => List.getElem?_set_ne (by omega)
    have hHB : HB a ((H ++ X ++ [cl j]).set lp (.loop { L49 a d T with st := .busy })) (St.steps now s ((js l).take k)) t := hb.mono fun i hi => by
      have h1 : i < H.length ∧ i ≠ lp := by
        rcases hi with rfl | rfl | rfl | rfl | hi
        · omega
        · omega
        · omega
        · omega
        · exact ⟨htl i hi, fun he => htlp (by rw [← he]; exact hi)⟩
      rw [hB i h1.2, hpre i h1.1]
    obtain ⟨e2, H3, t', hrun, hb3, hl3, hf3, hi3⟩ := b49_run (pg := pg) (now := now) (d := d) (m := (H ++ X).length) (j := j) hF hHB (fun e he => (i1.how e he).1) (by unfold St.mu at i2 hmu; omega)
      (by rw [hB d (by omega), hpre d (by omega)]; exact hdd) (by rw [hB _ (by omega)]; exact getLast _ _) hd (by omega) htd (fun he => by have := htl _ he; omega) hnl (Hole3.of hn (hfits j hjm))
    have hlen3 : ((H ++ X ++ [cl j]).set lp (.loop { L49 a d T with st := .busy })).length = (H ++ X ++ [cl j]).length := by simp
    have hloop3 : H3[lp]? = some (.loop { L49 a d T with st := .busy }) := by
      rw [hf3 lp (by omega) (by omega) (by omega) (by omega) htlp, List.getElem?_set_self hlen]
    have ht' : ∀ i, i < (H ++ X ++ [cl j]).length → t.idOf ≠ some i → t'.idOf ≠ some i := by
      intro i hi hne he
      rcases hi3 with h | h
      · exact hne (by rw [← h]; exact he)
      · have := h i he; omega
    refine ⟨.normal, H3.set lp (.loop (L49 a d T)), ⟨_, _, e2, H3, hassign, h4', hrun, hloop3, rfl⟩, ?_, .inl ⟨rfl, t', ?_, ?_, ?_, ht' d (by omega) htd⟩⟩
    · intro i y hy
      have hix := (List.getElem?_eq_some_iff.1 hy).1
      have : H.length + i < (H ++ X ++ [cl j]).length := by simp; omega
      rw [List.getElem?_set_ne (by omega), hf3 (H.length + i) (by omega) (by omega) (by omega) (by omega) (fun he => by have := htl _ he; omega), hB _ (by omega),
        List.append_assoc, List.getElem?_append_right (by omega), Nat.add_sub_cancel_left, List.getElem?_append_left hix, hy]
    · have hstep : St.steps now s ((js l).take (k + 1)) = (St.steps now s ((js l).take k)).step now j := by
        rw [List.take_add_one, hj]
        simp [St.steps]
      rw [hstep]
      refine hb3.mono fun i hi => List.getElem?_set_ne ?_
      rcases hi with rfl | rfl | rfl | rfl | hi
      · omega
      · omega
      · omega
      · omega
      · exact fun he => ht' lp hlen htlp (by rw [he]; exact hi)
    · rw [List.getElem?_set_ne (by omega), hf3 d (by omega) (by omega) (by omega) (by omega) htd, hB d (by omega), hpre d (by omega)]; exact hdd
    · exact List.getElem?_set_self (by omega)

theorem l49_round {pg : Pg} (hF : Free pg) {n : Int} {l : List Line} (hc : chk n l = 0) {a p now : Nat} {H : Heap} {s : St} {t : TV} {rest : List Nat} (hb : HB a H s t) (hi : Inv l p s) (hqs : s.qs = now :: rest) (hlt : ∀ q, s.S q = true → q < 65536) (hmu : s.mu ≤ 1000000) :
    ∃ H' t', den pg l49_3 [(0, LT true l), (6, .ref a 0), (7, .ref (a + 2) 0), (8, .ref (a + 4) 0)] H = den pg l49_3 [(0, LT true l), (6, .ref a 0), (7, .ref (a + 2) 0), (8, .ref (a + 4) 0)] H' ∧ HB a H' (St.steps now { s with qs := rest } (js l)) t' := by
  obtain ⟨hn1, hn2, hl, hf⟩ := chk_ok hc
  have hnow : s.S now = true := hi.qin now (by rw [hqs]; simp)
  have hab := hb.lt
  have htl : ∀ id, t.idOf = some id → id < H.length := hb.que.lt
  have hque := hb.que
  rw [hqs] at hque
  simp only [List.map_cons] at hque
  have ld8 : dkc pg (den pg) (.ld 1 false) [.ref (a + 4) 0] H = some (t, H) := ld_box hb.qc hque.one.2
  have hlen := hque.view.lenK
  obtain ⟨q, hq, hv⟩ := ixI (pg := pg) (R := den pg) hque.view (i := 0) (x := (now : Int)) rfl
  simp only [Int.natCast_zero] at hq
  -- the first is taken
  let H1 : Heap := H ++ [.cells [.i .i64 (now : Int)] false]
  have h1 : ∀ i, i < H.length → H1[i]? = H[i]? := fun i h => List.getElem?_append_left h
  have ld8' : dkc pg (den pg) (.ld 1 false) [.ref (a + 4) 0] H1 = some (t, H1) := ld_box (by rw [h1 _ (by omega)]; exact hb.qc) hque.one.2
  obtain ⟨t1, hs1, hq1, hid1⟩ := hque.tail
  let H2 : Heap := H1.set (a + 4) (.cells [t1] false)
  have hst8 : dkc pg (den pg) (.st 1) [.ref (a + 4) 0, t1] H1 = some (.undef, H2) := st_box (by rw [h1 _ (by omega)]; exact hb.qc) hq1.one.1
  have hl2 : H2.length = H.length + 1 := by simp [H2, H1]
  have h2 : ∀ i, i < H.length → i ≠ a + 4 → H2[i]? = H[i]? := fun i h h' => by rw [show H2[i]? = H1[i]? from List.getElem?_set_ne (by omega), h1 i h]
  have hb2 : HB a H2 { s with qs := rest } t1 := by
    obtain ⟨c, c1, c2⟩ := hb.seen
    obtain ⟨es, ck, e1, e2⟩ := hb.map
    refine ⟨⟨c, by rw [h2 _ (by omega) (by omega)]; exact c1, c2⟩, ⟨es, ck, by rw [h2 _ (by omega) (by omega)]; exact e1, e2⟩, by rw [h2 _ (by omega) (by omega)]; exact hb.mc, List.getElem?_set_self (by simp [H1]; omega), ?_, fun id hid => hb.qid id (by rw [← hid1]; exact hid)⟩
    exact hq1.mono fun id hid => h2 id (htl id (by rw [← hid1]; exact hid)) (hb.qid id (by rw [← hid1]; exact hid)).2
  let H3 : Heap := H2 ++ [.cells [LT true l] false]
  have h62 := fn62 hF true l H2
  rw [hl2] at h62
  have hi' : Inv l p { s with qs := rest } := ⟨hi.start, hi.sound, fun q hx => hi.qin q (by rw [hqs]; simp [hx]), hi.how, hi.has, hi.once, hi.ord⟩
  have hov := over49 (pg := pg) (T := LT true l) (d := H.length) (lp := H.length + 2) (a := a) (s := { s with qs := rest }) hF hn2 hf hi' hnow (hlt now hnow) (by unfold St.mu St.left at *; rw [hqs] at hmu; simp at hmu ⊢; omega) (by have := hb.qid; have : a + 4 < H.length := hab; omega) (by omega)
  have hl3 : H3.length = H.length + 2 := by simp [H3, hl2]
  have hdd : H2[H.length]? = some (.cells [.i .i64 (now : Int)] false) := by
    rw [show H2[H.length]? = H1[H.length]? from List.getElem?_set_ne (by omega)]
    exact getLast _ _
  have hrf := rf_jumps (pg := pg) hF (L := L49 a H.length (LT true l)) (s := .t 28) (e := [(0, LT true l), (6, .ref a 0), (7, .ref (a + 2) 0), (8, .ref (a + 4) 0), (9, .ref H.length 0), (28, .fn 77 [] [.ref (H.length + 1) 0])]) (ps := [29, 30]) (as_ := a49_0) (bd := b49_1) (ks := [0, 6, 7, 8, 9]) (bid := H.length + 1) (b := true) (l := l)
    (I := I49 a H.length (H.length + 2) now (L49 a H.length (LT true l)) l { s with qs := rest }) (Q := fun _ _ _ => False) (H := H3) rfl (by rw [hl3]; exact hov) hl rfl (by rw [← hl2]; exact getLast _ _) (by
      refine ⟨t1, ?_, ?_, ?_, ?_⟩
      · simp only [List.take_zero]
        exact (hb2.append _).append _
      · rw [show H3 ++ [AObj.loop (L49 a H.length (LT true l))] = H2 ++ ([.cells [LT true l] false] ++ [AObj.loop (L49 a H.length (LT true l))]) from List.append_assoc _ _ _, List.getElem?_append_left (by omega)]; exact hdd
      · rw [← hl3]; exact getLast _ _
      · intro he; have := htl H.length (by rw [← hid1]; exact he); omega)
  rcases hrf with ⟨Hf, o, ⟨t2, hbf, _, _, _⟩, h5, h6⟩ | ⟨k, x, Hf, o, hF', _⟩
  · have hall : (js l).take (2 * l.length) = js l := List.take_of_length_le (by rw [js_len]; omega)
    rw [hall] at hbf
    rw [hl3] at h5 h6
    have hlf := (List.getElem?_eq_some_iff.1 h5).1
    refine ⟨Hf.set (H.length + 2) (.loop o), t2, ?_, ?_⟩
    · have hpos : (0 : Int) < ((rest.length : Nat) : Int) + 1 := by omega
      have hst9 : ∀ H : Heap, dkc pg (den pg) (.st 1) [.ref H.length 0, .i .i64 (now : Int)] (H ++ [.cells [.i .i64 0] false]) = some (.undef, H ++ [.cells [.i .i64 (now : Int)] false]) := by
        intro H; rw [st_box (getLast _ _) rfl, setLast]
      have hH3 : (H2 ++ [AObj.cells [LT true l] false]) = H3 := rfl
      have hH1 : (H ++ [AObj.cells [TV.i .i64 (now : Int)] false]) = H1 := rfl
      rw [l49_3, den_loop]
      simp [l49_3, b49_2, gX0, gX1, gX2, gX3, gX4, gX5, gX6, gX7, gX8, gX9, gXa, gXb, gXc, gXd, gXe, gXf, gXg, gXh, gXi, gXj, gXk, gXl, gXm, gXn, gXo, gXp, gXq, gXr, gXs, gXt, gXu, gXv, gXw, gXx, k_mv, gXy, gXz, gX01, gX11, gX21, gX31, gX41, gX51, gX61, gX71, gX81, gX91, gXa1, gXb1, gXc1, gXd1, gXe1, gXf1, gXg1, gXh1, gXi1, gXj1, gXk1, gXl1, gXm1, gXn1, gXo1, gXp1, gXq1, gXr1, gXs1, gXt1, gXu1, k_mn, k_mx, gXv1, gXw1, gXx1, gXy1, gXz1, gX02, gX12, gX22, gX32, gX42, gX52, gX62, gX72, Dn.setLast, Dn.getLast, evalO, mapO, Dn.get, putE, keepE, TV.one, TV.isAgg, Dn.part, ld8, hlen, hpos, hq, hv, hst9, hH1, ld8', hs1, hst8, sh_fn, h62, hH3, h6]
      exact (den_keep _ _ _ _).trans rfl
    · refine hbf.mono fun i hi => List.getElem?_set_ne ?_
      have hab' := hb.lt
      rcases hi with rfl | rfl | rfl | rfl | hi
      · omega
      · omega
      · omega
      · omega
      · intro he
        obtain ⟨c, ag, hcells⟩ := hbf.que.cells hi
        rw [← he, h5] at hcells; cases hcells
  · exact hF'.elim


theorem l49_all {pg : Pg} (hF : Free pg) {n : Int} {l : List Line} (hc : chk n l = 0) {a p : Nat} (hp : p < 65536) : ∀ (f : Nat) (H : Heap) (s : St) (t : TV), s.mu < f → s.mu ≤ 1000000 → HB a H s t → Inv l p s → (∀ q, q ∉ s.qs → s.S q = true → Closed l s q) →
    ∃ H' s' t', den pg l49_3 [(0, LT true l), (6, .ref a 0), (7, .ref (a + 2) 0), (8, .ref (a + 4) 0)] H = some ⟨.exit 0, [(0, LT true l), (6, .ref a 0), (7, .ref (a + 2) 0), (8, .ref (a + 4) 0), (21, .b false)], H'⟩ ∧ HB a H' s' t' ∧ Inv l p s' ∧ (∀ q, s'.S q = true ↔ Reach l p q) := by
  intro f
  induction f with
  | zero => intro H s t hf _ _ _ _; omega
  | succ f ih =>
    intro H s t hmf hmu hb hi hcl
    obtain ⟨hn1, hn2, hl, hf⟩ := chk_ok hc
    have hlt : ∀ q, s.S q = true → q < 65536 := fun q hq => (hi.sound q hq).lt hn2 hf hp
    have hfit : ∀ j ∈ js l, ∀ m, m < 65536 → leap m j < 65536 := fun j hj m hm => leap_lt hm (by have := Hole3.of hn2 (js_fits hf j hj); unfold Hole3 at this; omega)
    cases hqs : s.qs with
    | nil =>
      refine ⟨H, s, t, ?_, hb, hi, hi.all hqs hcl⟩
      have hlen := hb.que.view.lenK
      have ld8 : dkc pg (den pg) (.ld 1 false) [.ref (a + 4) 0] H = some (t, H) := ld_box hb.qc hb.que.one.2
      rw [hqs] at hlen
      have hlen' : ∀ H', lenK 0 t H' = some 0 := fun H' => hlen H'
      rw [l49_3, den_loop]
      simp [b49_2, gX0, gX1, gX2, gX3, gX4, gX5, gX6, gX7, gX8, gX9, gXa, gXb, gXc, gXd, gXe, gXf, gXg, gXh, gXi, gXj, gXk, gXl, gXm, gXn, gXo, gXp, gXq, gXr, gXs, gXt, gXu, gXv, gXw, gXx, k_mv, gXy, gXz, gX01, gX11, gX21, gX31, gX41, gX51, gX61, gX71, gX81, gX91, gXa1, gXb1, gXc1, gXd1, gXe1, gXf1, gXg1, gXh1, gXi1, gXj1, gXk1, gXl1, gXm1, gXn1, gXo1, gXp1, gXq1, gXr1, gXs1, gXt1, gXu1, k_mn, k_mx, gXv1, gXw1, gXx1, gXy1, gXz1, gX02, gX12, gX22, gX32, gX42, gX52, gX62, gX72, Dn.setLast, Dn.getLast, evalO, mapO, Dn.get, putE, keepE, TV.one, TV.isAgg, Dn.part, ld8, hlen']
    | cons now rest =>
      obtain ⟨i1, i2, i3⟩ := St.round hfit hlt hqs hi hcl
      obtain ⟨H1, t1, h1, hb1⟩ := l49_round (pg := pg) hF hc hb hi hqs hlt hmu
      obtain ⟨H', s', t', h2, rest'⟩ := ih H1 _ t1 (by omega) (by omega) hb1 i1 i3
      exact ⟨H', s', t', h1.trans h2, rest'⟩

def zeros : List TV := List.replicate 65536 (.b false)

theorem zeros_len : zeros.length = 65536 := List.length_replicate
theorem zeros_get {q : Nat} (h : q < 65536) : zeros[q]? = some (.b false) := by
  unfold zeros
  rw [List.getElem?_replicate, if_pos h]

theorem k_mkmap {pg : Pg} {R : Rec} (H : Heap) : dkc pg R .mkmap [] H = some (.mp H.length, H ++ [.map [] 0]) := rfl

theorem body49 {pg : Pg} (hF : Free pg) {n : Int} {l : List Line} (hc : chk n l = 0) {p : Nat} (hp : p < 65536) (H0 : Heap) : ∃ H' s t, bodyRun pg (den pg) 49 [LT true l, .i .i64 (p : Int)] H0 = some (.tup [.ref H0.length 0, .mp (H0.length + 1)], H') ∧ HB H0.length H' s t ∧ Inv l p s ∧ (∀ q, s.S q = true ↔ Reach l p q) := by
  obtain ⟨hn1, hn2, hl, hf⟩ := chk_ok hc
  let a := H0.length
  let s0 : St := ⟨fun q => q == p, [p], []⟩
  let H1 : Heap := H0 ++ [.cells zeros true]
  let H2 : Heap := H1 ++ [.map [] 0]
  let H3 : Heap := H2 ++ [.cells [.mp (a + 1)] false]
  let H4 : Heap := H3.set a (.cells (put2 zeros p [.b true]) true)
  let H5 : Heap := H4 ++ [.cells [.i .i64 (p : Int)] false]
  let H6 : Heap := H5 ++ [.cells [.sl (a + 3) 0 1 false 1 (some 1)] false]
  have l1 : H1.length = a + 1 := by simp [H1, a]
  have l2 : H2.length = a + 2 := by simp [H2, l1]
  have l3 : H3.length = a + 3 := by simp [H3, l2]
  have l4 : H4.length = a + 3 := by simp [H4, l3]
  have l5 : H5.length = a + 4 := by simp [H5, l4]
  have l6 : H6.length = a + 5 := by simp [H6, l5]
  have g1 : H1[a]? = some (.cells zeros true) := getLast _ _
  have g3 : H3[a]? = some (.cells zeros true) := by
    rw [show H3[a]? = H2[a]? from List.getElem?_append_left (by omega), show H2[a]? = H1[a]? from List.getElem?_append_left (by omega)]; exact g1
  have hput : put2 zeros p [TV.b true] = zeros.set p (.b true) := by
    simp only [put2, List.length_singleton]
    rw [List.set_eq_take_append_cons_drop, if_pos (by rw [zeros_len]; exact hp)]
    simp
  have hst : ∀ H : Heap, dkc pg (den pg) (.st 1) [.ref H.length 0, .mp (a + 1)] (H ++ [.cells [.nilmap] false]) = some (.undef, H ++ [.cells [.mp (a + 1)] false]) := by
    intro H; rw [st_box (getLast _ _) rfl, setLast]
  have hst2 : ∀ H : Heap, dkc pg (den pg) (.st 1) [.ref H.length 0, .sl (a + 3) 0 1 false 1 (some 1)] (H ++ [.cells [.nilsl] false]) = some (.undef, H ++ [.cells [.sl (a + 3) 0 1 false 1 (some 1)] false]) := by
    intro H; rw [st_box (getLast _ _) rfl, setLast]
  have hst1 : dkc pg (den pg) (.st 1) [.ref a p, .b true] H3 = some (.undef, H4) := by
    rw [gXh1, g3, gXj1, if_pos ⟨rfl, rfl, by rw [zeros_len]; omega⟩]
  have hix : dkc pg (den pg) (.ixA 65536 1 false) [.ref a 0, .i .i64 (p : Int)] H3 = some (.ref a p, H3) := by
    rw [gXn1 _ _ _ _ _ _ _ _ (by omega) (by omega)]; simp
  have hinv : Inv l p s0 := ⟨by simp [s0], fun q hq => by simp [s0] at hq; subst hq; exact .here, fun q hq => by simp [s0] at hq; simp [s0, hq], fun e he => by simp [s0] at he, fun q hq => by simp [s0] at hq; exact .inl hq, by simp [s0], fun M1 e M2 h => by simp [s0] at h⟩
  have hmu : s0.mu ≤ 1000000 := by
    have : s0.left ≤ 65536 := by
      unfold St.left
      exact Nat.le_trans List.countP_le_length (by simp)
    simp only [St.mu, s0] at this ⊢
    simp
    omega
  have hb : HB a H6 s0 (.sl (a + 3) 0 1 false 1 (some 1)) := by
    have f5 : ∀ i, i < a + 4 → H6[i]? = H5[i]? := fun i h => List.getElem?_append_left (by omega)
    have f4 : ∀ i, i < a + 3 → H5[i]? = H4[i]? := fun i h => List.getElem?_append_left (by omega)
    refine ⟨⟨zeros.set p (.b true), ?_, by rw [List.length_set, zeros_len], ?_⟩, ⟨[], 0, ?_, rfl⟩, ?_, ?_, ⟨a + 3, 0, some 1, [.i .i64 (p : Int)], false, rfl, ?_, by simp [s0], by simp [s0], fun k hk => by cases hk; simp [s0]⟩, fun id hid => by cases hid; omega⟩
    · rw [f5 _ (by omega), f4 _ (by omega), ← hput]
      exact List.getElem?_set_self (by omega)
    · intro q hq
      by_cases hqp : q = p
      · subst hqp; rw [List.getElem?_set_self (by rw [zeros_len]; exact hq)]; simp [s0]
      · rw [List.getElem?_set_ne (by omega), zeros_get hq]; simp [s0, hqp]
    · rw [f5 _ (by omega), f4 _ (by omega), show H4[a + 1]? = H3[a + 1]? from List.getElem?_set_ne (by omega), show H3[a + 1]? = H2[a + 1]? from List.getElem?_append_left (by omega), ← l1]
      exact getLast _ _
    · rw [f5 _ (by omega), f4 _ (by omega), show H4[a + 2]? = H3[a + 2]? from List.getElem?_set_ne (by omega), ← l2]
      exact getLast _ _
    · rw [← l5]; exact getLast _ _
    · rw [f5 _ (by omega), ← l4]; exact getLast _ _
  obtain ⟨H', s', t', h1, hb', hi', hr⟩ := l49_all (pg := pg) hF hc hp (s0.mu + 1) H6 s0 _ (by omega) hmu hb hinv (fun q hq hs => by simp [s0] at hq hs; exact absurd hs hq)
  have ld7 : dkc pg (den pg) (.ld 1 false) [.ref (a + 2) 0] H' = some (.mp (a + 1), H') := ld_box hb'.mc rfl
  refine ⟨H', s', t', bodyRun_of (vs := [.ref a 0, .mp (a + 1)]) (o := ⟨.ret, [(4, .ref a 0), (5, .mp (a + 1))], H'⟩) (d := d49) (by rw [hF.F]; rfl) rfl ?_ (by simp) rfl, hb', hi', hr⟩
  rw [runC_go]
  have hz : List.replicate 65536 (TV.b false) = zeros := rfl
  have e1 : H0 ++ [AObj.cells zeros true] = H1 := rfl
  have e2 : H1 ++ [AObj.map [] 0] = H2 := rfl
  have e3 : H2 ++ [AObj.cells [TV.mp (a + 1)] false] = H3 := rfl
  have e5 : H4 ++ [AObj.cells [TV.i .i64 (p : Int)] false] = H5 := rfl
  have e6 : H5 ++ [AObj.cells [TV.sl (a + 3) 0 1 false 1 (some 1)] false] = H6 := rfl
  have hst' := hst H2
  have hst2' := hst2 H5
  have ea : H0.length = a := rfl
  rw [l2] at hst'
  rw [l5] at hst2'
  rw [e3] at hst'
  rw [e6] at hst2'
  simp only [d49, c49, hz]
  simp only [zipE]
  simp only [gX0, gX1, gX2, gX3, gX4, gX5, gX6, gX7, gX9, gXb, gXc, gXl, gXo, gXp, gXt, gXu, gXv, gXw, k_mv, gX51, k_mkmap, gXx1, evalO, mapO, Dn.get, putE, keepE, Option.bind_some, Option.map_some, if_true, ↓reduceIte, Nat.reduceEqDiff, List.filterMap_cons, List.filterMap_nil, ea, e1, l1, e2, l2, hst', hix, hst1, l4, e5, l5, hst2', go_denK (c := l49_3) rfl, h1, ld7]

end Go.Proofs.Try.Dn

/-
  Reached: the positions that are reached, in their order.
-/

namespace Go.Proofs.Try.Dn
open Go.Dn

theorem l24_all {pg : Pg} (hF : Free pg) {a : Nat} {S : Nat → Bool} {c : List TV} (hc : ∀ q, q < 65536 → c[q]? = some (.b (S q))) : ∀ (k i : Nat) (H : Heap) (out : TV) (m : List Int), i + k = 65536 → m.length ≤ i → H[a]? = some (.cells c true) → elI.Own H out m → out.idOf ≠ some a →
    ∃ H' out', den pg l24_1 [(11, out), (28, .ref a 0), (29, .i .i64 (i : Int))] H = some ⟨.exit 0, [(11, out'), (28, .ref a 0), (29, .i .i64 65536), (30, .b false)], H'⟩ ∧ elI.Own H' out' (m ++ ((List.range' i k).filter S).map fun (n : Nat) => (n : Int)) := by
  intro k
  induction k with
  | zero =>
    intro i H out m h hm hs ho hne
    obtain rfl : i = 65536 := by omega
    refine ⟨H, out, ?_, by simpa using ho⟩
    rw [l24_1, den_loop]
    simp [b24_0, gX0, gX1, gX2, gX3, gX4, gX5, gX6, gX7, gX8, gX9, gXa, gXb, gXc, gXd, gXe, gXf, gXg, gXh, gXi, gXj, gXk, gXl, gXm, gXn, gXo, gXp, gXq, gXr, gXs, gXt, gXu, gXv, gXw, gXx, k_mv, gXy, gXz, gX01, gX11, gX21, gX31, gX41, gX51, gX61, gX71, gX81, gX91, gXa1, gXb1, gXc1, gXd1, gXe1, gXf1, gXg1, gXh1, gXi1, gXj1, gXk1, gXl1, gXm1, gXn1, gXo1, gXp1, gXq1, gXr1, gXs1, gXt1, gXu1, k_mn, k_mx, gXv1, gXw1, gXx1, gXy1, gXz1, gX02, gX12, gX22, gX32, gX42, gX52, gX62, gX72, Dn.setLast, Dn.getLast, evalO, mapO, Dn.get, putE, keepE, TV.one, TV.isAgg, Dn.part]
  | succ k ih =>
    intro i H out m h hm hs ho hne
    have e1 : ((i : Int) < 65536) := by omega
    have e2 : wrapR .i64 ((i : Int) + 1) = .i .i64 ((i : Int) + 1) := gX82 (by omega)
    have hix : dkc pg (den pg) (.ixA 65536 1 false) [.ref a 0, .i .i64 (i : Int)] H = some (.ref a i, H) := by
      rw [gXn1 _ _ _ _ _ _ _ _ (by omega) (by omega)]; simp
    have hld : dkc pg (den pg) (.ld 1 false) [.ref a i] H = some (.b (S i), H) := by
      rw [gXb1, hs, gXi1, part_one (hc i (by omega)) rfl]; rfl
    have hal := (List.getElem?_eq_some_iff.1 hs).1
    cases hS : S i with
    | false =>
      rw [hS] at hld
      obtain ⟨H', out', h1, h2⟩ := ih (i + 1) H out m (by omega) (by omega) hs ho hne
      refine ⟨H', out', Eq.trans ?_ h1, ?_⟩
      · rw [l24_1, den_loop]
        simp [l24_1, b24_0, gX0, gX1, gX2, gX3, gX4, gX5, gX6, gX7, gX8, gX9, gXa, gXb, gXc, gXd, gXe, gXf, gXg, gXh, gXi, gXj, gXk, gXl, gXm, gXn, gXo, gXp, gXq, gXr, gXs, gXt, gXu, gXv, gXw, gXx, k_mv, gXy, gXz, gX01, gX11, gX21, gX31, gX41, gX51, gX61, gX71, gX81, gX91, gXa1, gXb1, gXc1, gXd1, gXe1, gXf1, gXg1, gXh1, gXi1, gXj1, gXk1, gXl1, gXm1, gXn1, gXo1, gXp1, gXq1, gXr1, gXs1, gXt1, gXu1, k_mn, k_mx, gXv1, gXw1, gXx1, gXy1, gXz1, gX02, gX12, gX22, gX32, gX42, gX52, gX62, gX72, Dn.setLast, Dn.getLast, evalO, mapO, Dn.get, putE, keepE, TV.one, TV.isAgg, Dn.part, e1, e2, hix, hld]
      · rw [List.range'_succ, List.filter_cons, if_neg (by rw [hS]; decide)]; exact h2
    | true =>
      rw [hS] at hld
      have ho1 : elI.Own (H ++ [.cells [.i .i64 (i : Int)] false]) out m := ho.mono fun id hid => by rw [List.getElem?_append_left (ho.lt id hid)]
      have hx : elI.View (H ++ [.cells [.i .i64 (i : Int)] false]) (.sl H.length 0 1 false 1 (some 1)) [(i : Int)] :=
        .inr (.inr ⟨H.length, 0, some 1, _, false, rfl, by simp, getLast _ _, by simp [elI], by simp [elI, El.flat]⟩)
      obtain ⟨t1, H1, ha, o2, l1, f1, g1⟩ := El.app (bytes := 8) ho1 hx (by simp; omega)
      have ha' : appRun 1 false 8 out (.sl H.length 0 1 false 1 (some 1)) (H ++ [.cells [.i .i64 (i : Int)] false]) = some (t1, H1) := ha
      have hs1 : H1[a]? = some (.cells c true) := by rw [f1 a (by simp; omega) hne, List.getElem?_append_left hal]; exact hs
      have hne1 : t1.idOf ≠ some a := by
        rcases g1 with rfl | g1
        · exact hne
        · intro he; have := g1 a he; simp at this; omega
      obtain ⟨H', out', h1, h2⟩ := ih (i + 1) H1 t1 (m ++ [(i : Int)]) (by omega) (by simp; omega) hs1 o2 hne1
      refine ⟨H', out', Eq.trans ?_ h1, ?_⟩
      · rw [l24_1, den_loop]
        simp [l24_1, b24_0, gX0, gX1, gX2, gX3, gX4, gX5, gX6, gX7, gX8, gX9, gXa, gXb, gXc, gXd, gXe, gXf, gXg, gXh, gXi, gXj, gXk, gXl, gXm, gXn, gXo, gXp, gXq, gXr, gXs, gXt, gXu, gXv, gXw, gXx, k_mv, gXy, gXz, gX01, gX11, gX21, gX31, gX41, gX51, gX61, gX71, gX81, gX91, gXa1, gXb1, gXc1, gXd1, gXe1, gXf1, gXg1, gXh1, gXi1, gXj1, gXk1, gXl1, gXm1, gXn1, gXo1, gXp1, gXq1, gXr1, gXs1, gXt1, gXu1, k_mn, k_mx, gXv1, gXw1, gXx1, gXy1, gXz1, gX02, gX12, gX22, gX32, gX42, gX52, gX62, gX72, Dn.setLast, Dn.getLast, evalO, mapO, Dn.get, putE, keepE, TV.one, TV.isAgg, Dn.part, e1, e2, hix, hld, ha']
      · rw [List.range'_succ, List.filter_cons, if_pos hS]
        simpa using h2

def posList (S : Nat → Bool) : List Int := ((List.range 65536).filter S).map fun (n : Nat) => (n : Int)

theorem body24 {pg : Pg} (hF : Free pg) {n : Int} {l : List Line} (hc : chk n l = 0) {p : Nat} (hp : p < 65536) (hr : outOf n (p : Int) = false) : ∃ S : Nat → Bool, (∀ q, S q = true ↔ Reach l p q) ∧ ∃ O H', bodyRun pg (den pg) 24 [.i .i64 n, LT true l, .i .i64 (p : Int)] [] = some (.tup [O, .i .i64 0], H') ∧ elI.Own H' O (posList S) := by
  obtain ⟨H1, s, t, h49, hb, hi, hS⟩ := body49 (pg := pg) hF hc hp [.cells [.i .i64 (p : Int)] false]
  obtain ⟨c, c1, c2, c3⟩ := hb.seen
  have ho := opn1 hF hc (p : Int)
  rw [hr, if_neg (by decide)] at ho
  obtain ⟨H2, out, h1, o⟩ := l24_all (pg := pg) (S := s.S) hF c3 65536 0 H1 .nilsl [] (by omega) (by simp) c1 (.inl ⟨rfl, rfl⟩) (by intro h; cases h)
  simp only [Int.natCast_zero, List.nil_append, ← List.range_eq_range'] at h1 o
  refine ⟨s.S, hS, out, H2, bodyRun_of (vs := [out, .i .i64 0]) (o := ⟨.ret, [(6, out), (7, .i .i64 0)], H2⟩) (d := d24) (by rw [hF.F]; rfl) rfl ?_ (by simp) rfl, o⟩
  rw [runC_go]
  simp only [List.length_singleton] at h49 h1
  simp [d24, c24, zipE, gX0, gX1, gX2, gX3, gX4, gX5, gX6, gX7, gX8, gX9, gXa, gXb, gXc, gXd, gXe, gXf, gXg, gXh, gXi, gXj, gXk, gXl, gXm, gXn, gXo, gXp, gXq, gXr, gXs, gXt, gXu, gXv, gXw, gXx, k_mv, gXy, gXz, gX01, gX11, gX21, gX31, gX41, gX51, gX61, gX71, gX81, gX91, gXa1, gXb1, gXc1, gXd1, gXe1, gXf1, gXg1, gXh1, gXi1, gXj1, gXk1, gXl1, gXm1, gXn1, gXo1, gXp1, gXq1, gXr1, gXs1, gXt1, gXu1, k_mn, k_mx, gXv1, gXw1, gXx1, gXy1, gXz1, gX02, gX12, gX22, gX32, gX42, gX52, gX62, gX72, Dn.setLast, Dn.getLast, evalO, mapO, Dn.get, putE, keepE, TV.one, TV.isAgg, Dn.part, ho.call1, sh_fn, h49, go_denK (c := l24_1) rfl, h1]

end Go.Proofs.Try.Dn

/-
  Solve: a list turned round in place; whence a position came.
-/

namespace Go.Dn

theorem El.ownSet {α : Type} {E : El α} {pg : Pg} {R : Rec} {H : Heap} {t : TV} {l : List α} (h : E.Own H t l) {i : Nat} (hi : i < l.length) (x : α) (k : IntKind) :
    ∃ p H', dkc pg R (.ixS E.sz E.ag) [t, .i k (i : Int)] H = some (p, H) ∧ dkc pg R (.st E.sz) [p, E.val x] H = some (.undef, H') ∧ E.Own H' t (l.set i x) ∧ H'.length = H.length ∧ (∀ j, t.idOf ≠ some j → H'[j]? = H[j]?) := by
  rcases h with ⟨rfl, rfl⟩ | ⟨h0, id, ag, c, rfl, h1, h2, h3⟩
  · simp at hi
  · have hid := (List.getElem?_eq_some_iff.1 h1).1
    have hroom : (i + 1) * E.sz ≤ l.length * E.sz := Nat.mul_le_mul_right _ hi
    have hroom' : i * E.sz + E.sz ≤ l.length * E.sz := by rw [Nat.add_mul] at hroom; omega
    refine ⟨.ref id (i * E.sz), H.set id (.cells (put2 c (i * E.sz) (E.enc x)) ag), ?_, ?_, ?_, by simp, ?_⟩
    · exact (gXp1 E.sz E.ag E.ag id 0 l.length none k i H (by omega) (by simpa using hi)).trans (by simp)
    · have hc : (E.val x).cells = E.enc x := E.val_cells x
      simp only [dkc, dk, h1, hc, E.len x, E.one x, true_and]
      rw [if_pos (by omega)]
    · refine .inr ⟨by simpa using h0, id, ag, put2 c (i * E.sz) (E.enc x), by rw [List.length_set], by simp [hid], ?_, ?_⟩
      · have := E.len x
        simp only [put2, List.length_append, List.length_take, List.length_drop, List.length_set]
        omega
      · have hcs : c = E.flat l ++ c.drop (l.length * E.sz) := by rw [← h3, List.take_append_drop]
        have hfl := E.flat_len l
        have htk : c.take (i * E.sz) = E.flat (l.take i) := by
          rw [hcs, List.take_append_of_le_length (by rw [hfl]; omega), E.flat_take]
        have hdr : c.drop (i * E.sz + (E.enc x).length) = E.flat (l.drop (i + 1)) ++ c.drop (l.length * E.sz) := by
          rw [E.len x, show i * E.sz + E.sz = (i + 1) * E.sz by rw [Nat.add_mul]; omega]
          conv => lhs; rw [hcs]
          rw [List.drop_append_of_le_length (by rw [hfl]; exact hroom), E.flat_drop]
        have hset : E.flat (l.set i x) = E.flat (l.take i) ++ E.enc x ++ E.flat (l.drop (i + 1)) := by
          rw [List.set_eq_take_append_cons_drop, if_pos hi, E.flat_append, E.flat_cons, List.append_assoc]
        rw [List.length_set]
        unfold put2
        rw [htk, hdr, ← List.append_assoc, ← hset, List.take_append_of_le_length (by rw [E.flat_len, List.length_set]; exact Nat.le_refl _)]
        have hls : (l.set i x).length = l.length := List.length_set
        rw [← hls, ← E.flat_len, List.take_length]
    · intro j hj
      rw [List.getElem?_set_ne]
      intro he
      exact hj (by rw [← he]; rfl)

end Go.Dn
namespace Go.Proofs.Try.Dn
open Go.Dn

theorem fn50 {pg : Pg} (hF : Free pg) (j : Line) : Fn pg 50 [lineTV j] (lineTV j) := by
  obtain ⟨a, b, c⟩ := j
  refine .of1 (x := .ret) (e := [(2, .ref 1 0)]) (H' := [.cells [.i .i64 a, .i .i64 b, .i .i64 c] true, .cells [.i .i64 a, .i .i64 b, .i .i64 c] true]) (hF.S _ _ (by decide)) (d := d50) (by rw [hF.F]; rfl) rfl ?_ (.inl rfl) (by simp [d50, resRun, mapO, Dn.get, dk, Dn.part, lineTV]) (snap_line _ _ 7 _)
  simp [d50, c50, zipE, gX0, gX1, gX2, gX3, gX4, gX5, gX6, gX7, gX8, gX9, gXa, gXb, gXc, gXd, gXe, gXf, gXg, gXh, gXi, gXj, gXk, gXl, gXm, gXn, gXo, gXp, gXq, gXr, gXs, gXt, gXu, gXv, gXw, gXx, k_mv, gXy, gXz, gX01, gX11, gX21, gX31, gX41, gX51, gX61, gX71, gX81, gX91, gXa1, gXb1, gXc1, gXd1, gXe1, gXf1, gXg1, gXh1, gXi1, gXj1, gXk1, gXl1, gXm1, gXn1, gXo1, gXp1, gXq1, gXr1, gXs1, gXt1, gXu1, k_mn, k_mx, gXv1, gXw1, gXx1, gXy1, gXz1, gX02, gX12, gX22, gX32, gX42, gX52, gX62, gX72, Dn.setLast, Dn.getLast, evalO, mapO, Dn.get, putE, keepE, TV.one, TV.isAgg, Dn.part, lineTV, fillP, put2, TV.cells]

end Go.Proofs.Try.Dn

/-
  PegBack: games turned round; the whole run.
-/

namespace Go.Proofs.Try.Dn
open Go.Dn

theorem nd_bit {m k i : Nat} (hm : m < 65536) : (nd m k).testBit i = (m.testBit i && !k.testBit i) := by
  unfold nd
  rw [BitVec.testBit_toNat, BitVec.getLsbD_and, BitVec.getLsbD_not, BitVec.getLsbD_ofNat, BitVec.getLsbD_ofNat]
  by_cases hi : i < 64
  · simp [hi]
  · have : m.testBit i = false := Nat.testBit_lt_two_pow (Nat.lt_of_lt_of_le hm (Nat.le_trans (by decide : 65536 ≤ 2 ^ 64) (Nat.pow_le_pow_right (by decide) (by omega))))
    simp [hi, this]

theorem Reach.head {l : List Line} {p q : Nat} {j : Line} (hj : j ∈ js l) (hc : can p j = true) (h : Reach l (leap p j) q) : Reach l p q := by
  induction h with
  | here => exact .jump .here hj hc
  | jump _ hj' hc' ih => exact .jump ih hj' hc'

end Go.Proofs.Try.Dn

