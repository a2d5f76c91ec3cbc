/-
  Which positions a game leads to: plain Lean.
-/
import Derived.Test.YtegihfgibonhpaaPe
set_option linter.unusedSimpArgs false
set_option linter.unusedVariables false

namespace Go.Proofs.Try.Dn
open Go.Dn

inductive Reach (l : List Line) (p : Nat) : Nat → Prop
  | here : Reach l p p
  | jump {q : Nat} {j : Line} : Reach l p q → j ∈ js l → can q j = true → Reach l p (leap q j)

theorem Reach.lt {n : Int} {l : List Line} {p q : Nat} (hn : n ≤ 16) (hf : ∀ x ∈ l, Fits n x) (hp : p < 65536) (h : Reach l p q) : q < 65536 := by
  induction h with
  | here => exact hp
  | jump h hj hc ih =>
    have := Hole3.of hn (js_fits hf _ hj)
    unfold Hole3 at this
    exact leap_lt ih (by omega)

structure St where
  S : Nat → Bool
  qs : List Nat
  M : List (Nat × Nat × Line)

def St.step (now : Nat) (s : St) (j : Line) : St :=
  if can now j && !s.S (leap now j) then ⟨fun q => q == leap now j || s.S q, s.qs ++ [leap now j], s.M ++ [(leap now j, now, j)]⟩ else s

structure Inv (l : List Line) (p : Nat) (s : St) : Prop where
  start : s.S p = true
  sound : ∀ q, s.S q = true → Reach l p q
  qin : ∀ q ∈ s.qs, s.S q = true
  how : ∀ e ∈ s.M, s.S e.1 = true ∧ s.S e.2.1 = true ∧ e.2.2 ∈ js l ∧ can e.2.1 e.2.2 = true ∧ leap e.2.1 e.2.2 = e.1
  has : ∀ q, s.S q = true → q = p ∨ ∃ e ∈ s.M, e.1 = q
  once : (s.M.map (·.1)).Nodup
  ord : ∀ M1 e M2, s.M = M1 ++ e :: M2 → e.2.1 = p ∨ ∃ x ∈ M1, x.1 = e.2.1

def Closed (l : List Line) (s : St) (q : Nat) : Prop := ∀ j ∈ js l, can q j = true → s.S (leap q j) = true

theorem St.step_mono (now : Nat) (s : St) (j : Line) {q : Nat} (h : s.S q = true) : (s.step now j).S q = true := by
  unfold St.step
  split
  · simp [h]
  · exact h

theorem St.step_new (now : Nat) (s : St) (j : Line) (h : can now j = true) : (s.step now j).S (leap now j) = true := by
  unfold St.step
  cases hs : s.S (leap now j) with
  | true => simp [hs]
  | false => simp [h, hs]

theorem Inv.step {l : List Line} {p now : Nat} {s : St} {j : Line} (h : Inv l p s) (hn : s.S now = true) (hj : j ∈ js l) : Inv l p (s.step now j) := by
  unfold St.step
  split
  · rename_i hc
    simp only [Bool.and_eq_true, Bool.not_eq_true'] at hc
    obtain ⟨hcan, hnew⟩ := hc
    refine ⟨by simp [h.start], ?_, ?_, ?_, ?_, ?_, ?_⟩
    · intro q hq
      simp only [Bool.or_eq_true, beq_iff_eq] at hq
      rcases hq with rfl | hq
      · exact .jump (h.sound _ hn) hj hcan
      · exact h.sound q hq
    · intro q hq
      simp only [List.mem_append, List.mem_singleton] at hq
      rcases hq with hq | rfl
      · simp [h.qin q hq]
      · simp
    · intro e he
      simp only [List.mem_append, List.mem_singleton] at he
      rcases he with he | rfl
      · obtain ⟨h1, h2, h3⟩ := h.how e he
        exact ⟨by simp [h1], by simp [h2], h3⟩
      · exact ⟨by simp, by simp [hn], hj, hcan, rfl⟩
    · intro q hq
      simp only [Bool.or_eq_true, beq_iff_eq] at hq
      rcases hq with rfl | hq
      · exact .inr ⟨(leap now j, now, j), by simp, rfl⟩
      · rcases h.has q hq with h1 | ⟨e, h1, h2⟩
        · exact .inl h1
        · exact .inr ⟨e, by simp [h1], h2⟩
    · simp only [List.map_append, List.map_cons, List.map_nil]
      rw [List.nodup_append]
      refine ⟨h.once, by simp, ?_⟩
      intro x hx y hy
      simp only [List.mem_singleton] at hy
      subst hy
      rintro rfl
      obtain ⟨e, he, h2⟩ := List.mem_map.1 hx
      have := (h.how e he).1
      rw [h2] at this
      rw [this] at hnew; cases hnew
    · intro M1 e M2 hM
      change s.M ++ [(leap now j, now, j)] = M1 ++ e :: M2 at hM
      rcases List.eq_nil_or_concat M2 with rfl | ⟨M2', y, rfl⟩
      · obtain ⟨rfl, he⟩ := List.append_inj' hM rfl
        simp at he
        subst he
        exact h.has now hn
      · have hM' : s.M ++ [(leap now j, now, j)] = (M1 ++ e :: M2') ++ [y] := by rw [hM]; simp
        obtain ⟨h1, _⟩ := List.append_inj' hM' rfl
        exact h.ord M1 e M2' h1
  · exact h

theorem St.step_keep {now : Nat} {s : St} {j : Line} {q : Nat} (h : q ∉ (s.step now j).qs) (hs : (s.step now j).S q = true) : q ∉ s.qs ∧ s.S q = true := by
  unfold St.step at h hs
  split at h
  · rename_i hc
    simp only [if_pos hc] at hs
    simp only [List.mem_append, List.mem_singleton, not_or] at h
    simp only [Bool.or_eq_true, beq_iff_eq] at hs
    exact ⟨h.1, hs.resolve_left h.2⟩
  · rename_i hc
    rw [if_neg hc] at hs
    exact ⟨h, hs⟩

def St.left (s : St) : Nat := (List.range 65536).countP fun q => !s.S q

theorem countP_le {P Q : Nat → Bool} : ∀ L : List Nat, (∀ y ∈ L, P y = true → Q y = true) → L.countP P ≤ L.countP Q
  | [], _ => by simp
  | y :: L, h => by
    have ih := countP_le L fun z hz => h z (by simp [hz])
    rw [List.countP_cons, List.countP_cons]
    have := h y (by simp)
    cases hP : P y with
    | true => simp [this hP]; omega
    | false => simp; omega

theorem countP_lt {P Q : Nat → Bool} {x : Nat} : ∀ L : List Nat, (∀ y ∈ L, P y = true → Q y = true) → x ∈ L → Q x = true → P x = false → L.countP P + 1 ≤ L.countP Q
  | [], _, hx, _, _ => by cases hx
  | y :: L, h, hx, hQ, hP => by
    have hle := countP_le L fun z hz => h z (by simp [hz])
    rw [List.countP_cons, List.countP_cons]
    rcases List.mem_cons.1 hx with rfl | hx
    · simp [hQ, hP]; omega
    · have ih := countP_lt L (fun z hz => h z (by simp [hz])) hx hQ hP
      have := h y (by simp)
      cases hPy : P y with
      | true => simp [this hPy]; omega
      | false => simp; omega

def St.mu (s : St) : Nat := 2 * s.left + s.qs.length

theorem St.step_mu {now : Nat} {s : St} {j : Line} (hlt : leap now j < 65536) : (s.step now j).mu ≤ s.mu := by
  unfold St.step
  split
  · rename_i hc
    simp only [Bool.and_eq_true, Bool.not_eq_true'] at hc
    have := countP_lt (P := fun q => !(q == leap now j || s.S q)) (Q := fun q => !s.S q) (x := leap now j) (List.range 65536) (by
      intro y _ hy
      simp only [Bool.not_eq_true', Bool.or_eq_false_iff] at hy
      simp [hy.2]) (List.mem_range.2 hlt) (by simp [hc.2]) (by simp)
    simp only [St.mu, St.left, List.length_append, List.length_singleton]
    omega
  · exact Nat.le_refl _

def St.steps (now : Nat) (s : St) (g : List Line) : St := g.foldl (fun s j => s.step now j) s

theorem St.steps_inv {l : List Line} {p now n : Nat} (hfit : ∀ j ∈ js l, ∀ m, m < 65536 → leap m j < 65536) (hnow : now < 65536) : ∀ (g : List Line) (s : St), (∀ j ∈ g, j ∈ js l) → Inv l p s → s.S now = true →
    Inv l p (s.steps now g) ∧ (s.steps now g).mu ≤ s.mu ∧ (∀ q, s.S q = true → (s.steps now g).S q = true) ∧ (∀ j ∈ g, can now j = true → (s.steps now g).S (leap now j) = true) ∧ (∀ q, q ∉ (s.steps now g).qs → (s.steps now g).S q = true → q ∉ s.qs ∧ s.S q = true)
  | [], s, _, h, _ => ⟨h, Nat.le_refl _, fun _ h => h, fun _ h => by (cases h), fun q h1 h2 => ⟨h1, h2⟩⟩
  | j :: g, s, hg, h, hn => by
    have hj := hg j (by simp)
    obtain ⟨i1, i2, i3, i4, i5⟩ := St.steps_inv (n := n) hfit hnow g (s.step now j) (fun x hx => hg x (by simp [hx])) (h.step hn hj) (s.step_mono now j hn)
    refine ⟨i1, Nat.le_trans i2 (St.step_mu (hfit j hj now hnow)), fun q hq => i3 q (s.step_mono now j hq), ?_, ?_⟩
    · intro x hx hc
      rcases List.mem_cons.1 hx with rfl | hx
      · exact i3 _ (s.step_new now x hc)
      · exact i4 x hx hc
    · intro q h1 h2
      obtain ⟨h3, h4⟩ := i5 q h1 h2
      exact St.step_keep h3 h4

theorem St.round {l : List Line} {p now : Nat} {s : St} {qs : List Nat} (hfit : ∀ j ∈ js l, ∀ m, m < 65536 → leap m j < 65536) (hlt : ∀ q, s.S q = true → q < 65536) (hq : s.qs = now :: qs) (h : Inv l p s) (hc : ∀ q, q ∉ s.qs → s.S q = true → Closed l s q) :
    Inv l p (St.steps now { s with qs := qs } (js l)) ∧ (St.steps now { s with qs := qs } (js l)).mu < s.mu ∧ (∀ q, q ∉ (St.steps now { s with qs := qs } (js l)).qs → (St.steps now { s with qs := qs } (js l)).S q = true → Closed l (St.steps now { s with qs := qs } (js l)) q) := by
  have hnow : s.S now = true := h.qin now (by rw [hq]; simp)
  have h1 : Inv l p { s with qs := qs } := ⟨h.start, h.sound, fun q hx => h.qin q (by rw [hq]; simp [hx]), h.how, h.has, h.once, h.ord⟩
  obtain ⟨i1, i2, i3, i4, i5⟩ := St.steps_inv (n := 0) hfit (hlt now hnow) (js l) { s with qs := qs } (fun _ h => h) h1 hnow
  refine ⟨i1, ?_, ?_⟩
  · refine Nat.lt_of_le_of_lt i2 ?_
    simp only [St.mu, St.left, hq, List.length_cons]
    omega
  · intro q hx hS
    obtain ⟨h2, h3⟩ := i5 q hx hS
    intro j hj hcan
    by_cases hqn : q = now
    · subst hqn; exact i4 j hj hcan
    · exact i3 _ (hc q (by rw [hq]; simp [hqn]; exact h2) h3 j hj hcan)

theorem Inv.all {l : List Line} {p : Nat} {s : St} (h : Inv l p s) (hq : s.qs = []) (hc : ∀ q, q ∉ s.qs → s.S q = true → Closed l s q) (q : Nat) : s.S q = true ↔ Reach l p q := by
  refine ⟨h.sound q, fun hr => ?_⟩
  induction hr with
  | here => exact h.start
  | jump _ hj hcan ih => exact hc _ (by rw [hq]; simp) ih _ hj hcan

end Go.Proofs.Try.Dn

/-
  Which positions a game leads to: the search's memory.
-/

namespace Go.Proofs.Try.Dn
open Go.Dn

theorem st_box {pg : Pg} {R : Rec} {H : Heap} {id : Nat} {u v : TV} {ag : Bool} (h : H[id]? = some (.cells [u] ag)) (hv : v.one = true) : dkc pg R (.st 1) [.ref id 0, v] H = some (.undef, H.set id (.cells [v] ag)) := by
  have hc : v.cells = [v] := by cases v <;> simp_all [TV.cells, TV.one]
  simp [dkc, dk, h, hc, hv, put2]

end Go.Proofs.Try.Dn

/-
  Which positions a game leads to: one jump of the search.
-/

namespace Go.Proofs.Try.Dn
open Go.Dn

end Go.Proofs.Try.Dn

/-
  Which positions a game leads to: the program's search.
-/

namespace Go.Proofs.Try.Dn
open Go.Dn

def zeros : List TV := List.replicate 65536 (.b false)

end Go.Proofs.Try.Dn

/-
  Reached: the positions that are reached, in their order.
-/

namespace Go.Proofs.Try.Dn
open Go.Dn

end Go.Proofs.Try.Dn

/-
  Solve: a list turned round in place; whence a position came.
-/

namespace Go.Dn

end Go.Dn
namespace Go.Proofs.Try.Dn
open Go.Dn

theorem fn50 {pg : Pg} (hF : Free pg) (j : Line) : Fn pg 50 [lineTV j] (lineTV j) := by
  obtain ⟨a, b, c⟩ := j
  refine .of1 (x := .ret) (e := [(2, .ref 1 0)]) (H' := [.cells [.i .i64 a, .i .i64 b, .i .i64 c] true, .cells [.i .i64 a, .i .i64 b, .i .i64 c] true]) (hF.S _ _ (by decide)) (d := d50) (by rw [hF.F]; rfl) rfl ?_ (.inl rfl) (by simp [d50, resRun, mapO, Dn.get, dk, Dn.part, lineTV]) (snap_line _ _ 7 _)
  simp [d50, c50, zipE, gX0, gX1, gX2, gX3, gX4, gX5, gX6, gX7, gX8, gX9, gXa, gXb, gXc, gXd, gXe, gXf, gXg, gXh, gXi, gXj, gXk, gXl, gXm, gXn, gXo, gXp, gXq, gXr, gXs, gXt, gXu, gXv, gXw, gXx, k_mv, gXy, gXz, gX01, gX11, gX21, gX31, gX41, gX51, gX61, gX71, gX81, gX91, gXa1, gXb1, gXc1, gXd1, gXe1, gXf1, gXg1, gXh1, gXi1, gXj1, gXk1, gXl1, gXm1, gXn1, gXo1, gXp1, gXq1, gXr1, gXs1, gXt1, gXu1, k_mn, k_mx, gXv1, gXw1, gXx1, gXy1, gXz1, gX02, gX12, gX22, gX32, gX42, gX52, gX62, gX72, Dn.setLast, Dn.getLast, evalO, mapO, Dn.get, putE, keepE, TV.one, TV.isAgg, Dn.part, lineTV, fillP, put2, TV.cells]

end Go.Proofs.Try.Dn

/-
  PegBack: games turned round; the whole run.
-/

namespace Go.Proofs.Try.Dn
open Go.Dn

theorem nd_bit {m k i : Nat} (hm : m < 65536) : (nd m k).testBit i = (m.testBit i && !k.testBit i) := by
  unfold nd
  rw [BitVec.testBit_toNat, BitVec.getLsbD_and, BitVec.getLsbD_not, BitVec.getLsbD_ofNat, BitVec.getLsbD_ofNat]
  by_cases hi : i < 64
  · simp [hi]
  · have : m.testBit i = false := Nat.testBit_lt_two_pow (Nat.lt_of_lt_of_le hm (Nat.le_trans (by decide : 65536 ≤ 2 ^ 64) (Nat.pow_le_pow_right (by decide) (by omega))))
    simp [hi, this]

theorem Reach.head {l : List Line} {p q : Nat} {j : Line} (hj : j ∈ js l) (hc : can p j = true) (h : Reach l (leap p j) q) : Reach l p q := by
  induction h with
  | here => exact .jump .here hj hc
  | jump _ hj' hc' ih => exact .jump ih hj' hc'

end Go.Proofs.Try.Dn

