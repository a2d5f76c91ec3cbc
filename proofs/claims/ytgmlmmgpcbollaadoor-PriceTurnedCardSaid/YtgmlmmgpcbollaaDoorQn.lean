/-
  Sets: their elements and sizes; lists compared.
-/
import Derived.Test.YtgmlmmgpcbollaaDoorQm
set_option linter.unusedSimpArgs false
set_option linter.unusedVariables false

namespace Go.Proofs.Tryd.Dn
open Go.Dn

/-! sizes -/

def ones (x : Nat) : Nat :=
  let y1 := (x / 2 &&& 6148914691236517205) + (x &&& 6148914691236517205)
  let y2 := (y1 / 4 &&& 3689348814741910323) + (y1 &&& 3689348814741910323)
  let y3 := (y2 / 16 + y2) &&& 1085102592571150095
  let y4 := y3 + y3 / 256
  let y5 := y4 + y4 / 65536
  let y6 := y5 + y5 / 4294967296
  y6 &&& 127

/-! lists compared -/

end Go.Proofs.Tryd.Dn

/-
  Most observations of one taste: the program's search through all sets.
-/

namespace Go.Proofs.Tryd.Dn
open Go.Dn

end Go.Proofs.Tryd.Dn

/-
  Some of the observations: rings of them are rings of a set.
-/

namespace Go.Proofs.Tryd.Dn
open Go.Dn

def sub (X : List Obs) (l : List Nat) : List Obs := l.map fun i => X.getD i ([], [])

theorem sub_len (X : List Obs) (l : List Nat) : (sub X l).length = l.length := by simp [sub]
theorem sub_get {X : List Obs} {l : List Nat} {i : Nat} (hi : i < l.length) : (sub X l)[i]? = some (X.getD l[i] ([], [])) := by
  simp [sub, hi]

theorem getD_obs {X : List Obs} {i : Nat} (h : i < X.length) : X[i]? = some (X.getD i ([], [])) := by
  rw [List.getD, List.getElem?_eq_getElem h]; rfl

theorem sub_cost {X : List Obs} {l : List Nat} (hb : ∀ x ∈ l, x < X.length) {i k : Nat} (hi : i < l.length) (hk : k < l.length) : costOf (sub X l) i k = costOf X l[i] l[k] := by
  unfold costOf
  rw [sub_get hi, sub_get hk, getD_obs (hb _ (List.getElem_mem hi)), getD_obs (hb _ (List.getElem_mem hk))]

theorem sub_pref {X : List Obs} {l : List Nat} (hb : ∀ x ∈ l, x < X.length) {a b : Int} {i k : Nat} (hi : i < l.length) (hk : k < l.length) : pref (sub X l) a b i k = pref X a b l[i] l[k] := by
  unfold pref
  rw [sub_cost hb hi hk, sub_cost hb hi hi]

theorem sub_market {X : List Obs} {g : Nat} (hm : Market X g) {l : List Nat} (hn : l.Nodup) (hb : ∀ x ∈ l, x < X.length) (hne : l ≠ []) : Market (sub X l) g where
  n1 := by rw [sub_len]; cases l <;> simp_all
  n5 := by rw [sub_len]; have := nodup_len X.length l hn hb; have := hm.n5; omega
  g1 := hm.g1
  g3 := hm.g3
  ok x hx := by
    obtain ⟨i, hi, rfl⟩ := List.mem_map.1 hx
    have h := getD_obs (hb i hi)
    exact hm.ok _ (List.mem_of_getElem? h)

structure IsSet (X : List Obs) (l : List Nat) (s : Nat) : Prop where
  nodup : l.Nodup
  lt : ∀ x ∈ l, x < X.length
  bit : ∀ x, x < X.length → (s.testBit x = true ↔ x ∈ l)

theorem sub_edge {X : List Obs} {l : List Nat} {s : Nat} (h : IsSet X l s) {a b : Int} {i k : Nat} (hi : i < l.length) (hk : k < l.length) : wE (sub X l) (2 ^ (sub X l).length - 1) a b i k = wE X s a b l[i] l[k] := by
  have h1 := h.lt _ (List.getElem_mem hi)
  have h2 := h.lt _ (List.getElem_mem hk)
  have h3 := (h.bit _ h2).2 (List.getElem_mem hk)
  unfold wE
  rw [sub_pref h.lt hi hk, all_bits, sub_len]
  simp [hi, hk, h1, h2, h3]

theorem sub_rch {X : List Obs} {l : List Nat} {s : Nat} (h : IsSet X l s) {a b : Int} {i : Nat} (hi : i < l.length) {k : Nat} (hr : Rch (wE (sub X l) (2 ^ (sub X l).length - 1) a b) i k) : ∃ hk : k < l.length, Rch (wE X s a b) l[i] l[k] := by
  induction hr with
  | here => exact ⟨hi, .here⟩
  | @step x y hx he ih =>
    obtain ⟨hxl, hrx⟩ := ih
    have hy : y < l.length := by
      have := he
      simp only [wE, Bool.and_eq_true, decide_eq_true_eq, sub_len] at this
      exact this.1.1.2
    rw [sub_edge h hxl hy] at he
    exact ⟨hy, .step hrx he⟩

theorem rch_sub {X : List Obs} {l : List Nat} {s : Nat} (h : IsSet X l s) {a b : Int} {i : Nat} (hi : i < l.length) {z : Nat} (hr : Rch (wE X s a b) l[i] z) : ∃ k, ∃ hk : k < l.length, l[k] = z ∧ Rch (wE (sub X l) (2 ^ (sub X l).length - 1) a b) i k := by
  induction hr with
  | here => exact ⟨i, hi, rfl, .here⟩
  | @step x y hx he ih =>
    obtain ⟨k, hk, e, hrx⟩ := ih
    have hy : y < X.length ∧ s.testBit y = true := by
      have := he
      simp only [wE, Bool.and_eq_true, decide_eq_true_eq] at this
      exact ⟨this.1.1.2, this.1.2⟩
    obtain ⟨j, hj, ej⟩ := List.getElem_of_mem ((h.bit y hy.1).1 hy.2)
    refine ⟨j, hj, ej, .step hrx ?_⟩
    rw [sub_edge h hk hj, e, ej]
    exact he

theorem sub_ring {X : List Obs} {l : List Nat} {s : Nat} (h : IsSet X l s) {a b : Int} : (∃ i k, Pair (sub X l) (2 ^ (sub X l).length - 1) a b i k) ↔ ∃ i k, Pair X s a b i k := by
  constructor
  · rintro ⟨i, k, hne, hi, hk, _, _, hp, hr⟩
    rw [sub_len] at hi hk
    obtain ⟨_, hr'⟩ := sub_rch h hk hr
    have h1 := h.lt _ (List.getElem_mem hi)
    have h2 := h.lt _ (List.getElem_mem hk)
    refine ⟨l[i], l[k], ?_, h1, h2, (h.bit _ h1).2 (List.getElem_mem hi), (h.bit _ h2).2 (List.getElem_mem hk), ?_, hr'⟩
    · intro he; exact hne ((List.getElem_inj h.nodup).1 he)
    · rw [← sub_pref h.lt hi hk]; exact hp
  · rintro ⟨x, y, hne, hx, hy, bx, bby, hp, hr⟩
    obtain ⟨i, hi, rfl⟩ := List.getElem_of_mem ((h.bit x hx).1 bx)
    obtain ⟨k, hk, rfl⟩ := List.getElem_of_mem ((h.bit y hy).1 bby)
    obtain ⟨j, hj, ej, hr'⟩ := rch_sub h hk hr
    have : j = i := (List.getElem_inj h.nodup).1 ej
    subst this
    refine ⟨j, k, fun he => hne (by subst he; rfl), by rw [sub_len]; exact hi, by rw [sub_len]; exact hk, ?_, ?_, ?_, hr'⟩
    · rw [all_bits, sub_len]; simpa using hi
    · rw [all_bits, sub_len]; simpa using hk
    · rw [sub_pref h.lt hi hk]; exact hp

end Go.Proofs.Tryd.Dn

/-
  Most observations of one taste: the reference's.
-/

namespace Go.Proofs.Tryd.Dn
open Go.Dn

end Go.Proofs.Tryd.Dn

