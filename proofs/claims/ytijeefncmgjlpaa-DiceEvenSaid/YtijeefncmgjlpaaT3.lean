/-
  The sums of dice: all of them, in order.
-/
import Derived.Test.YtijeefncmgjlpaaT1
import Derived.Test.YtijeefncmgjlpaaEl
import Derived.Test.YtijeefncmgjlpaaK3
set_option linter.unusedSimpArgs false
set_option linter.unusedVariables false

set_option maxHeartbeats 1000000
namespace Go.Proofs.Try.Dn
open Go.Dn

end Go.Proofs.Try.Dn

/-
  The reference's ways of all sums.
-/

set_option maxHeartbeats 1000000
namespace Go.Proofs.Try.Dn
open Go.Dn

def gC (G : Nat → Nat) (M : Nat) : List TV := (List.range M).map fun t => .i .i64 ((G t : Nat) : Int)
def gL (G : Nat → Nat) (M : Nat) : List Int := (List.range M).map fun t => ((G t : Nat) : Int)

theorem gC_len (G : Nat → Nat) (M : Nat) : (gC G M).length = M := by simp [gC]
theorem gC_at {G : Nat → Nat} {M t : Nat} (h : t < M) : (gC G M)[t]? = some (.i .i64 ((G t : Nat) : Int)) := by
  unfold gC; rw [List.getElem?_map, List.getElem?_range h]; rfl
theorem gC_put {G : Nat → Nat} {M t : Nat} (h : t < M) (v : Nat) : put2 (gC G M) t [.i .i64 ((v : Nat) : Int)] = gC (fun u => if u = t then v else G u) M := by
  apply List.ext_getElem?
  intro i
  unfold put2
  have hl := gC_len G M
  by_cases hi : i < M
  · rw [gC_at hi]
    rcases Nat.lt_trichotomy i t with h1 | rfl | h1
    · rw [List.append_assoc, List.getElem?_append_left (by simp; omega), List.getElem?_take, if_pos h1, gC_at hi, if_neg (by omega)]
    · rw [List.append_assoc, List.getElem?_append_right (by simp; omega)]
      simp; rw [show min i (gC G M).length = i by omega]; simp
    · rw [List.getElem?_append_right (by simp; omega)]
      simp only [List.length_append, List.length_take, List.length_singleton, List.getElem?_drop]
      rw [show t + 1 + (i - (min t (gC G M).length + 1)) = i by omega, gC_at hi, if_neg (by omega)]
  · rw [List.getElem?_eq_none (by simp; omega), List.getElem?_eq_none (by rw [gC_len]; omega)]

def fS (W : Int → Nat) (d : List Int) (s k : Nat) (t : Nat) : Nat := (d.map fun f => if (t : Int) - f < (s : Int) then W ((t : Int) - f) else 0).sum + ((d.take k).map fun f => if (t : Int) - f = (s : Int) then W ((t : Int) - f) else 0).sum

theorem fS_zero {W : Int → Nat} (hW : ∀ j, j < 0 → W j = 0) (d : List Int) (t : Nat) : fS W d 0 0 t = 0 := by
  unfold fS
  rw [List.take_zero, sum_zero _ d fun f _ => by
    split
    · rename_i h; exact hW _ (by simpa using h)
    · rfl]
  rfl

theorem fS_next (W : Int → Nat) (d : List Int) (s t : Nat) : fS W d s d.length t = fS W d (s + 1) 0 t := by
  unfold fS
  rw [List.take_length, List.take_zero, ← sum_add]
  simp only [List.map_nil, List.sum_nil, Nat.add_zero]
  congr 1
  apply List.map_congr_left
  intro f _
  by_cases h1 : (t : Int) - f < (s : Int)
  · rw [if_pos h1, if_neg (by omega), if_pos (by omega)]; rfl
  · rw [if_neg h1]
    by_cases h2 : (t : Int) - f = (s : Int)
    · rw [if_pos h2, if_pos (by omega)]; omega
    · rw [if_neg h2, if_neg (by omega)]

theorem fS_step {W : Int → Nat} {d : List Int} {s k : Nat} {f : Int} (hf : d[k]? = some f) (t : Nat) : fS W d s (k + 1) t = fS W d s k t + if (t : Int) = (s : Int) + f then W (s : Int) else 0 := by
  unfold fS
  rw [List.take_add_one, hf, Option.toList_some, List.map_append, List.sum_append]
  simp only [List.map_cons, List.map_nil, List.sum_cons, List.sum_nil, Nat.add_zero]
  rw [Nat.add_assoc]
  congr 2
  by_cases h : (t : Int) = (s : Int) + f
  · rw [if_pos (by omega), if_pos h, show (t : Int) - f = (s : Int) by omega]
  · rw [if_neg (by omega), if_neg h]

theorem fS_full {W : Int → Nat} {M : Nat} (hW : ∀ j, (M : Int) ≤ j → W j = 0) (d : List Int) (t : Nat) : fS W d M 0 t = wnF W d (t : Int) := by
  unfold fS wnF
  rw [List.take_zero]
  simp only [List.map_nil, List.sum_nil, Nat.add_zero]
  congr 1
  apply List.map_congr_left
  intro f _
  split
  · rfl
  · exact (hW _ (by omega)).symm

theorem sum_mono {α : Type} {f g : α → Nat} : ∀ {l : List α}, (∀ x ∈ l, f x ≤ g x) → (l.map f).sum ≤ (l.map g).sum
  | [], _ => Nat.le_refl _
  | x :: l, h => by
    simp only [List.map_cons, List.sum_cons]
    exact Nat.add_le_add (h x (List.mem_cons_self ..)) (sum_mono fun y hy => h y (List.mem_cons_of_mem _ hy))

theorem sum_take {α : Type} (f : α → Nat) (l : List α) (k : Nat) : ((l.take k).map f).sum ≤ (l.map f).sum := by
  conv => rhs; rw [← List.take_append_drop k l, List.map_append, List.sum_append]
  omega

theorem fS_le (W : Int → Nat) (d : List Int) (s k t : Nat) : fS W d s k t ≤ wnF W d (t : Int) := by
  have h1 : fS W d s k t ≤ fS W d s d.length t := by
    unfold fS
    rw [List.take_length]
    exact Nat.add_le_add_left (sum_take _ _ _) _
  refine Nat.le_trans h1 ?_
  rw [fS_next]
  unfold fS wnF
  rw [List.take_zero]
  simp only [List.map_nil, List.sum_nil, Nat.add_zero]
  refine sum_mono fun f _ => ?_
  split
  · exact Nat.le_refl _
  · exact Nat.zero_le _

theorem sum_bound {α : Type} {f : α → Nat} {B : Nat} : ∀ {l : List α}, (∀ x ∈ l, f x ≤ B) → (l.map f).sum ≤ B * l.length
  | [], _ => by simp
  | x :: l, h => by
    simp only [List.map_cons, List.sum_cons, List.length_cons]
    have h1 := h x (List.mem_cons_self ..)
    have h2 := sum_bound (l := l) fun y hy => h y (List.mem_cons_of_mem _ hy)
    rw [Nat.mul_add]; omega

theorem wn_le (ls : List (List Int)) : ∀ i, i ≤ ls.length → ∀ j, wn (ls.take i) j ≤ lenP (ls.take i) := by
  intro i
  induction i with
  | zero =>
    intro _ j
    rw [List.take_zero]
    show wn0 j ≤ 1
    unfold wn0; split <;> omega
  | succ i ih =>
    intro hi j
    have e : ls.take (i + 1) = ls.take i ++ [ls[i]] := by rw [List.take_add_one, List.getElem?_eq_getElem (by omega)]; rfl
    rw [e, wn_snoc, lenP_snoc]
    exact sum_bound fun f _ => ih (by omega) _

theorem wn_small {ls : List (List Int)} (hl : ls.length ≤ 6) (h8 : ∀ d ∈ ls, d.length ≤ 8) (i : Nat) (hi : i ≤ ls.length) (j : Int) : wn (ls.take i) j ≤ 262144 :=
  Nat.le_trans (wn_le ls i hi j) (lenP_le (fun d hd => h8 d (List.mem_of_mem_take hd)) (by rw [List.length_take]; omega))

structure RowG (H : Heap) (id M : Nat) (G : Nat → Nat) : Prop where
  at_ : H[id]? = some (.cells (gC G M) false)

theorem RowG.ix {pg : Pg} (H : Heap) (id : Nat) {M t : Nat} (ht : t < M) : dkc pg (den pg) (.ixS 1 false) [.sl id 0 1 false M (some M), .i .i64 (t : Int)] H = some (.ref id t, H) := by
  simp [dkc, dk, bound, ht]
theorem RowG.ld {H : Heap} {id M t : Nat} {G : Nat → Nat} (h : RowG H id M G) (ht : t < M) : ldC H[id]? 1 false t H = some (.i .i64 ((G t : Nat) : Int), H) := by
  rw [h.at_]; simp [ldC, Dn.part, gC_at ht, up]; rfl
theorem RowG.st {pg : Pg} {H : Heap} {id M t : Nat} {G : Nat → Nat} (h : RowG H id M G) (ht : t < M) (v : Nat) : ∃ H', dkc pg (den pg) (.st 1) [.ref id t, .i .i64 ((v : Nat) : Int)] H = some (.undef, H') ∧ RowG H' id M (fun u => if u = t then v else G u) ∧ (∀ j, j ≠ id → H'[j]? = H[j]?) ∧ H'.length = H.length := by
  have hlt := (List.getElem?_eq_some_iff.1 h.at_).1
  refine ⟨H.set id (.cells (gC (fun u => if u = t then v else G u) M) false), ?_, ⟨by simp [hlt]⟩, fun j hj => List.getElem?_set_ne (Ne.symm hj), by simp⟩
  show dk (.st 1) [.ref id t, .i .i64 ((v : Nat) : Int)] H = _
  simp only [dk, h.at_, TV.cells, List.length_singleton]
  rw [if_pos ⟨trivial, rfl, by rw [gC_len]; omega⟩, gC_put ht]

end Go.Proofs.Try.Dn

