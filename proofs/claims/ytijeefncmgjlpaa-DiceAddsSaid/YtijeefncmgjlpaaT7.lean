/-
  Sums of two rows of dice together: the law of it.
-/
import Derived.Test.YtijeefncmgjlpaaT3
set_option linter.unusedSimpArgs false
set_option linter.unusedVariables false

set_option maxHeartbeats 1000000
namespace Go.Proofs.Try.Dn
open Go.Dn

def resF (R : List Int) (d : List Int) : List Int := d.flatMap fun f => R.map (· + f)
def resL (ls : List (List Int)) : List Int := ls.foldl resF [0]

theorem sum_swp {α β : Type} (g : α → β → Nat) (l : List α) : ∀ (m : List β), (m.map fun b => (l.map fun a => g a b).sum).sum = (l.map fun a => (m.map fun b => g a b).sum).sum
  | [] => by
    induction l with
    | nil => rfl
    | cons a l ih => simp only [List.map_cons, List.sum_cons, List.map_nil, List.sum_nil] at ih ⊢; omega
  | b :: m => by
    have ih := sum_swp g l m
    simp only [List.map_cons, List.sum_cons]
    rw [ih]
    clear ih
    induction l with
    | nil => rfl
    | cons a l ih => simp only [List.map_cons, List.sum_cons] at ih ⊢; omega

theorem sum_flat {α β : Type} (g : β → Nat) (h : α → List β) : ∀ (l : List α), ((l.flatMap h).map g).sum = (l.map fun a => ((h a).map g).sum).sum
  | [] => rfl
  | a :: l => by
    rw [List.flatMap_cons, List.map_append, List.sum_append, List.map_cons, List.sum_cons, sum_flat g h l]

theorem foldl_res (W : Int → Nat) (k : Int) : ∀ (n : Nat) (ys : List (List Int)), ys.length = n → ∀ k, ys.foldl wnF W k = ((resL ys).map fun s => W (k - s)).sum
  | 0, ys, hn, k => by
    obtain rfl : ys = [] := List.eq_nil_of_length_eq_zero hn
    simp [resL]
  | n + 1, ys, hn, k => by
    have hne : ys ≠ [] := by intro e; rw [e] at hn; simp at hn
    obtain ⟨zs, d, rfl⟩ : ∃ zs d, ys = zs ++ [d] := ⟨ys.dropLast, ys.getLast hne, (List.dropLast_concat_getLast hne).symm⟩
    have ih := foldl_res W k n zs (by simpa using hn)
    unfold resL
    rw [List.foldl_append, List.foldl_append]
    show wnF (zs.foldl wnF W) d k = ((resF (zs.foldl resF [0]) d).map fun s => W (k - s)).sum
    unfold wnF resF
    rw [sum_flat]
    congr 1
    apply List.map_congr_left
    intro f _
    have := ih (k - f)
    unfold wnF at this
    rw [this, List.map_map]
    show ((zs.foldl resF [0]).map _).sum = _
    congr 1
    apply List.map_congr_left
    intro s _
    show W (k - f - s) = W (k - (s + f))
    congr 1; omega

theorem wn_res (ys : List (List Int)) (k : Int) : wn ys k = (resL ys).count k := by
  unfold wn
  rw [foldl_res wn0 k _ ys rfl]
  generalize resL ys = R
  induction R with
  | nil => rfl
  | cons s R ih =>
    rw [List.map_cons, List.sum_cons, ih, List.count_cons]
    unfold wn0
    by_cases h : s = k
    · rw [if_pos (by omega), if_pos (by simpa using h)]; omega
    · rw [if_neg (by omega), if_neg (by simpa using h)]; omega

theorem sum_single (g : Nat → Nat) (k : Int) : ∀ N : Nat, 0 ≤ k → k < N → ((List.range N).map fun t : Nat => if (t : Int) = k then g t else 0).sum = g k.toNat
  | 0, _, h => by omega
  | N + 1, h0, h => by
    rw [List.range_succ, List.map_append, List.sum_append]
    simp only [List.map_cons, List.map_nil, List.sum_cons, List.sum_nil, Nat.add_zero]
    by_cases hk : (N : Int) = k
    · rw [if_pos hk, sum_zero _ _ fun t ht => if_neg (by have := List.mem_range.1 ht; omega)]
      rw [show k.toNat = N by omega]; omega
    · rw [if_neg hk, sum_single g k N h0 (by omega)]; rfl

theorem sum_none (g : Nat → Nat) (k : Int) (N : Nat) (h : ¬ (0 ≤ k ∧ k < N)) : ((List.range N).map fun t : Nat => if (t : Int) = k then g t else 0).sum = 0 :=
  sum_zero _ _ fun t ht => if_neg (by have := List.mem_range.1 ht; omega)

theorem sum_count (g : Nat → Nat) (N : Nat) : ∀ R : List Int, (∀ s ∈ R, 0 ≤ s ∧ s < N) → ((List.range N).map fun t : Nat => R.count (t : Int) * g t).sum = (R.map fun s => g s.toNat).sum
  | [], _ => sum_zero _ _ fun t _ => by simp
  | s :: R, h => by
    rw [List.map_cons, List.sum_cons, ← sum_count g N R fun x hx => h x (List.mem_cons_of_mem _ hx), ← sum_single g s N (h s (List.mem_cons_self ..)).1 (h s (List.mem_cons_self ..)).2, ← sum_add]
    congr 1
    apply List.map_congr_left
    intro t _
    rw [List.count_cons]
    by_cases ht : (t : Int) = s
    · rw [if_pos ht, if_pos (by simpa using ht.symm)]
      show (R.count (t : Int) + 1) * g t = g t + R.count (t : Int) * g t
      rw [Nat.add_mul]; omega
    · rw [if_neg ht, if_neg (by simpa using fun e => ht e.symm)]
      show _ = 0 + _
      rw [Nat.add_zero, Nat.zero_add]

theorem sum_sumsN (ls : List (List Int)) (F : Int × Int → Nat) (hF : ∀ t, F (t, 0) = 0) : ∀ N, ((sumsN ls N).map F).sum = ((List.range N).map fun t : Nat => F ((t : Int), ((wn ls (t : Int) : Nat) : Int))).sum
  | 0 => rfl
  | N + 1 => by
    have e : sumsN ls (N + 1) = sumsN ls N ++ (if wn ls (N : Int) = 0 then [] else [((N : Int), ((wn ls (N : Int) : Nat) : Int))]) := by
      unfold sumsN
      rw [List.range_succ, List.filterMap_append]
      congr 1
      split <;> simp [*]
    rw [e, List.range_succ, List.map_append, List.map_append, List.sum_append, List.sum_append, sum_sumsN ls F hF N]
    congr 1
    by_cases h0 : wn ls (N : Int) = 0
    · rw [if_pos h0]; simp [hF, h0]
    · rw [if_neg h0]; simp

theorem conv_wn {xs ys : List (List Int)} (hx : xs.length ≤ 6) (hy : ys.length ≤ 6) (hX : ∀ d ∈ xs, DieL 60 d) (hY : ∀ d ∈ ys, DieL 60 d) (k : Int) :
    ((sumsL xs).map fun p => ((sumsL ys).map fun q => if p.1 + q.1 = k then p.2.toNat * q.2.toNat else 0).sum).sum = wn (xs ++ ys) k := by
  have hR : ∀ s ∈ resL ys, 0 ≤ s ∧ s < ((361 : Nat) : Int) := fun s hs => by
    have h1 : wn ys s ≠ 0 := by rw [wn_res]; have := List.count_pos_iff.2 hs; omega
    have := wn_range hY h1
    omega
  have h1 : wn (xs ++ ys) k = ((resL ys).map fun s => wn xs (k - s)).sum := by
    rw [← foldl_res (wn xs) k _ ys rfl]; unfold wn; rw [List.foldl_append]
  have h2 : ((resL ys).map fun s => wn xs (k - s)).sum = ((List.range 361).map fun t : Nat => wn ys (t : Int) * wn xs (k - (t : Int))).sum := by
    have := sum_count (fun t => wn xs (k - (t : Int))) 361 (resL ys) hR
    simp only [← wn_res] at this
    rw [this]
    refine congrArg List.sum (List.map_congr_left fun s hs => ?_)
    rw [show ((s.toNat : Nat) : Int) = s by have := hR s hs; omega]
  rw [h1, h2, ← sum_swp]
  unfold sumsL
  rw [sum_sumsN ys _ fun t => sum_zero _ _ fun p _ => by simp]
  refine congrArg List.sum (List.map_congr_left fun t ht => ?_)
  rw [sum_sumsN xs (fun p => if p.1 + (t : Int) = k then p.2.toNat * ((wn ys (t : Int) : Nat) : Int).toNat else 0) fun u => by simp]
  simp only [Int.toNat_natCast]
  have e : ∀ u : Nat, (if (u : Int) + (t : Int) = k then wn xs (u : Int) * wn ys (t : Int) else 0) = if (u : Int) = k - (t : Int) then wn ys (t : Int) * wn xs (k - (t : Int)) else 0 := fun u => by
    by_cases h : (u : Int) = k - (t : Int)
    · rw [if_pos h, if_pos (by omega), h, Nat.mul_comm]
    · rw [if_neg h, if_neg (by omega)]
  simp only [e]
  by_cases h : 0 ≤ k - (t : Int) ∧ k - (t : Int) < ((361 : Nat) : Int)
  · rw [sum_single (fun _ => wn ys (t : Int) * wn xs (k - (t : Int))) _ 361 h.1 h.2]
  · rw [sum_none (fun _ => wn ys (t : Int) * wn xs (k - (t : Int))) _ 361 h]
    by_cases h0 : wn xs (k - (t : Int)) = 0
    · rw [h0]; rfl
    · have := wn_range hX h0
      omega

end Go.Proofs.Try.Dn

