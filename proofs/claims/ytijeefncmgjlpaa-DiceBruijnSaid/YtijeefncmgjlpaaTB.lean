/-
  The search of the reference and that of the program visit the same pairs.
-/
import Derived.Test.YtijeefncmgjlpaaEl
import Derived.Test.YtijeefncmgjlpaaEm
import Derived.Test.YtijeefncmgjlpaaT6
set_option linter.unusedSimpArgs false
set_option linter.unusedVariables false

set_option maxHeartbeats 1000000
namespace Go.Proofs.Try.Dn
open Go.Dn

def cntF (s : Int) (l : List Int) (j : Int) : Nat := l.countP fun f => decide (s + f = j)

theorem cntF_cons (s f : Int) (l : List Int) (j : Int) : cntF s (f :: l) j = cntF s l j + if s + f = j then 1 else 0 := by
  unfold cntF; rw [List.countP_cons]; simp

theorem subM_getD (g : Int → Option Nat) (k j : Int) : (subM g k j).getD 0 = (g j).getD 0 - if k = j then 1 else 0 := by
  unfold subM updM
  by_cases h : j = k
  · rw [if_pos h, if_pos h.symm, h]; rfl
  · rw [if_neg h, if_neg (fun e => h e.symm)]; rfl

theorem takes_cnt (s : Int) : ∀ (l : List Int) (g : Int → Option Nat), match takes g s l with
    | some g' => ∀ j, (g j).getD 0 = (g' j).getD 0 + cntF s l j
    | none => ∃ j, (g j).getD 0 < cntF s l j
  | [], g => fun j => rfl
  | f :: l, g => by
    unfold takes
    by_cases h0 : (g (s + f)).getD 0 = 0
    · rw [if_pos h0]
      refine ⟨s + f, ?_⟩
      rw [h0, cntF_cons, if_pos rfl]; omega
    · rw [if_neg h0]
      have ih := takes_cnt s l (subM g (s + f))
      revert ih
      cases takes (subM g (s + f)) s l with
      | none =>
        rintro ⟨j, hj⟩
        refine ⟨j, ?_⟩
        rw [subM_getD] at hj
        rw [cntF_cons]
        split at hj
        · rename_i e; rw [if_pos e]; rw [← e] at hj ⊢; omega
        · rename_i e; rw [if_neg e]; omega
      | some g' =>
        intro ih j
        have := ih j
        rw [subM_getD] at this
        rw [cntF_cons]
        split at this
        · rename_i e; rw [if_pos e]; rw [← e] at this ⊢; omega
        · rename_i e; rw [if_neg e]; omega

theorem wnF_add (A B : Int → Nat) (d : List Int) (j : Int) : wnF (fun i => A i + B i) d j = wnF A d j + wnF B d j := by
  unfold wnF
  exact (sum_add (fun f => A (j - f)) (fun f => B (j - f)) d)

theorem wn_two (a b : List Int) (j : Int) : wn [a, b] j = wnF (wnF wn0 a) b j := rfl

theorem wnF0_cnt (x : Int) (l : List Int) (j : Int) : (l.map fun f => wn0 (j - f - x)).sum = cntF x l j := by
  induction l with
  | nil => rfl
  | cons f l ih =>
    rw [List.map_cons, List.sum_cons, ih, cntF_cons]
    unfold wn0
    by_cases h : x + f = j
    · rw [if_pos (by omega), if_pos h]; omega
    · rw [if_neg (by omega), if_neg h]; omega

theorem wn_pushA (a b : List Int) (x j : Int) : wn [a ++ [x], b] j = wn [a, b] j + cntF x b j := by
  rw [wn_two, wn_two]
  have e : wnF wn0 (a ++ [x]) = fun i => wnF wn0 a i + wn0 (i - x) := by
    funext i
    unfold wnF
    rw [List.map_append, List.sum_append]; simp
  rw [e, wnF_add, ← wnF0_cnt]
  rfl

theorem wn_pushB (a b : List Int) (x j : Int) : wn [a, b ++ [x]] j = wn [a, b] j + cntF x a j := by
  rw [wn_two, wn_two, ← wnF0_cnt]
  conv => lhs; unfold wnF
  rw [List.map_append, List.sum_append]
  simp only [List.map_cons, List.map_nil, List.sum_cons, List.sum_nil, Nat.add_zero]
  congr 1
  show wnF wn0 a (j - x) = _
  unfold wnF
  refine congrArg List.sum (List.map_congr_left fun f _ => ?_)
  rw [show j - x - f = j - f - x by omega]

def wtI (G : Nat → Nat) (M : Nat) (j : Int) : Nat := if 0 ≤ j ∧ j < (M : Int) then G j.toNat else 0
def Valid (G : Nat → Nat) (M : Nat) (a b : List Int) : Prop := ∀ j, wn [a, b] j ≤ wtI G M j
def Lf (G : Nat → Nat) (M : Nat) (a b : List Int) (g : Int → Option Nat) : Prop := ∀ j, (g j).getD 0 + wn [a, b] j = wtI G M j

theorem Lf.takeA {G : Nat → Nat} {M : Nat} {a b : List Int} {g : Int → Option Nat} (h : Lf G M a b g) (x : Int) : match takes g x b with
    | some g' => Lf G M (a ++ [x]) b g'
    | none => ¬ Valid G M (a ++ [x]) b := by
  have := takes_cnt x b g
  revert this
  cases takes g x b with
  | none =>
    rintro ⟨j, hj⟩ hv
    have h1 := h j
    have h2 := hv j
    rw [wn_pushA] at h2
    omega
  | some g' =>
    intro hg j
    have h1 := h j
    have h2 := hg j
    rw [wn_pushA]
    omega

theorem Lf.takeB {G : Nat → Nat} {M : Nat} {a b : List Int} {g : Int → Option Nat} (h : Lf G M a b g) (x : Int) : match takes g x a with
    | some g' => Lf G M a (b ++ [x]) g'
    | none => ¬ Valid G M a (b ++ [x]) := by
  have := takes_cnt x a g
  revert this
  cases takes g x a with
  | none =>
    rintro ⟨j, hj⟩ hv
    have h1 := h j
    have h2 := hv j
    rw [wn_pushB] at h2
    omega
  | some g' =>
    intro hg j
    have h1 := h j
    have h2 := hg j
    rw [wn_pushB]
    omega

/-! the reference looks through the sums -/
theorem putP_len : ∀ (l : List PL) (x : PL), (putP l x).length ≤ l.length + 1
  | [], x => by simp [putP]
  | y :: l, x => by
    rw [putP]
    split
    · have := putP_len l x; simp only [List.length_cons]; omega
    · split <;> simp

theorem foldP_len : ∀ (l o : List PL), (l.foldl putP o).length ≤ o.length + l.length
  | [], o => by simp
  | x :: l, o => by
    have h1 := foldP_len l (putP o x)
    have h2 := putP_len o x
    rw [List.foldl_cons, List.length_cons]; omega

end Go.Proofs.Try.Dn

