/-
  The search of the reference and that of the program visit the same pairs.
-/
import Derived.Test.YtijeefncmgjlpaaEl
import Derived.Test.YtijeefncmgjlpaaEm
import Derived.Test.YtijeefncmgjlpaaT6
set_option linter.unusedSimpArgs false
set_option linter.unusedVariables false

set_option maxHeartbeats 1000000
namespace Go.Proofs.Try.Dn
open Go.Dn

def cntF (s : Int) (l : List Int) (j : Int) : Nat := l.countP fun f => decide (s + f = j)

theorem cntF_cons (s f : Int) (l : List Int) (j : Int) : cntF s (f :: l) j = cntF s l j + if s + f = j then 1 else 0 := by
  unfold cntF; rw [List.countP_cons]; simp

theorem subM_getD (g : Int → Option Nat) (k j : Int) : (subM g k j).getD 0 = (g j).getD 0 - if k = j then 1 else 0 := by
  unfold subM updM
  by_cases h : j = k
  · rw [if_pos h, if_pos h.symm, h]; rfl
  · rw [if_neg h, if_neg (fun e => h e.symm)]; rfl

theorem takes_cnt (s : Int) : ∀ (l : List Int) (g : Int → Option Nat), match takes g s l with
    | some g' => ∀ j, (g j).getD 0 = (g' j).getD 0 + cntF s l j
    | none => ∃ j, (g j).getD 0 < cntF s l j
  | [], g => fun j => rfl
  | f :: l, g => by
    unfold takes
    by_cases h0 : (g (s + f)).getD 0 = 0
    · rw [if_pos h0]
      refine ⟨s + f, ?_⟩
      rw [h0, cntF_cons, if_pos rfl]; omega
    · rw [if_neg h0]
      have ih := takes_cnt s l (subM g (s + f))
      revert ih
      cases takes (subM g (s + f)) s l with
      | none =>
        rintro ⟨j, hj⟩
        refine ⟨j, ?_⟩
        rw [subM_getD] at hj
        rw [cntF_cons]
        split at hj
        · rename_i e; rw [if_pos e]; rw [← e] at hj ⊢; omega
        · rename_i e; rw [if_neg e]; omega
      | some g' =>
        intro ih j
        have := ih j
        rw [subM_getD] at this
        rw [cntF_cons]
        split at this
        · rename_i e; rw [if_pos e]; rw [← e] at this ⊢; omega
        · rename_i e; rw [if_neg e]; omega

theorem wnF_add (A B : Int → Nat) (d : List Int) (j : Int) : wnF (fun i => A i + B i) d j = wnF A d j + wnF B d j := by
  unfold wnF
  exact (sum_add (fun f => A (j - f)) (fun f => B (j - f)) d)

theorem wn_two (a b : List Int) (j : Int) : wn [a, b] j = wnF (wnF wn0 a) b j := rfl

theorem wnF0_cnt (x : Int) (l : List Int) (j : Int) : (l.map fun f => wn0 (j - f - x)).sum = cntF x l j := by
  induction l with
  | nil => rfl
  | cons f l ih =>
    rw [List.map_cons, List.sum_cons, ih, cntF_cons]
    unfold wn0
    by_cases h : x + f = j
    · rw [if_pos (by omega), if_pos h]; omega
    · rw [if_neg (by omega), if_neg h]; omega

theorem wn_pushA (a b : List Int) (x j : Int) : wn [a ++ [x], b] j = wn [a, b] j + cntF x b j := by
  rw [wn_two, wn_two]
  have e : wnF wn0 (a ++ [x]) = fun i => wnF wn0 a i + wn0 (i - x) := by
    funext i
    unfold wnF
    rw [List.map_append, List.sum_append]; simp
  rw [e, wnF_add, ← wnF0_cnt]
  rfl

theorem wn_pushB (a b : List Int) (x j : Int) : wn [a, b ++ [x]] j = wn [a, b] j + cntF x a j := by
  rw [wn_two, wn_two, ← wnF0_cnt]
  conv => lhs; unfold wnF
  rw [List.map_append, List.sum_append]
  simp only [List.map_cons, List.map_nil, List.sum_cons, List.sum_nil, Nat.add_zero]
  congr 1
  show wnF wn0 a (j - x) = _
  unfold wnF
  refine congrArg List.sum (List.map_congr_left fun f _ => ?_)
  rw [show j - x - f = j - f - x by omega]

def wtI (G : Nat → Nat) (M : Nat) (j : Int) : Nat := if 0 ≤ j ∧ j < (M : Int) then G j.toNat else 0
def Valid (G : Nat → Nat) (M : Nat) (a b : List Int) : Prop := ∀ j, wn [a, b] j ≤ wtI G M j
def Lf (G : Nat → Nat) (M : Nat) (a b : List Int) (g : Int → Option Nat) : Prop := ∀ j, (g j).getD 0 + wn [a, b] j = wtI G M j

theorem Lf.valid {G : Nat → Nat} {M : Nat} {a b : List Int} {g : Int → Option Nat} (h : Lf G M a b g) : Valid G M a b := fun j => by have := h j; omega

theorem Lf.takeA {G : Nat → Nat} {M : Nat} {a b : List Int} {g : Int → Option Nat} (h : Lf G M a b g) (x : Int) : match takes g x b with
    | some g' => Lf G M (a ++ [x]) b g'
    | none => ¬ Valid G M (a ++ [x]) b := by
  have := takes_cnt x b g
  revert this
  cases takes g x b with
  | none =>
    rintro ⟨j, hj⟩ hv
    have h1 := h j
    have h2 := hv j
    rw [wn_pushA] at h2
    omega
  | some g' =>
    intro hg j
    have h1 := h j
    have h2 := hg j
    rw [wn_pushA]
    omega

theorem Lf.takeB {G : Nat → Nat} {M : Nat} {a b : List Int} {g : Int → Option Nat} (h : Lf G M a b g) (x : Int) : match takes g x a with
    | some g' => Lf G M a (b ++ [x]) g'
    | none => ¬ Valid G M a (b ++ [x]) := by
  have := takes_cnt x a g
  revert this
  cases takes g x a with
  | none =>
    rintro ⟨j, hj⟩ hv
    have h1 := h j
    have h2 := hv j
    rw [wn_pushB] at h2
    omega
  | some g' =>
    intro hg j
    have h1 := h j
    have h2 := hg j
    rw [wn_pushB]
    omega

/-! the reference looks through the sums -/
def scanW (hv wt : Nat → Nat) : Nat → Nat → Int → Option Int
  | 0, _, z => some z
  | r + 1, s, z => if wt s < hv s then none else scanW hv wt r (s + 1) (if hv s < wt s ∧ z < 0 then (s : Int) else z)

theorem scanW_spec {hv wt : Nat → Nat} : ∀ (r s : Nat) (z : Int), match scanW hv wt r s z with
    | none => ∃ t, s ≤ t ∧ t < s + r ∧ wt t < hv t
    | some y => (∀ t, s ≤ t → t < s + r → hv t ≤ wt t) ∧ ((0 ≤ z ∧ y = z) ∨ (z < 0 ∧ ((y = z ∧ ∀ t, s ≤ t → t < s + r → hv t = wt t) ∨ ∃ t : Nat, y = (t : Int) ∧ s ≤ t ∧ t < s + r ∧ hv t < wt t ∧ ∀ u, s ≤ u → u < t → hv u = wt u)))
  | 0, s, z => by
    refine ⟨fun t h1 h2 => by omega, ?_⟩
    by_cases hz : 0 ≤ z
    · exact .inl ⟨hz, rfl⟩
    · exact .inr ⟨by omega, .inl ⟨rfl, fun t h1 h2 => by omega⟩⟩
  | r + 1, s, z => by
    unfold scanW
    by_cases h0 : wt s < hv s
    · rw [if_pos h0]
      exact ⟨s, Nat.le_refl _, by omega, h0⟩
    · rw [if_neg h0]
      have ih := scanW_spec (hv := hv) (wt := wt) r (s + 1) (if hv s < wt s ∧ z < 0 then (s : Int) else z)
      revert ih
      cases scanW hv wt r (s + 1) (if hv s < wt s ∧ z < 0 then (s : Int) else z) with
      | none =>
        rintro ⟨t, h1, h2, h3⟩
        exact ⟨t, by omega, by omega, h3⟩
      | some y =>
        rintro ⟨h1, h2⟩
        refine ⟨fun t h3 h4 => ?_, ?_⟩
        · by_cases h5 : t = s
          · subst h5; omega
          · exact h1 t (by omega) (by omega)
        · by_cases h3 : hv s < wt s ∧ z < 0
          · rw [if_pos h3] at h2
            rcases h2 with ⟨_, h2⟩ | ⟨h2, _⟩
            · exact .inr ⟨h3.2, .inr ⟨s, h2, Nat.le_refl _, by omega, h3.1, fun u h4 h5 => by omega⟩⟩
            · omega
          · rw [if_neg h3] at h2
            rcases h2 with h2 | ⟨h2, h4⟩
            · exact .inl h2
            · have h5 : hv s = wt s := by omega
              refine .inr ⟨h2, ?_⟩
              rcases h4 with ⟨h4, h6⟩ | ⟨t, h4, h6, h7, h8, h9⟩
              · refine .inl ⟨h4, fun t h7 h8 => ?_⟩
                by_cases h9 : t = s
                · subst h9; exact h5
                · exact h6 t (by omega) (by omega)
              · refine .inr ⟨t, h4, by omega, by omega, h8, fun u h10 h11 => ?_⟩
                by_cases h12 : u = s
                · subst h12; exact h5
                · exact h9 u (by omega) h11

theorem scan_grow {G : Nat → Nat} {M : Nat} {a b : List Int} {L : Nat} (hM : M ≤ L) (hw : ∀ j, wn [a, b] j ≠ 0 → 0 ≤ j ∧ j < (L : Int)) : match scanW (fun t => wn [a, b] (t : Int)) (fun t => wtI G M (t : Int)) L 0 (-1) with
    | none => ¬ Valid G M a b
    | some y => Valid G M a b ∧ ∀ g, Lf G M a b g → leastF g = if y < 0 then none else some y := by
  have hs := scanW_spec (hv := fun t => wn [a, b] (t : Int)) (wt := fun t => wtI G M (t : Int)) L 0 (-1)
  revert hs
  cases scanW (fun t => wn [a, b] (t : Int)) (fun t => wtI G M (t : Int)) L 0 (-1) with
  | none =>
    rintro ⟨t, h1, h2, h3⟩ hv
    have := hv (t : Int)
    omega
  | some y =>
    rintro ⟨h1, h2⟩
    have hz : ∀ j, ¬ (0 ≤ j ∧ j < (L : Int)) → wn [a, b] j = 0 ∧ wtI G M j = 0 := fun j hj => ⟨Classical.byContradiction fun h => hj (hw j h), by unfold wtI; rw [if_neg (by omega)]⟩
    have at_ : ∀ j : Int, 0 ≤ j → ((j.toNat : Nat) : Int) = j := fun j hj => by omega
    refine ⟨fun j => ?_, fun g hg => ?_⟩
    · by_cases hj : 0 ≤ j ∧ j < (L : Int)
      · have := h1 j.toNat (by omega) (by omega)
        rwa [at_ j hj.1] at this
      · rw [(hz j hj).1]; exact Nat.zero_le _
    · rcases h2 with ⟨h2, _⟩ | ⟨_, ⟨h2, h3⟩ | ⟨t, h2, h3, h4, h5, h6⟩⟩
      · omega
      · rw [h2, if_pos (by omega)]
        unfold leastF
        rw [dif_neg]
        rintro ⟨k, hk, _⟩
        have h4 := hg k
        by_cases hj : 0 ≤ k ∧ k < (L : Int)
        · have := h3 k.toNat (by omega) (by omega)
          rw [at_ k hj.1] at this
          omega
        · have := hz k hj
          omega
      · rw [if_neg (by omega), h2]
        refine leastF_some.2 ⟨?_, fun k hk => ?_⟩
        · have := hg (t : Int)
          omega
        · have h7 := hg k
          by_cases hj : 0 ≤ k ∧ k < (L : Int)
          · apply Classical.byContradiction
            intro hlt
            have := h6 k.toNat (by omega) (by omega)
            rw [at_ k hj.1] at this
            omega
          · have := hz k hj
            omega

theorem putP_len : ∀ (l : List PL) (x : PL), (putP l x).length ≤ l.length + 1
  | [], x => by simp [putP]
  | y :: l, x => by
    rw [putP]
    split
    · have := putP_len l x; simp only [List.length_cons]; omega
    · split <;> simp

theorem foldP_len : ∀ (l o : List PL), (l.foldl putP o).length ≤ o.length + l.length
  | [], o => by simp
  | x :: l, o => by
    have h1 := foldP_len l (putP o x)
    have h2 := putP_len o x
    rw [List.foldl_cons, List.length_cons]; omega

end Go.Proofs.Try.Dn

