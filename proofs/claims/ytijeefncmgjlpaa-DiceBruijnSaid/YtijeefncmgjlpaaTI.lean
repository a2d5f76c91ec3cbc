/-
  All pairs with given ways are found, and no others.
-/
import Derived.Test.YtijeefncmgjlpaaTF
set_option linter.unusedSimpArgs false
set_option linter.unusedVariables false

set_option maxHeartbeats 2000000
namespace Go.Proofs.Try.Dn
open Go.Dn

theorem wn_appA (a u b : List Int) (j : Int) : wn [a ++ u, b] j = wn [a, b] j + wn [u, b] j := by
  rw [wn_two, wn_two, wn_two]
  have e : wnF wn0 (a ++ u) = fun i => wnF wn0 a i + wnF wn0 u i := by
    funext i
    unfold wnF
    rw [List.map_append, List.sum_append]
  rw [e, wnF_add]
theorem wn_appB (a b v : List Int) (j : Int) : wn [a, b ++ v] j = wn [a, b] j + wn [a, v] j := by
  rw [wn_two, wn_two, wn_two]
  conv => lhs; unfold wnF
  rw [List.map_append, List.sum_append]
  rfl

theorem grow_sound {n m : Nat} {c d : Int} {G : Nat → Nat} {M : Nat} (hn : n ≤ 8) (hm : m ≤ 8) : ∀ (k : Nat) (a b : List Int) (g : Int → Option Nat), DieL 60 a → DieL 60 b → a.length ≤ n → b.length ≤ m → Lf G M a b g → ∀ p ∈ growP n m c d k a b g,
    DieL 60 p.1 ∧ DieL 60 p.2 ∧ p.1[0]? = a[0]? ∧ p.2[0]? = b[0]? ∧ (∀ j, wn [p.1, p.2] j = wtI G M j) ∧ p.1.length = n ∧ p.2.length = m
  | 0, _, _, _, _, _, _, _, _ => fun p hp => by simp [growP] at hp
  | k + 1, a, b, g, hA, hB, ha, hb, hg => by
    intro p hp
    have hsz := growP_sz n m c d (k + 1) a b g ha hb p hp
    unfold growP at hp
    cases hl : leastF g with
    | none =>
      rw [hl] at hp
      dsimp only at hp
      split at hp
      · simp at hp
      · rw [List.mem_singleton.1 hp] at hsz ⊢
        refine ⟨hA, hB, rfl, rfl, fun j => ?_, hsz⟩
        have h0 : (g j).getD 0 = 0 := by
          apply Classical.byContradiction
          intro h0
          -- there is a least one
          have : ∃ N : Nat, ∃ k : Int, k = (N : Int) ∧ (g k).getD 0 ≠ 0 := by
            have h1 := hg j
            have h2 : wtI G M j ≠ 0 := by omega
            unfold wtI at h2
            split at h2
            · exact ⟨j.toNat, j, by omega, h0⟩
            · exact absurd rfl h2
          obtain ⟨N, hN⟩ := this
          have key : ∀ N : Nat, (∃ k : Int, k = (N : Int) ∧ (g k).getD 0 ≠ 0) → False := by
            intro N
            induction N using Nat.strongRecOn with
            | _ N ih =>
              rintro ⟨k, rfl, hk⟩
              have hne : ¬ IsLeast g (N : Int) := fun h => by rw [leastF_some.2 h] at hl; cases hl
              apply hne
              refine ⟨hk, fun i hi => ?_⟩
              apply Classical.byContradiction
              intro hlt
              have h1 := hg i
              have h2 : wtI G M i ≠ 0 := by omega
              unfold wtI at h2
              split at h2
              · exact ih i.toNat (by omega) ⟨i, by omega, hi⟩
              · exact h2 rfl
          exact key N hN
        have := hg j
        simp only
        omega
    | some l =>
      rw [hl] at hp
      simp only [List.mem_append] at hp
      rcases hp with hp | hp
      · split at hp
        · rename_i hf
          obtain ⟨hD, hlt⟩ := fits_die hA hn hf
          have ht := hg.takeA (l - d)
          revert ht
          cases htk : takes g (l - d) b with
          | none => rw [htk] at hp; simp at hp
          | some g' =>
            intro ht
            rw [htk] at hp
            have ih := grow_sound hn hm k (a ++ [l - d]) b g' hD hB (by simp; omega) hb ht p hp
            rw [List.getElem?_append_left (by have := hA.pos; omega)] at ih
            exact ih
        · simp at hp
      · split at hp
        · rename_i hf
          obtain ⟨hD, hlt⟩ := fits_die hB hm hf
          have ht := hg.takeB (l - c)
          revert ht
          cases htk : takes g (l - c) a with
          | none => rw [htk] at hp; simp at hp
          | some g' =>
            intro ht
            rw [htk] at hp
            have ih := grow_sound hn hm k a (b ++ [l - c]) g' hA hD ha (by simp; omega) ht p hp
            rw [List.getElem?_append_left (by have := hB.pos; omega)] at ih
            exact ih
        · simp at hp

theorem die_head {a : List Int} {c : Int} (hA : DieL 60 a) (hc : a[0]? = some c) : ∀ f ∈ a, c ≤ f := by
  intro f hf
  obtain ⟨i, hi, rfl⟩ := List.getElem_of_mem hf
  exact srt_at hA.srt (Nat.zero_le i) hc (List.getElem?_eq_getElem hi)

theorem grow_all {n m : Nat} {c d : Int} {G : Nat → Nat} {M : Nat} {x y : List Int} (hX : DieL 60 x) (hY : DieL 60 y) (hx : x.length = n) (hy : y.length = m) (hc : x[0]? = some c) (hd : y[0]? = some d) (hw : ∀ j, wn [x, y] j = wtI G M j) :
    ∀ (k : Nat) (a u b v : List Int) (g : Int → Option Nat), x = a ++ u → y = b ++ v → a ≠ [] → b ≠ [] → Lf G M a b g → (n - a.length) + (m - b.length) < k → (x, y) ∈ growP n m c d k a b g
  | 0, _, _, _, _, _, _, _, _, _, _, h => by omega
  | k + 1, a, u, b, v, g, ea, eb, hane, hbne, hg, hk => by
    have la : a.length + u.length = n := by rw [← hx, ea, List.length_append]
    have lb : b.length + v.length = m := by rw [← hy, eb, List.length_append]
    have hap : 1 ≤ a.length := List.length_pos_iff.2 hane
    have hbp : 1 ≤ b.length := List.length_pos_iff.2 hbne
    have hca : a[0]? = some c := by rw [ea, List.getElem?_append_left (by omega)] at hc; exact hc
    have hdb : b[0]? = some d := by rw [eb, List.getElem?_append_left (by omega)] at hd; exact hd
    have hsum : ∀ j, wn [x, y] j = wn [a, b] j + wn [u, b] j + wn [x, v] j := fun j => by
      have h1 : wn [x, y] j = wn [x, b] j + wn [x, v] j := by rw [eb]; exact wn_appB x b v j
      have h2 : wn [x, b] j = wn [a, b] j + wn [u, b] j := by rw [ea]; exact wn_appA a u b j
      omega
    -- what a next face says
    have nextA : ∀ u0 u', u = u0 :: u' → (g (u0 + d)).getD 0 ≠ 0 := fun u0 u' hu => by
      have h1 := hg (u0 + d)
      rw [← hw, hsum] at h1
      have h2 : wn [u, b] (u0 + d) ≠ 0 := wn2_ne.2 ⟨d, List.mem_of_getElem? hdb, u0, by rw [hu]; exact List.mem_cons_self .., rfl⟩
      omega
    have nextB : ∀ v0 v', v = v0 :: v' → (g (v0 + c)).getD 0 ≠ 0 := fun v0 v' hv => by
      have h1 := hg (v0 + c)
      rw [← hw, hsum] at h1
      have h2 : wn [x, v] (v0 + c) ≠ 0 := wn2_ne.2 ⟨v0, by rw [hv]; exact List.mem_cons_self .., c, List.mem_of_getElem? hc, by omega⟩
      omega
    unfold growP
    cases hl : leastF g with
    | none =>
      dsimp only
      have nz : ∀ j, (g j).getD 0 = 0 := by
        intro j
        apply Classical.byContradiction
        intro h0
        have key : ∀ N : Nat, (∃ k : Int, k = (N : Int) ∧ (g k).getD 0 ≠ 0) → False := by
          intro N
          induction N using Nat.strongRecOn with
          | _ N ih =>
            rintro ⟨k, rfl, hk⟩
            have hne : ¬ IsLeast g (N : Int) := fun h => by rw [leastF_some.2 h] at hl; cases hl
            apply hne
            refine ⟨hk, fun i hi => ?_⟩
            apply Classical.byContradiction
            intro hlt
            have h1 := hg i
            have h2 : wtI G M i ≠ 0 := by omega
            unfold wtI at h2
            split at h2
            · exact ih i.toNat (by omega) ⟨i, by omega, hi⟩
            · exact h2 rfl
        have h1 := hg j
        have h2 : wtI G M j ≠ 0 := by omega
        unfold wtI at h2
        split at h2
        · exact key j.toNat ⟨j, by omega, h0⟩
        · exact h2 rfl
      have hu : u = [] := by
        cases hu : u with
        | nil => rfl
        | cons u0 u' => exact absurd (nz _) (nextA u0 u' hu)
      have hv : v = [] := by
        cases hv : v with
        | nil => rfl
        | cons v0 v' => exact absurd (nz _) (nextB v0 v' hv)
      subst hu; subst hv
      rw [List.append_nil] at ea eb
      subst ea; subst eb
      rw [if_neg (by omega)]
      exact List.mem_singleton_self _
    | some l =>
      have hL := leastF_some.1 hl
      have h1 := hg l
      rw [← hw, hsum] at h1
      have h2 : wn [u, b] l ≠ 0 ∨ wn [x, v] l ≠ 0 := by
        have := hL.1
        omega
      simp only [List.mem_append]
      have sX := hX.srt
      have sY := hY.srt
      rcases h2 with h2 | h2
      · left
        obtain ⟨f, hf, e, he, hle⟩ := wn2_ne.1 h2
        obtain ⟨u0, u', hu⟩ : ∃ u0 u', u = u0 :: u' := by
          cases u with
          | nil => simp at he
          | cons u0 u' => exact ⟨u0, u', rfl⟩
        have hu0 : u0 ≤ e := by
          rw [ea, List.pairwise_append] at sX
          rw [hu] at he
          rcases List.mem_cons.1 he with rfl | he
          · exact Int.le_refl _
          · have := sX.2.1
            rw [hu] at this
            exact (List.pairwise_cons.1 this).1 e he
        have hdf : d ≤ f := die_head hY hd f (by rw [eb]; exact List.mem_append_left _ hf)
        have hll := hL.2 _ (nextA u0 u' hu)
        have hlu : l - d = u0 := by omega
        have hub := hX.ok u0 (by rw [ea, hu]; simp)
        have hfit : fits n a (l - d) = true := by
          unfold fits
          rw [hlu]
          simp only [Bool.and_eq_true, decide_eq_true_eq]
          refine ⟨⟨by rw [hu] at la; simp at la; omega, ?_⟩, hub.2⟩
          rw [ea, List.pairwise_append] at sX
          have hlast : a.getLastD 0 ∈ a := by
            cases a with
            | nil => exact absurd rfl hane
            | cons z a => simp [List.getLastD]
          exact sX.2.2 _ hlast u0 (by rw [hu]; exact List.mem_cons_self ..)
        rw [if_pos hfit]
        have ht := hg.takeA (l - d)
        revert ht
        rw [hlu]
        cases takes g u0 b with
        | none =>
          intro ht
          refine absurd (fun j => ?_) ht
          rw [← hw, wn_pushA, hsum]
          have : wn [u, b] j = wn [[u0], b] j + wn [u', b] j := by rw [hu]; exact wn_appA [u0] u' b j
          have e2 : wn [[] ++ [u0], b] j = wn [[], b] j + cntF u0 b j := wn_pushA [] b u0 j
          rw [List.nil_append] at e2
          omega
        | some g' =>
          intro ht
          exact grow_all hX hY hx hy hc hd hw k (a ++ [u0]) u' b v g' (by rw [ea, hu]; simp) eb (by simp) hbne ht (by simp; rw [hu] at la; simp at la; omega)
      · right
        obtain ⟨f, hf, e, he, hle⟩ := wn2_ne.1 h2
        obtain ⟨v0, v', hv⟩ : ∃ v0 v', v = v0 :: v' := by
          cases v with
          | nil => simp at hf
          | cons v0 v' => exact ⟨v0, v', rfl⟩
        have hv0 : v0 ≤ f := by
          rw [eb, List.pairwise_append] at sY
          rw [hv] at hf
          rcases List.mem_cons.1 hf with rfl | hf
          · exact Int.le_refl _
          · have := sY.2.1
            rw [hv] at this
            exact (List.pairwise_cons.1 this).1 f hf
        have hce : c ≤ e := die_head hX hc e he
        have hll := hL.2 _ (nextB v0 v' hv)
        have hlv : l - c = v0 := by omega
        have hvb := hY.ok v0 (by rw [eb, hv]; simp)
        have hfit : fits m b (l - c) = true := by
          unfold fits
          rw [hlv]
          simp only [Bool.and_eq_true, decide_eq_true_eq]
          refine ⟨⟨by rw [hv] at lb; simp at lb; omega, ?_⟩, hvb.2⟩
          rw [eb, List.pairwise_append] at sY
          have hlast : b.getLastD 0 ∈ b := by
            cases b with
            | nil => exact absurd rfl hbne
            | cons z b => simp [List.getLastD]
          exact sY.2.2 _ hlast v0 (by rw [hv]; exact List.mem_cons_self ..)
        rw [if_pos hfit]
        have ht := hg.takeB (l - c)
        revert ht
        rw [hlv]
        cases takes g v0 a with
        | none =>
          intro ht
          refine absurd (fun j => ?_) ht
          rw [← hw, wn_pushB, hsum]
          have h3 : wn [x, v] j = wn [a, v] j + wn [u, v] j := by rw [ea]; exact wn_appA a u v j
          have h4 : wn [a, v] j = wn [a, [v0]] j + wn [a, v'] j := by rw [hv]; exact wn_appB a [v0] v' j
          have e2 : wn [a, [] ++ [v0]] j = wn [a, []] j + cntF v0 a j := wn_pushB a [] v0 j
          rw [List.nil_append] at e2
          omega
        | some g' =>
          intro ht
          exact grow_all hX hY hx hy hc hd hw k a u (b ++ [v0]) v' g' ea (by rw [eb, hv]; simp) hane (by simp) ht (by simp; rw [hv] at lb; simp at lb; omega)

theorem canP_mem (l : List PL) (p : PL) : p ∈ canP l ↔ p ∈ l := by
  have := (foldP_spec l [] List.Pairwise.nil).2 p
  unfold canP
  rw [this]; simp

theorem lf_start {G : Nat → Nat} {M : Nat} {c d : Int} {g0 : Int → Option Nat} (h0 : ∀ j, (g0 j).getD 0 = wtI G M j) (h1 : (g0 (c + d)).getD 0 ≠ 0) : Lf G M [c] [d] (subM g0 (c + d)) := fun j => by
  have hw : wn [[c], [d]] j = if c + d = j then 1 else 0 := by
    show ([d].map fun f => ([c].map fun e => wn0 (j - f - e)).sum).sum = _
    simp only [List.map_cons, List.map_nil, List.sum_cons, List.sum_nil, Nat.add_zero]
    unfold wn0
    by_cases h : c + d = j
    · rw [if_pos (by omega), if_pos h]
    · rw [if_neg (by omega), if_neg h]
  have h2 := h0 j
  rw [subM_getD, hw]
  by_cases h : c + d = j
  · subst h
    rw [if_pos rfl]; omega
  · rw [if_neg h]; omega

theorem pairs_mem {G : Nat → Nat} {M n m : Nat} {c d : Int} {g0 : Int → Option Nat} (hn : 1 ≤ n ∧ n ≤ 8) (hm : 1 ≤ m ∧ m ≤ 8) (hc : 0 ≤ c ∧ c ≤ 60) (hd : 0 ≤ d ∧ d ≤ 60) (h0 : ∀ j, (g0 j).getD 0 = wtI G M j) (h1 : (g0 (c + d)).getD 0 ≠ 0) (p : PL) :
    p ∈ canP (pairsP n m c d g0) ↔ DieL 60 p.1 ∧ DieL 60 p.2 ∧ p.1[0]? = some c ∧ p.2[0]? = some d ∧ (∀ j, wn [p.1, p.2] j = wtI G M j) ∧ p.1.length = n ∧ p.2.length = m := by
  rw [canP_mem]
  unfold pairsP
  have hs := lf_start h0 h1
  constructor
  · intro hp
    exact grow_sound hn.2 hm.2 1001 [c] [d] _ (die_one hc) (die_one hd) hn.1 hm.1 hs p hp
  · rintro ⟨k1, k2, k3, k4, k5, k6, k7⟩
    obtain ⟨x, y⟩ := p
    simp only at k1 k2 k3 k4 k5 k6 k7
    obtain ⟨u, hu⟩ : ∃ u, x = [c] ++ u := by
      cases x with
      | nil => simp at k3
      | cons z u => simp at k3; exact ⟨u, by rw [k3]; rfl⟩
    obtain ⟨v, hv⟩ : ∃ v, y = [d] ++ v := by
      cases y with
      | nil => simp at k4
      | cons z v => simp at k4; exact ⟨v, by rw [k4]; rfl⟩
    exact grow_all k1 k2 k6 k7 k3 k4 k5 1001 [c] u [d] v _ hu hv (by simp) (by simp) hs (by simp only [List.length_singleton]; omega)

end Go.Proofs.Try.Dn

