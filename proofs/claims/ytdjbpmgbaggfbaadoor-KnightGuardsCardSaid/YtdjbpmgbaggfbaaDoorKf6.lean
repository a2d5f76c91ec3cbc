/-
  Knight: the reference's search for the least numbers of steps, in plain terms.
-/
import Derived.Test.YtdjbpmgbaggfbaaDoorKf3
import Derived.Test.YtdjbpmgbaggfbaaDoorKb
import Derived.Test.YtdjbpmgbaggfbaaDoorDd
set_option linter.unusedSimpArgs false
set_option linter.unusedVariables false

namespace Go.Proofs.Tryd.Dn
open Go.Dn

theorem front_uniq {r c a x m k : Nat} (h : Brd r c) (ha : a < r * c) (h1 : (front r c a m).testBit x = true) (h2 : (front r c a k).testBit x = true) : m = k := by
  have key : ∀ m k, m < k → (front r c a m).testBit x = true → (front r c a k).testBit x = true → False := fun m k hlt h1 h2 => by
    have := lv_disj h ha k x h2
    rw [(seen_front k).2 ⟨m, hlt, h1⟩] at this
    cases this
  rcases Nat.lt_trichotomy m k with hl | he | hg
  · exact (key m k hl h1 h2).elim
  · exact he
  · exact (key k m hg h2 h1).elim

theorem front_in {r c a x m : Nat} (h : Brd r c) (ha : a < r * c) (h1 : (front r c a m).testBit x = true) : x < r * c := by
  apply Classical.byContradiction
  intro hc
  have hlt := (lv_lt h ha m).2
  have := Nat.testBit_lt_two_pow (i := x) (Nat.lt_of_lt_of_le hlt (Nat.pow_le_pow_right (by decide) (Nat.le_of_not_lt hc)))
  have h2 : (front r c a m).testBit x = false := this
  rw [h2] at h1
  cases h1

open Classical in
noncomputable def lev (r c a x : Nat) : Nat := if h : ∃ m, (front r c a m).testBit x = true then h.choose else 0

theorem lev_eq {r c a x m : Nat} (h : Brd r c) (ha : a < r * c) (h1 : (front r c a m).testBit x = true) : lev r c a x = m := by
  have hx : ∃ m, (front r c a m).testBit x = true := ⟨m, h1⟩
  unfold lev
  rw [dif_pos hx]
  exact front_uniq h ha hx.choose_spec h1

def movR (r c s : Nat) : List Nat := (List.range (r * c)).filter (near c s)

theorem movR_mem {r c s t : Nat} : t ∈ movR r c s ↔ t < r * c ∧ near c s t = true := by
  unfold movR; rw [List.mem_filter, List.mem_range]

def bfsK (d : Int) (st : List Int × List Nat) (m : Nat) : List Int × List Nat :=
  if st.1.getD m 0 < 0 then (st.1.set m (d + 1), st.2 ++ [m]) else st

structure BInv (r c a i : Nat) (o : List Int) (q : List Nat) : Prop where
  len : o.length = r * c
  nd : q.Nodup
  lt : ∀ x, x ∈ q → x < r * c
  first : a ∈ q
  at_ : ∀ x, x ∈ q → (front r c a (lev r c a x)).testBit x = true
  val : ∀ x, x < r * c → o.getD x 0 = if x ∈ q then (lev r c a x : Int) else -1
  sorted : ∀ (j k x y : Nat), j ≤ k → q[j]? = some x → q[k]? = some y → lev r c a x ≤ lev r c a y
  next : ∀ (x y : Nat), q[i]? = some x → y ∈ q → lev r c a y ≤ lev r c a x + 1
  closed : ∀ (j x y : Nat), j < i → q[j]? = some x → y < r * c → near c x y = true → y ∈ q

theorem BInv.low {r c a i : Nat} {o : List Int} {q : List Nat} (h : Brd r c) (ha : a < r * c) (hB : BInv r c a i o q) {x : Nat} (hx : q[i]? = some x) : ∀ (m y : Nat), m ≤ lev r c a x → (front r c a m).testBit y = true → y ∈ q
  | 0, y, hm, hy => by
    have : (2 ^ a).testBit y = true := hy
    rw [Nat.testBit_two_pow, decide_eq_true_eq] at this
    subst this
    exact hB.first
  | m + 1, y, hm, hy => by
    have hyr := front_in h ha hy
    obtain ⟨⟨s, h1, h2, h3⟩, _⟩ := (front_succ h ha hyr m).1 hy
    have hs := BInv.low h ha hB hx m s (by omega) h1
    obtain ⟨p, hp⟩ := List.getElem?_of_mem hs
    have hl := lev_eq h ha h1
    by_cases hpi : p < i
    · exact hB.closed p s y hpi hp hyr h3
    · have := hB.sorted i p x s (by omega) hx hp
      omega

theorem getD_set {l : List Int} {i j : Nat} {v d : Int} (hi : i < l.length) : (l.set i v).getD j d = if j = i then v else l.getD j d := by
  simp only [List.getD_eq_getElem?_getD]
  by_cases h : j = i
  · subst h; rw [if_pos rfl, List.getElem?_set_self hi]; rfl
  · rw [if_neg h, List.getElem?_set_ne (by omega)]

theorem BInv.look {r c a i : Nat} {o : List Int} {q : List Nat} (h : Brd r c) (ha : a < r * c) (hB : BInv r c a i o q) {x y : Nat} (hx : q[i]? = some x) (hy : y < r * c) (hn : near c x y = true) :
    BInv r c a i (bfsK (lev r c a x) (o, q) y).1 (bfsK (lev r c a x) (o, q) y).2 ∧ y ∈ (bfsK (lev r c a x) (o, q) y).2 ∧ ∃ t, (bfsK (lev r c a x) (o, q) y).2 = q ++ t := by
  unfold bfsK
  simp only
  have hv := hB.val y hy
  by_cases hq : y ∈ q
  · rw [if_pos hq] at hv
    rw [if_neg (by rw [hv]; omega)]
    exact ⟨hB, hq, [], by simp⟩
  · rw [if_neg hq] at hv
    rw [if_pos (by rw [hv]; decide)]
    have hxq : x ∈ q := List.mem_of_getElem? hx
    have hxr := hB.lt x hxq
    have hlx := hB.at_ x hxq
    have hseen : (lv r c a (lev r c a x + 1)).1.testBit y = false := by
      cases hs : (lv r c a (lev r c a x + 1)).1.testBit y with
      | false => rfl
      | true =>
        obtain ⟨j, h1, h2⟩ := (seen_front _).1 hs
        exact (hq (hB.low h ha hx j y (by omega) h2)).elim
    have hly : (front r c a (lev r c a x + 1)).testBit y = true := (front_succ h ha hy _).2 ⟨⟨x, hlx, hxr, hn⟩, hseen⟩
    have hle := lev_eq h ha hly
    have hi := (List.getElem?_eq_some_iff.1 hx).1
    refine ⟨⟨by simpa using hB.len, ?_, ?_, by simp [hB.first], ?_, ?_, ?_, ?_, ?_⟩, by simp, [y], rfl⟩
    · exact List.nodup_append.2 ⟨hB.nd, by simp, fun b hb e he => by simp at he; subst he; rintro rfl; exact hq hb⟩
    · intro z hz
      rw [List.mem_append, List.mem_singleton] at hz
      rcases hz with hz | rfl
      · exact hB.lt z hz
      · exact hy
    · intro z hz
      rw [List.mem_append, List.mem_singleton] at hz
      rcases hz with hz | rfl
      · exact hB.at_ z hz
      · rw [hle]; exact hly
    · intro z hz
      rw [getD_set (by rw [hB.len]; exact hy)]
      by_cases he : z = y
      · subst he; rw [if_pos rfl, if_pos (by simp), hle]; simp
      · rw [if_neg he, hB.val z hz]
        by_cases hzq : z ∈ q
        · rw [if_pos hzq, if_pos (by simp [hzq])]
        · rw [if_neg hzq, if_neg (by simp [hzq, he])]
    · intro j k u v hjk hu hv'
      by_cases hk : k < q.length
      · rw [List.getElem?_append_left hk] at hv'
        rw [List.getElem?_append_left (by omega)] at hu
        exact hB.sorted j k u v hjk hu hv'
      · have hk2 : k = q.length := by have := (List.getElem?_eq_some_iff.1 hv').1; simp at this; omega
        subst hk2
        simp at hv'
        subst hv'
        by_cases hj : j < q.length
        · rw [List.getElem?_append_left hj] at hu
          have := hB.next x u hx (List.mem_of_getElem? hu)
          omega
        · have hj2 : j = q.length := by omega
          subst hj2
          simp at hu
          subst hu
          exact Nat.le_refl _
    · intro u v hu hv'
      rw [List.getElem?_append_left hi, hx] at hu
      cases hu
      rw [List.mem_append, List.mem_singleton] at hv'
      rcases hv' with hv' | rfl
      · exact hB.next x v hx hv'
      · omega
    · intro j u v hj hu hvr hnr
      rw [List.getElem?_append_left (by omega)] at hu
      rw [List.mem_append]
      exact .inl (hB.closed j u v hj hu hvr hnr)

theorem BInv.row {r c a i : Nat} (h : Brd r c) (ha : a < r * c) {x : Nat} : ∀ (ms : List Nat) (o : List Int) (q : List Nat), BInv r c a i o q → q[i]? = some x → (∀ y, y ∈ ms → y < r * c ∧ near c x y = true) →
    BInv r c a i (ms.foldl (bfsK (lev r c a x)) (o, q)).1 (ms.foldl (bfsK (lev r c a x)) (o, q)).2 ∧ (∀ y, y ∈ ms → y ∈ (ms.foldl (bfsK (lev r c a x)) (o, q)).2) ∧ ∃ t, (ms.foldl (bfsK (lev r c a x)) (o, q)).2 = q ++ t
  | [], o, q, hB, hx, hm => ⟨hB, fun y hy => by simp at hy, [], by simp⟩
  | y :: ms, o, q, hB, hx, hm => by
    obtain ⟨h1, h2, t, h3⟩ := hB.look h ha hx (hm y (by simp)).1 (hm y (by simp)).2
    have hi := (List.getElem?_eq_some_iff.1 hx).1
    have hx' : (bfsK (lev r c a x) (o, q) y).2[i]? = some x := by rw [h3, List.getElem?_append_left hi]; exact hx
    obtain ⟨g1, g2, t', g3⟩ := BInv.row h ha ms _ _ h1 hx' fun z hz => hm z (by simp [hz])
    rw [List.foldl_cons]
    refine ⟨g1, fun z hz => ?_, t ++ t', by rw [g3, h3, List.append_assoc]⟩
    rw [List.mem_cons] at hz
    rcases hz with rfl | hz
    · rw [g3]; exact List.mem_append_left _ h2
    · exact g2 z hz

theorem BInv.step {r c a i : Nat} (h : Brd r c) (ha : a < r * c) {x : Nat} {o : List Int} {q : List Nat} (hB : BInv r c a i o q) (hx : q[i]? = some x) :
    BInv r c a (i + 1) ((movR r c x).foldl (bfsK (lev r c a x)) (o, q)).1 ((movR r c x).foldl (bfsK (lev r c a x)) (o, q)).2 ∧ ∃ t, ((movR r c x).foldl (bfsK (lev r c a x)) (o, q)).2 = q ++ t := by
  have hi := (List.getElem?_eq_some_iff.1 hx).1
  obtain ⟨g1, g2, t, g3⟩ := BInv.row h ha (x := x) (movR r c x) o q hB hx fun y hy => movR_mem.1 hy
  refine ⟨⟨g1.len, g1.nd, g1.lt, g1.first, g1.at_, g1.val, g1.sorted, ?_, ?_⟩, t, g3⟩
  · intro u v hu hv
    have hx' : ((movR r c x).foldl (bfsK (lev r c a x)) (o, q)).2[i]? = some x := by rw [g3, List.getElem?_append_left hi]; exact hx
    have h1 := g1.next x v hx' hv
    have h2 := g1.sorted i (i + 1) x u (by omega) hx' hu
    omega
  · intro j u v hj hu hvr hnr
    by_cases hji : j < i
    · exact g1.closed j u v hji hu hvr hnr
    · have : j = i := by omega
      subst this
      rw [g3, List.getElem?_append_left hi, hx] at hu
      cases hu
      exact g2 v (movR_mem.2 ⟨hvr, hnr⟩)

theorem BInv.done {r c a i : Nat} {o : List Int} {q : List Nat} (h : Brd r c) (ha : a < r * c) (hB : BInv r c a i o q) (hi : q.length ≤ i) {b : Nat} (hb : b < r * c) :
    (∃ m : Nat, (front r c a m).testBit b = true ∧ o.getD b 0 = (m : Int)) ∨ ((∀ m, (front r c a m).testBit b = false) ∧ o.getD b 0 = -1) := by
  have all : ∀ m y, (front r c a m).testBit y = true → y ∈ q := by
    intro m
    induction m with
    | zero =>
      intro y hy
      have : (2 ^ a).testBit y = true := hy
      rw [Nat.testBit_two_pow, decide_eq_true_eq] at this
      subst this
      exact hB.first
    | succ m ih =>
      intro y hy
      have hyr := front_in h ha hy
      obtain ⟨⟨s, h1, h2, h3⟩, _⟩ := (front_succ h ha hyr m).1 hy
      obtain ⟨p, hp⟩ := List.getElem?_of_mem (ih s h1)
      have := (List.getElem?_eq_some_iff.1 hp).1
      exact hB.closed p s y (by omega) hp hyr h3
  have hv := hB.val b hb
  by_cases hq : b ∈ q
  · rw [if_pos hq] at hv
    exact .inl ⟨_, hB.at_ b hq, hv⟩
  · rw [if_neg hq] at hv
    refine .inr ⟨fun m => ?_, hv⟩
    cases hm : (front r c a m).testBit b with
    | false => rfl
    | true => exact (hq (all m b hm)).elim

theorem nodup_len : ∀ (n : Nat) (l : List Nat), l.Nodup → (∀ x, x ∈ l → x < n) → l.length ≤ n
  | 0, l, _, hl => by
    cases l with
    | nil => simp
    | cons x l => exact absurd (hl x (by simp)) (by omega)
  | n + 1, l, hd, hl => by
    have ih := nodup_len n (l.erase n) (hd.erase n) fun x hx => by
      have := (hd.mem_erase_iff).1 hx
      have := hl x this.2
      omega
    have := List.length_erase (a := n) (l := l)
    split at this <;> omega

theorem BInv.short {r c a i : Nat} {o : List Int} {q : List Nat} (hB : BInv r c a i o q) : q.length ≤ r * c := by
  exact nodup_len _ q hB.nd hB.lt

end Go.Proofs.Tryd.Dn

/-
  Knight: the reference's moves.
-/

namespace Go.Proofs.Tryd.Dn
open Go.Dn




end Go.Proofs.Tryd.Dn

/-
  Knight: the reference's least numbers of steps.
-/

namespace Go.Proofs.Tryd.Dn
open Go.Dn

theorem nI_at {l : List Nat} {i x : Nat} (h : l[i]? = some x) : (nI l)[i]? = some (x : Int) := by unfold nI; rw [List.getElem?_map, h]; rfl

structure BM (H : Heap) (O Q : TV) (o : List Int) (q : List Nat) : Prop where
  arr : elI.Arr H O o
  que : Que H Q (nI q)
  ne : O.idOf ≠ Q.idOf

theorem getD_some {l : List Int} {x : Nat} (hx : x < l.length) : l[x]? = some (l.getD x 0) := by
  rw [List.getD_eq_getElem?_getD, List.getElem?_eq_getElem hx]; rfl

end Go.Proofs.Tryd.Dn

