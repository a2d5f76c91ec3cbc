/-
  Knight: the reference's search for the least numbers of steps, in plain terms.
-/
import Derived.Test.YtdjbpmgbaggfbaaDoorKf3
import Derived.Test.YtdjbpmgbaggfbaaDoorKb
import Derived.Test.YtdjbpmgbaggfbaaDoorDd
set_option linter.unusedSimpArgs false
set_option linter.unusedVariables false

namespace Go.Proofs.Tryd.Dn
open Go.Dn

theorem front_uniq {r c a x m k : Nat} (h : Brd r c) (ha : a < r * c) (h1 : (front r c a m).testBit x = true) (h2 : (front r c a k).testBit x = true) : m = k := by
  have key : ∀ m k, m < k → (front r c a m).testBit x = true → (front r c a k).testBit x = true → False := fun m k hlt h1 h2 => by
    have := lv_disj h ha k x h2
    rw [(seen_front k).2 ⟨m, hlt, h1⟩] at this
    cases this
  rcases Nat.lt_trichotomy m k with hl | he | hg
  · exact (key m k hl h1 h2).elim
  · exact he
  · exact (key k m hg h2 h1).elim

theorem front_in {r c a x m : Nat} (h : Brd r c) (ha : a < r * c) (h1 : (front r c a m).testBit x = true) : x < r * c := by
  apply Classical.byContradiction
  intro hc
  have hlt := (lv_lt h ha m).2
  have := Nat.testBit_lt_two_pow (i := x) (Nat.lt_of_lt_of_le hlt (Nat.pow_le_pow_right (by decide) (Nat.le_of_not_lt hc)))
  have h2 : (front r c a m).testBit x = false := this
  rw [h2] at h1
  cases h1

open Classical in
/-- the level of a square -/
noncomputable def lev (r c a x : Nat) : Nat := if h : ∃ m, (front r c a m).testBit x = true then h.choose else 0

theorem lev_eq {r c a x m : Nat} (h : Brd r c) (ha : a < r * c) (h1 : (front r c a m).testBit x = true) : lev r c a x = m := by
  have hx : ∃ m, (front r c a m).testBit x = true := ⟨m, h1⟩
  unfold lev
  rw [dif_pos hx]
  exact front_uniq h ha hx.choose_spec h1

/-- the squares a move away, in the reference's way -/
def movR (r c s : Nat) : List Nat := (List.range (r * c)).filter (near c s)

theorem movR_mem {r c s t : Nat} : t ∈ movR r c s ↔ t < r * c ∧ near c s t = true := by
  unfold movR; rw [List.mem_filter, List.mem_range]

/-- one square looked at from another one of level d -/
def bfsK (d : Int) (st : List Int × List Nat) (m : Nat) : List Int × List Nat :=
  if st.1.getD m 0 < 0 then (st.1.set m (d + 1), st.2 ++ [m]) else st

/-- what the search knows: i squares of the queue are done, and of the next one some moves -/
structure BInv (r c a i : Nat) (o : List Int) (q : List Nat) : Prop where
  len : o.length = r * c
  nd : q.Nodup
  lt : ∀ x, x ∈ q → x < r * c
  first : a ∈ q
  at_ : ∀ x, x ∈ q → (front r c a (lev r c a x)).testBit x = true
  val : ∀ x, x < r * c → o.getD x 0 = if x ∈ q then (lev r c a x : Int) else -1
  sorted : ∀ (j k x y : Nat), j ≤ k → q[j]? = some x → q[k]? = some y → lev r c a x ≤ lev r c a y
  next : ∀ (x y : Nat), q[i]? = some x → y ∈ q → lev r c a y ≤ lev r c a x + 1
  closed : ∀ (j x y : Nat), j < i → q[j]? = some x → y < r * c → near c x y = true → y ∈ q

theorem BInv.low {r c a i : Nat} {o : List Int} {q : List Nat} (h : Brd r c) (ha : a < r * c) (hB : BInv r c a i o q) {x : Nat} (hx : q[i]? = some x) : ∀ (m y : Nat), m ≤ lev r c a x → (front r c a m).testBit y = true → y ∈ q
  | 0, y, hm, hy => by
    have : (2 ^ a).testBit y = true := hy
    rw [Nat.testBit_two_pow, decide_eq_true_eq] at this
    subst this
    exact hB.first
  | m + 1, y, hm, hy => by
    have hyr := front_in h ha hy
    obtain ⟨⟨s, h1, h2, h3⟩, _⟩ := (front_succ h ha hyr m).1 hy
    have hs := BInv.low h ha hB hx m s (by omega) h1
    obtain ⟨p, hp⟩ := List.getElem?_of_mem hs
    have hl := lev_eq h ha h1
    by_cases hpi : p < i
    · exact hB.closed p s y hpi hp hyr h3
    · have := hB.sorted i p x s (by omega) hx hp
      omega

theorem getD_set {l : List Int} {i j : Nat} {v d : Int} (hi : i < l.length) : (l.set i v).getD j d = if j = i then v else l.getD j d := by
  simp only [List.getD_eq_getElem?_getD]
  by_cases h : j = i
  · subst h; rw [if_pos rfl, List.getElem?_set_self hi]; rfl
  · rw [if_neg h, List.getElem?_set_ne (by omega)]

/-- one move looked at -/
theorem BInv.look {r c a i : Nat} {o : List Int} {q : List Nat} (h : Brd r c) (ha : a < r * c) (hB : BInv r c a i o q) {x y : Nat} (hx : q[i]? = some x) (hy : y < r * c) (hn : near c x y = true) :
    BInv r c a i (bfsK (lev r c a x) (o, q) y).1 (bfsK (lev r c a x) (o, q) y).2 ∧ y ∈ (bfsK (lev r c a x) (o, q) y).2 ∧ ∃ t, (bfsK (lev r c a x) (o, q) y).2 = q ++ t := by
  unfold bfsK
  simp only
  have hv := hB.val y hy
  by_cases hq : y ∈ q
  · rw [if_pos hq] at hv
    rw [if_neg (by rw [hv]; omega)]
    exact ⟨hB, hq, [], by simp⟩
  · rw [if_neg hq] at hv
    rw [if_pos (by rw [hv]; decide)]
    have hxq : x ∈ q := List.mem_of_getElem? hx
    have hxr := hB.lt x hxq
    have hlx := hB.at_ x hxq
    have hseen : (lv r c a (lev r c a x + 1)).1.testBit y = false := by
      cases hs : (lv r c a (lev r c a x + 1)).1.testBit y with
      | false => rfl
      | true =>
        obtain ⟨j, h1, h2⟩ := (seen_front _).1 hs
        exact (hq (hB.low h ha hx j y (by omega) h2)).elim
    have hly : (front r c a (lev r c a x + 1)).testBit y = true := (front_succ h ha hy _).2 ⟨⟨x, hlx, hxr, hn⟩, hseen⟩
    have hle := lev_eq h ha hly
    have hi := (List.getElem?_eq_some_iff.1 hx).1
    refine ⟨⟨by simpa using hB.len, ?_, ?_, by simp [hB.first], ?_, ?_, ?_, ?_, ?_⟩, by simp, [y], rfl⟩
    · exact List.nodup_append.2 ⟨hB.nd, by simp, fun b hb e he => by simp at he; subst he; rintro rfl; exact hq hb⟩
    · intro z hz
      rw [List.mem_append, List.mem_singleton] at hz
      rcases hz with hz | rfl
      · exact hB.lt z hz
      · exact hy
    · intro z hz
      rw [List.mem_append, List.mem_singleton] at hz
      rcases hz with hz | rfl
      · exact hB.at_ z hz
      · rw [hle]; exact hly
    · intro z hz
      rw [getD_set (by rw [hB.len]; exact hy)]
      by_cases he : z = y
      · subst he; rw [if_pos rfl, if_pos (by simp), hle]; simp
      · rw [if_neg he, hB.val z hz]
        by_cases hzq : z ∈ q
        · rw [if_pos hzq, if_pos (by simp [hzq])]
        · rw [if_neg hzq, if_neg (by simp [hzq, he])]
    · intro j k u v hjk hu hv'
      by_cases hk : k < q.length
      · rw [List.getElem?_append_left hk] at hv'
        rw [List.getElem?_append_left (by omega)] at hu
        exact hB.sorted j k u v hjk hu hv'
      · have hk2 : k = q.length := by have := (List.getElem?_eq_some_iff.1 hv').1; simp at this; omega
        subst hk2
        simp at hv'
        subst hv'
        by_cases hj : j < q.length
        · rw [List.getElem?_append_left hj] at hu
          have := hB.next x u hx (List.mem_of_getElem? hu)
          omega
        · have hj2 : j = q.length := by omega
          subst hj2
          simp at hu
          subst hu
          exact Nat.le_refl _
    · intro u v hu hv'
      rw [List.getElem?_append_left hi, hx] at hu
      cases hu
      rw [List.mem_append, List.mem_singleton] at hv'
      rcases hv' with hv' | rfl
      · exact hB.next x v hx hv'
      · omega
    · intro j u v hj hu hvr hnr
      rw [List.getElem?_append_left (by omega)] at hu
      rw [List.mem_append]
      exact .inl (hB.closed j u v hj hu hvr hnr)

/-- all moves from a square looked at -/
theorem BInv.row {r c a i : Nat} (h : Brd r c) (ha : a < r * c) {x : Nat} : ∀ (ms : List Nat) (o : List Int) (q : List Nat), BInv r c a i o q → q[i]? = some x → (∀ y, y ∈ ms → y < r * c ∧ near c x y = true) →
    BInv r c a i (ms.foldl (bfsK (lev r c a x)) (o, q)).1 (ms.foldl (bfsK (lev r c a x)) (o, q)).2 ∧ (∀ y, y ∈ ms → y ∈ (ms.foldl (bfsK (lev r c a x)) (o, q)).2) ∧ ∃ t, (ms.foldl (bfsK (lev r c a x)) (o, q)).2 = q ++ t
  | [], o, q, hB, hx, hm => ⟨hB, fun y hy => by simp at hy, [], by simp⟩
  | y :: ms, o, q, hB, hx, hm => by
    obtain ⟨h1, h2, t, h3⟩ := hB.look h ha hx (hm y (by simp)).1 (hm y (by simp)).2
    have hi := (List.getElem?_eq_some_iff.1 hx).1
    have hx' : (bfsK (lev r c a x) (o, q) y).2[i]? = some x := by rw [h3, List.getElem?_append_left hi]; exact hx
    obtain ⟨g1, g2, t', g3⟩ := BInv.row h ha ms _ _ h1 hx' fun z hz => hm z (by simp [hz])
    rw [List.foldl_cons]
    refine ⟨g1, fun z hz => ?_, t ++ t', by rw [g3, h3, List.append_assoc]⟩
    rw [List.mem_cons] at hz
    rcases hz with rfl | hz
    · rw [g3]; exact List.mem_append_left _ h2
    · exact g2 z hz

theorem BInv.step {r c a i : Nat} (h : Brd r c) (ha : a < r * c) {x : Nat} {o : List Int} {q : List Nat} (hB : BInv r c a i o q) (hx : q[i]? = some x) :
    BInv r c a (i + 1) ((movR r c x).foldl (bfsK (lev r c a x)) (o, q)).1 ((movR r c x).foldl (bfsK (lev r c a x)) (o, q)).2 ∧ ∃ t, ((movR r c x).foldl (bfsK (lev r c a x)) (o, q)).2 = q ++ t := by
  have hi := (List.getElem?_eq_some_iff.1 hx).1
  obtain ⟨g1, g2, t, g3⟩ := BInv.row h ha (x := x) (movR r c x) o q hB hx fun y hy => movR_mem.1 hy
  refine ⟨⟨g1.len, g1.nd, g1.lt, g1.first, g1.at_, g1.val, g1.sorted, ?_, ?_⟩, t, g3⟩
  · intro u v hu hv
    have hx' : ((movR r c x).foldl (bfsK (lev r c a x)) (o, q)).2[i]? = some x := by rw [g3, List.getElem?_append_left hi]; exact hx
    have h1 := g1.next x v hx' hv
    have h2 := g1.sorted i (i + 1) x u (by omega) hx' hu
    omega
  · intro j u v hj hu hvr hnr
    by_cases hji : j < i
    · exact g1.closed j u v hji hu hvr hnr
    · have : j = i := by omega
      subst this
      rw [g3, List.getElem?_append_left hi, hx] at hu
      cases hu
      exact g2 v (movR_mem.2 ⟨hvr, hnr⟩)

theorem BInv.start {r c a : Nat} (h : Brd r c) (ha : a < r * c) : BInv r c a 0 ((List.replicate (r * c) (-1 : Int)).set a 0) [a] := by
  have h0 : (front r c a 0).testBit a = true := by show (2 ^ a).testBit a = true; rw [Nat.testBit_two_pow, decide_eq_true_eq]
  have hl := lev_eq h ha h0
  refine ⟨by simp, by simp, by simp [ha], by simp, ?_, ?_, ?_, ?_, fun j x y hj => by omega⟩
  · intro x hx
    rw [List.mem_singleton] at hx
    subst hx
    rw [hl]; exact h0
  · intro x hx
    rw [getD_set (by simpa using ha)]
    by_cases he : x = a
    · subst he; rw [if_pos rfl, if_pos (by simp), hl]; rfl
    · rw [if_neg he, if_neg (by simpa using he)]
      simp [List.getD_eq_getElem?_getD, hx]
  · intro j k x y hjk hx hy
    have := (List.getElem?_eq_some_iff.1 hy).1
    simp at this
    have h1 : k = 0 := this
    have h2 : j = 0 := by omega
    subst h1 h2
    simp at hx hy
    subst hx hy
    exact Nat.le_refl _
  · intro x y hx hy
    simp at hx hy
    subst hx hy
    omega

/-- what stands at the end -/
theorem BInv.done {r c a i : Nat} {o : List Int} {q : List Nat} (h : Brd r c) (ha : a < r * c) (hB : BInv r c a i o q) (hi : q.length ≤ i) {b : Nat} (hb : b < r * c) :
    (∃ m : Nat, (front r c a m).testBit b = true ∧ o.getD b 0 = (m : Int)) ∨ ((∀ m, (front r c a m).testBit b = false) ∧ o.getD b 0 = -1) := by
  have all : ∀ m y, (front r c a m).testBit y = true → y ∈ q := by
    intro m
    induction m with
    | zero =>
      intro y hy
      have : (2 ^ a).testBit y = true := hy
      rw [Nat.testBit_two_pow, decide_eq_true_eq] at this
      subst this
      exact hB.first
    | succ m ih =>
      intro y hy
      have hyr := front_in h ha hy
      obtain ⟨⟨s, h1, h2, h3⟩, _⟩ := (front_succ h ha hyr m).1 hy
      obtain ⟨p, hp⟩ := List.getElem?_of_mem (ih s h1)
      have := (List.getElem?_eq_some_iff.1 hp).1
      exact hB.closed p s y (by omega) hp hyr h3
  have hv := hB.val b hb
  by_cases hq : b ∈ q
  · rw [if_pos hq] at hv
    exact .inl ⟨_, hB.at_ b hq, hv⟩
  · rw [if_neg hq] at hv
    refine .inr ⟨fun m => ?_, hv⟩
    cases hm : (front r c a m).testBit b with
    | false => rfl
    | true => exact (hq (all m b hm)).elim

theorem nodup_len : ∀ (n : Nat) (l : List Nat), l.Nodup → (∀ x, x ∈ l → x < n) → l.length ≤ n
  | 0, l, _, hl => by
    cases l with
    | nil => simp
    | cons x l => exact absurd (hl x (by simp)) (by omega)
  | n + 1, l, hd, hl => by
    have ih := nodup_len n (l.erase n) (hd.erase n) fun x hx => by
      have := (hd.mem_erase_iff).1 hx
      have := hl x this.2
      omega
    have := List.length_erase (a := n) (l := l)
    split at this <;> omega

/-- the queue is never longer than the board -/
theorem BInv.short {r c a i : Nat} {o : List Int} {q : List Nat} (hB : BInv r c a i o q) : q.length ≤ r * c := by
  exact nodup_len _ q hB.nd hB.lt

end Go.Proofs.Tryd.Dn

/-
  Knight: the reference's moves.
-/

namespace Go.Proofs.Tryd.Dn
open Go.Dn




theorem range_drop_filter (p : Nat → Bool) {n t : Nat} (ht : t < n) : ((List.range n).drop t).filter p = (if p t then [t] else []) ++ ((List.range n).drop (t + 1)).filter p := by
  have : (List.range n).drop t = t :: (List.range n).drop (t + 1) := by
    rw [List.drop_eq_getElem_cons (by simpa using ht)]
    simp
  rw [this, List.filter_cons]
  split <;> simp

theorem l33_all {pg : Pg} (hF : Free pg) {r c a : Nat} (h : Brd r c) (ha : a < r * c) {base : Nat} {H0 : Heap} : ∀ (d t : Nat) (R : TV) (m : List Int) (H : Heap), t + d = r * c → m.length ≤ t → RowInv base H0 H R m →
    ∃ e R' H', den pg l33_1 [(0, .i .i64 (r : Int)), (1, .i .i64 (c : Int)), (2, .i .i64 (a : Int)), (7, R), (8, .i .i64 (t : Int))] H = some ⟨.exit 0, e, H'⟩ ∧ Dn.get e 7 = some R' ∧ RowInv base H0 H' R' (m ++ nI (((List.range (r * c)).drop t).filter (near c a)))
  | 0, t, R, m, H, hd, hm, hR => by
    obtain ⟨hcast, wn⟩ := rc_facts h
    obtain rfl : t = r * c := by omega
    refine ⟨_, R, H, by
      rw [hcast, l33_1, den_loop]
      simp [b33_0, go_nil, go_last, go_past, go_pastR, go_blkN, go_blkR, go_blkE, go_skip, go_exit, go_ret, go_scope, go_seq, go_reg, go_regd, go_opdN, go_opd, go_opdG, grdd_b, grdd_u, stpd_some, find_some, go_block, go_cond, cnd_b, go_opsN, go_ops, go_opsG, grd_b, grd_u, stp_some, fin_some, up_some, cont_some, k_call, k_mv, k_pick, k_bin, k_eqB, k_eqA, k_not, k_neg, k_conv, k_alloc, k_boxA, k_boxI, k_boxB, k_boxN, k_boxBs, k_ldR, k_ldA, k_ldI, k_ldB, k_stA, k_stI, k_stB, ldC_some, stC_some, k_mkfn, k_slc, k_slcA, k_ixA, k_ixBs, k_ixSl, k_fadr, k_fld, k_ext, k_len, k_app, k_mn, k_mx, k_nilck, k_build, k_bsl1, k_bsl2, b_add, b_sub, b_mul, b_eql, b_neq, b_lss, b_leq, b_gtr, b_geq, Dn.setLast, Dn.getLast, evalO, mapO, Dn.get, putE, keepE, TV.one, TV.isAgg, Dn.part, wn]
      rfl, rfl, ?_⟩
    rw [List.drop_eq_nil_of_le (by simp)]
    simpa [nI] using hR
  | d + 1, t, R, m, H, hd, hm, hR => by
    have hn := h.n36
    obtain ⟨hcast, wn⟩ := rc_facts h
    have c62 := fun K => call62 hF h.c1 h.c8 (a := a) (b := t) (by omega) (by omega) K
    rw [range_drop_filter _ (show t < r * c by omega)]
    cases hnr : near c a t with
    | false =>
      obtain ⟨e, R', H', h1, h2, h3⟩ := l33_all hF h ha d (t + 1) R m H (by omega) (by omega) hR
      refine ⟨e, R', H', Eq.trans ?_ h1, h2, by simpa using h3⟩
      rw [l33_1, den_loop]
      simp (disch := omega) [l33_1, b33_0, go_nil, go_last, go_past, go_pastR, go_blkN, go_blkR, go_blkE, go_skip, go_exit, go_ret, go_scope, go_seq, go_reg, go_regd, go_opdN, go_opd, go_opdG, grdd_b, grdd_u, stpd_some, find_some, go_block, go_cond, cnd_b, go_opsN, go_ops, go_opsG, grd_b, grd_u, stp_some, fin_some, up_some, cont_some, k_call, k_mv, k_pick, k_bin, k_eqB, k_eqA, k_not, k_neg, k_conv, k_alloc, k_boxA, k_boxI, k_boxB, k_boxN, k_boxBs, k_ldR, k_ldA, k_ldI, k_ldB, k_stA, k_stI, k_stB, ldC_some, stC_some, k_mkfn, k_slc, k_slcA, k_ixA, k_ixBs, k_ixSl, k_fadr, k_fld, k_ext, k_len, k_app, k_mn, k_mx, k_nilck, k_build, k_bsl1, k_bsl2, b_add, b_sub, b_mul, b_eql, b_neq, b_lss, b_leq, b_gtr, b_geq, Dn.setLast, Dn.getLast, evalO, mapO, Dn.get, putE, keepE_nil, keepE_cons, kp_some, kp_none, TV.one, TV.isAgg, Dn.part, negb, at0, at1, at2, at3, at4, dT, dF, wrapR_i64, Option.bind_some, Option.map_some, wn, c62, hnr]
    | true =>
      obtain ⟨R1, H1, p1, p2⟩ := hR.push (t : Int) (by omega)
      obtain ⟨e, R', H', h1, h2, h3⟩ := l33_all hF h ha d (t + 1) R1 (m ++ [(t : Int)]) H1 (by omega) (by simp; omega) p2
      refine ⟨e, R', H', Eq.trans ?_ h1, h2, by simpa [nI] using h3⟩
      rw [l33_1, den_loop]
      simp (disch := omega) [l33_1, b33_0, go_nil, go_last, go_past, go_pastR, go_blkN, go_blkR, go_blkE, go_skip, go_exit, go_ret, go_scope, go_seq, go_reg, go_regd, go_opdN, go_opd, go_opdG, grdd_b, grdd_u, stpd_some, find_some, go_block, go_cond, cnd_b, go_opsN, go_ops, go_opsG, grd_b, grd_u, stp_some, fin_some, up_some, cont_some, k_call, k_mv, k_pick, k_bin, k_eqB, k_eqA, k_not, k_neg, k_conv, k_alloc, k_boxA, k_boxI, k_boxB, k_boxN, k_boxBs, k_ldR, k_ldA, k_ldI, k_ldB, k_stA, k_stI, k_stB, ldC_some, stC_some, k_mkfn, k_slc, k_slcA, k_ixA, k_ixBs, k_ixSl, k_fadr, k_fld, k_ext, k_len, k_app, k_mn, k_mx, k_nilck, k_build, k_bsl1, k_bsl2, b_add, b_sub, b_mul, b_eql, b_neq, b_lss, b_leq, b_gtr, b_geq, Dn.setLast, Dn.getLast, evalO, mapO, Dn.get, putE, keepE_nil, keepE_cons, kp_some, kp_none, TV.one, TV.isAgg, Dn.part, negb, at0, at1, at2, at3, at4, dT, dF, wrapR_i64, Option.bind_some, Option.map_some, wn, c62, hnr, p1]

end Go.Proofs.Tryd.Dn

/-
  Knight: the reference's least numbers of steps.
-/

namespace Go.Proofs.Tryd.Dn
open Go.Dn

theorem fn33 {pg : Pg} (hF : Free pg) {r c a : Nat} (h : Brd r c) (ha : a < r * c) : PFn pg 33 [.i .i64 (r : Int), .i .i64 (c : Int), .i .i64 (a : Int)] (elI.lt false (nI (movR r c a))) := by
  obtain ⟨e, R', H', h1, h2, h3⟩ := l33_all (pg := pg) hF h ha (H0 := []) (r * c) 0 .nilsl [] [] (by omega) (by simp) (RowInv.nil [])
  simp only [List.drop_zero, List.nil_append, Int.natCast_zero] at h1 h3
  refine .inr ⟨hF.S _ _ (by decide), R', H', body_of (x := .ret) (e := [(6, R')]) (d := d33) (by rw [hF.F]; rfl) rfl ?_ (.inl rfl) rfl, h3.own.fin elI_flat⟩
  simp (disch := omega) [d33, c33, zipE, go_nil, go_last, go_past, go_pastR, go_blkN, go_blkR, go_blkE, go_skip, go_exit, go_ret, go_scope, go_seq, go_reg, go_regd, go_opdN, go_opd, go_opdG, grdd_b, grdd_u, stpd_some, find_some, go_block, go_cond, cnd_b, go_opsN, go_ops, go_opsG, grd_b, grd_u, stp_some, fin_some, up_some, cont_some, k_call, k_mv, k_pick, k_bin, k_eqB, k_eqA, k_not, k_neg, k_conv, k_alloc, k_boxA, k_boxI, k_boxB, k_boxN, k_boxBs, k_ldR, k_ldA, k_ldI, k_ldB, k_stA, k_stI, k_stB, ldC_some, stC_some, k_mkfn, k_slc, k_slcA, k_ixA, k_ixBs, k_ixSl, k_fadr, k_fld, k_ext, k_len, k_app, k_mn, k_mx, k_nilck, k_build, k_bsl1, k_bsl2, b_add, b_sub, b_mul, b_eql, b_neq, b_lss, b_leq, b_gtr, b_geq, Dn.setLast, Dn.getLast, evalO, mapO, Dn.get, putE, keepE_nil, keepE_cons, kp_some, kp_none, TV.one, TV.isAgg, Dn.part, negb, at0, at1, at2, at3, at4, dT, dF, wrapR_i64, Option.bind_some, Option.map_some, go_denK (c := l33_1) rfl, h1, h2]

theorem call33 {pg : Pg} (hF : Free pg) {r c a : Nat} (h : Brd r c) (ha : a < r * c) (H : Heap) : callRun pg (den pg) (.pu []) [.fn 33 [] [], .i .i64 (r : Int), .i .i64 (c : Int), .i .i64 (a : Int)] H = some (elI.lt false (nI (movR r c a)), H) :=
  PFn.call (fn33 hF h ha) (args := [.i .i64 (r : Int), .i .i64 (c : Int), .i .i64 (a : Int)]) (by simp [snapArgs, sn_i])

theorem nI_at {l : List Nat} {i x : Nat} (h : l[i]? = some x) : (nI l)[i]? = some (x : Int) := by unfold nI; rw [List.getElem?_map, h]; rfl

theorem movR_len (r c x : Nat) : (movR r c x).length ≤ r * c := by
  unfold movR
  exact Nat.le_trans (List.length_filter_le _ _) (by simp)

/-- the array and the queue of the search -/
structure BM (H : Heap) (O Q : TV) (o : List Int) (q : List Nat) : Prop where
  arr : elI.Arr H O o
  que : Que H Q (nI q)
  ne : O.idOf ≠ Q.idOf

theorem getD_some {l : List Int} {x : Nat} (hx : x < l.length) : l[x]? = some (l.getD x 0) := by
  rw [List.getD_eq_getElem?_getD, List.getElem?_eq_getElem hx]; rfl

theorem l31_3_all {pg : Pg} (hF : Free pg) {r c a i x : Nat} (h : Brd r c) (ha : a < r * c) : ∀ (d k : Nat) (o : List Int) (q : List Nat) (O Q : TV) (H : Heap), k + d = (movR r c x).length → BInv r c a i o q → q[i]? = some x → BM H O Q o q →
    ∃ e Q' H', den pg l31_3 [(0, .i .i64 (r : Int)), (1, .i .i64 (c : Int)), (7, O), (9, Q), (10, .i .i64 (i : Int)), (11, elI.lt false (nI (movR r c x))), (12, .i .i64 (k : Int))] H = some ⟨.exit 4, e, H'⟩ ∧
      keepE [0, 1, 7, 9, 10] e = [(0, .i .i64 (r : Int)), (1, .i .i64 (c : Int)), (7, O), (9, Q'), (10, .i .i64 (i : Int))] ∧ BM H' O Q' (((movR r c x).drop k).foldl (bfsK (lev r c a x)) (o, q)).1 (((movR r c x).drop k).foldl (bfsK (lev r c a x)) (o, q)).2
  | 0, k, o, q, O, Q, H, hd, hB, hx, hM => by
    have hlen := fun K => El.lt_len (E := elI) false (nI (movR r c x)) K
    rw [nI_len] at hlen
    generalize elI.lt false (nI (movR r c x)) = ML at *
    refine ⟨_, Q, H, by
      rw [l31_3, den_loop]
      simp (disch := omega) [b31_2, go_nil, go_last, go_past, go_pastR, go_blkN, go_blkR, go_blkE, go_skip, go_exit, go_ret, go_scope, go_seq, go_reg, go_regd, go_opdN, go_opd, go_opdG, grdd_b, grdd_u, stpd_some, find_some, go_block, go_cond, cnd_b, go_opsN, go_ops, go_opsG, grd_b, grd_u, stp_some, fin_some, up_some, cont_some, k_call, k_mv, k_pick, k_bin, k_eqB, k_eqA, k_not, k_neg, k_conv, k_alloc, k_boxA, k_boxI, k_boxB, k_boxN, k_boxBs, k_ldR, k_ldA, k_ldI, k_ldB, k_stA, k_stI, k_stB, ldC_some, stC_some, k_mkfn, k_slc, k_slcA, k_ixA, k_ixBs, k_ixSl, k_fadr, k_fld, k_ext, k_len, k_app, k_mn, k_mx, k_nilck, k_build, k_bsl1, k_bsl2, b_add, b_sub, b_mul, b_eql, b_neq, b_lss, b_leq, b_gtr, b_geq, Dn.setLast, Dn.getLast, evalO, mapO, Dn.get, putE, keepE_nil, keepE_cons, kp_some, kp_none, TV.one, TV.isAgg, Dn.part, negb, at0, at1, at2, at3, at4, dT, dF, wrapR_i64, Option.bind_some, Option.map_some, hlen]
      rfl, rfl, ?_⟩
    rw [List.drop_eq_nil_of_le (by omega)]
    exact hM
  | d + 1, k, o, q, O, Q, H, hd, hB, hx, hM => by
    have hk : k < (movR r c x).length := by omega
    have hn := h.n36
    have hml := movR_len r c x
    have hdr : (movR r c x).drop k = (movR r c x)[k] :: (movR r c x).drop (k + 1) := List.drop_eq_getElem_cons hk
    rw [hdr, List.foldl_cons]
    have hyk : (movR r c x)[k]? = some (movR r c x)[k] := List.getElem?_eq_getElem hk
    have hym : (movR r c x)[k] ∈ movR r c x := List.getElem_mem hk
    have hlen := fun K => El.lt_len (E := elI) false (nI (movR r c x)) K
    have hMv := fun K => El.lt_view (E := elI) false (nI (movR r c x)) K
    rw [nI_len] at hlen
    have hix := fun K => ixI (pg := pg) (R := den pg) (hMv K) (nI_at hyk)
    generalize (movR r c x)[k] = y at *
    obtain ⟨hyr, hyn⟩ := movR_mem.1 hym
    obtain ⟨z1, z2, t, z3⟩ := hB.look h ha hx hyr hyn
    have hqi := (List.getElem?_eq_some_iff.1 hx).1
    have hql := hB.short
    have hxq : x ∈ q := List.mem_of_getElem? hx
    have hxr := hB.lt x hxq
    have hvx := hB.val x hxr
    rw [if_pos hxq] at hvx
    have hvy := hB.val y hyr
    have hol := hB.len
    obtain ⟨im, m1, m2⟩ := hix H
    obtain ⟨yi, yo, y0, y1, y2, y3⟩ := arrI (pg := pg) (R := den pg) hM.arr (getD_some (l := o) (x := y) (by omega))
    have hx' : (bfsK (lev r c a x) (o, q) y).2[i]? = some x := by rw [z3, List.getElem?_append_left hqi]; exact hx
    by_cases hyq : y ∈ q
    · rw [if_pos hyq] at hvy
      rw [hvy] at y2
      have hst : bfsK (lev r c a x) (o, q) y = (o, q) := by unfold bfsK; rw [if_neg (by simp only; omega)]
      rw [hst]
      obtain ⟨e, Q', H', e1, e2, e3⟩ := l31_3_all hF h ha d (k + 1) o q O Q H (by omega) hB hx hM
      refine ⟨e, Q', H', Eq.trans ?_ e1, e2, e3⟩
      generalize elI.lt false (nI (movR r c x)) = ML at *
      generalize lev r c a y = ly at *
      rw [l31_3, den_loop]
      simp (disch := omega) [l31_3, b31_2, go_nil, go_last, go_past, go_pastR, go_blkN, go_blkR, go_blkE, go_skip, go_exit, go_ret, go_scope, go_seq, go_reg, go_regd, go_opdN, go_opd, go_opdG, grdd_b, grdd_u, stpd_some, find_some, go_block, go_cond, cnd_b, go_opsN, go_ops, go_opsG, grd_b, grd_u, stp_some, fin_some, up_some, cont_some, k_call, k_mv, k_pick, k_bin, k_eqB, k_eqA, k_not, k_neg, k_conv, k_alloc, k_boxA, k_boxI, k_boxB, k_boxN, k_boxBs, k_ldR, k_ldA, k_ldI, k_ldB, k_stA, k_stI, k_stB, ldC_some, stC_some, k_mkfn, k_slc, k_slcA, k_ixA, k_ixBs, k_ixSl, k_fadr, k_fld, k_ext, k_len, k_app, k_mn, k_mx, k_nilck, k_build, k_bsl1, k_bsl2, b_add, b_sub, b_mul, b_eql, b_neq, b_lss, b_leq, b_gtr, b_geq, Dn.setLast, Dn.getLast, evalO, mapO, Dn.get, putE, keepE_nil, keepE_cons, kp_some, kp_none, TV.one, TV.isAgg, Dn.part, negb, at0, at1, at2, at3, at4, dT, dF, wrapR_i64, Option.bind_some, Option.map_some, hlen, m1, m2, y1, y2]
    · rw [if_neg hyq] at hvy
      rw [hvy] at y2
      have hst : bfsK (lev r c a x) (o, q) y = (o.set y (lev r c a x + 1), q ++ [y]) := by unfold bfsK; rw [if_pos (by simp only; omega)]
      rw [hst] at z1 hx' ⊢
      obtain ⟨qi, q1, q2⟩ := ixI (pg := pg) (R := den pg) hM.que.view (nI_at hx)
      obtain ⟨xi, xo, x0, x1, x2, _⟩ := arrI (pg := pg) (R := den pg) hM.arr (getD_some (l := o) (x := x) (by omega))
      rw [hvx] at x2
      obtain ⟨H1, s1, s2, s3, s4⟩ := y3 ((lev r c a x : Int) + 1)
      have hq1 : Que H1 Q (nI q) := hM.que.mono fun id hid => s4 id (fun he => hM.ne (by rw [he, hid]))
      obtain ⟨Q1, H2, p1, p2, p3, p4, p5⟩ := hq1.app (x := (y : Int)) (by rw [nI_len]; omega)
      obtain ⟨m1', m1a, m1b⟩ := hix H1
      have hlev : lev r c a x ≤ 64 := by
        have h0 := hB.at_ x hxq
        obtain ⟨N, hN, hz⟩ := lv_end h ha
        apply Classical.byContradiction
        intro hc
        have w1 := front_walks h ha _ x hxr h0
        have w2 := no_steps h ha hxr (N := N) hz (fun k hk => by
          cases hb : (front r c a k).testBit x with
          | false => rfl
          | true => have := front_uniq h ha hb h0; omega) (lev r c a x)
        omega
      have hO1 : elI.Arr H2 O (o.set y ((lev r c a x : Int) + 1)) := s2.mono fun id hid => p4 id (s2.lt id hid) (fun he => hM.ne (by rw [he, hid]))
      have hM2 : BM H2 O Q1 (o.set y ((lev r c a x : Int) + 1)) (q ++ [y]) := by
        refine ⟨hO1, by simpa [nI] using p2, ?_⟩
        rcases p5 with p5 | p5
        · rw [p5]; exact hM.ne
        · intro he
          rw [y0] at he
          have := p5 yi he.symm
          have := s2.lt yi y0
          omega
      obtain ⟨e, Q', H', e1, e2, e3⟩ := l31_3_all hF h ha d (k + 1) _ _ O Q1 H2 (by omega) z1 hx' hM2
      refine ⟨e, Q', H', Eq.trans ?_ e1, e2, e3⟩
      generalize elI.lt false (nI (movR r c x)) = ML at *
      generalize lev r c a x = lx at *
      rw [l31_3, den_loop]
      simp (disch := omega) [l31_3, b31_2, go_nil, go_last, go_past, go_pastR, go_blkN, go_blkR, go_blkE, go_skip, go_exit, go_ret, go_scope, go_seq, go_reg, go_regd, go_opdN, go_opd, go_opdG, grdd_b, grdd_u, stpd_some, find_some, go_block, go_cond, cnd_b, go_opsN, go_ops, go_opsG, grd_b, grd_u, stp_some, fin_some, up_some, cont_some, k_call, k_mv, k_pick, k_bin, k_eqB, k_eqA, k_not, k_neg, k_conv, k_alloc, k_boxA, k_boxI, k_boxB, k_boxN, k_boxBs, k_ldR, k_ldA, k_ldI, k_ldB, k_stA, k_stI, k_stB, ldC_some, stC_some, k_mkfn, k_slc, k_slcA, k_ixA, k_ixBs, k_ixSl, k_fadr, k_fld, k_ext, k_len, k_app, k_mn, k_mx, k_nilck, k_build, k_bsl1, k_bsl2, b_add, b_sub, b_mul, b_eql, b_neq, b_lss, b_leq, b_gtr, b_geq, Dn.setLast, Dn.getLast, evalO, mapO, Dn.get, putE, keepE_nil, keepE_cons, kp_some, kp_none, TV.one, TV.isAgg, Dn.part, negb, at0, at1, at2, at3, at4, dT, dF, wrapR_i64, Option.bind_some, Option.map_some, hlen, m1, m2, y1, y2, q1, q2, x1, x2, s1, m1a, m1b, p1]

theorem l31_5_all {pg : Pg} (hF : Free pg) {r c a : Nat} (h : Brd r c) (ha : a < r * c) : ∀ (d i : Nat) (o : List Int) (q : List Nat) (O Q : TV) (H : Heap), i + d = r * c → i ≤ q.length → BInv r c a i o q → BM H O Q o q →
    ∃ e H' o', den pg l31_5 [(0, .i .i64 (r : Int)), (1, .i .i64 (c : Int)), (7, O), (9, Q), (10, .i .i64 (i : Int))] H = some ⟨.exit 2, e, H'⟩ ∧ Dn.get e 7 = some O ∧ elI.Arr H' O o' ∧ o'.length = r * c ∧
      ∀ b, b < r * c → (∃ m : Nat, (front r c a m).testBit b = true ∧ o'.getD b 0 = (m : Int)) ∨ ((∀ m, (front r c a m).testBit b = false) ∧ o'.getD b 0 = -1) := by
  intro d
  induction d with
  | zero =>
    intro i o q O Q H hd hi hB hM
    have hq := hB.short
    have hlen := fun K => hM.que.view.lenK K
    rw [nI_len] at hlen
    refine ⟨_, H, o, by
      rw [l31_5, den_loop]
      simp (disch := omega) [b31_4, go_nil, go_last, go_past, go_pastR, go_blkN, go_blkR, go_blkE, go_skip, go_exit, go_ret, go_scope, go_seq, go_reg, go_regd, go_opdN, go_opd, go_opdG, grdd_b, grdd_u, stpd_some, find_some, go_block, go_cond, cnd_b, go_opsN, go_ops, go_opsG, grd_b, grd_u, stp_some, fin_some, up_some, cont_some, k_call, k_mv, k_pick, k_bin, k_eqB, k_eqA, k_not, k_neg, k_conv, k_alloc, k_boxA, k_boxI, k_boxB, k_boxN, k_boxBs, k_ldR, k_ldA, k_ldI, k_ldB, k_stA, k_stI, k_stB, ldC_some, stC_some, k_mkfn, k_slc, k_slcA, k_ixA, k_ixBs, k_ixSl, k_fadr, k_fld, k_ext, k_len, k_app, k_mn, k_mx, k_nilck, k_build, k_bsl1, k_bsl2, b_add, b_sub, b_mul, b_eql, b_neq, b_lss, b_leq, b_gtr, b_geq, Dn.setLast, Dn.getLast, evalO, mapO, Dn.get, putE, keepE_nil, keepE_cons, kp_some, kp_none, TV.one, TV.isAgg, Dn.part, negb, at0, at1, at2, at3, at4, dT, dF, wrapR_i64, Option.bind_some, Option.map_some, hlen]
      rfl, rfl, hM.arr, hB.len, fun b hb => hB.done h ha (by omega) hb⟩
  | succ d ih =>
    intro i o q O Q H hd hi hB hM
    have hn := h.n36
    have hq := hB.short
    have hlen := fun K => hM.que.view.lenK K
    rw [nI_len] at hlen
    by_cases hlt : i < q.length
    · have hx : q[i]? = some q[i] := List.getElem?_eq_getElem hlt
      have hxm : q[i] ∈ q := List.getElem_mem hlt
      generalize q[i] = x at *
      have hxr := hB.lt x hxm
      obtain ⟨qi, q1, q2⟩ := ixI (pg := pg) (R := den pg) hM.que.view (nI_at hx)
      have c33 := call33 (pg := pg) hF h hxr H
      obtain ⟨e, Q', H', e1, e2, e3⟩ := l31_3_all (pg := pg) hF h ha (movR r c x).length 0 o q O Q H (by omega) hB hx hM
      rw [List.drop_zero] at e3
      simp only [Int.natCast_zero] at e1
      obtain ⟨n1, t, n2⟩ := hB.step h ha hx
      have g0 := keep_get e2 (s := 0) (by simp) rfl
      have g1 := keep_get e2 (s := 1) (by simp) rfl
      have g7 := keep_get e2 (s := 7) (by simp) rfl
      have g9 := keep_get e2 (s := 9) (by simp) rfl
      have g10 := keep_get e2 (s := 10) (by simp) rfl
      obtain ⟨e', H'', o', f1, f2⟩ := ih (i + 1) _ _ O Q' H' (by omega) (by rw [n2]; simp; omega) n1 e3
      refine ⟨e', H'', o', Eq.trans ?_ f1, f2⟩
      generalize elI.lt false (nI (movR r c x)) = ML at *
      rw [l31_5, den_loop]
      simp (disch := omega) [l31_5, b31_4, go_nil, go_last, go_past, go_pastR, go_blkN, go_blkR, go_blkE, go_skip, go_exit, go_ret, go_scope, go_seq, go_reg, go_regd, go_opdN, go_opd, go_opdG, grdd_b, grdd_u, stpd_some, find_some, go_block, go_cond, cnd_b, go_opsN, go_ops, go_opsG, grd_b, grd_u, stp_some, fin_some, up_some, cont_some, k_call, k_mv, k_pick, k_bin, k_eqB, k_eqA, k_not, k_neg, k_conv, k_alloc, k_boxA, k_boxI, k_boxB, k_boxN, k_boxBs, k_ldR, k_ldA, k_ldI, k_ldB, k_stA, k_stI, k_stB, ldC_some, stC_some, k_mkfn, k_slc, k_slcA, k_ixA, k_ixBs, k_ixSl, k_fadr, k_fld, k_ext, k_len, k_app, k_mn, k_mx, k_nilck, k_build, k_bsl1, k_bsl2, b_add, b_sub, b_mul, b_eql, b_neq, b_lss, b_leq, b_gtr, b_geq, Dn.setLast, Dn.getLast, evalO, mapO, Dn.get, putE, keepE_nil, keepE_cons, kp_some, kp_none, TV.one, TV.isAgg, Dn.part, negb, at0, at1, at2, at3, at4, dT, dF, wrapR_i64, Option.bind_some, Option.map_some, hlen, q1, q2, c33, go_denK (c := l31_3) rfl, e1, g0, g1, g7, g9, g10]
    · refine ⟨_, H, o, by
        rw [l31_5, den_loop]
        simp (disch := omega) [b31_4, go_nil, go_last, go_past, go_pastR, go_blkN, go_blkR, go_blkE, go_skip, go_exit, go_ret, go_scope, go_seq, go_reg, go_regd, go_opdN, go_opd, go_opdG, grdd_b, grdd_u, stpd_some, find_some, go_block, go_cond, cnd_b, go_opsN, go_ops, go_opsG, grd_b, grd_u, stp_some, fin_some, up_some, cont_some, k_call, k_mv, k_pick, k_bin, k_eqB, k_eqA, k_not, k_neg, k_conv, k_alloc, k_boxA, k_boxI, k_boxB, k_boxN, k_boxBs, k_ldR, k_ldA, k_ldI, k_ldB, k_stA, k_stI, k_stB, ldC_some, stC_some, k_mkfn, k_slc, k_slcA, k_ixA, k_ixBs, k_ixSl, k_fadr, k_fld, k_ext, k_len, k_app, k_mn, k_mx, k_nilck, k_build, k_bsl1, k_bsl2, b_add, b_sub, b_mul, b_eql, b_neq, b_lss, b_leq, b_gtr, b_geq, Dn.setLast, Dn.getLast, evalO, mapO, Dn.get, putE, keepE_nil, keepE_cons, kp_some, kp_none, TV.one, TV.isAgg, Dn.part, negb, at0, at1, at2, at3, at4, dT, dF, wrapR_i64, Option.bind_some, Option.map_some, hlen]
        rfl, rfl, hM.arr, hB.len, fun b hb => hB.done h ha (by omega) hb⟩

theorem l31_1_all {pg : Pg} (hF : Free pg) {r c : Nat} (h : Brd r c) {A O : TV} : ∀ (d i : Nat) (H : Heap), i + d = r * c → elI.Arr H O (List.replicate i (-1) ++ List.replicate d 0) →
    ∃ e H', den pg l31_1 [(0, .i .i64 (r : Int)), (1, .i .i64 (c : Int)), (2, A), (7, O), (8, .i .i64 (i : Int))] H = some ⟨.exit 0, e, H'⟩ ∧ keepE [0, 1, 2, 7] e = [(0, .i .i64 (r : Int)), (1, .i .i64 (c : Int)), (2, A), (7, O)] ∧ elI.Arr H' O (List.replicate (r * c) (-1)) ∧ H'.length = H.length
  | 0, i, H, hd, hO => by
    obtain ⟨hcast, wn⟩ := rc_facts h
    obtain rfl : i = r * c := by omega
    refine ⟨_, H, by
      rw [hcast, l31_1, den_loop]
      simp (disch := omega) [b31_0, go_nil, go_last, go_past, go_pastR, go_blkN, go_blkR, go_blkE, go_skip, go_exit, go_ret, go_scope, go_seq, go_reg, go_regd, go_opdN, go_opd, go_opdG, grdd_b, grdd_u, stpd_some, find_some, go_block, go_cond, cnd_b, go_opsN, go_ops, go_opsG, grd_b, grd_u, stp_some, fin_some, up_some, cont_some, k_call, k_mv, k_pick, k_bin, k_eqB, k_eqA, k_not, k_neg, k_conv, k_alloc, k_boxA, k_boxI, k_boxB, k_boxN, k_boxBs, k_ldR, k_ldA, k_ldI, k_ldB, k_stA, k_stI, k_stB, ldC_some, stC_some, k_mkfn, k_slc, k_slcA, k_ixA, k_ixBs, k_ixSl, k_fadr, k_fld, k_ext, k_len, k_app, k_mn, k_mx, k_nilck, k_build, k_bsl1, k_bsl2, b_add, b_sub, b_mul, b_eql, b_neq, b_lss, b_leq, b_gtr, b_geq, Dn.setLast, Dn.getLast, evalO, mapO, Dn.get, putE, keepE_nil, keepE_cons, kp_some, kp_none, TV.one, TV.isAgg, Dn.part, negb, at0, at1, at2, at3, at4, dT, dF, wrapR_i64, Option.bind_some, Option.map_some, wn]
      rfl, rfl, by simpa using hO, rfl⟩
  | d + 1, i, H, hd, hO => by
    have hn := h.n36
    obtain ⟨hcast, wn⟩ := rc_facts h
    obtain ⟨id, o, a0, a1, a2, a3⟩ := arrI (pg := pg) (R := den pg) hO (i := i) (x := 0) (by rw [List.getElem?_append_right (by simp)]; simp)
    obtain ⟨H1, s1, s2, s3, s4⟩ := a3 (-1)
    have hs : (List.replicate i (-1 : Int) ++ List.replicate (d + 1) 0).set i (-1) = List.replicate (i + 1) (-1) ++ List.replicate d 0 := by
      rw [List.set_append_right _ _ (by simp), List.length_replicate, Nat.sub_self, List.replicate_succ, List.set_cons_zero, List.replicate_succ']
      simp
    rw [hs] at s2
    obtain ⟨e, H', e1, e2, e3, e4⟩ := l31_1_all hF h (A := A) d (i + 1) H1 (by omega) s2
    refine ⟨e, H', Eq.trans ?_ e1, e2, e3, by omega⟩
    rw [l31_1, den_loop]
    simp (disch := omega) [l31_1, b31_0, go_nil, go_last, go_past, go_pastR, go_blkN, go_blkR, go_blkE, go_skip, go_exit, go_ret, go_scope, go_seq, go_reg, go_regd, go_opdN, go_opd, go_opdG, grdd_b, grdd_u, stpd_some, find_some, go_block, go_cond, cnd_b, go_opsN, go_ops, go_opsG, grd_b, grd_u, stp_some, fin_some, up_some, cont_some, k_call, k_mv, k_pick, k_bin, k_eqB, k_eqA, k_not, k_neg, k_conv, k_alloc, k_boxA, k_boxI, k_boxB, k_boxN, k_boxBs, k_ldR, k_ldA, k_ldI, k_ldB, k_stA, k_stI, k_stB, ldC_some, stC_some, k_mkfn, k_slc, k_slcA, k_ixA, k_ixBs, k_ixSl, k_fadr, k_fld, k_ext, k_len, k_app, k_mn, k_mx, k_nilck, k_build, k_bsl1, k_bsl2, b_add, b_sub, b_mul, b_eql, b_neq, b_lss, b_leq, b_gtr, b_geq, Dn.setLast, Dn.getLast, evalO, mapO, Dn.get, putE, keepE_nil, keepE_cons, kp_some, kp_none, TV.one, TV.isAgg, Dn.part, negb, at0, at1, at2, at3, at4, dT, dF, wrapR_i64, Option.bind_some, Option.map_some, wn, a1, s1]

end Go.Proofs.Tryd.Dn

