/-
  Observations, what they cost, and what is preferred: in plain terms.
-/
import Derived.Test.YtgmlmmgpcbollaaDoorDd
import Derived.Test.YtgmlmmgpcbollaaDoorPriDT
set_option linter.unusedSimpArgs false
set_option linter.unusedVariables false

namespace Go.Proofs.Tryd.Dn
open Go.Dn

abbrev Obs := List Int × List Int

def dot : List Int → List Int → Int
  | p :: ps, b :: bs => p * b + dot ps bs
  | _, _ => 0

def okObs (g : Nat) (x : Obs) : Bool := x.1.length == g && x.2.length == g && x.1.all (fun p => decide (1 ≤ p) && decide (p ≤ 20)) && x.2.all (fun p => decide (0 ≤ p) && decide (p ≤ 20)) && x.2.any (fun p => decide (0 < p))

def goodsOf : List Obs → Nat
  | [] => 0
  | x :: _ => x.1.length

/-- whether these are observations -/
def market (X : List Obs) : Bool := decide (1 ≤ X.length) && decide (X.length ≤ 5) && decide (1 ≤ goodsOf X) && decide (goodsOf X ≤ 3) && X.all (okObs (goodsOf X))

theorem okObs_iff {g : Nat} {x : Obs} : okObs g x = true ↔ x.1.length = g ∧ x.2.length = g ∧ (∀ p ∈ x.1, 1 ≤ p ∧ p ≤ 20) ∧ (∀ p ∈ x.2, 0 ≤ p ∧ p ≤ 20) ∧ ∃ p ∈ x.2, 0 < p := by
  simp [okObs, and_assoc]

structure Market (X : List Obs) (g : Nat) : Prop where
  n1 : 1 ≤ X.length
  n5 : X.length ≤ 5
  g1 : 1 ≤ g
  g3 : g ≤ 3
  ok : ∀ x ∈ X, okObs g x = true

theorem market_iff {X : List Obs} : market X = true ↔ Market X (goodsOf X) := by
  simp only [market, Bool.and_eq_true, decide_eq_true_eq, List.all_eq_true]
  exact ⟨fun ⟨⟨⟨⟨a, b⟩, c⟩, d⟩, e⟩ => ⟨a, b, c, d, e⟩, fun ⟨a, b, c, d, e⟩ => ⟨⟨⟨⟨a, b⟩, c⟩, d⟩, e⟩⟩

theorem market_of {X : List Obs} {g : Nat} (h : Market X g) : market X = true := by
  have : goodsOf X = g := by
    match X, h.n1, h.ok with
    | x :: X, _, hk => exact (okObs_iff.1 (hk x (by simp))).1
  rw [market_iff, this]
  exact h

theorem dot_le : ∀ {ps bs : List Int} {g : Nat}, ps.length = g → bs.length = g → (∀ p ∈ ps, 1 ≤ p ∧ p ≤ 20) → (∀ p ∈ bs, 0 ≤ p ∧ p ≤ 20) → 0 ≤ dot ps bs ∧ dot ps bs ≤ 400 * (g : Int)
  | [], _, g, h, _, _, _ => by subst h; simp [dot]
  | p :: ps, [], g, h, h2, _, _ => by subst h; simp at h2
  | p :: ps, b :: bs, g, h, h2, h3, h4 => by
    subst h
    have hp := h3 p (by simp)
    have hb := h4 b (by simp)
    have ih := dot_le (ps := ps) (bs := bs) rfl (by simpa using h2) (fun p hp => h3 p (by simp [hp])) (fun p hp => h4 p (by simp [hp]))
    have h5 : 0 ≤ p * b := Int.mul_nonneg (by omega) hb.1
    have h6 : p * b ≤ 20 * 20 := Int.mul_le_mul hp.2 hb.2 hb.1 (by omega)
    simp only [dot, List.length_cons]
    omega

theorem dot_pos : ∀ {ps bs : List Int} {g : Nat}, ps.length = g → bs.length = g → (∀ p ∈ ps, 1 ≤ p ∧ p ≤ 20) → (∀ p ∈ bs, 0 ≤ p ∧ p ≤ 20) → (∃ p ∈ bs, 0 < p) → 1 ≤ dot ps bs
  | [], [], g, h, _, _, _, h5 => by simp at h5
  | [], _ :: _, g, h, h2, _, _, h5 => by subst h; simp at h2
  | p :: ps, [], g, h, h2, _, _, h5 => by simp at h5
  | p :: ps, b :: bs, g, h, h2, h3, h4, h5 => by
    subst h
    have hp := h3 p (by simp)
    have hb := h4 b (by simp)
    have h6 := dot_le (ps := ps) (bs := bs) rfl (by simpa using h2) (fun p hp => h3 p (by simp [hp])) (fun p hp => h4 p (by simp [hp]))
    have h7 : 0 ≤ p * b := Int.mul_nonneg (by omega) hb.1
    simp only [dot]
    by_cases hb0 : 0 < b
    · have : 1 * 1 ≤ p * b := Int.mul_le_mul hp.1 (by omega) (by omega) (by omega)
      omega
    · have := dot_pos (ps := ps) (bs := bs) rfl (by simpa using h2) (fun p hp => h3 p (by simp [hp])) (fun p hp => h4 p (by simp [hp])) (by
        obtain ⟨q, hq, h0⟩ := h5
        rcases List.mem_cons.1 hq with rfl | hq
        · exact absurd h0 hb0
        · exact ⟨q, hq, h0⟩)
      omega

/-- the cost of bundle k at the prices of i -/
def costOf (X : List Obs) (i k : Nat) : Int := dot ((X[i]?.map (·.1)).getD []) ((X[k]?.map (·.2)).getD [])

theorem Market.cost {X : List Obs} {g : Nat} (h : Market X g) {i k : Nat} (hi : i < X.length) (hk : k < X.length) : 0 ≤ costOf X i k ∧ costOf X i k ≤ 1200 := by
  obtain ⟨a1, a2, a3, a4, a5⟩ := okObs_iff.1 (h.ok X[i] (List.getElem_mem hi))
  obtain ⟨b1, b2, b3, b4, b5⟩ := okObs_iff.1 (h.ok X[k] (List.getElem_mem hk))
  have := dot_le a1 b2 a3 b4
  have := h.g3
  simp only [costOf, List.getElem?_eq_getElem hi, List.getElem?_eq_getElem hk, Option.map_some, Option.getD_some]
  omega

theorem Market.own {X : List Obs} {g : Nat} (h : Market X g) {i : Nat} (hi : i < X.length) : 1 ≤ costOf X i i := by
  obtain ⟨a1, a2, a3, a4, a5⟩ := okObs_iff.1 (h.ok X[i] (List.getElem_mem hi))
  simp only [costOf, List.getElem?_eq_getElem hi, Option.map_some, Option.getD_some]
  exact dot_pos a1 a2 a3 a4 a5

def costRow (X : List Obs) (i : Nat) : List Int := (List.range X.length).map fun k => costOf X i k
def costs (X : List Obs) : List (List Int) := (List.range X.length).map (costRow X)

/-- whether one is preferred to another one, by a share -/
def pref (X : List Obs) (a b : Int) (i k : Nat) : Int :=
  if b * costOf X i k < a * costOf X i i then 2 else if b * costOf X i k = a * costOf X i i then 1 else 0
def prefRow (X : List Obs) (a b : Int) (i : Nat) : List Int := (List.range X.length).map fun k => pref X a b i k
def prefs (X : List Obs) (a b : Int) : List (List Int) := (List.range X.length).map (prefRow X a b)

end Go.Proofs.Tryd.Dn

/-
  Observations copied: few, given, own.
-/

namespace Go.Proofs.Tryd.Dn
open Go.Dn

/-- known answers are not in the way -/
structure Free (pg : Pg) : Prop where
  F : pg.F = tab.look
  G : pg.G 0 = some (.agg [.i .i64 1, .i .i64 1])
  S : ∀ f xs, f ≠ 24 → pg.S f xs = none

theorem mn_nat (n m : Nat) : (if (n : Int) < (m : Int) then (n : Int) else (m : Int)) = ((min n m : Nat) : Int) := by
  split <;> omega

theorem fn29 {pg : Pg} (hF : Free pg) {t : TV} {l : List Int} (ht : SV t l) {n : Nat} (hn : n ≤ 1000) : PFn pg 29 [t, .i .i64 (n : Int)] (elI.lt false (l.take n)) := by
  have hlen := (ht.view []).lenK
  obtain ⟨v, hv, hview, _⟩ := (ht.view []).slc (lo := 0) (hi := min n l.length) (bl := false) (bh := true) (vs := [.i .i64 ((min n l.length : Nat) : Int)]) (by omega) (by omega) (by simp [bounds3, bound])
  have htk : (l.take (min n l.length)).drop 0 = l.take n := by
    rw [List.drop_zero]
    by_cases h : n ≤ l.length
    · rw [Nat.min_eq_left h]
    · rw [Nat.min_eq_right (by omega), List.take_length, List.take_of_length_le (by omega)]
  rw [htk] at hview
  obtain ⟨t', H', ha, ho, _⟩ := El.app (E := elI) (bytes := 8) (H := []) (t := .nilsl) (l := []) (.inl ⟨rfl, rfl⟩) hview (by simp; omega)
  rw [List.nil_append] at ho
  have ha' : appRun 1 false 8 .nilsl v [] = some (t', H') := ha
  have hv' : slcRun false true false 1 false t [.i .i64 ((min n l.length : Nat) : Int)] = some v := hv
  rw [← mn_nat] at hv'
  simp only [Int.ofNat_lt] at hv'
  refine .of_go (x := .ret) (e := [(4, t')]) (H' := H') (vs := [t']) (hF.S _ _ (by decide)) (d := d29) (by rw [hF.F]; rfl) rfl ?_ (.inl rfl) rfl (ho.fin elI_flat)
  simp [d29, c29, zipE, go_nil, go_last, go_past, go_pastR, go_blkN, go_blkR, go_blkE, go_skip, go_exit, go_ret, go_scope, go_seq, go_reg, go_regd, go_opdN, go_opd, go_opdG, grdd_b, grdd_u, stpd_some, find_some, go_block, go_cond, cnd_b, go_opsN, go_ops, go_opsG, grd_b, grd_u, stp_some, fin_some, up_some, cont_some, k_call, k_mv, k_pick, k_bin, k_eqB, k_eqA, k_not, k_neg, k_conv, k_alloc, k_boxA, k_boxI, k_boxB, k_boxN, k_boxBs, k_ldR, k_ldA, k_ldI, k_ldB, k_stA, k_stI, k_stB, ldC_some, stC_some, k_mkfn, k_slc, k_slcA, k_ixA, k_ixBs, k_ixSl, k_fadr, k_fld, k_ext, k_len, k_app, k_mn, k_mx, k_nilck, k_build, k_bsl1, k_bsl2, b_add, b_sub, b_mul, b_eql, b_neq, b_lss, b_leq, b_gtr, b_geq, Dn.setLast, Dn.getLast, evalO, mapO, Dn.get, putE, keepE, TV.one, TV.isAgg, Dn.part, hlen, hv', ha']

theorem call29 {pg : Pg} (hF : Free pg) {a : TV} {l : List Int} (ha : SV a l) {n : Nat} (hn : n ≤ 1000) (H : Heap) : callRun pg (den pg) (.pu []) [.fn 29 [] [], a, .i .i64 (n : Int)] H = some (elI.lt false (l.take n), H) := by
  obtain ⟨a', h1, h2⟩ := ha.snap H 7
  exact PFn.call (fn29 hF h2 hn) (args := [a, .i .i64 (n : Int)]) (by simp [snapArgs, sn_i, h1])

section
variable {pg : Pg} {R : Rec}
theorem k_buildS (b c : Bool) (p q : List Int) (H : Heap) : dkc pg R (.build [.nilsl, .nilsl] [(0, 1), (1, 1)]) [elI.lt b p, elI.lt c q] H = some (.agg [elI.lt b p, elI.lt c q], H) := by
  rw [k_build]
  simp [fillP, El.lt_cells, El.lt_one, put2, up]
theorem k_bslS (b c : Bool) (p q : List Int) (H : Heap) : dkc pg R (.bsl false [.nilsl, .nilsl] true 1 [0]) [.agg [elI.lt b p, elI.lt c q]] H = some (.sl H.length 0 2 true 1 (some 1), H ++ [.cells [elI.lt b p, elI.lt c q] false]) := by
  simp [dkc, dk, fillP, repl, put2, TV.cells, El.lt_one]
end

theorem one_viewE {α : Type} (E : El α) (H : Heap) (x : α) : E.View (H ++ [.cells (E.enc x) false]) (.sl H.length 0 E.sz E.ag 1 (some 1)) [x] :=
  .inr (.inr ⟨H.length, 0, some 1, _, false, rfl, by simp, getLast _ _, by simp [E.len], by
    rw [List.drop_zero, E.flat_one, List.length_singleton, Nat.one_mul, ← E.len x, List.take_length]⟩)

def cut (n : Nat) (x : Obs) : Obs := (x.1.take n, x.2.take n)

theorem l18_round {pg : Pg} (hF : Free pg) {T out : TV} {l m : List Obs} {i : Nat} {x : Obs} {H : Heap} (hT : Rws T l) (hx : l[i]? = some x) (hl : l.length ≤ 9223372036854775807) (ho : (elS false).Own H out m) (hm : m.length ≤ 1000000) :
    ∃ out' H', den pg l18_1 [(0, T), (3, out), (4, .i .i64 (i : Int))] H = den pg l18_1 [(0, T), (3, out'), (4, .i .i64 ((i + 1 : Nat) : Int))] H' ∧ (elS false).Own H' out' (m ++ [cut 4 x]) := by
  have hi := (List.getElem?_eq_some_iff.1 hx).1
  have e1 : ((i : Int) < (l.length : Int)) := by omega
  have e2 : wrapR .i64 ((i : Int) + 1) = .i .i64 ((i : Int) + 1) := wrapR_i64 (by omega)
  have hlen := hT.len
  obtain ⟨b, a, c, hix, ha, hc⟩ := hT.ix (pg := pg) (R := den pg) hx H
  obtain ⟨f1, f2⟩ := k_fadrP (pg := pg) (R := den pg) b a c ha.noagg hc.noagg H
  have d1 := k_ldV (pg := pg) (R := den pg) b a ha.one H
  have d2 := k_ldV (pg := pg) (R := den pg) b c hc.one H
  have c1 := call29 hF ha (n := 4) (by omega) H
  have c2 := call29 hF hc (n := 4) (by omega) H
  simp only [Int.cast_ofNat_Int] at c1 c2
  have k1 := k_buildS (pg := pg) (R := den pg) false false (x.1.take 4) (x.2.take 4) H
  have k2 := k_bslS (pg := pg) (R := den pg) false false (x.1.take 4) (x.2.take 4) H
  obtain ⟨out', H', h1, h2, _⟩ := El.app (E := elS false) (bytes := 48) (H := H ++ [.cells [elI.lt false (x.1.take 4), elI.lt false (x.2.take 4)] false]) (ho.mono fun id hid => by rw [List.getElem?_append_left (ho.lt id hid)]) (one_viewE (elS false) H (cut 4 x)) (by simp; omega)
  have h1' : appRun 2 true 48 out (.sl H.length 0 2 true 1 (some 1)) (H ++ [.cells [elI.lt false (x.1.take 4), elI.lt false (x.2.take 4)] false]) = some (out', H') := h1
  refine ⟨out', H', ?_, h2⟩
  rw [l18_1, den_loop]
  simp [l18_1, b18_0, go_nil, go_last, go_past, go_pastR, go_blkN, go_blkR, go_blkE, go_skip, go_exit, go_ret, go_scope, go_seq, go_reg, go_regd, go_opdN, go_opd, go_opdG, grdd_b, grdd_u, stpd_some, find_some, go_block, go_cond, cnd_b, go_opsN, go_ops, go_opsG, grd_b, grd_u, stp_some, fin_some, up_some, cont_some, k_call, k_mv, k_pick, k_bin, k_eqB, k_eqA, k_not, k_neg, k_conv, k_alloc, k_boxA, k_boxI, k_boxB, k_boxN, k_boxBs, k_ldR, k_ldA, k_ldI, k_ldB, k_stA, k_stI, k_stB, ldC_some, stC_some, k_mkfn, k_slc, k_slcA, k_ixA, k_ixBs, k_ixSl, k_fadr, k_fld, k_ext, k_len, k_app, k_mn, k_mx, k_nilck, k_build, k_bsl1, k_bsl2, b_add, b_sub, b_mul, b_eql, b_neq, b_lss, b_leq, b_gtr, b_geq, Dn.setLast, Dn.getLast, evalO, mapO, Dn.get, putE, keepE, TV.one, TV.isAgg, Dn.part, e1, e2, hlen, hix, f1, f2, d1, d2, c1, c2, k1, k2, h1']

theorem l18_all {pg : Pg} (hF : Free pg) {T : TV} {l : List Obs} (hT : Rws T l) (hl : l.length ≤ 100) : ∀ (k i : Nat) (m : List Obs) (out : TV) (H : Heap), i + k = l.length → (elS false).Own H out m → m.length = i →
    ∃ out' e H', den pg l18_1 [(0, T), (3, out), (4, .i .i64 (i : Int))] H = some ⟨.exit 0, e, H'⟩ ∧ Dn.get e 3 = some out' ∧ Dn.get e 0 = some T ∧ (elS false).Own H' out' (m ++ (l.drop i).map (cut 4))
  | 0, i, m, out, H, h, ho, hm => by
    have e1 : ¬ ((i : Int) < (l.length : Int)) := by omega
    have hlen := hT.len
    refine ⟨out, [(0, T), (3, out), (4, .i .i64 (i : Int)), (8, .b false)], H, ?_, rfl, rfl, ?_⟩
    · rw [l18_1, den_loop]
      simp [b18_0, go_nil, go_last, go_past, go_pastR, go_blkN, go_blkR, go_blkE, go_skip, go_exit, go_ret, go_scope, go_seq, go_reg, go_regd, go_opdN, go_opd, go_opdG, grdd_b, grdd_u, stpd_some, find_some, go_block, go_cond, cnd_b, go_opsN, go_ops, go_opsG, grd_b, grd_u, stp_some, fin_some, up_some, cont_some, k_call, k_mv, k_pick, k_bin, k_eqB, k_eqA, k_not, k_neg, k_conv, k_alloc, k_boxA, k_boxI, k_boxB, k_boxN, k_boxBs, k_ldR, k_ldA, k_ldI, k_ldB, k_stA, k_stI, k_stB, ldC_some, stC_some, k_mkfn, k_slc, k_slcA, k_ixA, k_ixBs, k_ixSl, k_fadr, k_fld, k_ext, k_len, k_app, k_mn, k_mx, k_nilck, k_build, k_bsl1, k_bsl2, b_add, b_sub, b_mul, b_eql, b_neq, b_lss, b_leq, b_gtr, b_geq, Dn.setLast, Dn.getLast, evalO, mapO, Dn.get, putE, keepE, TV.one, TV.isAgg, Dn.part, hlen, e1]
    · rw [List.drop_eq_nil_of_le (by omega)]; simpa using ho
  | k + 1, i, m, out, H, h, ho, hm => by
    have hi : i < l.length := by omega
    obtain ⟨out', H', h1, h2⟩ := l18_round hF (i := i) hT (List.getElem?_eq_getElem hi) (by omega) ho (by omega)
    obtain ⟨out2, e, H2, h3, h4, h5, h6⟩ := l18_all hF hT hl k (i + 1) (m ++ [cut 4 l[i]]) out' H' (by omega) h2 (by simp; omega)
    refine ⟨out2, e, H2, h1.trans h3, h4, h5, ?_⟩
    rw [List.drop_eq_getElem_cons hi, List.map_cons]
    simpa [List.append_assoc] using h6

theorem fn18 {pg : Pg} (hF : Free pg) {T : TV} {l : List Obs} (hT : Rws T l) (hl : l.length ≤ 100) : PFn pg 18 [T] ((elS false).lt false (l.map (cut 4))) := by
  obtain ⟨out', e, H', h1, h2, h3, h4⟩ := l18_all hF hT hl l.length 0 [] .nilsl [] (by omega) (.inl ⟨rfl, rfl⟩) rfl
  simp only [List.drop_zero, List.nil_append, Int.natCast_zero] at h1 h4
  refine .of_go (x := .ret) (e := [(2, out')]) (H' := H') (vs := [out']) (hF.S _ _ (by decide)) (d := d18) (by rw [hF.F]; rfl) rfl ?_ (.inl rfl) rfl (h4.to (by decide) (E' := elS false) rfl (mapO_map fun a _ => snap_pairF H' 5 a))
  simp [d18, c18, zipE, go_nil, go_last, go_past, go_pastR, go_blkN, go_blkR, go_blkE, go_skip, go_exit, go_ret, go_scope, go_seq, go_reg, go_regd, go_opdN, go_opd, go_opdG, grdd_b, grdd_u, stpd_some, find_some, go_block, go_cond, cnd_b, go_opsN, go_ops, go_opsG, grd_b, grd_u, stp_some, fin_some, up_some, cont_some, k_call, k_mv, k_pick, k_bin, k_eqB, k_eqA, k_not, k_neg, k_conv, k_alloc, k_boxA, k_boxI, k_boxB, k_boxN, k_boxBs, k_ldR, k_ldA, k_ldI, k_ldB, k_stA, k_stI, k_stB, ldC_some, stC_some, k_mkfn, k_slc, k_slcA, k_ixA, k_ixBs, k_ixSl, k_fadr, k_fld, k_ext, k_len, k_app, k_mn, k_mx, k_nilck, k_build, k_bsl1, k_bsl2, b_add, b_sub, b_mul, b_eql, b_neq, b_lss, b_leq, b_gtr, b_geq, Dn.setLast, Dn.getLast, evalO, mapO, Dn.get, putE, keepE, TV.one, TV.isAgg, Dn.part, go_denK (c := l18_1) rfl, h1, h2, h3]

theorem call18 {pg : Pg} (hF : Free pg) {T : TV} {l : List Obs} (hT : Rws T l) (hl : l.length ≤ 100) (H : Heap) : callRun pg (den pg) (.pu []) [.fn 18 [] [], T] H = some ((elS false).lt false (l.map (cut 4)), H) := by
  obtain ⟨T', h1, h2⟩ := hT.snap H 5
  exact PFn.call (fn18 hF h2 hl) (args := [T]) (by simp [snapArgs, h1])

end Go.Proofs.Tryd.Dn

/-
  Whether these are observations: the program's Check.
-/

namespace Go.Proofs.Tryd.Dn
open Go.Dn

/-- a function of whole numbers that answers like a predicate -/
def Tells (pg : Pg) (f : TV) (H : Heap) (P : Int → Bool) : Prop := ∀ v, callRun pg (den pg) .sh [f, .i .i64 v] H = some (.b (P v), H)

theorem l95_all {pg : Pg} (hF : Free pg) {H : Heap} {s f : TV} {l : List Int} {P : Int → Bool} (hs : elI.View H s l) (hf : Tells pg f H P) (hl : l.length ≤ 9223372036854775807) : ∀ (k i : Nat), i + k = l.length →
    ∃ x e, den pg l95_1 [(0, s), (1, f), (7, .i .i64 (l.length : Int)), (8, .i .i64 (i : Int))] H = some ⟨x, e, H⟩ ∧ (x = .exit 0 ∧ firstIdx P (l.drop i) i = -1 ∨ x = .ret ∧ e = [(4, .i .i64 (firstIdx P (l.drop i) i))])
  | 0, i, h => by
    have e1 : ¬ ((i : Int) < (l.length : Int)) := by omega
    refine ⟨.exit 0, [(0, s), (1, f), (7, .i .i64 (l.length : Int)), (8, .i .i64 (i : Int)), (9, .b false)], ?_, .inl ⟨rfl, ?_⟩⟩
    · rw [l95_1, den_loop]
      simp [b95_0, go_nil, go_last, go_past, go_pastR, go_blkN, go_blkR, go_blkE, go_skip, go_exit, go_ret, go_scope, go_seq, go_reg, go_regd, go_opdN, go_opd, go_opdG, grdd_b, grdd_u, stpd_some, find_some, go_block, go_cond, cnd_b, go_opsN, go_ops, go_opsG, grd_b, grd_u, stp_some, fin_some, up_some, cont_some, k_call, k_mv, k_pick, k_bin, k_eqB, k_eqA, k_not, k_neg, k_conv, k_alloc, k_boxA, k_boxI, k_boxB, k_boxN, k_boxBs, k_ldR, k_ldA, k_ldI, k_ldB, k_stA, k_stI, k_stB, ldC_some, stC_some, k_mkfn, k_slc, k_slcA, k_ixA, k_ixBs, k_ixSl, k_fadr, k_fld, k_ext, k_len, k_app, k_mn, k_mx, k_nilck, k_build, k_bsl1, k_bsl2, b_add, b_sub, b_mul, b_eql, b_neq, b_lss, b_leq, b_gtr, b_geq, Dn.setLast, Dn.getLast, evalO, mapO, Dn.get, putE, keepE, TV.one, TV.isAgg, Dn.part, e1]
    · rw [List.drop_eq_nil_of_le (by omega)]; rfl
  | k + 1, i, h => by
    have hi : i < l.length := by omega
    have e1 : ((i : Int) < (l.length : Int)) := by omega
    have e2 : wrapR .i64 ((i : Int) + 1) = .i .i64 ((i : Int) + 1) := wrapR_i64 (by omega)
    obtain ⟨p, hp, hv⟩ := ixI (pg := pg) (R := den pg) hs (List.getElem?_eq_getElem hi)
    have hd : l.drop i = l[i] :: l.drop (i + 1) := List.drop_eq_getElem_cons hi
    rw [hd]
    by_cases hP : P l[i] = true
    · refine ⟨.ret, [(4, .i .i64 (i : Int))], ?_, .inr ⟨rfl, by simp [firstIdx, hP]⟩⟩
      have hc := hf l[i]
      rw [hP] at hc
      rw [l95_1, den_loop]
      simp [b95_0, go_nil, go_last, go_past, go_pastR, go_blkN, go_blkR, go_blkE, go_skip, go_exit, go_ret, go_scope, go_seq, go_reg, go_regd, go_opdN, go_opd, go_opdG, grdd_b, grdd_u, stpd_some, find_some, go_block, go_cond, cnd_b, go_opsN, go_ops, go_opsG, grd_b, grd_u, stp_some, fin_some, up_some, cont_some, k_call, k_mv, k_pick, k_bin, k_eqB, k_eqA, k_not, k_neg, k_conv, k_alloc, k_boxA, k_boxI, k_boxB, k_boxN, k_boxBs, k_ldR, k_ldA, k_ldI, k_ldB, k_stA, k_stI, k_stB, ldC_some, stC_some, k_mkfn, k_slc, k_slcA, k_ixA, k_ixBs, k_ixSl, k_fadr, k_fld, k_ext, k_len, k_app, k_mn, k_mx, k_nilck, k_build, k_bsl1, k_bsl2, b_add, b_sub, b_mul, b_eql, b_neq, b_lss, b_leq, b_gtr, b_geq, Dn.setLast, Dn.getLast, evalO, mapO, Dn.get, putE, keepE, TV.one, TV.isAgg, Dn.part, e1, hp, hv, hc]
    · have hP' : P l[i] = false := by simpa using hP
      have hc := hf l[i]
      rw [hP'] at hc
      obtain ⟨x, e, h1, h2⟩ := l95_all hF hs hf hl k (i + 1) (by omega)
      refine ⟨x, e, Eq.trans ?_ h1, by simpa [firstIdx, hP'] using h2⟩
      rw [l95_1, den_loop]
      simp [l95_1, b95_0, go_nil, go_last, go_past, go_pastR, go_blkN, go_blkR, go_blkE, go_skip, go_exit, go_ret, go_scope, go_seq, go_reg, go_regd, go_opdN, go_opd, go_opdG, grdd_b, grdd_u, stpd_some, find_some, go_block, go_cond, cnd_b, go_opsN, go_ops, go_opsG, grd_b, grd_u, stp_some, fin_some, up_some, cont_some, k_call, k_mv, k_pick, k_bin, k_eqB, k_eqA, k_not, k_neg, k_conv, k_alloc, k_boxA, k_boxI, k_boxB, k_boxN, k_boxBs, k_ldR, k_ldA, k_ldI, k_ldB, k_stA, k_stI, k_stB, ldC_some, stC_some, k_mkfn, k_slc, k_slcA, k_ixA, k_ixBs, k_ixSl, k_fadr, k_fld, k_ext, k_len, k_app, k_mn, k_mx, k_nilck, k_build, k_bsl1, k_bsl2, b_add, b_sub, b_mul, b_eql, b_neq, b_lss, b_leq, b_gtr, b_geq, Dn.setLast, Dn.getLast, evalO, mapO, Dn.get, putE, keepE, TV.one, TV.isAgg, Dn.part, e1, e2, hp, hv, hc]

theorem body95 {pg : Pg} (hF : Free pg) {H : Heap} {s f : TV} {l : List Int} {P : Int → Bool} (hs : elI.View H s l) (hf : Tells pg f H P) (hl : l.length ≤ 9223372036854775807) : bodyRun pg (den pg) 95 [s, f] H = some (.i .i64 (firstIdx P l 0), H) := by
  refine body_of (x := .ret) (e := [(4, .i .i64 (firstIdx P l 0))]) (d := d95) (by rw [hF.F]; rfl) rfl ?_ (.inl rfl) rfl
  obtain ⟨x, e, h1, h2⟩ := l95_all hF hs hf hl l.length 0 (by omega)
  simp only [List.drop_zero, Int.natCast_zero] at h1 h2
  have hlen := hs.lenK
  rcases h2 with ⟨rfl, h2⟩ | ⟨rfl, rfl⟩
  · simp [d95, c95, zipE, go_nil, go_last, go_past, go_pastR, go_blkN, go_blkR, go_blkE, go_skip, go_exit, go_ret, go_scope, go_seq, go_reg, go_regd, go_opdN, go_opd, go_opdG, grdd_b, grdd_u, stpd_some, find_some, go_block, go_cond, cnd_b, go_opsN, go_ops, go_opsG, grd_b, grd_u, stp_some, fin_some, up_some, cont_some, k_call, k_mv, k_pick, k_bin, k_eqB, k_eqA, k_not, k_neg, k_conv, k_alloc, k_boxA, k_boxI, k_boxB, k_boxN, k_boxBs, k_ldR, k_ldA, k_ldI, k_ldB, k_stA, k_stI, k_stB, ldC_some, stC_some, k_mkfn, k_slc, k_slcA, k_ixA, k_ixBs, k_ixSl, k_fadr, k_fld, k_ext, k_len, k_app, k_mn, k_mx, k_nilck, k_build, k_bsl1, k_bsl2, b_add, b_sub, b_mul, b_eql, b_neq, b_lss, b_leq, b_gtr, b_geq, Dn.setLast, Dn.getLast, evalO, mapO, Dn.get, putE, keepE, TV.one, TV.isAgg, Dn.part, hlen, go_den l95_1, h1, h2]
  · simp [d95, c95, zipE, go_nil, go_last, go_past, go_pastR, go_blkN, go_blkR, go_blkE, go_skip, go_exit, go_ret, go_scope, go_seq, go_reg, go_regd, go_opdN, go_opd, go_opdG, grdd_b, grdd_u, stpd_some, find_some, go_block, go_cond, cnd_b, go_opsN, go_ops, go_opsG, grd_b, grd_u, stp_some, fin_some, up_some, cont_some, k_call, k_mv, k_pick, k_bin, k_eqB, k_eqA, k_not, k_neg, k_conv, k_alloc, k_boxA, k_boxI, k_boxB, k_boxN, k_boxBs, k_ldR, k_ldA, k_ldI, k_ldB, k_stA, k_stI, k_stB, ldC_some, stC_some, k_mkfn, k_slc, k_slcA, k_ixA, k_ixBs, k_ixSl, k_fadr, k_fld, k_ext, k_len, k_app, k_mn, k_mx, k_nilck, k_build, k_bsl1, k_bsl2, b_add, b_sub, b_mul, b_eql, b_neq, b_lss, b_leq, b_gtr, b_geq, Dn.setLast, Dn.getLast, evalO, mapO, Dn.get, putE, keepE, TV.one, TV.isAgg, Dn.part, hlen, go_den l95_1, h1]

theorem body91 {pg : Pg} (hF : Free pg) {H : Heap} {s f : TV} {l : List Int} {P : Int → Bool} (hs : elI.View H s l) (hf : Tells pg f H P) (hl : l.length ≤ 9223372036854775807) : bodyRun pg (den pg) 91 [s, f] H = some (.b (l.any P), H) := by
  refine body_of (x := .ret) (e := [(4, .b (l.any P))]) (d := d91) (by rw [hF.F]; rfl) rfl ?_ (.inl rfl) rfl
  have h := body95 hF hs hf hl
  simp [d91, c91, zipE, go_nil, go_last, go_past, go_pastR, go_blkN, go_blkR, go_blkE, go_skip, go_exit, go_ret, go_scope, go_seq, go_reg, go_regd, go_opdN, go_opd, go_opdG, grdd_b, grdd_u, stpd_some, find_some, go_block, go_cond, cnd_b, go_opsN, go_ops, go_opsG, grd_b, grd_u, stp_some, fin_some, up_some, cont_some, k_call, k_mv, k_pick, k_bin, k_eqB, k_eqA, k_not, k_neg, k_conv, k_alloc, k_boxA, k_boxI, k_boxB, k_boxN, k_boxBs, k_ldR, k_ldA, k_ldI, k_ldB, k_stA, k_stI, k_stB, ldC_some, stC_some, k_mkfn, k_slc, k_slcA, k_ixA, k_ixBs, k_ixSl, k_fadr, k_fld, k_ext, k_len, k_app, k_mn, k_mx, k_nilck, k_build, k_bsl1, k_bsl2, b_add, b_sub, b_mul, b_eql, b_neq, b_lss, b_leq, b_gtr, b_geq, Dn.setLast, Dn.getLast, evalO, mapO, Dn.get, putE, keepE, TV.one, TV.isAgg, Dn.part, sh_fn, h, firstIdx_any]


def outside (a b v : Int) : Bool := decide (v < a) || decide (b < v)

theorem body92 {pg : Pg} (hF : Free pg) {a b v : Int} {H : Heap} (h0 : H[0]? = some (.cells [.i .i64 a] false)) (h1 : H[1]? = some (.cells [.i .i64 b] false)) :
    bodyRun pg (den pg) 92 [.i .i64 v, .ref 0 0, .ref 1 0] H = some (.b (outside a b v), H) := by
  have d0 := ld_box (pg := pg) (R := den pg) h0 rfl
  have d1 := ld_box (pg := pg) (R := den pg) h1 rfl
  refine body_of (x := .ret) (e := [(4, .b (outside a b v))]) (d := d92) (by rw [hF.F]; rfl) rfl ?_ (.inl rfl) rfl
  by_cases h : v < a
  · simp [d92, c92, zipE, go_nil, go_last, go_past, go_pastR, go_blkN, go_blkR, go_blkE, go_skip, go_exit, go_ret, go_scope, go_seq, go_reg, go_regd, go_opdN, go_opd, go_opdG, grdd_b, grdd_u, stpd_some, find_some, go_block, go_cond, cnd_b, go_opsN, go_ops, go_opsG, grd_b, grd_u, stp_some, fin_some, up_some, cont_some, k_call, k_mv, k_pick, k_bin, k_eqB, k_eqA, k_not, k_neg, k_conv, k_alloc, k_boxA, k_boxI, k_boxB, k_boxN, k_boxBs, k_ldR, k_ldA, k_ldI, k_ldB, k_stA, k_stI, k_stB, ldC_some, stC_some, k_mkfn, k_slc, k_slcA, k_ixA, k_ixBs, k_ixSl, k_fadr, k_fld, k_ext, k_len, k_app, k_mn, k_mx, k_nilck, k_build, k_bsl1, k_bsl2, b_add, b_sub, b_mul, b_eql, b_neq, b_lss, b_leq, b_gtr, b_geq, Dn.setLast, Dn.getLast, evalO, mapO, Dn.get, putE, keepE, TV.one, TV.isAgg, Dn.part, d0, d1, h, outside]
  · simp [d92, c92, zipE, go_nil, go_last, go_past, go_pastR, go_blkN, go_blkR, go_blkE, go_skip, go_exit, go_ret, go_scope, go_seq, go_reg, go_regd, go_opdN, go_opd, go_opdG, grdd_b, grdd_u, stpd_some, find_some, go_block, go_cond, cnd_b, go_opsN, go_ops, go_opsG, grd_b, grd_u, stp_some, fin_some, up_some, cont_some, k_call, k_mv, k_pick, k_bin, k_eqB, k_eqA, k_not, k_neg, k_conv, k_alloc, k_boxA, k_boxI, k_boxB, k_boxN, k_boxBs, k_ldR, k_ldA, k_ldI, k_ldB, k_stA, k_stI, k_stB, ldC_some, stC_some, k_mkfn, k_slc, k_slcA, k_ixA, k_ixBs, k_ixSl, k_fadr, k_fld, k_ext, k_len, k_app, k_mn, k_mx, k_nilck, k_build, k_bsl1, k_bsl2, b_add, b_sub, b_mul, b_eql, b_neq, b_lss, b_leq, b_gtr, b_geq, Dn.setLast, Dn.getLast, evalO, mapO, Dn.get, putE, keepE, TV.one, TV.isAgg, Dn.part, d0, d1, h, outside]

theorem fn76 {pg : Pg} (hF : Free pg) {t : TV} {l : List Int} (ht : SV t l) (hl : l.length ≤ 1000000) (a b : Int) : PFn pg 76 [t, .i .i64 a, .i .i64 b] (.b (!l.any (outside a b))) := by
  have h91 := body91 hF (H := [.cells [.i .i64 a] false, .cells [.i .i64 b] false]) (f := .fn 92 [] [.ref 0 0, .ref 1 0]) (P := outside a b) (ht.view _) (fun v => by rw [sh_fn]; exact body92 hF rfl rfl) (by omega)
  refine .of1 (x := .ret) (e := [(6, .b (!l.any (outside a b)))]) (H' := [.cells [.i .i64 a] false, .cells [.i .i64 b] false]) (hF.S _ _ (by decide)) (d := d76) (by rw [hF.F]; rfl) rfl ?_ (.inl rfl) rfl (by simp [sn_i, sn_b, sn_nil, sn8_i, sn8_b, sn8_nil, sn7_i, sn7_b, sn_sl, sn8_sl, slB_some, sn_tup, sn_agg, sn8_agg, mapO, elems])
  simp [d76, c76, zipE, go_nil, go_last, go_past, go_pastR, go_blkN, go_blkR, go_blkE, go_skip, go_exit, go_ret, go_scope, go_seq, go_reg, go_regd, go_opdN, go_opd, go_opdG, grdd_b, grdd_u, stpd_some, find_some, go_block, go_cond, cnd_b, go_opsN, go_ops, go_opsG, grd_b, grd_u, stp_some, fin_some, up_some, cont_some, k_call, k_mv, k_pick, k_bin, k_eqB, k_eqA, k_not, k_neg, k_conv, k_alloc, k_boxA, k_boxI, k_boxB, k_boxN, k_boxBs, k_ldR, k_ldA, k_ldI, k_ldB, k_stA, k_stI, k_stB, ldC_some, stC_some, k_mkfn, k_slc, k_slcA, k_ixA, k_ixBs, k_ixSl, k_fadr, k_fld, k_ext, k_len, k_app, k_mn, k_mx, k_nilck, k_build, k_bsl1, k_bsl2, b_add, b_sub, b_mul, b_eql, b_neq, b_lss, b_leq, b_gtr, b_geq, Dn.setLast, Dn.getLast, evalO, mapO, Dn.get, putE, keepE, TV.one, TV.isAgg, Dn.part, k_mkfn, sh_fn, h91]

theorem call76 {pg : Pg} (hF : Free pg) {t : TV} {l : List Int} (ht : SV t l) (hl : l.length ≤ 1000000) (a b : Int) (H : Heap) : callRun pg (den pg) (.pu []) [.fn 76 [] [], t, .i .i64 a, .i .i64 b] H = some (.b (!l.any (outside a b)), H) := by
  obtain ⟨t', h1, h2⟩ := ht.snap H 7
  exact PFn.call (fn76 hF h2 hl a b) (args := [t, .i .i64 a, .i .i64 b]) (by simp [snapArgs, sn_i, h1])

/-- the greatest one -/
def maxs : Int → List Int → Int
  | m, [] => m
  | m, x :: l => maxs (if m < x then x else m) l

theorem maxs_ge : ∀ (l : List Int) (m : Int), m ≤ maxs m l ∧ ∀ x ∈ l, x ≤ maxs m l
  | [], m => ⟨Int.le_refl _, fun x hx => by cases hx⟩
  | y :: l, m => by
    obtain ⟨h1, h2⟩ := maxs_ge l (if m < y then y else m)
    have h3 : m ≤ (if m < y then y else m) ∧ y ≤ (if m < y then y else m) := by split <;> omega
    refine ⟨by simp only [maxs]; omega, fun x hx => ?_⟩
    simp only [maxs]
    rcases List.mem_cons.1 hx with rfl | hx
    · omega
    · exact h2 x hx

theorem maxs_mem : ∀ (l : List Int) (m : Int), maxs m l = m ∨ maxs m l ∈ l
  | [], m => .inl rfl
  | y :: l, m => by
    simp only [maxs]
    rcases maxs_mem l (if m < y then y else m) with h | h
    · by_cases hy : m < y
      · rw [if_pos hy] at h; exact .inr (by simp [if_pos hy, h])
      · rw [if_neg hy] at h; exact .inl (by simp [if_neg hy, h])
    · exact .inr (by simp [h])

theorem l79_all {pg : Pg} {T : TV} {l : List Int} (hT : ∀ H, elI.View H T l) (hl : l.length ≤ 1000000) {H : Heap} : ∀ (k i : Nat) (m : Int), i + k = l.length →
    ∃ e, den pg l79_1 [(0, T), (3, .i .i64 m), (4, .i .i64 (i : Int))] H = some ⟨.exit 0, e, H⟩ ∧ Dn.get e 0 = some T ∧ Dn.get e 3 = some (.i .i64 (maxs m (l.drop i)))
  | 0, i, m, h => by
    have e1 : ¬ ((i : Int) < (l.length : Int)) := by omega
    have hlen := (hT H).lenK
    refine ⟨[(0, T), (3, .i .i64 m), (4, .i .i64 (i : Int)), (15, .b false)], ?_, rfl, ?_⟩
    · rw [l79_1, den_loop]
      simp [b79_0, go_nil, go_last, go_past, go_pastR, go_blkN, go_blkR, go_blkE, go_skip, go_exit, go_ret, go_scope, go_seq, go_reg, go_regd, go_opdN, go_opd, go_opdG, grdd_b, grdd_u, stpd_some, find_some, go_block, go_cond, cnd_b, go_opsN, go_ops, go_opsG, grd_b, grd_u, stp_some, fin_some, up_some, cont_some, k_call, k_mv, k_pick, k_bin, k_eqB, k_eqA, k_not, k_neg, k_conv, k_alloc, k_boxA, k_boxI, k_boxB, k_boxN, k_boxBs, k_ldR, k_ldA, k_ldI, k_ldB, k_stA, k_stI, k_stB, ldC_some, stC_some, k_mkfn, k_slc, k_slcA, k_ixA, k_ixBs, k_ixSl, k_fadr, k_fld, k_ext, k_len, k_app, k_mn, k_mx, k_nilck, k_build, k_bsl1, k_bsl2, b_add, b_sub, b_mul, b_eql, b_neq, b_lss, b_leq, b_gtr, b_geq, Dn.setLast, Dn.getLast, evalO, mapO, Dn.get, putE, keepE, TV.one, TV.isAgg, Dn.part, hlen, e1]
    · rw [List.drop_eq_nil_of_le (by omega)]; rfl
  | k + 1, i, m, h => by
    have hi : i < l.length := by omega
    have e1 : ((i : Int) < (l.length : Int)) := by omega
    have e2 : wrapR .i64 ((i : Int) + 1) = .i .i64 ((i : Int) + 1) := wrapR_i64 (by omega)
    have hlen := (hT H).lenK
    obtain ⟨p, hp, hv⟩ := ixI (pg := pg) (R := den pg) (hT H) (List.getElem?_eq_getElem hi)
    obtain ⟨e, h1, h2, h3⟩ := l79_all (pg := pg) hT hl (H := H) k (i + 1) (if m < l[i] then l[i] else m) (by omega)
    refine ⟨e, Eq.trans ?_ h1, h2, ?_⟩
    · rw [l79_1, den_loop]
      simp [l79_1, b79_0, go_nil, go_last, go_past, go_pastR, go_blkN, go_blkR, go_blkE, go_skip, go_exit, go_ret, go_scope, go_seq, go_reg, go_regd, go_opdN, go_opd, go_opdG, grdd_b, grdd_u, stpd_some, find_some, go_block, go_cond, cnd_b, go_opsN, go_ops, go_opsG, grd_b, grd_u, stp_some, fin_some, up_some, cont_some, k_call, k_mv, k_pick, k_bin, k_eqB, k_eqA, k_not, k_neg, k_conv, k_alloc, k_boxA, k_boxI, k_boxB, k_boxN, k_boxBs, k_ldR, k_ldA, k_ldI, k_ldB, k_stA, k_stI, k_stB, ldC_some, stC_some, k_mkfn, k_slc, k_slcA, k_ixA, k_ixBs, k_ixSl, k_fadr, k_fld, k_ext, k_len, k_app, k_mn, k_mx, k_nilck, k_build, k_bsl1, k_bsl2, b_add, b_sub, b_mul, b_eql, b_neq, b_lss, b_leq, b_gtr, b_geq, Dn.setLast, Dn.getLast, evalO, mapO, Dn.get, putE, keepE, TV.one, TV.isAgg, Dn.part, hlen, e1, e2, hp, hv]
    · rw [List.drop_eq_getElem_cons hi]; exact h3

theorem fn79 {pg : Pg} (hF : Free pg) {t : TV} {x : Int} {l : List Int} (ht : SV t (x :: l)) (hl : l.length < 1000000) : PFn pg 79 [t] (.i .i64 (maxs x l)) := by
  have hlen := (ht.view []).lenK
  have e1 : ¬ ((l.length : Int) + 1 < 1) := by omega
  obtain ⟨p, hp, hv⟩ := ixI (pg := pg) (R := den pg) (ht.view []) (i := 0) (x := x) rfl
  obtain ⟨e, h1, h2, h3⟩ := l79_all (pg := pg) (fun H => ht.view H) (by simp; omega) (H := []) l.length 1 x (by simp; omega)
  simp only [Int.natCast_zero, Int.natCast_one, List.drop_succ_cons, List.drop_zero] at hp h1 h3
  refine .of1 (x := .ret) (e := [(2, .i .i64 (maxs x l))]) (H' := []) (hF.S _ _ (by decide)) (d := d79) (by rw [hF.F]; rfl) rfl ?_ (.inl rfl) rfl (by simp [sn_i, sn_b, sn_nil, sn8_i, sn8_b, sn8_nil, sn7_i, sn7_b, sn_sl, sn8_sl, slB_some, sn_tup, sn_agg, sn8_agg, mapO, elems])
  simp [d79, c79, zipE, go_nil, go_last, go_past, go_pastR, go_blkN, go_blkR, go_blkE, go_skip, go_exit, go_ret, go_scope, go_seq, go_reg, go_regd, go_opdN, go_opd, go_opdG, grdd_b, grdd_u, stpd_some, find_some, go_block, go_cond, cnd_b, go_opsN, go_ops, go_opsG, grd_b, grd_u, stp_some, fin_some, up_some, cont_some, k_call, k_mv, k_pick, k_bin, k_eqB, k_eqA, k_not, k_neg, k_conv, k_alloc, k_boxA, k_boxI, k_boxB, k_boxN, k_boxBs, k_ldR, k_ldA, k_ldI, k_ldB, k_stA, k_stI, k_stB, ldC_some, stC_some, k_mkfn, k_slc, k_slcA, k_ixA, k_ixBs, k_ixSl, k_fadr, k_fld, k_ext, k_len, k_app, k_mn, k_mx, k_nilck, k_build, k_bsl1, k_bsl2, b_add, b_sub, b_mul, b_eql, b_neq, b_lss, b_leq, b_gtr, b_geq, Dn.setLast, Dn.getLast, evalO, mapO, Dn.get, putE, keepE, TV.one, TV.isAgg, Dn.part, hlen, e1, hp, hv, go_denK (c := l79_1) rfl, h1, h2, h3]

theorem call79 {pg : Pg} (hF : Free pg) {t : TV} {x : Int} {l : List Int} (ht : SV t (x :: l)) (hl : l.length < 1000000) (H : Heap) : callRun pg (den pg) (.pu []) [.fn 79 [] [], t] H = some (.i .i64 (maxs x l), H) := by
  obtain ⟨t', h1, h2⟩ := ht.snap H 7
  exact PFn.call (fn79 hF h2 hl) (args := [t]) (by simp [snapArgs, sn_i, h1])

end Go.Proofs.Tryd.Dn

/-
  Whether these are observations: the program's Check, and what it costs.
-/

namespace Go.Proofs.Tryd.Dn
open Go.Dn

theorem any_out {a b : Int} {l : List Int} : l.any (outside a b) = false ↔ ∀ p ∈ l, a ≤ p ∧ p ≤ b := by
  rw [List.any_eq_false]
  constructor
  · intro h p hp
    have := h p hp
    simp [outside] at this
    omega
  · intro h p hp
    have := h p hp
    simp [outside]
    omega

/-- what one observation must be, as Check asks it -/
theorem okObs_eq {g : Nat} (hg : 1 ≤ g) {x : Obs} : okObs g x = true ↔ x.1.length = g ∧ x.2.length = g ∧ x.1.any (outside 1 20) = false ∧ x.2.any (outside 0 20) = false ∧ maxs (x.2.headD 0) x.2.tail ≠ 0 := by
  rw [okObs_iff, any_out, any_out]
  constructor
  · rintro ⟨h1, h2, h3, h4, p, h5, h6⟩
    refine ⟨h1, h2, h3, h4, ?_⟩
    cases hx : x.2 with
    | nil => rw [hx] at h5; cases h5
    | cons y l =>
      rw [hx] at h5
      obtain ⟨m1, m2⟩ := maxs_ge l y
      rcases List.mem_cons.1 h5 with rfl | h5
      · simp only [List.headD_cons, List.tail_cons]; omega
      · have := m2 p h5
        simp only [List.headD_cons, List.tail_cons]; omega
  · rintro ⟨h1, h2, h3, h4, h5⟩
    refine ⟨h1, h2, h3, h4, ?_⟩
    cases hx : x.2 with
    | nil => rw [hx] at h2; simp at h2; omega
    | cons y l =>
      rw [hx] at h5 h4
      simp only [List.headD_cons, List.tail_cons] at h5
      have hm : maxs y l ∈ y :: l := by
        rcases maxs_mem l y with h | h
        · rw [h]; simp
        · simp [h]
      exact ⟨_, hm, by have := h4 _ hm; omega⟩

theorem boxS {pg : Pg} {R : Rec} (H : Heap) {a c : TV} (ha : a.one = true) (hc : c.one = true) (na : a.isAgg = false) (nc : c.isAgg = false) :
    dkc pg R (.st 2) [.ref H.length 0, .agg [a, c]] (H ++ [.cells [.nilsl, .nilsl] true]) = some (.undef, H ++ [.cells [a, c] true]) ∧
    dkc pg R (.ld 1 false) [.ref H.length 0] (H ++ [.cells [a, c] true]) = some (a, H ++ [.cells [a, c] true]) ∧
    dkc pg R (.ld 1 false) [.ref H.length 1] (H ++ [.cells [a, c] true]) = some (c, H ++ [.cells [a, c] true]) := by
  refine ⟨?_, ?_, ?_⟩
  · rw [k_stA, Dn.getLast, stC_some, if_pos ⟨rfl, by simp [ha, hc], by simp⟩, Dn.setLast]; rfl
  · rw [k_ldR, Dn.getLast, ldC_some]; simp [Dn.part, na, up]
  · rw [k_ldR, Dn.getLast, ldC_some]; simp [Dn.part, nc, up]

theorem l52_round {pg : Pg} (hF : Free pg) {g : Nat} (hg : 1 ≤ g ∧ g ≤ 3) {T : TV} {l : List Obs} (hT : Rws T l) (hl : l.length ≤ 100) {i : Nat} {x : Obs} (hx : l[i]? = some x) (hs : x.1.length ≤ 1000 ∧ x.2.length ≤ 1000) {H : Heap} :
    (okObs g x = true → ∃ H', den pg l52_1 [(3, .i .i64 (g : Int)), (25, T), (26, .i .i64 (l.length : Int)), (27, .i .i64 (i : Int))] H = den pg l52_1 [(3, .i .i64 (g : Int)), (25, T), (26, .i .i64 (l.length : Int)), (27, .i .i64 ((i + 1 : Nat) : Int))] H') ∧
    (okObs g x = false → ∃ H', den pg l52_1 [(3, .i .i64 (g : Int)), (25, T), (26, .i .i64 (l.length : Int)), (27, .i .i64 (i : Int))] H = some ⟨.ret, [(2, .i .i64 90)], H'⟩) := by
  have hi := (List.getElem?_eq_some_iff.1 hx).1
  have e1 : ((i : Int) < (l.length : Int)) := by omega
  have e2 : wrapR .i64 ((i : Int) + 1) = .i .i64 ((i : Int) + 1) := wrapR_i64 (by omega)
  obtain ⟨b, a, c, hix, ha, hc⟩ := hT.ix (pg := pg) (R := den pg) hx H
  have la := (ha.view []).lenK
  have lc := (hc.view []).lenK
  have c1 := call76 hF ha (by omega) 1 20
  have c2 := call76 hF hc (by omega) 0 20
  have n1 := ha.noagg
  have n2 := hc.noagg
  have o1 := ha.one
  have o2 := hc.one
  obtain ⟨s1, s2, s3⟩ := boxS (pg := pg) (R := den pg) H ha.one hc.one ha.noagg hc.noagg
  by_cases g1 : x.1.length = g
  · by_cases g2 : x.2.length = g
    · cases g3 : x.1.any (outside 1 20) with
      | true =>
        have hno : okObs g x = false := by
          rw [Bool.eq_false_iff]; intro h
          have := (okObs_eq hg.1).1 h
          rw [g3] at this; exact absurd this.2.2.1 (by simp)
        refine ⟨fun h => (by rw [hno] at h; cases h), fun _ => ⟨H ++ [.cells [a, c] true], ?_⟩⟩
        rw [g3] at c1
        rw [l52_1, den_loop]
        simp [b52_0, go_nil, go_last, go_past, go_pastR, go_blkN, go_blkR, go_blkE, go_skip, go_exit, go_ret, go_scope, go_seq, go_reg, go_regd, go_opdN, go_opd, go_opdG, grdd_b, grdd_u, stpd_some, find_some, go_block, go_cond, cnd_b, go_opsN, go_ops, go_opsG, grd_b, grd_u, stp_some, fin_some, up_some, cont_some, k_call, k_mv, k_pick, k_bin, k_eqB, k_eqA, k_not, k_neg, k_conv, k_alloc, k_boxA, k_boxI, k_boxB, k_boxN, k_boxBs, k_ldR, k_ldA, k_ldI, k_ldB, k_stA, k_stI, k_stB, ldC_some, stC_some, k_mkfn, k_slc, k_slcA, k_ixA, k_ixBs, k_ixSl, k_fadr, k_fld, k_ext, k_len, k_app, k_mn, k_mx, k_nilck, k_build, k_bsl1, k_bsl2, b_add, b_sub, b_mul, b_eql, b_neq, b_lss, b_leq, b_gtr, b_geq, Dn.setLast, Dn.getLast, evalO, mapO, Dn.get, putE, keepE, TV.one, TV.isAgg, Dn.part, e1, e2, hix, la, lc, c1, c2, s1, s2, s3, g1, g2]
      | false =>
        rw [g3] at c1
        cases g4 : x.2.any (outside 0 20) with
        | true =>
          have hno : okObs g x = false := by
            rw [Bool.eq_false_iff]; intro h
            have := (okObs_eq hg.1).1 h
            rw [g4] at this; exact absurd this.2.2.2.1 (by simp)
          refine ⟨fun h => (by rw [hno] at h; cases h), fun _ => ⟨H ++ [.cells [a, c] true], ?_⟩⟩
          rw [g4] at c2
          rw [l52_1, den_loop]
          simp [b52_0, go_nil, go_last, go_past, go_pastR, go_blkN, go_blkR, go_blkE, go_skip, go_exit, go_ret, go_scope, go_seq, go_reg, go_regd, go_opdN, go_opd, go_opdG, grdd_b, grdd_u, stpd_some, find_some, go_block, go_cond, cnd_b, go_opsN, go_ops, go_opsG, grd_b, grd_u, stp_some, fin_some, up_some, cont_some, k_call, k_mv, k_pick, k_bin, k_eqB, k_eqA, k_not, k_neg, k_conv, k_alloc, k_boxA, k_boxI, k_boxB, k_boxN, k_boxBs, k_ldR, k_ldA, k_ldI, k_ldB, k_stA, k_stI, k_stB, ldC_some, stC_some, k_mkfn, k_slc, k_slcA, k_ixA, k_ixBs, k_ixSl, k_fadr, k_fld, k_ext, k_len, k_app, k_mn, k_mx, k_nilck, k_build, k_bsl1, k_bsl2, b_add, b_sub, b_mul, b_eql, b_neq, b_lss, b_leq, b_gtr, b_geq, Dn.setLast, Dn.getLast, evalO, mapO, Dn.get, putE, keepE, TV.one, TV.isAgg, Dn.part, e1, e2, hix, la, lc, c1, c2, s1, s2, s3, g1, g2]
        | false =>
          rw [g4] at c2
          obtain ⟨y, k, hy⟩ : ∃ y k, x.2 = y :: k := by
            cases hx2 : x.2 with
            | nil => rw [hx2] at g2; simp at g2; omega
            | cons y k => exact ⟨y, k, rfl⟩
          have hc' := hc
          rw [hy] at hc'
          have c3 := call79 hF hc' (by have := hs.2; rw [hy] at this; simp at this; omega)
          by_cases g5 : maxs y k = 0
          · have hno : okObs g x = false := by
              rw [Bool.eq_false_iff]; intro h
              have := (okObs_eq hg.1).1 h
              rw [hy] at this; exact this.2.2.2.2 g5
            refine ⟨fun h => (by rw [hno] at h; cases h), fun _ => ⟨H ++ [.cells [a, c] true], ?_⟩⟩
            rw [l52_1, den_loop]
            simp [b52_0, go_nil, go_last, go_past, go_pastR, go_blkN, go_blkR, go_blkE, go_skip, go_exit, go_ret, go_scope, go_seq, go_reg, go_regd, go_opdN, go_opd, go_opdG, grdd_b, grdd_u, stpd_some, find_some, go_block, go_cond, cnd_b, go_opsN, go_ops, go_opsG, grd_b, grd_u, stp_some, fin_some, up_some, cont_some, k_call, k_mv, k_pick, k_bin, k_eqB, k_eqA, k_not, k_neg, k_conv, k_alloc, k_boxA, k_boxI, k_boxB, k_boxN, k_boxBs, k_ldR, k_ldA, k_ldI, k_ldB, k_stA, k_stI, k_stB, ldC_some, stC_some, k_mkfn, k_slc, k_slcA, k_ixA, k_ixBs, k_ixSl, k_fadr, k_fld, k_ext, k_len, k_app, k_mn, k_mx, k_nilck, k_build, k_bsl1, k_bsl2, b_add, b_sub, b_mul, b_eql, b_neq, b_lss, b_leq, b_gtr, b_geq, Dn.setLast, Dn.getLast, evalO, mapO, Dn.get, putE, keepE, TV.one, TV.isAgg, Dn.part, e1, e2, hix, la, lc, c1, c2, c3, s1, s2, s3, g1, g2, g5]
          · have hyes : okObs g x = true := by rw [okObs_eq hg.1]; exact ⟨g1, g2, g3, g4, by rw [hy]; exact g5⟩
            refine ⟨fun _ => ⟨H ++ [.cells [a, c] true], ?_⟩, fun h => (by rw [hyes] at h; cases h)⟩
            rw [l52_1, den_loop]
            simp [l52_1, b52_0, go_nil, go_last, go_past, go_pastR, go_blkN, go_blkR, go_blkE, go_skip, go_exit, go_ret, go_scope, go_seq, go_reg, go_regd, go_opdN, go_opd, go_opdG, grdd_b, grdd_u, stpd_some, find_some, go_block, go_cond, cnd_b, go_opsN, go_ops, go_opsG, grd_b, grd_u, stp_some, fin_some, up_some, cont_some, k_call, k_mv, k_pick, k_bin, k_eqB, k_eqA, k_not, k_neg, k_conv, k_alloc, k_boxA, k_boxI, k_boxB, k_boxN, k_boxBs, k_ldR, k_ldA, k_ldI, k_ldB, k_stA, k_stI, k_stB, ldC_some, stC_some, k_mkfn, k_slc, k_slcA, k_ixA, k_ixBs, k_ixSl, k_fadr, k_fld, k_ext, k_len, k_app, k_mn, k_mx, k_nilck, k_build, k_bsl1, k_bsl2, b_add, b_sub, b_mul, b_eql, b_neq, b_lss, b_leq, b_gtr, b_geq, Dn.setLast, Dn.getLast, evalO, mapO, Dn.get, putE, keepE, TV.one, TV.isAgg, Dn.part, e1, e2, hix, la, lc, c1, c2, c3, s1, s2, s3, g1, g2, g5]
    · have hno : okObs g x = false := by
        rw [Bool.eq_false_iff]; intro h
        exact g2 ((okObs_eq hg.1).1 h).2.1
      have i2 : ¬ ((x.2.length : Int) = (g : Int)) := by omega
      have b2 : ((x.2.length : Int) != (g : Int)) = true := by simpa using i2
      refine ⟨fun h => (by rw [hno] at h; cases h), fun _ => ⟨H ++ [.cells [a, c] true], ?_⟩⟩
      rw [l52_1, den_loop]
      simp [b52_0, go_nil, go_last, go_past, go_pastR, go_blkN, go_blkR, go_blkE, go_skip, go_exit, go_ret, go_scope, go_seq, go_reg, go_regd, go_opdN, go_opd, go_opdG, grdd_b, grdd_u, stpd_some, find_some, go_block, go_cond, cnd_b, go_opsN, go_ops, go_opsG, grd_b, grd_u, stp_some, fin_some, up_some, cont_some, k_call, k_mv, k_pick, k_bin, k_eqB, k_eqA, k_not, k_neg, k_conv, k_alloc, k_boxA, k_boxI, k_boxB, k_boxN, k_boxBs, k_ldR, k_ldA, k_ldI, k_ldB, k_stA, k_stI, k_stB, ldC_some, stC_some, k_mkfn, k_slc, k_slcA, k_ixA, k_ixBs, k_ixSl, k_fadr, k_fld, k_ext, k_len, k_app, k_mn, k_mx, k_nilck, k_build, k_bsl1, k_bsl2, b_add, b_sub, b_mul, b_eql, b_neq, b_lss, b_leq, b_gtr, b_geq, Dn.setLast, Dn.getLast, evalO, mapO, Dn.get, putE, keepE, TV.one, TV.isAgg, Dn.part, e1, e2, hix, la, lc, c1, c2, s1, s2, s3, g1, i2, b2]
  · have hno : okObs g x = false := by
      rw [Bool.eq_false_iff]; intro h
      exact g1 ((okObs_eq hg.1).1 h).1
    have i1 : ¬ ((x.1.length : Int) = (g : Int)) := by omega
    have b1 : ((x.1.length : Int) != (g : Int)) = true := by simpa using i1
    refine ⟨fun h => (by rw [hno] at h; cases h), fun _ => ⟨H ++ [.cells [a, c] true], ?_⟩⟩
    rw [l52_1, den_loop]
    simp [b52_0, go_nil, go_last, go_past, go_pastR, go_blkN, go_blkR, go_blkE, go_skip, go_exit, go_ret, go_scope, go_seq, go_reg, go_regd, go_opdN, go_opd, go_opdG, grdd_b, grdd_u, stpd_some, find_some, go_block, go_cond, cnd_b, go_opsN, go_ops, go_opsG, grd_b, grd_u, stp_some, fin_some, up_some, cont_some, k_call, k_mv, k_pick, k_bin, k_eqB, k_eqA, k_not, k_neg, k_conv, k_alloc, k_boxA, k_boxI, k_boxB, k_boxN, k_boxBs, k_ldR, k_ldA, k_ldI, k_ldB, k_stA, k_stI, k_stB, ldC_some, stC_some, k_mkfn, k_slc, k_slcA, k_ixA, k_ixBs, k_ixSl, k_fadr, k_fld, k_ext, k_len, k_app, k_mn, k_mx, k_nilck, k_build, k_bsl1, k_bsl2, b_add, b_sub, b_mul, b_eql, b_neq, b_lss, b_leq, b_gtr, b_geq, Dn.setLast, Dn.getLast, evalO, mapO, Dn.get, putE, keepE, TV.one, TV.isAgg, Dn.part, e1, e2, hix, la, lc, c1, c2, s1, s2, s3, i1, b1]

theorem l52_all {pg : Pg} (hF : Free pg) {g : Nat} (hg : 1 ≤ g ∧ g ≤ 3) {T : TV} {l : List Obs} (hT : Rws T l) (hl : l.length ≤ 100) (hs : ∀ x ∈ l, x.1.length ≤ 1000 ∧ x.2.length ≤ 1000) : ∀ (k i : Nat) (H : Heap), i + k = l.length →
    ((l.drop i).all (okObs g) = true → ∃ e H', den pg l52_1 [(3, .i .i64 (g : Int)), (25, T), (26, .i .i64 (l.length : Int)), (27, .i .i64 (i : Int))] H = some ⟨.exit 0, e, H'⟩) ∧
    ((l.drop i).all (okObs g) = false → ∃ H', den pg l52_1 [(3, .i .i64 (g : Int)), (25, T), (26, .i .i64 (l.length : Int)), (27, .i .i64 (i : Int))] H = some ⟨.ret, [(2, .i .i64 90)], H'⟩)
  | 0, i, H, h => by
    have e1 : ¬ ((i : Int) < (l.length : Int)) := by omega
    rw [List.drop_eq_nil_of_le (by omega)]
    refine ⟨fun _ => ⟨[(3, .i .i64 (g : Int)), (25, T), (26, .i .i64 (l.length : Int)), (27, .i .i64 (i : Int)), (28, .b false)], H, ?_⟩, fun h => by simp at h⟩
    rw [l52_1, den_loop]
    simp [b52_0, go_nil, go_last, go_past, go_pastR, go_blkN, go_blkR, go_blkE, go_skip, go_exit, go_ret, go_scope, go_seq, go_reg, go_regd, go_opdN, go_opd, go_opdG, grdd_b, grdd_u, stpd_some, find_some, go_block, go_cond, cnd_b, go_opsN, go_ops, go_opsG, grd_b, grd_u, stp_some, fin_some, up_some, cont_some, k_call, k_mv, k_pick, k_bin, k_eqB, k_eqA, k_not, k_neg, k_conv, k_alloc, k_boxA, k_boxI, k_boxB, k_boxN, k_boxBs, k_ldR, k_ldA, k_ldI, k_ldB, k_stA, k_stI, k_stB, ldC_some, stC_some, k_mkfn, k_slc, k_slcA, k_ixA, k_ixBs, k_ixSl, k_fadr, k_fld, k_ext, k_len, k_app, k_mn, k_mx, k_nilck, k_build, k_bsl1, k_bsl2, b_add, b_sub, b_mul, b_eql, b_neq, b_lss, b_leq, b_gtr, b_geq, Dn.setLast, Dn.getLast, evalO, mapO, Dn.get, putE, keepE, TV.one, TV.isAgg, Dn.part, e1]
  | k + 1, i, H, h => by
    have hi : i < l.length := by omega
    obtain ⟨h1, h2⟩ := l52_round hF hg hT hl (List.getElem?_eq_getElem hi) (hs _ (List.getElem_mem hi)) (H := H)
    rw [List.drop_eq_getElem_cons hi, List.all_cons]
    cases ho : okObs g l[i] with
    | true =>
      obtain ⟨H', h3⟩ := h1 ho
      have ih := l52_all hF hg hT hl hs k (i + 1) H' (by omega)
      rw [h3]
      simpa using ih
    | false =>
      obtain ⟨H', h3⟩ := h2 ho
      exact ⟨fun h => by simp at h, fun _ => ⟨H', h3⟩⟩

def chkE (X : List Obs) : Int := if market X = true then 0 else 90

theorem fn52 {pg : Pg} (hF : Free pg) {T : TV} {l : List Obs} (hT : Rws T l) (hl : l.length ≤ 100) (hs : ∀ x ∈ l, x.1.length ≤ 1000 ∧ x.2.length ≤ 1000) : PFn pg 52 [T] (.i .i64 (chkE l)) := by
  have hlen := hT.len
  have hd : pg.F 52 = some d52 := by rw [hF.F]; rfl
  by_cases h1 : l.length < 1
  · have e1 : ((l.length : Int) < 1) := by omega
    have : chkE l = 90 := by
      have : market l = false := by
        rw [Bool.eq_false_iff]; intro h
        have := (market_iff.1 h).n1
        omega
      simp [chkE, this]
    rw [this]
    refine .of1 (x := .ret) (e := [(2, .i .i64 90)]) (H' := []) (hF.S _ _ (by decide)) hd rfl ?_ (.inl rfl) rfl (by simp [sn_i, sn_b, sn_nil, sn8_i, sn8_b, sn8_nil, sn7_i, sn7_b, sn_sl, sn8_sl, slB_some, sn_tup, sn_agg, sn8_agg, mapO, elems])
    simp [d52, c52, zipE, go_nil, go_last, go_past, go_pastR, go_blkN, go_blkR, go_blkE, go_skip, go_exit, go_ret, go_scope, go_seq, go_reg, go_regd, go_opdN, go_opd, go_opdG, grdd_b, grdd_u, stpd_some, find_some, go_block, go_cond, cnd_b, go_opsN, go_ops, go_opsG, grd_b, grd_u, stp_some, fin_some, up_some, cont_some, k_call, k_mv, k_pick, k_bin, k_eqB, k_eqA, k_not, k_neg, k_conv, k_alloc, k_boxA, k_boxI, k_boxB, k_boxN, k_boxBs, k_ldR, k_ldA, k_ldI, k_ldB, k_stA, k_stI, k_stB, ldC_some, stC_some, k_mkfn, k_slc, k_slcA, k_ixA, k_ixBs, k_ixSl, k_fadr, k_fld, k_ext, k_len, k_app, k_mn, k_mx, k_nilck, k_build, k_bsl1, k_bsl2, b_add, b_sub, b_mul, b_eql, b_neq, b_lss, b_leq, b_gtr, b_geq, Dn.setLast, Dn.getLast, evalO, mapO, Dn.get, putE, keepE, TV.one, TV.isAgg, Dn.part, hlen, e1]
  · by_cases h5 : l.length ≤ 5
    · have e1 : ¬ ((l.length : Int) < 1) := by omega
      have e5 : ¬ (5 < (l.length : Int)) := by omega
      obtain ⟨x, r, hxr⟩ : ∃ x r, l = x :: r := by
        cases l with
        | nil => simp at h1
        | cons x r => exact ⟨x, r, rfl⟩
      obtain ⟨b, a, c, hix, ha, hc⟩ := hT.ix (pg := pg) (R := den pg) (i := 0) (x := x) (by rw [hxr]; rfl) []
      obtain ⟨f1, f2⟩ := k_fadrP (pg := pg) (R := den pg) b a c ha.noagg hc.noagg []
      have d1 := k_ldV (pg := pg) (R := den pg) b a ha.one []
      have la := (ha.view []).lenK
      simp only [Int.natCast_zero] at hix
      by_cases h2 : x.1.length < 1 ∨ 3 < x.1.length
      · have : chkE l = 90 := by
          have : market l = false := by
            rw [Bool.eq_false_iff]; intro h
            have := market_iff.1 h
            have h6 := this.g1
            have h7 := this.g3
            simp only [hxr, goodsOf] at h6 h7
            omega
          simp [chkE, this]
        rw [this]
        refine .of1 (x := .ret) (e := [(2, .i .i64 90)]) (H' := []) (hF.S _ _ (by decide)) hd rfl ?_ (.inl rfl) rfl (by simp [sn_i, sn_b, sn_nil, sn8_i, sn8_b, sn8_nil, sn7_i, sn7_b, sn_sl, sn8_sl, slB_some, sn_tup, sn_agg, sn8_agg, mapO, elems])
        by_cases h3 : x.1.length < 1
        · have e6 : ((x.1.length : Int) < 1) := by omega
          simp [d52, c52, zipE, go_nil, go_last, go_past, go_pastR, go_blkN, go_blkR, go_blkE, go_skip, go_exit, go_ret, go_scope, go_seq, go_reg, go_regd, go_opdN, go_opd, go_opdG, grdd_b, grdd_u, stpd_some, find_some, go_block, go_cond, cnd_b, go_opsN, go_ops, go_opsG, grd_b, grd_u, stp_some, fin_some, up_some, cont_some, k_call, k_mv, k_pick, k_bin, k_eqB, k_eqA, k_not, k_neg, k_conv, k_alloc, k_boxA, k_boxI, k_boxB, k_boxN, k_boxBs, k_ldR, k_ldA, k_ldI, k_ldB, k_stA, k_stI, k_stB, ldC_some, stC_some, k_mkfn, k_slc, k_slcA, k_ixA, k_ixBs, k_ixSl, k_fadr, k_fld, k_ext, k_len, k_app, k_mn, k_mx, k_nilck, k_build, k_bsl1, k_bsl2, b_add, b_sub, b_mul, b_eql, b_neq, b_lss, b_leq, b_gtr, b_geq, Dn.setLast, Dn.getLast, evalO, mapO, Dn.get, putE, keepE, TV.one, TV.isAgg, Dn.part, hlen, e1, e5, hix, f1, d1, la, e6]
        · have e6 : ¬ ((x.1.length : Int) < 1) := by omega
          have e7 : (3 < (x.1.length : Int)) := by omega
          simp [d52, c52, zipE, go_nil, go_last, go_past, go_pastR, go_blkN, go_blkR, go_blkE, go_skip, go_exit, go_ret, go_scope, go_seq, go_reg, go_regd, go_opdN, go_opd, go_opdG, grdd_b, grdd_u, stpd_some, find_some, go_block, go_cond, cnd_b, go_opsN, go_ops, go_opsG, grd_b, grd_u, stp_some, fin_some, up_some, cont_some, k_call, k_mv, k_pick, k_bin, k_eqB, k_eqA, k_not, k_neg, k_conv, k_alloc, k_boxA, k_boxI, k_boxB, k_boxN, k_boxBs, k_ldR, k_ldA, k_ldI, k_ldB, k_stA, k_stI, k_stB, ldC_some, stC_some, k_mkfn, k_slc, k_slcA, k_ixA, k_ixBs, k_ixSl, k_fadr, k_fld, k_ext, k_len, k_app, k_mn, k_mx, k_nilck, k_build, k_bsl1, k_bsl2, b_add, b_sub, b_mul, b_eql, b_neq, b_lss, b_leq, b_gtr, b_geq, Dn.setLast, Dn.getLast, evalO, mapO, Dn.get, putE, keepE, TV.one, TV.isAgg, Dn.part, hlen, e1, e5, hix, f1, d1, la, e6, e7]
      · have e6 : ¬ ((x.1.length : Int) < 1) := by omega
        have e7 : ¬ (3 < (x.1.length : Int)) := by omega
        obtain ⟨hy, hn⟩ := l52_all hF (g := x.1.length) (by omega) hT hl hs l.length 0 [] (by omega)
        simp only [List.drop_zero, Int.natCast_zero] at hy hn
        have hm : market l = l.all (okObs x.1.length) := by
          have hgo : goodsOf l = x.1.length := by rw [hxr]; rfl
          simp only [market, hgo]
          have a1 : 1 ≤ l.length := by omega
          have a2 : l.length ≤ 5 := h5
          have a3 : 1 ≤ x.1.length := by omega
          have a4 : x.1.length ≤ 3 := by omega
          simp only [a1, a2, a3, a4, decide_true, Bool.true_and]
        cases hall : l.all (okObs x.1.length) with
        | true =>
          rw [hall] at hm
          obtain ⟨e, H', h8⟩ := hy hall
          have : chkE l = 0 := by simp [chkE, hm]
          rw [this]
          refine .of1 (x := .ret) (e := [(2, .i .i64 0)]) (H' := H') (hF.S _ _ (by decide)) hd rfl ?_ (.inl rfl) rfl (by simp [sn_i, sn_b, sn_nil, sn8_i, sn8_b, sn8_nil, sn7_i, sn7_b, sn_sl, sn8_sl, slB_some, sn_tup, sn_agg, sn8_agg, mapO, elems])
          simp [d52, c52, zipE, go_nil, go_last, go_past, go_pastR, go_blkN, go_blkR, go_blkE, go_skip, go_exit, go_ret, go_scope, go_seq, go_reg, go_regd, go_opdN, go_opd, go_opdG, grdd_b, grdd_u, stpd_some, find_some, go_block, go_cond, cnd_b, go_opsN, go_ops, go_opsG, grd_b, grd_u, stp_some, fin_some, up_some, cont_some, k_call, k_mv, k_pick, k_bin, k_eqB, k_eqA, k_not, k_neg, k_conv, k_alloc, k_boxA, k_boxI, k_boxB, k_boxN, k_boxBs, k_ldR, k_ldA, k_ldI, k_ldB, k_stA, k_stI, k_stB, ldC_some, stC_some, k_mkfn, k_slc, k_slcA, k_ixA, k_ixBs, k_ixSl, k_fadr, k_fld, k_ext, k_len, k_app, k_mn, k_mx, k_nilck, k_build, k_bsl1, k_bsl2, b_add, b_sub, b_mul, b_eql, b_neq, b_lss, b_leq, b_gtr, b_geq, Dn.setLast, Dn.getLast, evalO, mapO, Dn.get, putE, keepE, TV.one, TV.isAgg, Dn.part, hlen, e1, e5, hix, f1, d1, la, e6, e7, go_denK (c := l52_1) rfl, h8]
        | false =>
          rw [hall] at hm
          obtain ⟨H', h8⟩ := hn hall
          have : chkE l = 90 := by simp [chkE, hm]
          rw [this]
          refine .of1 (x := .ret) (e := [(2, .i .i64 90)]) (H' := H') (hF.S _ _ (by decide)) hd rfl ?_ (.inl rfl) rfl (by simp [sn_i, sn_b, sn_nil, sn8_i, sn8_b, sn8_nil, sn7_i, sn7_b, sn_sl, sn8_sl, slB_some, sn_tup, sn_agg, sn8_agg, mapO, elems])
          simp [d52, c52, zipE, go_nil, go_last, go_past, go_pastR, go_blkN, go_blkR, go_blkE, go_skip, go_exit, go_ret, go_scope, go_seq, go_reg, go_regd, go_opdN, go_opd, go_opdG, grdd_b, grdd_u, stpd_some, find_some, go_block, go_cond, cnd_b, go_opsN, go_ops, go_opsG, grd_b, grd_u, stp_some, fin_some, up_some, cont_some, k_call, k_mv, k_pick, k_bin, k_eqB, k_eqA, k_not, k_neg, k_conv, k_alloc, k_boxA, k_boxI, k_boxB, k_boxN, k_boxBs, k_ldR, k_ldA, k_ldI, k_ldB, k_stA, k_stI, k_stB, ldC_some, stC_some, k_mkfn, k_slc, k_slcA, k_ixA, k_ixBs, k_ixSl, k_fadr, k_fld, k_ext, k_len, k_app, k_mn, k_mx, k_nilck, k_build, k_bsl1, k_bsl2, b_add, b_sub, b_mul, b_eql, b_neq, b_lss, b_leq, b_gtr, b_geq, Dn.setLast, Dn.getLast, evalO, mapO, Dn.get, putE, keepE, TV.one, TV.isAgg, Dn.part, hlen, e1, e5, hix, f1, d1, la, e6, e7, go_denK (c := l52_1) rfl, h8]
    · have e1 : ¬ ((l.length : Int) < 1) := by omega
      have e5 : (5 < (l.length : Int)) := by omega
      have : chkE l = 90 := by
        have : market l = false := by
          rw [Bool.eq_false_iff]; intro h
          exact h5 (market_iff.1 h).n5
        simp [chkE, this]
      rw [this]
      refine .of1 (x := .ret) (e := [(2, .i .i64 90)]) (H' := []) (hF.S _ _ (by decide)) hd rfl ?_ (.inl rfl) rfl (by simp [sn_i, sn_b, sn_nil, sn8_i, sn8_b, sn8_nil, sn7_i, sn7_b, sn_sl, sn8_sl, slB_some, sn_tup, sn_agg, sn8_agg, mapO, elems])
      simp [d52, c52, zipE, go_nil, go_last, go_past, go_pastR, go_blkN, go_blkR, go_blkE, go_skip, go_exit, go_ret, go_scope, go_seq, go_reg, go_regd, go_opdN, go_opd, go_opdG, grdd_b, grdd_u, stpd_some, find_some, go_block, go_cond, cnd_b, go_opsN, go_ops, go_opsG, grd_b, grd_u, stp_some, fin_some, up_some, cont_some, k_call, k_mv, k_pick, k_bin, k_eqB, k_eqA, k_not, k_neg, k_conv, k_alloc, k_boxA, k_boxI, k_boxB, k_boxN, k_boxBs, k_ldR, k_ldA, k_ldI, k_ldB, k_stA, k_stI, k_stB, ldC_some, stC_some, k_mkfn, k_slc, k_slcA, k_ixA, k_ixBs, k_ixSl, k_fadr, k_fld, k_ext, k_len, k_app, k_mn, k_mx, k_nilck, k_build, k_bsl1, k_bsl2, b_add, b_sub, b_mul, b_eql, b_neq, b_lss, b_leq, b_gtr, b_geq, Dn.setLast, Dn.getLast, evalO, mapO, Dn.get, putE, keepE, TV.one, TV.isAgg, Dn.part, hlen, e1, e5]

theorem call52 {pg : Pg} (hF : Free pg) {T : TV} {l : List Obs} (hT : Rws T l) (hl : l.length ≤ 100) (hs : ∀ x ∈ l, x.1.length ≤ 1000 ∧ x.2.length ≤ 1000) (H : Heap) : callRun pg (den pg) (.pu []) [.fn 52 [] [], T] H = some (.i .i64 (chkE l), H) := by
  obtain ⟨T', h1, h2⟩ := hT.snap H 5
  exact PFn.call (fn52 hF h2 hl hs) (args := [T]) (by simp [snapArgs, h1])

end Go.Proofs.Tryd.Dn

/-
  The market: what bundles cost.
-/

namespace Go.Proofs.Tryd.Dn
open Go.Dn

def sumI : List Int → Int
  | [] => 0
  | x :: l => x + sumI l

theorem l70_all {pg : Pg} {T : TV} {l : List Int} (hT : ∀ H, elI.View H T l) (hl : l.length ≤ 1000) (hb : ∀ x ∈ l, -1000000 ≤ x ∧ x ≤ 1000000) {H : Heap} : ∀ (k i : Nat) (m : Int), i + k = l.length → -(1000000 * (i : Int)) ≤ m ∧ m ≤ 1000000 * (i : Int) →
    ∃ e, den pg l70_1 [(3, .i .i64 m), (6, T), (7, .i .i64 (l.length : Int)), (8, .i .i64 (i : Int))] H = some ⟨.exit 0, e, H⟩ ∧ Dn.get e 3 = some (.i .i64 (m + sumI (l.drop i)))
  | 0, i, m, h, hm => by
    have e1 : ¬ ((i : Int) < (l.length : Int)) := by omega
    refine ⟨[(3, .i .i64 m), (6, T), (7, .i .i64 (l.length : Int)), (8, .i .i64 (i : Int)), (9, .b false)], ?_, ?_⟩
    · rw [l70_1, den_loop]
      simp [b70_0, go_nil, go_last, go_past, go_pastR, go_blkN, go_blkR, go_blkE, go_skip, go_exit, go_ret, go_scope, go_seq, go_reg, go_regd, go_opdN, go_opd, go_opdG, grdd_b, grdd_u, stpd_some, find_some, go_block, go_cond, cnd_b, go_opsN, go_ops, go_opsG, grd_b, grd_u, stp_some, fin_some, up_some, cont_some, k_call, k_mv, k_pick, k_bin, k_eqB, k_eqA, k_not, k_neg, k_conv, k_alloc, k_boxA, k_boxI, k_boxB, k_boxN, k_boxBs, k_ldR, k_ldA, k_ldI, k_ldB, k_stA, k_stI, k_stB, ldC_some, stC_some, k_mkfn, k_slc, k_slcA, k_ixA, k_ixBs, k_ixSl, k_fadr, k_fld, k_ext, k_len, k_app, k_mn, k_mx, k_nilck, k_build, k_bsl1, k_bsl2, b_add, b_sub, b_mul, b_eql, b_neq, b_lss, b_leq, b_gtr, b_geq, Dn.setLast, Dn.getLast, evalO, mapO, Dn.get, putE, keepE, TV.one, TV.isAgg, Dn.part, e1]
    · rw [List.drop_eq_nil_of_le (by omega)]; simp [Dn.get, sumI]
  | k + 1, i, m, h, hm => by
    have hi : i < l.length := by omega
    have e1 : ((i : Int) < (l.length : Int)) := by omega
    have e2 : wrapR .i64 ((i : Int) + 1) = .i .i64 ((i : Int) + 1) := wrapR_i64 (by omega)
    have hx := hb l[i] (List.getElem_mem hi)
    have e3 : wrapR .i64 (m + l[i]) = .i .i64 (m + l[i]) := wrapR_i64 (by omega)
    obtain ⟨p, hp, hv⟩ := ixI (pg := pg) (R := den pg) (hT H) (List.getElem?_eq_getElem hi)
    obtain ⟨e, h1, h2⟩ := l70_all (pg := pg) hT hl hb (H := H) k (i + 1) (m + l[i]) (by omega) (by omega)
    refine ⟨e, Eq.trans ?_ h1, ?_⟩
    · rw [l70_1, den_loop]
      simp [l70_1, b70_0, go_nil, go_last, go_past, go_pastR, go_blkN, go_blkR, go_blkE, go_skip, go_exit, go_ret, go_scope, go_seq, go_reg, go_regd, go_opdN, go_opd, go_opdG, grdd_b, grdd_u, stpd_some, find_some, go_block, go_cond, cnd_b, go_opsN, go_ops, go_opsG, grd_b, grd_u, stp_some, fin_some, up_some, cont_some, k_call, k_mv, k_pick, k_bin, k_eqB, k_eqA, k_not, k_neg, k_conv, k_alloc, k_boxA, k_boxI, k_boxB, k_boxN, k_boxBs, k_ldR, k_ldA, k_ldI, k_ldB, k_stA, k_stI, k_stB, ldC_some, stC_some, k_mkfn, k_slc, k_slcA, k_ixA, k_ixBs, k_ixSl, k_fadr, k_fld, k_ext, k_len, k_app, k_mn, k_mx, k_nilck, k_build, k_bsl1, k_bsl2, b_add, b_sub, b_mul, b_eql, b_neq, b_lss, b_leq, b_gtr, b_geq, Dn.setLast, Dn.getLast, evalO, mapO, Dn.get, putE, keepE, TV.one, TV.isAgg, Dn.part, e1, e2, e3, hp, hv]
    · rw [List.drop_eq_getElem_cons hi, h2, sumI, Int.add_assoc]

theorem fn70 {pg : Pg} (hF : Free pg) {t : TV} {l : List Int} (ht : SV t l) (hl : l.length ≤ 1000) (hb : ∀ x ∈ l, -1000000 ≤ x ∧ x ≤ 1000000) : PFn pg 70 [t] (.i .i64 (sumI l)) := by
  have hlen := (ht.view []).lenK
  obtain ⟨e, h1, h2⟩ := l70_all (pg := pg) (fun H => ht.view H) hl hb (H := []) l.length 0 0 (by omega) (by simp)
  simp only [Int.natCast_zero, List.drop_zero, Int.zero_add] at h1 h2
  refine .of1 (x := .ret) (e := [(2, .i .i64 (sumI l))]) (H' := []) (hF.S _ _ (by decide)) (d := d70) (by rw [hF.F]; rfl) rfl ?_ (.inl rfl) rfl (by simp [sn_i, sn_b, sn_nil, sn8_i, sn8_b, sn8_nil, sn7_i, sn7_b, sn_sl, sn8_sl, slB_some, sn_tup, sn_agg, sn8_agg, mapO, elems])
  simp [d70, c70, zipE, go_nil, go_last, go_past, go_pastR, go_blkN, go_blkR, go_blkE, go_skip, go_exit, go_ret, go_scope, go_seq, go_reg, go_regd, go_opdN, go_opd, go_opdG, grdd_b, grdd_u, stpd_some, find_some, go_block, go_cond, cnd_b, go_opsN, go_ops, go_opsG, grd_b, grd_u, stp_some, fin_some, up_some, cont_some, k_call, k_mv, k_pick, k_bin, k_eqB, k_eqA, k_not, k_neg, k_conv, k_alloc, k_boxA, k_boxI, k_boxB, k_boxN, k_boxBs, k_ldR, k_ldA, k_ldI, k_ldB, k_stA, k_stI, k_stB, ldC_some, stC_some, k_mkfn, k_slc, k_slcA, k_ixA, k_ixBs, k_ixSl, k_fadr, k_fld, k_ext, k_len, k_app, k_mn, k_mx, k_nilck, k_build, k_bsl1, k_bsl2, b_add, b_sub, b_mul, b_eql, b_neq, b_lss, b_leq, b_gtr, b_geq, Dn.setLast, Dn.getLast, evalO, mapO, Dn.get, putE, keepE, TV.one, TV.isAgg, Dn.part, hlen, go_denK (c := l70_1) rfl, h1, h2]

/-- a slice of one's own, summed up -/
theorem call70 {pg : Pg} (hF : Free pg) {t : TV} {l : List Int} {H : Heap} (ht : elI.Own H t l) (hl : l.length ≤ 1000) (hb : ∀ x ∈ l, -1000000 ≤ x ∧ x ≤ 1000000) : callRun pg (den pg) (.pu []) [.fn 70 [] [], t] H = some (.i .i64 (sumI l), H) :=
  PFn.call (fn70 hF (.lt true l) hl hb) (args := [t]) (by simp [snapArgs, ht.snap elI_flat])

def prods (ps bs : List Int) : List Int := List.zipWith (· * ·) ps bs

theorem dot_sum : ∀ ps bs : List Int, dot ps bs = sumI (prods ps bs)
  | [], _ => by simp [dot, prods, sumI]
  | _ :: _, [] => by simp [dot, prods, sumI]
  | p :: ps, b :: bs => by
    have := dot_sum ps bs
    simp only [prods] at this
    simp [dot, prods, sumI, this]

theorem l77_all {pg : Pg} (hF : Free pg) {P B : TV} {ps bs : List Int} (hP : SV P ps) (hB : SV B bs) (hl : ps.length ≤ bs.length) (hl2 : ps.length ≤ 1000) (hp : ∀ x ∈ ps, 0 ≤ x ∧ x ≤ 1000) (hb : ∀ x ∈ bs, 0 ≤ x ∧ x ≤ 1000) : ∀ (k i : Nat) (out : TV) (H : Heap), i + k = ps.length → elI.Own H out (prods (ps.take i) (bs.take i)) →
    ∃ out' e H', den pg l77_1 [(1, B), (5, out), (8, P), (9, .i .i64 (ps.length : Int)), (10, .i .i64 (i : Int))] H = some ⟨.exit 0, e, H'⟩ ∧ Dn.get e 5 = some out' ∧ elI.Own H' out' (prods ps bs)
  | 0, i, out, H, h, ho => by
    have e1 : ¬ ((i : Int) < (ps.length : Int)) := by omega
    refine ⟨out, [(1, B), (5, out), (8, P), (9, .i .i64 (ps.length : Int)), (10, .i .i64 (i : Int)), (11, .b false)], H, ?_, rfl, ?_⟩
    · rw [l77_1, den_loop]
      simp [b77_0, go_nil, go_last, go_past, go_pastR, go_blkN, go_blkR, go_blkE, go_skip, go_exit, go_ret, go_scope, go_seq, go_reg, go_regd, go_opdN, go_opd, go_opdG, grdd_b, grdd_u, stpd_some, find_some, go_block, go_cond, cnd_b, go_opsN, go_ops, go_opsG, grd_b, grd_u, stp_some, fin_some, up_some, cont_some, k_call, k_mv, k_pick, k_bin, k_eqB, k_eqA, k_not, k_neg, k_conv, k_alloc, k_boxA, k_boxI, k_boxB, k_boxN, k_boxBs, k_ldR, k_ldA, k_ldI, k_ldB, k_stA, k_stI, k_stB, ldC_some, stC_some, k_mkfn, k_slc, k_slcA, k_ixA, k_ixBs, k_ixSl, k_fadr, k_fld, k_ext, k_len, k_app, k_mn, k_mx, k_nilck, k_build, k_bsl1, k_bsl2, b_add, b_sub, b_mul, b_eql, b_neq, b_lss, b_leq, b_gtr, b_geq, Dn.setLast, Dn.getLast, evalO, mapO, Dn.get, putE, keepE, TV.one, TV.isAgg, Dn.part, e1]
    · have : prods (ps.take i) (bs.take i) = prods ps bs := by
        unfold prods
        rw [← List.take_zipWith, List.take_of_length_le (by simp; omega)]
      rw [← this]; exact ho
  | k + 1, i, out, H, h, ho => by
    have hi : i < ps.length := by omega
    have hib : i < bs.length := by omega
    have e1 : ((i : Int) < (ps.length : Int)) := by omega
    have e2 : wrapR .i64 ((i : Int) + 1) = .i .i64 ((i : Int) + 1) := wrapR_i64 (by omega)
    have hx := hp ps[i] (List.getElem_mem hi)
    have hy := hb bs[i] (List.getElem_mem hib)
    have h5 : 0 ≤ ps[i] * bs[i] := Int.mul_nonneg hx.1 hy.1
    have h6 : ps[i] * bs[i] ≤ 1000 * 1000 := Int.mul_le_mul hx.2 hy.2 hy.1 (by omega)
    have e3 : wrapR .i64 (ps[i] * bs[i]) = .i .i64 (ps[i] * bs[i]) := wrapR_i64 (by omega)
    obtain ⟨p, hp1, hv1⟩ := ixI (pg := pg) (R := den pg) (hP.view H) (List.getElem?_eq_getElem hi)
    obtain ⟨q, hp2, hv2⟩ := ixI (pg := pg) (R := den pg) (hB.view H) (List.getElem?_eq_getElem hib)
    have hplen : (prods (ps.take i) (bs.take i)).length ≤ 1000 := by simp [prods]; omega
    obtain ⟨out', H', h1, h2, _⟩ := appI (ho.mono (H' := H ++ [.cells [.i .i64 (ps[i] * bs[i])] false]) fun id hid => by rw [List.getElem?_append_left (ho.lt id hid)]) (one_view H (ps[i] * bs[i])) (by simp only [List.length_singleton]; omega)
    have hstep : prods (ps.take i) (bs.take i) ++ [ps[i] * bs[i]] = prods (ps.take (i + 1)) (bs.take (i + 1)) := by
      unfold prods
      have hz : (List.zipWith (fun x1 x2 => x1 * x2) ps bs)[i]? = some (ps[i] * bs[i]) := by
        rw [List.getElem?_zipWith, List.getElem?_eq_getElem hi, List.getElem?_eq_getElem hib]
      rw [← List.take_zipWith, ← List.take_zipWith, List.take_add_one, hz]
      rfl
    rw [hstep] at h2
    obtain ⟨out2, e, H2, h3, h4, h7⟩ := l77_all hF hP hB hl hl2 hp hb k (i + 1) out' H' (by omega) h2
    refine ⟨out2, e, H2, Eq.trans ?_ h3, h4, h7⟩
    rw [l77_1, den_loop]
    simp [l77_1, b77_0, go_nil, go_last, go_past, go_pastR, go_blkN, go_blkR, go_blkE, go_skip, go_exit, go_ret, go_scope, go_seq, go_reg, go_regd, go_opdN, go_opd, go_opdG, grdd_b, grdd_u, stpd_some, find_some, go_block, go_cond, cnd_b, go_opsN, go_ops, go_opsG, grd_b, grd_u, stp_some, fin_some, up_some, cont_some, k_call, k_mv, k_pick, k_bin, k_eqB, k_eqA, k_not, k_neg, k_conv, k_alloc, k_boxA, k_boxI, k_boxB, k_boxN, k_boxBs, k_ldR, k_ldA, k_ldI, k_ldB, k_stA, k_stI, k_stB, ldC_some, stC_some, k_mkfn, k_slc, k_slcA, k_ixA, k_ixBs, k_ixSl, k_fadr, k_fld, k_ext, k_len, k_app, k_mn, k_mx, k_nilck, k_build, k_bsl1, k_bsl2, b_add, b_sub, b_mul, b_eql, b_neq, b_lss, b_leq, b_gtr, b_geq, Dn.setLast, Dn.getLast, evalO, mapO, Dn.get, putE, keepE, TV.one, TV.isAgg, Dn.part, e1, e2, e3, hp1, hv1, hp2, hv2, h1]

theorem prods_mem {ps bs : List Int} (hp : ∀ x ∈ ps, 0 ≤ x ∧ x ≤ 1000) (hb : ∀ x ∈ bs, 0 ≤ x ∧ x ≤ 1000) : ∀ x ∈ prods ps bs, -1000000 ≤ x ∧ x ≤ 1000000 := by
  intro x hx
  unfold prods at hx
  obtain ⟨i, hi, rfl⟩ := List.getElem_of_mem hx
  simp only [List.length_zipWith] at hi
  rw [List.getElem_zipWith]
  have h1 := hp ps[i] (List.getElem_mem (by omega))
  have h2 := hb bs[i] (List.getElem_mem (by omega))
  have h5 : 0 ≤ ps[i] * bs[i] := Int.mul_nonneg h1.1 h2.1
  have h6 : ps[i] * bs[i] ≤ 1000 * 1000 := Int.mul_le_mul h1.2 h2.2 h2.1 (by omega)
  omega

theorem fn77 {pg : Pg} (hF : Free pg) {P B : TV} {ps bs : List Int} (hP : SV P ps) (hB : SV B bs) (hl : ps.length ≤ bs.length) (hl2 : ps.length ≤ 1000) (hp : ∀ x ∈ ps, 0 ≤ x ∧ x ≤ 1000) (hb : ∀ x ∈ bs, 0 ≤ x ∧ x ≤ 1000) : PFn pg 77 [P, B] (.i .i64 (dot ps bs)) := by
  have hlen := (hP.view []).lenK
  obtain ⟨out, e, H', h1, h2, h3⟩ := l77_all hF hP hB hl hl2 hp hb ps.length 0 .nilsl [] (by omega) (.inl ⟨rfl, by simp [prods]⟩)
  simp only [Int.natCast_zero] at h1
  have hpl : (prods ps bs).length ≤ 1000 := by simp [prods]; omega
  have h70 := call70 hF h3 hpl (prods_mem hp hb)
  rw [dot_sum]
  refine .of1 (x := .ret) (e := [(4, .i .i64 (sumI (prods ps bs)))]) (H' := H') (hF.S _ _ (by decide)) (d := d77) (by rw [hF.F]; rfl) rfl ?_ (.inl rfl) rfl (by simp [sn_i, sn_b, sn_nil, sn8_i, sn8_b, sn8_nil, sn7_i, sn7_b, sn_sl, sn8_sl, slB_some, sn_tup, sn_agg, sn8_agg, mapO, elems])
  simp [d77, c77, zipE, go_nil, go_last, go_past, go_pastR, go_blkN, go_blkR, go_blkE, go_skip, go_exit, go_ret, go_scope, go_seq, go_reg, go_regd, go_opdN, go_opd, go_opdG, grdd_b, grdd_u, stpd_some, find_some, go_block, go_cond, cnd_b, go_opsN, go_ops, go_opsG, grd_b, grd_u, stp_some, fin_some, up_some, cont_some, k_call, k_mv, k_pick, k_bin, k_eqB, k_eqA, k_not, k_neg, k_conv, k_alloc, k_boxA, k_boxI, k_boxB, k_boxN, k_boxBs, k_ldR, k_ldA, k_ldI, k_ldB, k_stA, k_stI, k_stB, ldC_some, stC_some, k_mkfn, k_slc, k_slcA, k_ixA, k_ixBs, k_ixSl, k_fadr, k_fld, k_ext, k_len, k_app, k_mn, k_mx, k_nilck, k_build, k_bsl1, k_bsl2, b_add, b_sub, b_mul, b_eql, b_neq, b_lss, b_leq, b_gtr, b_geq, Dn.setLast, Dn.getLast, evalO, mapO, Dn.get, putE, keepE, TV.one, TV.isAgg, Dn.part, hlen, go_denK (c := l77_1) rfl, h1, h2, h70]

theorem call77 {pg : Pg} (hF : Free pg) {P B : TV} {ps bs : List Int} (hP : SV P ps) (hB : SV B bs) (hl : ps.length ≤ bs.length) (hl2 : ps.length ≤ 1000) (hp : ∀ x ∈ ps, 0 ≤ x ∧ x ≤ 1000) (hb : ∀ x ∈ bs, 0 ≤ x ∧ x ≤ 1000) (H : Heap) : callRun pg (den pg) (.pu []) [.fn 77 [] [], P, B] H = some (.i .i64 (dot ps bs), H) := by
  obtain ⟨P', h1, h2⟩ := hP.snap H 7
  obtain ⟨B', h3, h4⟩ := hB.snap H 7
  exact PFn.call (fn77 hF h2 h4 hl hl2 hp hb) (args := [P, B]) (by simp [snapArgs, h1, h3])

end Go.Proofs.Tryd.Dn

/-
  The market as an object, and as a value.
-/

namespace Go.Proofs.Tryd.Dn
open Go.Dn

/-- the cells of a market -/
def mC (n : Int) (f : Nat → Nat → Int) : List TV := .i .i64 n :: (List.range 25).map fun j => .i .i64 (f (j / 5) (j % 5))

theorem mC_len (n : Int) (f : Nat → Nat → Int) : (mC n f).length = 26 := by simp [mC]
theorem mC_one (n : Int) (f : Nat → Nat → Int) : (mC n f).all TV.one = true := by
  simp [mC, List.all_map, TV.one]
theorem mC_at (n : Int) (f : Nat → Nat → Int) {i k : Nat} (hi : i < 5) (hk : k < 5) : (mC n f)[1 + i * 5 + k]? = some (.i .i64 (f i k)) := by
  rw [show 1 + i * 5 + k = (i * 5 + k) + 1 by omega, mC, List.getElem?_cons_succ, List.getElem?_map, List.getElem?_range (by omega), Option.map_some, show (i * 5 + k) / 5 = i by omega, show (i * 5 + k) % 5 = k by omega]

def upd (f : Nat → Nat → Int) (i k : Nat) (v : Int) : Nat → Nat → Int := fun r c => if r = i ∧ c = k then v else f r c

theorem mC_upd (n : Int) (f : Nat → Nat → Int) {i k : Nat} (hi : i < 5) (hk : k < 5) (v : Int) : put2 (mC n f) (1 + i * 5 + k) [.i .i64 v] = mC n (upd f i k v) := by
  rw [El.put2_set _ (by rw [mC_len]; omega)]
  rw [show 1 + i * 5 + k = (i * 5 + k) + 1 by omega, mC, List.set_cons_succ, mC]
  congr 1
  apply List.ext_getElem?
  intro j
  by_cases hj : j = i * 5 + k
  · subst hj
    rw [List.getElem?_set_self (by simp; omega), List.getElem?_map, List.getElem?_range (by omega), Option.map_some, show (i * 5 + k) / 5 = i by omega, show (i * 5 + k) % 5 = k by omega]
    simp [upd]
  · rw [List.getElem?_set_ne (by omega), List.getElem?_map, List.getElem?_map]
    by_cases hj2 : j < 25
    · rw [List.getElem?_range hj2, Option.map_some, Option.map_some]
      have : ¬ (j / 5 = i ∧ j % 5 = k) := by omega
      simp [upd, this]
    · rw [List.getElem?_eq_none (by simp; omega)]
      rfl

section
variable {pg : Pg} {R : Rec}

theorem k_box53 (n : Int) (f : Nat → Nat → Int) (H : Heap) : dkc pg R (.box true) [.agg (mC n f)] H = some (.ref H.length 0, H ++ [.cells (mC n f) true]) := k_boxA _ _ (mC_one n f)

theorem st_mC {n : Int} {f : Nat → Nat → Int} {M : Nat} {H : Heap} (h : H[M]? = some (.cells (mC n f) true)) {i k : Nat} (hi : i < 5) (hk : k < 5) (v : Int) :
    dkc pg R (.st 1) [.ref M (1 + i * 5 + k), .i .i64 v] H = some (.undef, H.set M (.cells (mC n (upd f i k v)) true)) := by
  rw [El.k_st 1 M (1 + i * 5 + k) (.i .i64 v) (mC n f) true H h rfl rfl (by rw [mC_len]; omega)]
  rw [show (TV.i IntKind.i64 v).cells = [.i .i64 v] from rfl, mC_upd n f hi hk]

theorem ld_mN {n : Int} {f : Nat → Nat → Int} {M : Nat} {H : Heap} (h : H[M]? = some (.cells (mC n f) true)) : dkc pg R (.ld 1 false) [.ref M 0] H = some (.i .i64 n, H) := by
  rw [k_ldR, h, ldC_some]
  simp [Dn.part, mC, TV.isAgg, up]

/-- a market as a value: its number -/
theorem fadr_mN (b : Bool) (n : Int) (f : Nat → Nat → Int) (H : Heap) : dkc pg R (.fadr 0 1 false) [.bp b (.agg (mC n f))] H = some (.bp b (.i .i64 n), H) := by
  simp [dkc, dk, Dn.part, mC, TV.isAgg]
/-- a market as a value: one of its costs -/
def rowC (f : Nat → Nat → Int) (i : Nat) : List TV := (List.range 5).map fun k => .i .i64 (f i k)
def tabC (f : Nat → Nat → Int) : List TV := (List.range 25).map fun j => .i .i64 (f (j / 5) (j % 5))
theorem fadr_mT (b : Bool) (n : Int) (f : Nat → Nat → Int) (H : Heap) : dkc pg R (.fadr 1 25 true) [.bp b (.agg (mC n f))] H = some (.bp b (.agg (tabC f)), H) := by
  have : ((mC n f).drop 1).take 25 = tabC f := by
    rw [mC, List.drop_succ_cons, List.drop_zero, List.take_of_length_le (by simp)]; rfl
  simp only [dkc, dk, Dn.part, if_true, mC_len, this]
  rfl
theorem ixA_tab (b : Bool) (f : Nat → Nat → Int) {i : Nat} (hi : i < 5) (H : Heap) : dkc pg R (.ixA 5 5 true) [.bp b (.agg (tabC f)), .i .i64 (i : Int)] H = some (.bp b (.agg (rowC f i)), H) := by
  have h1 : (tabC f).length = 25 := by simp [tabC]
  have h2 : ((tabC f).drop (i * 5)).take 5 = rowC f i := by
    apply List.ext_getElem?
    intro k
    unfold tabC rowC
    by_cases hk : k < 5
    · rw [List.getElem?_take, if_pos hk, List.getElem?_drop, List.getElem?_map, List.getElem?_map, List.getElem?_range (by omega), List.getElem?_range hk, Option.map_some, Option.map_some, show (i * 5 + k) / 5 = i by omega, show (i * 5 + k) % 5 = k by omega]
    · rw [List.getElem?_eq_none (by simp; omega), List.getElem?_eq_none (by simp; omega)]
  have h3 : i * 5 + 5 ≤ 25 := by omega
  have h4 : i * 5 ≤ 20 := by omega
  simp [dkc, dk, bound, hi, Dn.part, h1, h2, h3, h4]
theorem ixA_row (b : Bool) (f : Nat → Nat → Int) (i : Nat) {k : Nat} (hk : k < 5) (H : Heap) : dkc pg R (.ixA 5 1 false) [.bp b (.agg (rowC f i)), .i .i64 (k : Int)] H = some (.bp b (.i .i64 (f i k)), H) := by
  have h2 : (rowC f i)[k]? = some (.i .i64 (f i k)) := by
    unfold rowC
    rw [List.getElem?_map, List.getElem?_range hk, Option.map_some]
  simp [dkc, dk, bound, hk, Dn.part, h2, TV.isAgg]
end

/-- the costs of observations, as the table holds them -/
def costF (X : List Obs) : Nat → Nat → Int := fun i k => if i < X.length ∧ k < X.length then costOf X i k else 0

def mX (X : List Obs) : List TV := mC (X.length : Int) (costF X)

/-- a market, by value -/
def mV (X : List Obs) : TV := .bp true (.agg (mX X))

theorem mC_snap (n : Int) (f : Nat → Nat → Int) (m : SM) (H : Heap) (u : Nat) : mapO (snap m H (u + 1)) (mC n f) = some (mC n f) := by
  have : ∀ l : List Nat, mapO (snap m H (u + 1)) (l.map fun j => TV.i .i64 (f (j / 5) (j % 5))) = some (l.map fun j => TV.i .i64 (f (j / 5) (j % 5))) := by
    intro l
    induction l with
    | nil => rfl
    | cons x l ih => rw [List.map_cons, mapO, snS_i, Option.bind_some, ih]; rfl
  rw [mC, mapO, snS_i, Option.bind_some, this]
  rfl

theorem mV_snap (X : List Obs) (H : Heap) (u : Nat) : snap .borrow H (u + 3) (mV X) = some (mV X) := by
  rw [mV, snap]
  simp only [SM.flag, Option.bind_some]
  rw [snS_agg, mX, mC_snap]
  rfl

/-- a market's object, borrowed -/
theorem mR_snap {X : List Obs} {M : Nat} {H : Heap} (h : H[M]? = some (.cells (mX X) true)) (u : Nat) : snap .borrow H (u + 2) (.ref M 0) = some (mV X) := by
  rw [snap]
  simp only [h, mX, mC_snap]
  simp [mV, mX]

end Go.Proofs.Tryd.Dn

/-
  The market opened.
-/

namespace Go.Proofs.Tryd.Dn
open Go.Dn

theorem body_ofs {pg : Pg} {f : Nat} {xs : List TV} {d : DFun} {x : Ex} {e : Env} {H H' : Heap} {vs : List TV} (hd : pg.F f = some d) (hl : xs.length = d.np)
    (ho : go pg (den pg) [.c d.body] .normal (zipE xs 0) H = some ⟨x, e, H'⟩) (hx : x = .ret ∨ x = .normal) (hv : mapO (resRun e H') d.res = some vs) : bodyRun pg (den pg) f xs H = some (tupR vs, H') := by
  refine bodyRun_of (o := ⟨x, e, H'⟩) hd hl (by rw [runC_go]; exact ho) ?_ hv
  intro id
  rcases hx with rfl | rfl <;> simp

theorem Market.small {X : List Obs} {g : Nat} (h : Market X g) {x y : Obs} (hx : x ∈ X) (hy : y ∈ X) : x.1.length ≤ y.2.length ∧ x.1.length ≤ 1000 ∧ (∀ p ∈ x.1, 0 ≤ p ∧ p ≤ 1000) ∧ (∀ p ∈ y.2, 0 ≤ p ∧ p ≤ 1000) := by
  obtain ⟨a1, a2, a3, a4, a5⟩ := okObs_iff.1 (h.ok x hx)
  obtain ⟨b1, b2, b3, b4, b5⟩ := okObs_iff.1 (h.ok y hy)
  have := h.g3
  exact ⟨by omega, by omega, fun p hp => by have := a3 p hp; omega, fun p hp => by have := b4 p hp; omega⟩

theorem costOf_get {X : List Obs} {i k : Nat} {x y : Obs} (hx : X[i]? = some x) (hy : X[k]? = some y) : costOf X i k = dot x.1 y.2 := by
  simp [costOf, hx, hy]

theorem l53_1_round {pg : Pg} (hF : Free pg) {X : List Obs} {g : Nat} (hm : Market X g) {T T2 : TV} (hT : Rws T X) {i k M s : Nat} {x y : Obs} (hx : X[i]? = some x) (hy : X[k]? = some y) {a c : TV} (ha : SV a x.1) {n : Int} {f : Nat → Nat → Int} {H : Heap}
    (hM : H[M]? = some (.cells (mC n f) true)) (hs : H[s]? = some (.cells [a, c] true)) :
    ∃ H', den pg l53_1 [(0, T), (7, .ref M 0), (8, .i .i64 (i : Int)), (9, .ref s 0), (27, T2), (28, .i .i64 (X.length : Int)), (29, .i .i64 (i : Int)), (34, T), (35, .i .i64 (X.length : Int)), (36, .i .i64 (k : Int))] H =
        den pg l53_1 [(0, T), (7, .ref M 0), (8, .i .i64 (i : Int)), (9, .ref s 0), (27, T2), (28, .i .i64 (X.length : Int)), (29, .i .i64 (i : Int)), (34, T), (35, .i .i64 (X.length : Int)), (36, .i .i64 ((k + 1 : Nat) : Int))] H' ∧
      H'[M]? = some (.cells (mC n (upd f i k (costOf X i k))) true) ∧ H.length ≤ H'.length ∧ ∀ j, j < H.length → j ≠ M → H'[j]? = H[j]? := by
  have hn5 := hm.n5
  have hi := (List.getElem?_eq_some_iff.1 hx).1
  have hk := (List.getElem?_eq_some_iff.1 hy).1
  have hml := (List.getElem?_eq_some_iff.1 hM).1
  have hsl := (List.getElem?_eq_some_iff.1 hs).1
  have e1 : ((k : Int) < (X.length : Int)) := by omega
  have e2 : wrapR .i64 ((k : Int) + 1) = .i .i64 ((k : Int) + 1) := wrapR_i64 (by omega)
  obtain ⟨b, a', c', hix, ha', hc'⟩ := hT.ix (pg := pg) (R := den pg) hy H
  obtain ⟨s1, s2, s3⟩ := boxS (pg := pg) (R := den pg) H ha'.one hc'.one ha'.noagg hc'.noagg
  have d9 : dkc pg (den pg) (.ld 1 false) [.ref s 0] (H ++ [.cells [a', c'] true]) = some (a, H ++ [.cells [a', c'] true]) := by
    rw [k_ldR, List.getElem?_append_left hsl, hs, ldC_some]
    simp [Dn.part, ha.noagg, up]
  obtain ⟨q1, q2, q3, q4⟩ := hm.small (List.mem_of_getElem? hx) (List.mem_of_getElem? hy)
  have c77 := call77 hF ha hc' q1 q2 q3 q4
  have hst := st_mC (pg := pg) (R := den pg) (H := H ++ [.cells [a', c'] true]) (by rw [List.getElem?_append_left hml]; exact hM) (i := i) (k := k) (by omega) (by omega) (dot x.1 y.2)
  have hi5 : i < 5 := by omega
  have hk5 : k < 5 := by omega
  rw [costOf_get hx hy]
  refine ⟨(H ++ [AObj.cells [a', c'] true]).set M (.cells (mC n (upd f i k (dot x.1 y.2))) true), ?_, List.getElem?_set_self (by simp; omega), by simp, fun j hj hne => by rw [List.getElem?_set_ne (by omega), List.getElem?_append_left hj]⟩
  rw [l53_1, den_loop]
  simp [l53_1, b53_0, go_nil, go_last, go_past, go_pastR, go_blkN, go_blkR, go_blkE, go_skip, go_exit, go_ret, go_scope, go_seq, go_reg, go_regd, go_opdN, go_opd, go_opdG, grdd_b, grdd_u, stpd_some, find_some, go_block, go_cond, cnd_b, go_opsN, go_ops, go_opsG, grd_b, grd_u, stp_some, fin_some, up_some, cont_some, k_call, k_mv, k_pick, k_bin, k_eqB, k_eqA, k_not, k_neg, k_conv, k_alloc, k_boxA, k_boxI, k_boxB, k_boxN, k_boxBs, k_ldR, k_ldA, k_ldI, k_ldB, k_stA, k_stI, k_stB, ldC_some, stC_some, k_mkfn, k_slc, k_slcA, k_ixA, k_ixBs, k_ixSl, k_fadr, k_fld, k_ext, k_len, k_app, k_mn, k_mx, k_nilck, k_build, k_bsl1, k_bsl2, b_add, b_sub, b_mul, b_eql, b_neq, b_lss, b_leq, b_gtr, b_geq, Dn.setLast, Dn.getLast, evalO, mapO, Dn.get, putE, keepE, TV.one, TV.isAgg, Dn.part, e1, e2, hix, s1, s2, s3, d9, c77, hst, hi5, hk5]

theorem l53_1_all {pg : Pg} (hF : Free pg) {X : List Obs} {g : Nat} (hm : Market X g) {T T2 : TV} (hT : Rws T X) {i M s : Nat} {x : Obs} (hx : X[i]? = some x) {a c : TV} (ha : SV a x.1) {n : Int} : ∀ (d k : Nat) (f : Nat → Nat → Int) (H : Heap), k + d = X.length → s ≠ M →
    H[M]? = some (.cells (mC n f) true) → H[s]? = some (.cells [a, c] true) →
    ∃ e H', den pg l53_1 [(0, T), (7, .ref M 0), (8, .i .i64 (i : Int)), (9, .ref s 0), (27, T2), (28, .i .i64 (X.length : Int)), (29, .i .i64 (i : Int)), (34, T), (35, .i .i64 (X.length : Int)), (36, .i .i64 (k : Int))] H = some ⟨.exit 2, e, H'⟩ ∧
      keepE [0, 7, 27, 28, 29] e = [(0, T), (7, .ref M 0), (27, T2), (28, .i .i64 (X.length : Int)), (29, .i .i64 (i : Int))] ∧
      H'[M]? = some (.cells (mC n fun r q => if r = i ∧ k ≤ q ∧ q < X.length then costOf X i q else f r q) true) ∧ H.length ≤ H'.length ∧ ∀ j, j < H.length → j ≠ M → H'[j]? = H[j]?
  | 0, k, f, H, h, hsM, hM, hs => by
    have e1 : ¬ ((k : Int) < (X.length : Int)) := by omega
    refine ⟨[(0, T), (7, .ref M 0), (8, .i .i64 (i : Int)), (9, .ref s 0), (27, T2), (28, .i .i64 (X.length : Int)), (29, .i .i64 (i : Int)), (34, T), (35, .i .i64 (X.length : Int)), (36, .i .i64 (k : Int)), (37, .b false)], H, ?_, ?_, ?_, Nat.le_refl _, fun _ _ _ => rfl⟩
    · rw [l53_1, den_loop]
      simp [b53_0, go_nil, go_last, go_past, go_pastR, go_blkN, go_blkR, go_blkE, go_skip, go_exit, go_ret, go_scope, go_seq, go_reg, go_regd, go_opdN, go_opd, go_opdG, grdd_b, grdd_u, stpd_some, find_some, go_block, go_cond, cnd_b, go_opsN, go_ops, go_opsG, grd_b, grd_u, stp_some, fin_some, up_some, cont_some, k_call, k_mv, k_pick, k_bin, k_eqB, k_eqA, k_not, k_neg, k_conv, k_alloc, k_boxA, k_boxI, k_boxB, k_boxN, k_boxBs, k_ldR, k_ldA, k_ldI, k_ldB, k_stA, k_stI, k_stB, ldC_some, stC_some, k_mkfn, k_slc, k_slcA, k_ixA, k_ixBs, k_ixSl, k_fadr, k_fld, k_ext, k_len, k_app, k_mn, k_mx, k_nilck, k_build, k_bsl1, k_bsl2, b_add, b_sub, b_mul, b_eql, b_neq, b_lss, b_leq, b_gtr, b_geq, Dn.setLast, Dn.getLast, evalO, mapO, Dn.get, putE, keepE, TV.one, TV.isAgg, Dn.part, e1]
    · simp [keepE, Dn.get]
    · rw [hM]
      congr 3
      funext r q
      rw [if_neg (by omega)]
  | d + 1, k, f, H, h, hsM, hM, hs => by
    have hk : k < X.length := by omega
    have hsl := (List.getElem?_eq_some_iff.1 hs).1
    obtain ⟨H1, h1, h2, h3, h4⟩ := l53_1_round hF hm (T2 := T2) hT hx (List.getElem?_eq_getElem hk) ha hM hs
    obtain ⟨e, H', h5, h6, h7, h8, h9⟩ := l53_1_all hF hm (T2 := T2) hT hx ha d (k + 1) _ H1 (by omega) hsM h2 (by rw [h4 s hsl hsM]; exact hs)
    refine ⟨e, H', h1.trans h5, h6, ?_, by omega, fun j hj hne => by rw [h9 j (by omega) hne, h4 j hj hne]⟩
    rw [h7]
    congr 3
    funext r q
    simp only [upd]
    by_cases hr : r = i
    · by_cases hq : q = k
      · subst hr hq
        rw [if_neg (by omega), if_pos ⟨rfl, rfl⟩, if_pos ⟨rfl, Nat.le_refl _, hk⟩]
      · by_cases hq2 : k + 1 ≤ q ∧ q < X.length
        · rw [if_pos ⟨hr, hq2⟩, if_pos ⟨hr, by omega, hq2.2⟩]
        · rw [if_neg (by omega), if_neg (by omega), if_neg (by omega)]
    · rw [if_neg (by omega), if_neg (by omega), if_neg (by omega)]

theorem l53_3_all {pg : Pg} (hF : Free pg) {X : List Obs} {g : Nat} (hm : Market X g) {T : TV} (hT : Rws T X) {M : Nat} {n : Int} : ∀ (d i : Nat) (f : Nat → Nat → Int) (H : Heap), i + d = X.length →
    H[M]? = some (.cells (mC n f) true) →
    ∃ e H', den pg l53_3 [(0, T), (7, .ref M 0), (27, T), (28, .i .i64 (X.length : Int)), (29, .i .i64 (i : Int))] H = some ⟨.exit 0, e, H'⟩ ∧ Dn.get e 7 = some (.ref M 0) ∧
      H'[M]? = some (.cells (mC n fun r q => if i ≤ r ∧ r < X.length ∧ q < X.length then costOf X r q else f r q) true) ∧ H.length ≤ H'.length ∧ ∀ j, j < H.length → j ≠ M → H'[j]? = H[j]?
  | 0, i, f, H, h, hM => by
    have e1 : ¬ ((i : Int) < (X.length : Int)) := by omega
    refine ⟨[(0, T), (7, .ref M 0), (27, T), (28, .i .i64 (X.length : Int)), (29, .i .i64 (i : Int)), (30, .b false)], H, ?_, rfl, ?_, Nat.le_refl _, fun _ _ _ => rfl⟩
    · rw [l53_3, den_loop]
      simp [b53_2, go_nil, go_last, go_past, go_pastR, go_blkN, go_blkR, go_blkE, go_skip, go_exit, go_ret, go_scope, go_seq, go_reg, go_regd, go_opdN, go_opd, go_opdG, grdd_b, grdd_u, stpd_some, find_some, go_block, go_cond, cnd_b, go_opsN, go_ops, go_opsG, grd_b, grd_u, stp_some, fin_some, up_some, cont_some, k_call, k_mv, k_pick, k_bin, k_eqB, k_eqA, k_not, k_neg, k_conv, k_alloc, k_boxA, k_boxI, k_boxB, k_boxN, k_boxBs, k_ldR, k_ldA, k_ldI, k_ldB, k_stA, k_stI, k_stB, ldC_some, stC_some, k_mkfn, k_slc, k_slcA, k_ixA, k_ixBs, k_ixSl, k_fadr, k_fld, k_ext, k_len, k_app, k_mn, k_mx, k_nilck, k_build, k_bsl1, k_bsl2, b_add, b_sub, b_mul, b_eql, b_neq, b_lss, b_leq, b_gtr, b_geq, Dn.setLast, Dn.getLast, evalO, mapO, Dn.get, putE, keepE, TV.one, TV.isAgg, Dn.part, e1]
    · rw [hM]
      congr 3
      funext r q
      rw [if_neg (by omega)]
  | d + 1, i, f, H, h, hM => by
    have hi : i < X.length := by omega
    have hn5 := hm.n5
    have hml := (List.getElem?_eq_some_iff.1 hM).1
    have e1 : ((i : Int) < (X.length : Int)) := by omega
    have e2 : wrapR .i64 ((i : Int) + 1) = .i .i64 ((i : Int) + 1) := wrapR_i64 (by omega)
    have hlen := hT.len
    have hx : X[i]? = some X[i] := List.getElem?_eq_getElem hi
    obtain ⟨b, a, c, hix, ha, hc⟩ := hT.ix (pg := pg) (R := den pg) hx H
    obtain ⟨s1, s2, s3⟩ := boxS (pg := pg) (R := den pg) H ha.one hc.one ha.noagg hc.noagg
    obtain ⟨e, H1, h1, h2, h3, h4, h5⟩ := l53_1_all hF hm (T2 := T) hT hx ha (s := H.length) (c := c) (M := M) (n := n) X.length 0 f (H ++ [.cells [a, c] true]) (by omega) (by omega) (by rw [List.getElem?_append_left hml]; exact hM) (getLast _ _)
    simp only [Int.natCast_zero] at h1
    obtain ⟨e', H', h6, h7, h8, h9, h10⟩ := l53_3_all hF hm hT d (i + 1) _ H1 (by omega) h3
    refine ⟨e', H', Eq.trans ?_ h6, h7, ?_, by simp at h4; omega, fun j hj hne => by rw [h10 j (by simp at h4; omega) hne, h5 j (by simp; omega) hne, List.getElem?_append_left hj]⟩
    · have hk : ∀ s, s ∈ [0, 7, 27, 28, 29] → Dn.get e s = Dn.get [(0, T), (7, .ref M 0), (27, T), (28, .i .i64 (X.length : Int)), (29, .i .i64 (i : Int))] s := by
        intro s hs
        rw [← h2, get_keepE_mem hs]
      have g0 := hk 0 (by simp)
      have g7 := hk 7 (by simp)
      have g27 := hk 27 (by simp)
      have g28 := hk 28 (by simp)
      have g29 := hk 29 (by simp)
      simp [Dn.get] at g0 g7 g27 g28 g29
      rw [l53_3, den_loop]
      simp [l53_3, b53_2, go_nil, go_last, go_past, go_pastR, go_blkN, go_blkR, go_blkE, go_skip, go_exit, go_ret, go_scope, go_seq, go_reg, go_regd, go_opdN, go_opd, go_opdG, grdd_b, grdd_u, stpd_some, find_some, go_block, go_cond, cnd_b, go_opsN, go_ops, go_opsG, grd_b, grd_u, stp_some, fin_some, up_some, cont_some, k_call, k_mv, k_pick, k_bin, k_eqB, k_eqA, k_not, k_neg, k_conv, k_alloc, k_boxA, k_boxI, k_boxB, k_boxN, k_boxBs, k_ldR, k_ldA, k_ldI, k_ldB, k_stA, k_stI, k_stB, ldC_some, stC_some, k_mkfn, k_slc, k_slcA, k_ixA, k_ixBs, k_ixSl, k_fadr, k_fld, k_ext, k_len, k_app, k_mn, k_mx, k_nilck, k_build, k_bsl1, k_bsl2, b_add, b_sub, b_mul, b_eql, b_neq, b_lss, b_leq, b_gtr, b_geq, Dn.setLast, Dn.getLast, evalO, mapO, Dn.get, putE, keepE, TV.one, TV.isAgg, Dn.part, e1, e2, hix, s1, s2, s3, hlen, go_denK (c := l53_1) rfl, h1, g0, g7, g27, g28, g29]
    · rw [h8]
      congr 3
      funext r q
      by_cases hr : r = i
      · by_cases hq : q < X.length
        · rw [if_neg (by omega), if_pos ⟨hr, Nat.zero_le _, hq⟩, if_pos ⟨by omega, by omega, hq⟩, hr]
        · rw [if_neg (by omega), if_neg (by omega), if_neg (by omega)]
      · by_cases hr2 : i + 1 ≤ r ∧ r < X.length ∧ q < X.length
        · rw [if_pos hr2, if_pos ⟨by omega, hr2.2⟩]
        · rw [if_neg hr2, if_neg (by omega), if_neg (by omega)]

theorem market_lens {X : List Obs} {g : Nat} (hm : Market X g) : X.length ≤ 100 ∧ ∀ x ∈ X, x.1.length ≤ 1000 ∧ x.2.length ≤ 1000 := by
  refine ⟨by have := hm.n5; omega, fun x hx => ?_⟩
  obtain ⟨a1, a2, _⟩ := okObs_iff.1 (hm.ok x hx)
  have := hm.g3
  omega

/-- open, where all is well -/
theorem body53 {pg : Pg} (hF : Free pg) {X : List Obs} {g : Nat} (hm : Market X g) {T P P' : TV} (hT : Rws T X) {ps : List Int} (hP : SV P' ps) (hps : ps.length ≤ 1000) (hin : ∀ p ∈ ps, 0 ≤ p ∧ p < X.length) {H : Heap} (hsn : Dn.snap .borrow H 9 P = some P') :
    ∃ H', bodyRun pg (den pg) 53 [T, P] H = some (.tup [.ref H.length 0, .i .i64 0], H') ∧ H'[H.length]? = some (.cells (mX X) true) ∧ H.length < H'.length ∧ ∀ j, j < H.length → H'[j]? = H[j]? := by
  have hlen := hT.len
  have hn1 := hm.n1
  have hn5 := hm.n5
  obtain ⟨q1, q2⟩ := market_lens hm
  have c52 := call52 hF hT q1 q2 H
  have hE : chkE X = 0 := by simp [chkE, market_of hm]
  rw [hE] at c52
  have e2 : wrapR .i64 ((X.length : Int) - 1) = .i .i64 ((X.length : Int) - 1) := wrapR_i64 (by omega)
  have hany : ps.any (outside 0 ((X.length : Int) - 1)) = false := by
    rw [any_out]; intro p hp
    have := hin p hp; omega
  have c76 : callRun pg (den pg) (.pu []) [.fn 76 [] [], P, .i .i64 0, .i .i64 ((X.length : Int) - 1)] H = some (.b true, H) := by
    have := PFn.call (fn76 hF hP (by omega) 0 ((X.length : Int) - 1)) (args := [P, .i .i64 0, .i .i64 ((X.length : Int) - 1)]) (ks := []) (fs := []) (cs := []) (H := H) (by simp [snapArgs, sn_i, hsn])
    rw [hany] at this
    exact this
  have k1 : fillP (List.replicate 26 (.i .i64 0)) [(0, 1)] [.i .i64 (X.length : Int)] = some (mC (X.length : Int) fun _ _ => 0) := rfl
  simp only [List.replicate] at k1
  have k2 := k_box53 (pg := pg) (R := den pg) (X.length : Int) (fun _ _ => 0) H
  obtain ⟨e, H', h1, h2, h3, h4, h5⟩ := l53_3_all hF hm hT (M := H.length) (n := X.length) X.length 0 (fun _ _ => 0) (H ++ [.cells (mC X.length fun _ _ => 0) true]) (by omega) (getLast _ _)
  simp only [Int.natCast_zero] at h1
  refine ⟨H', body_ofs (x := .ret) (e := [(4, .ref H.length 0), (5, .i .i64 0)]) (vs := [.ref H.length 0, .i .i64 0]) (d := d53) (by rw [hF.F]; rfl) rfl ?_ (.inl rfl) rfl, ?_, by simp at h4; omega, fun j hj => by rw [h5 j (by simp; omega) (by omega), List.getElem?_append_left hj]⟩
  · simp [d53, c53, zipE, go_nil, go_last, go_past, go_pastR, go_blkN, go_blkR, go_blkE, go_skip, go_exit, go_ret, go_scope, go_seq, go_reg, go_regd, go_opdN, go_opd, go_opdG, grdd_b, grdd_u, stpd_some, find_some, go_block, go_cond, cnd_b, go_opsN, go_ops, go_opsG, grd_b, grd_u, stp_some, fin_some, up_some, cont_some, k_call, k_mv, k_pick, k_bin, k_eqB, k_eqA, k_not, k_neg, k_conv, k_alloc, k_boxA, k_boxI, k_boxB, k_boxN, k_boxBs, k_ldR, k_ldA, k_ldI, k_ldB, k_stA, k_stI, k_stB, ldC_some, stC_some, k_mkfn, k_slc, k_slcA, k_ixA, k_ixBs, k_ixSl, k_fadr, k_fld, k_ext, k_len, k_app, k_mn, k_mx, k_nilck, k_build, k_bsl1, k_bsl2, b_add, b_sub, b_mul, b_eql, b_neq, b_lss, b_leq, b_gtr, b_geq, Dn.setLast, Dn.getLast, evalO, mapO, Dn.get, putE, keepE, TV.one, TV.isAgg, Dn.part, hlen, c52, c76, e2, k1, k2, go_denK (c := l53_3) rfl, h1, h2]
  · rw [h3]
    congr 3
    funext r q
    simp only [costF]
    by_cases h : r < X.length ∧ q < X.length
    · rw [if_pos ⟨Nat.zero_le _, h⟩, if_pos h]
    · rw [if_neg (by omega), if_neg h]

end Go.Proofs.Tryd.Dn

