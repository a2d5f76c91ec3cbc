/-
  Observations, what they cost, and what is preferred: in plain terms.
-/
import Derived.Test.YtgmlmmgpcbollaaDoorDd
import Derived.Test.YtgmlmmgpcbollaaDoorPriDT
set_option linter.unusedSimpArgs false
set_option linter.unusedVariables false

namespace Go.Proofs.Tryd.Dn
open Go.Dn

abbrev Obs := List Int × List Int

def dot : List Int → List Int → Int
  | p :: ps, b :: bs => p * b + dot ps bs
  | _, _ => 0

def okObs (g : Nat) (x : Obs) : Bool := x.1.length == g && x.2.length == g && x.1.all (fun p => decide (1 ≤ p) && decide (p ≤ 20)) && x.2.all (fun p => decide (0 ≤ p) && decide (p ≤ 20)) && x.2.any (fun p => decide (0 < p))

def goodsOf : List Obs → Nat
  | [] => 0
  | x :: _ => x.1.length

/-- whether these are observations -/
def market (X : List Obs) : Bool := decide (1 ≤ X.length) && decide (X.length ≤ 5) && decide (1 ≤ goodsOf X) && decide (goodsOf X ≤ 3) && X.all (okObs (goodsOf X))

theorem okObs_iff {g : Nat} {x : Obs} : okObs g x = true ↔ x.1.length = g ∧ x.2.length = g ∧ (∀ p ∈ x.1, 1 ≤ p ∧ p ≤ 20) ∧ (∀ p ∈ x.2, 0 ≤ p ∧ p ≤ 20) ∧ ∃ p ∈ x.2, 0 < p := by
  simp [okObs, and_assoc]

structure Market (X : List Obs) (g : Nat) : Prop where
  n1 : 1 ≤ X.length
  n5 : X.length ≤ 5
  g1 : 1 ≤ g
  g3 : g ≤ 3
  ok : ∀ x ∈ X, okObs g x = true

theorem market_iff {X : List Obs} : market X = true ↔ Market X (goodsOf X) := by
  simp only [market, Bool.and_eq_true, decide_eq_true_eq, List.all_eq_true]
  exact ⟨fun ⟨⟨⟨⟨a, b⟩, c⟩, d⟩, e⟩ => ⟨a, b, c, d, e⟩, fun ⟨a, b, c, d, e⟩ => ⟨⟨⟨⟨a, b⟩, c⟩, d⟩, e⟩⟩

theorem dot_le : ∀ {ps bs : List Int} {g : Nat}, ps.length = g → bs.length = g → (∀ p ∈ ps, 1 ≤ p ∧ p ≤ 20) → (∀ p ∈ bs, 0 ≤ p ∧ p ≤ 20) → 0 ≤ dot ps bs ∧ dot ps bs ≤ 400 * (g : Int)
  | [], _, g, h, _, _, _ => by subst h; simp [dot]
  | p :: ps, [], g, h, h2, _, _ => by subst h; simp at h2
  | p :: ps, b :: bs, g, h, h2, h3, h4 => by
    subst h
    have hp := h3 p (by simp)
    have hb := h4 b (by simp)
    have ih := dot_le (ps := ps) (bs := bs) rfl (by simpa using h2) (fun p hp => h3 p (by simp [hp])) (fun p hp => h4 p (by simp [hp]))
    have h5 : 0 ≤ p * b := Int.mul_nonneg (by omega) hb.1
    have h6 : p * b ≤ 20 * 20 := Int.mul_le_mul hp.2 hb.2 hb.1 (by omega)
    simp only [dot, List.length_cons]
    omega

theorem dot_pos : ∀ {ps bs : List Int} {g : Nat}, ps.length = g → bs.length = g → (∀ p ∈ ps, 1 ≤ p ∧ p ≤ 20) → (∀ p ∈ bs, 0 ≤ p ∧ p ≤ 20) → (∃ p ∈ bs, 0 < p) → 1 ≤ dot ps bs
  | [], [], g, h, _, _, _, h5 => by simp at h5
  | [], _ :: _, g, h, h2, _, _, h5 => by subst h; simp at h2
  | p :: ps, [], g, h, h2, _, _, h5 => by simp at h5
  | p :: ps, b :: bs, g, h, h2, h3, h4, h5 => by
    subst h
    have hp := h3 p (by simp)
    have hb := h4 b (by simp)
    have h6 := dot_le (ps := ps) (bs := bs) rfl (by simpa using h2) (fun p hp => h3 p (by simp [hp])) (fun p hp => h4 p (by simp [hp]))
    have h7 : 0 ≤ p * b := Int.mul_nonneg (by omega) hb.1
    simp only [dot]
    by_cases hb0 : 0 < b
    · have : 1 * 1 ≤ p * b := Int.mul_le_mul hp.1 (by omega) (by omega) (by omega)
      omega
    · have := dot_pos (ps := ps) (bs := bs) rfl (by simpa using h2) (fun p hp => h3 p (by simp [hp])) (fun p hp => h4 p (by simp [hp])) (by
        obtain ⟨q, hq, h0⟩ := h5
        rcases List.mem_cons.1 hq with rfl | hq
        · exact absurd h0 hb0
        · exact ⟨q, hq, h0⟩)
      omega

/-- the cost of bundle k at the prices of i -/
def costOf (X : List Obs) (i k : Nat) : Int := dot ((X[i]?.map (·.1)).getD []) ((X[k]?.map (·.2)).getD [])

theorem Market.cost {X : List Obs} {g : Nat} (h : Market X g) {i k : Nat} (hi : i < X.length) (hk : k < X.length) : 0 ≤ costOf X i k ∧ costOf X i k ≤ 1200 := by
  obtain ⟨a1, a2, a3, a4, a5⟩ := okObs_iff.1 (h.ok X[i] (List.getElem_mem hi))
  obtain ⟨b1, b2, b3, b4, b5⟩ := okObs_iff.1 (h.ok X[k] (List.getElem_mem hk))
  have := dot_le a1 b2 a3 b4
  have := h.g3
  simp only [costOf, List.getElem?_eq_getElem hi, List.getElem?_eq_getElem hk, Option.map_some, Option.getD_some]
  omega

theorem Market.own {X : List Obs} {g : Nat} (h : Market X g) {i : Nat} (hi : i < X.length) : 1 ≤ costOf X i i := by
  obtain ⟨a1, a2, a3, a4, a5⟩ := okObs_iff.1 (h.ok X[i] (List.getElem_mem hi))
  simp only [costOf, List.getElem?_eq_getElem hi, Option.map_some, Option.getD_some]
  exact dot_pos a1 a2 a3 a4 a5

def costRow (X : List Obs) (i : Nat) : List Int := (List.range X.length).map fun k => costOf X i k
def costs (X : List Obs) : List (List Int) := (List.range X.length).map (costRow X)

end Go.Proofs.Tryd.Dn

/-
  Observations copied: few, given, own.
-/

namespace Go.Proofs.Tryd.Dn
open Go.Dn

/-- known answers are not in the way -/
structure Free (pg : Pg) : Prop where
  F : pg.F = tab.look
  G : pg.G 0 = some (.agg [.i .i64 1, .i .i64 1])
  S : ∀ f xs, f ≠ 24 → pg.S f xs = none

theorem mn_nat (n m : Nat) : (if (n : Int) < (m : Int) then (n : Int) else (m : Int)) = ((min n m : Nat) : Int) := by
  split <;> omega

theorem fn29 {pg : Pg} (hF : Free pg) {t : TV} {l : List Int} (ht : SV t l) {n : Nat} (hn : n ≤ 1000) : PFn pg 29 [t, .i .i64 (n : Int)] (elI.lt false (l.take n)) := by
  have hlen := (ht.view []).lenK
  obtain ⟨v, hv, hview, _⟩ := (ht.view []).slc (lo := 0) (hi := min n l.length) (bl := false) (bh := true) (vs := [.i .i64 ((min n l.length : Nat) : Int)]) (by omega) (by omega) (by simp [bounds3, bound])
  have htk : (l.take (min n l.length)).drop 0 = l.take n := by
    rw [List.drop_zero]
    by_cases h : n ≤ l.length
    · rw [Nat.min_eq_left h]
    · rw [Nat.min_eq_right (by omega), List.take_length, List.take_of_length_le (by omega)]
  rw [htk] at hview
  obtain ⟨t', H', ha, ho, _⟩ := El.app (E := elI) (bytes := 8) (H := []) (t := .nilsl) (l := []) (.inl ⟨rfl, rfl⟩) hview (by simp; omega)
  rw [List.nil_append] at ho
  have ha' : appRun 1 false 8 .nilsl v [] = some (t', H') := ha
  have hv' : slcRun false true false 1 false t [.i .i64 ((min n l.length : Nat) : Int)] = some v := hv
  rw [← mn_nat] at hv'
  simp only [Int.ofNat_lt] at hv'
  refine .of_go (x := .ret) (e := [(4, t')]) (H' := H') (vs := [t']) (hF.S _ _ (by decide)) (d := d29) (by rw [hF.F]; rfl) rfl ?_ (.inl rfl) rfl (ho.fin elI_flat)
  simp [d29, c29, zipE, go_nil, go_last, go_past, go_pastR, go_blkN, go_blkR, go_blkE, go_skip, go_exit, go_ret, go_scope, go_seq, go_reg, go_block, go_cond, cnd_b, go_opsN, go_ops, go_opsG, grd_b, grd_u, stp_some, fin_some, up_some, cont_some, k_call, k_mv, k_pick, k_bin, k_eqB, k_eqA, k_not, k_neg, k_conv, k_alloc, k_boxA, k_boxI, k_boxB, k_boxN, k_boxBs, k_ldR, k_ldA, k_ldI, k_ldB, k_stA, k_stI, k_stB, ldC_some, stC_some, k_mkfn, k_slc, k_slcA, k_ixA, k_ixBs, k_ixSl, k_fadr, k_fld, k_ext, k_len, k_app, k_mn, k_mx, k_nilck, k_build, k_bsl1, k_bsl2, b_add, b_sub, b_mul, b_eql, b_neq, b_lss, b_leq, b_gtr, b_geq, Dn.setLast, Dn.getLast, evalO, mapO, Dn.get, putE, keepE, TV.one, TV.isAgg, Dn.part, hlen, hv', ha']

theorem call29 {pg : Pg} (hF : Free pg) {a : TV} {l : List Int} (ha : SV a l) {n : Nat} (hn : n ≤ 1000) (H : Heap) : callRun pg (den pg) (.pu []) [.fn 29 [] [], a, .i .i64 (n : Int)] H = some (elI.lt false (l.take n), H) := by
  obtain ⟨a', h1, h2⟩ := ha.snap H 7
  exact PFn.call (fn29 hF h2 hn) (args := [a, .i .i64 (n : Int)]) (by simp [snapArgs, sn_i, h1])

section
variable {pg : Pg} {R : Rec}
theorem k_buildS (b c : Bool) (p q : List Int) (H : Heap) : dkc pg R (.build [.nilsl, .nilsl] [(0, 1), (1, 1)]) [elI.lt b p, elI.lt c q] H = some (.agg [elI.lt b p, elI.lt c q], H) := by
  rw [k_build]
  simp [fillP, El.lt_cells, El.lt_one, put2, up]
theorem k_bslS (b c : Bool) (p q : List Int) (H : Heap) : dkc pg R (.bsl false [.nilsl, .nilsl] true 1 [0]) [.agg [elI.lt b p, elI.lt c q]] H = some (.sl H.length 0 2 true 1 (some 1), H ++ [.cells [elI.lt b p, elI.lt c q] false]) := by
  simp [dkc, dk, fillP, repl, put2, TV.cells, El.lt_one]
end

theorem one_viewE {α : Type} (E : El α) (H : Heap) (x : α) : E.View (H ++ [.cells (E.enc x) false]) (.sl H.length 0 E.sz E.ag 1 (some 1)) [x] :=
  .inr (.inr ⟨H.length, 0, some 1, _, false, rfl, by simp, getLast _ _, by simp [E.len], by
    rw [List.drop_zero, E.flat_one, List.length_singleton, Nat.one_mul, ← E.len x, List.take_length]⟩)

def cut (n : Nat) (x : Obs) : Obs := (x.1.take n, x.2.take n)

theorem l18_round {pg : Pg} (hF : Free pg) {T out : TV} {l m : List Obs} {i : Nat} {x : Obs} {H : Heap} (hT : Rws T l) (hx : l[i]? = some x) (hl : l.length ≤ 9223372036854775807) (ho : (elS false).Own H out m) (hm : m.length ≤ 1000000) :
    ∃ out' H', den pg l18_1 [(0, T), (3, out), (4, .i .i64 (i : Int))] H = den pg l18_1 [(0, T), (3, out'), (4, .i .i64 ((i + 1 : Nat) : Int))] H' ∧ (elS false).Own H' out' (m ++ [cut 4 x]) := by
  have hi := (List.getElem?_eq_some_iff.1 hx).1
  have e1 : ((i : Int) < (l.length : Int)) := by omega
  have e2 : wrapR .i64 ((i : Int) + 1) = .i .i64 ((i : Int) + 1) := wrapR_i64 (by omega)
  have hlen := hT.len
  obtain ⟨b, a, c, hix, ha, hc⟩ := hT.ix (pg := pg) (R := den pg) hx H
  obtain ⟨f1, f2⟩ := k_fadrP (pg := pg) (R := den pg) b a c ha.noagg hc.noagg H
  have d1 := k_ldV (pg := pg) (R := den pg) b a ha.one H
  have d2 := k_ldV (pg := pg) (R := den pg) b c hc.one H
  have c1 := call29 hF ha (n := 4) (by omega) H
  have c2 := call29 hF hc (n := 4) (by omega) H
  simp only [Int.cast_ofNat_Int] at c1 c2
  have k1 := k_buildS (pg := pg) (R := den pg) false false (x.1.take 4) (x.2.take 4) H
  have k2 := k_bslS (pg := pg) (R := den pg) false false (x.1.take 4) (x.2.take 4) H
  obtain ⟨out', H', h1, h2, _⟩ := El.app (E := elS false) (bytes := 48) (H := H ++ [.cells [elI.lt false (x.1.take 4), elI.lt false (x.2.take 4)] false]) (ho.mono fun id hid => by rw [List.getElem?_append_left (ho.lt id hid)]) (one_viewE (elS false) H (cut 4 x)) (by simp; omega)
  have h1' : appRun 2 true 48 out (.sl H.length 0 2 true 1 (some 1)) (H ++ [.cells [elI.lt false (x.1.take 4), elI.lt false (x.2.take 4)] false]) = some (out', H') := h1
  refine ⟨out', H', ?_, h2⟩
  rw [l18_1, den_loop]
  simp [l18_1, b18_0, go_nil, go_last, go_past, go_pastR, go_blkN, go_blkR, go_blkE, go_skip, go_exit, go_ret, go_scope, go_seq, go_reg, go_block, go_cond, cnd_b, go_opsN, go_ops, go_opsG, grd_b, grd_u, stp_some, fin_some, up_some, cont_some, k_call, k_mv, k_pick, k_bin, k_eqB, k_eqA, k_not, k_neg, k_conv, k_alloc, k_boxA, k_boxI, k_boxB, k_boxN, k_boxBs, k_ldR, k_ldA, k_ldI, k_ldB, k_stA, k_stI, k_stB, ldC_some, stC_some, k_mkfn, k_slc, k_slcA, k_ixA, k_ixBs, k_ixSl, k_fadr, k_fld, k_ext, k_len, k_app, k_mn, k_mx, k_nilck, k_build, k_bsl1, k_bsl2, b_add, b_sub, b_mul, b_eql, b_neq, b_lss, b_leq, b_gtr, b_geq, Dn.setLast, Dn.getLast, evalO, mapO, Dn.get, putE, keepE, TV.one, TV.isAgg, Dn.part, e1, e2, hlen, hix, f1, f2, d1, d2, c1, c2, k1, k2, h1']

theorem l18_all {pg : Pg} (hF : Free pg) {T : TV} {l : List Obs} (hT : Rws T l) (hl : l.length ≤ 100) : ∀ (k i : Nat) (m : List Obs) (out : TV) (H : Heap), i + k = l.length → (elS false).Own H out m → m.length = i →
    ∃ out' e H', den pg l18_1 [(0, T), (3, out), (4, .i .i64 (i : Int))] H = some ⟨.exit 0, e, H'⟩ ∧ Dn.get e 3 = some out' ∧ Dn.get e 0 = some T ∧ (elS false).Own H' out' (m ++ (l.drop i).map (cut 4))
  | 0, i, m, out, H, h, ho, hm => by
    have e1 : ¬ ((i : Int) < (l.length : Int)) := by omega
    have hlen := hT.len
    refine ⟨out, [(0, T), (3, out), (4, .i .i64 (i : Int)), (8, .b false)], H, ?_, rfl, rfl, ?_⟩
    · rw [l18_1, den_loop]
      simp [b18_0, go_nil, go_last, go_past, go_pastR, go_blkN, go_blkR, go_blkE, go_skip, go_exit, go_ret, go_scope, go_seq, go_reg, go_block, go_cond, cnd_b, go_opsN, go_ops, go_opsG, grd_b, grd_u, stp_some, fin_some, up_some, cont_some, k_call, k_mv, k_pick, k_bin, k_eqB, k_eqA, k_not, k_neg, k_conv, k_alloc, k_boxA, k_boxI, k_boxB, k_boxN, k_boxBs, k_ldR, k_ldA, k_ldI, k_ldB, k_stA, k_stI, k_stB, ldC_some, stC_some, k_mkfn, k_slc, k_slcA, k_ixA, k_ixBs, k_ixSl, k_fadr, k_fld, k_ext, k_len, k_app, k_mn, k_mx, k_nilck, k_build, k_bsl1, k_bsl2, b_add, b_sub, b_mul, b_eql, b_neq, b_lss, b_leq, b_gtr, b_geq, Dn.setLast, Dn.getLast, evalO, mapO, Dn.get, putE, keepE, TV.one, TV.isAgg, Dn.part, hlen, e1]
    · rw [List.drop_eq_nil_of_le (by omega)]; simpa using ho
  | k + 1, i, m, out, H, h, ho, hm => by
    have hi : i < l.length := by omega
    obtain ⟨out', H', h1, h2⟩ := l18_round hF (i := i) hT (List.getElem?_eq_getElem hi) (by omega) ho (by omega)
    obtain ⟨out2, e, H2, h3, h4, h5, h6⟩ := l18_all hF hT hl k (i + 1) (m ++ [cut 4 l[i]]) out' H' (by omega) h2 (by simp; omega)
    refine ⟨out2, e, H2, h1.trans h3, h4, h5, ?_⟩
    rw [List.drop_eq_getElem_cons hi, List.map_cons]
    simpa [List.append_assoc] using h6

theorem fn18 {pg : Pg} (hF : Free pg) {T : TV} {l : List Obs} (hT : Rws T l) (hl : l.length ≤ 100) : PFn pg 18 [T] ((elS false).lt false (l.map (cut 4))) := by
  obtain ⟨out', e, H', h1, h2, h3, h4⟩ := l18_all hF hT hl l.length 0 [] .nilsl [] (by omega) (.inl ⟨rfl, rfl⟩) rfl
  simp only [List.drop_zero, List.nil_append, Int.natCast_zero] at h1 h4
  refine .of_go (x := .ret) (e := [(2, out')]) (H' := H') (vs := [out']) (hF.S _ _ (by decide)) (d := d18) (by rw [hF.F]; rfl) rfl ?_ (.inl rfl) rfl (h4.to (by decide) (E' := elS false) rfl (mapO_map fun a _ => snap_pairF H' 5 a))
  simp [d18, c18, zipE, go_nil, go_last, go_past, go_pastR, go_blkN, go_blkR, go_blkE, go_skip, go_exit, go_ret, go_scope, go_seq, go_reg, go_block, go_cond, cnd_b, go_opsN, go_ops, go_opsG, grd_b, grd_u, stp_some, fin_some, up_some, cont_some, k_call, k_mv, k_pick, k_bin, k_eqB, k_eqA, k_not, k_neg, k_conv, k_alloc, k_boxA, k_boxI, k_boxB, k_boxN, k_boxBs, k_ldR, k_ldA, k_ldI, k_ldB, k_stA, k_stI, k_stB, ldC_some, stC_some, k_mkfn, k_slc, k_slcA, k_ixA, k_ixBs, k_ixSl, k_fadr, k_fld, k_ext, k_len, k_app, k_mn, k_mx, k_nilck, k_build, k_bsl1, k_bsl2, b_add, b_sub, b_mul, b_eql, b_neq, b_lss, b_leq, b_gtr, b_geq, Dn.setLast, Dn.getLast, evalO, mapO, Dn.get, putE, keepE, TV.one, TV.isAgg, Dn.part, go_denK (c := l18_1) rfl, h1, h2, h3]

theorem call18 {pg : Pg} (hF : Free pg) {T : TV} {l : List Obs} (hT : Rws T l) (hl : l.length ≤ 100) (H : Heap) : callRun pg (den pg) (.pu []) [.fn 18 [] [], T] H = some ((elS false).lt false (l.map (cut 4)), H) := by
  obtain ⟨T', h1, h2⟩ := hT.snap H 5
  exact PFn.call (fn18 hF h2 hl) (args := [T]) (by simp [snapArgs, h1])

end Go.Proofs.Tryd.Dn

/-
  Whether these are observations: the program's Check.
-/

namespace Go.Proofs.Tryd.Dn
open Go.Dn

/-- a function of whole numbers that answers like a predicate -/
def Tells (pg : Pg) (f : TV) (H : Heap) (P : Int → Bool) : Prop := ∀ v, callRun pg (den pg) .sh [f, .i .i64 v] H = some (.b (P v), H)

theorem l95_all {pg : Pg} (hF : Free pg) {H : Heap} {s f : TV} {l : List Int} {P : Int → Bool} (hs : elI.View H s l) (hf : Tells pg f H P) (hl : l.length ≤ 9223372036854775807) : ∀ (k i : Nat), i + k = l.length →
    ∃ x e, den pg l95_1 [(0, s), (1, f), (7, .i .i64 (l.length : Int)), (8, .i .i64 (i : Int))] H = some ⟨x, e, H⟩ ∧ (x = .exit 0 ∧ firstIdx P (l.drop i) i = -1 ∨ x = .ret ∧ e = [(4, .i .i64 (firstIdx P (l.drop i) i))])
  | 0, i, h => by
    have e1 : ¬ ((i : Int) < (l.length : Int)) := by omega
    refine ⟨.exit 0, [(0, s), (1, f), (7, .i .i64 (l.length : Int)), (8, .i .i64 (i : Int)), (9, .b false)], ?_, .inl ⟨rfl, ?_⟩⟩
    · rw [l95_1, den_loop]
      simp [b95_0, go_nil, go_last, go_past, go_pastR, go_blkN, go_blkR, go_blkE, go_skip, go_exit, go_ret, go_scope, go_seq, go_reg, go_block, go_cond, cnd_b, go_opsN, go_ops, go_opsG, grd_b, grd_u, stp_some, fin_some, up_some, cont_some, k_call, k_mv, k_pick, k_bin, k_eqB, k_eqA, k_not, k_neg, k_conv, k_alloc, k_boxA, k_boxI, k_boxB, k_boxN, k_boxBs, k_ldR, k_ldA, k_ldI, k_ldB, k_stA, k_stI, k_stB, ldC_some, stC_some, k_mkfn, k_slc, k_slcA, k_ixA, k_ixBs, k_ixSl, k_fadr, k_fld, k_ext, k_len, k_app, k_mn, k_mx, k_nilck, k_build, k_bsl1, k_bsl2, b_add, b_sub, b_mul, b_eql, b_neq, b_lss, b_leq, b_gtr, b_geq, Dn.setLast, Dn.getLast, evalO, mapO, Dn.get, putE, keepE, TV.one, TV.isAgg, Dn.part, e1]
    · rw [List.drop_eq_nil_of_le (by omega)]; rfl
  | k + 1, i, h => by
    have hi : i < l.length := by omega
    have e1 : ((i : Int) < (l.length : Int)) := by omega
    have e2 : wrapR .i64 ((i : Int) + 1) = .i .i64 ((i : Int) + 1) := wrapR_i64 (by omega)
    obtain ⟨p, hp, hv⟩ := ixI (pg := pg) (R := den pg) hs (List.getElem?_eq_getElem hi)
    have hd : l.drop i = l[i] :: l.drop (i + 1) := List.drop_eq_getElem_cons hi
    rw [hd]
    by_cases hP : P l[i] = true
    · refine ⟨.ret, [(4, .i .i64 (i : Int))], ?_, .inr ⟨rfl, by simp [firstIdx, hP]⟩⟩
      have hc := hf l[i]
      rw [hP] at hc
      rw [l95_1, den_loop]
      simp [b95_0, go_nil, go_last, go_past, go_pastR, go_blkN, go_blkR, go_blkE, go_skip, go_exit, go_ret, go_scope, go_seq, go_reg, go_block, go_cond, cnd_b, go_opsN, go_ops, go_opsG, grd_b, grd_u, stp_some, fin_some, up_some, cont_some, k_call, k_mv, k_pick, k_bin, k_eqB, k_eqA, k_not, k_neg, k_conv, k_alloc, k_boxA, k_boxI, k_boxB, k_boxN, k_boxBs, k_ldR, k_ldA, k_ldI, k_ldB, k_stA, k_stI, k_stB, ldC_some, stC_some, k_mkfn, k_slc, k_slcA, k_ixA, k_ixBs, k_ixSl, k_fadr, k_fld, k_ext, k_len, k_app, k_mn, k_mx, k_nilck, k_build, k_bsl1, k_bsl2, b_add, b_sub, b_mul, b_eql, b_neq, b_lss, b_leq, b_gtr, b_geq, Dn.setLast, Dn.getLast, evalO, mapO, Dn.get, putE, keepE, TV.one, TV.isAgg, Dn.part, e1, hp, hv, hc]
    · have hP' : P l[i] = false := by simpa using hP
      have hc := hf l[i]
      rw [hP'] at hc
      obtain ⟨x, e, h1, h2⟩ := l95_all hF hs hf hl k (i + 1) (by omega)
      refine ⟨x, e, Eq.trans ?_ h1, by simpa [firstIdx, hP'] using h2⟩
      rw [l95_1, den_loop]
      simp [l95_1, b95_0, go_nil, go_last, go_past, go_pastR, go_blkN, go_blkR, go_blkE, go_skip, go_exit, go_ret, go_scope, go_seq, go_reg, go_block, go_cond, cnd_b, go_opsN, go_ops, go_opsG, grd_b, grd_u, stp_some, fin_some, up_some, cont_some, k_call, k_mv, k_pick, k_bin, k_eqB, k_eqA, k_not, k_neg, k_conv, k_alloc, k_boxA, k_boxI, k_boxB, k_boxN, k_boxBs, k_ldR, k_ldA, k_ldI, k_ldB, k_stA, k_stI, k_stB, ldC_some, stC_some, k_mkfn, k_slc, k_slcA, k_ixA, k_ixBs, k_ixSl, k_fadr, k_fld, k_ext, k_len, k_app, k_mn, k_mx, k_nilck, k_build, k_bsl1, k_bsl2, b_add, b_sub, b_mul, b_eql, b_neq, b_lss, b_leq, b_gtr, b_geq, Dn.setLast, Dn.getLast, evalO, mapO, Dn.get, putE, keepE, TV.one, TV.isAgg, Dn.part, e1, e2, hp, hv, hc]

theorem body95 {pg : Pg} (hF : Free pg) {H : Heap} {s f : TV} {l : List Int} {P : Int → Bool} (hs : elI.View H s l) (hf : Tells pg f H P) (hl : l.length ≤ 9223372036854775807) : bodyRun pg (den pg) 95 [s, f] H = some (.i .i64 (firstIdx P l 0), H) := by
  refine body_of (x := .ret) (e := [(4, .i .i64 (firstIdx P l 0))]) (d := d95) (by rw [hF.F]; rfl) rfl ?_ (.inl rfl) rfl
  obtain ⟨x, e, h1, h2⟩ := l95_all hF hs hf hl l.length 0 (by omega)
  simp only [List.drop_zero, Int.natCast_zero] at h1 h2
  have hlen := hs.lenK
  rcases h2 with ⟨rfl, h2⟩ | ⟨rfl, rfl⟩
  · simp [d95, c95, zipE, go_nil, go_last, go_past, go_pastR, go_blkN, go_blkR, go_blkE, go_skip, go_exit, go_ret, go_scope, go_seq, go_reg, go_block, go_cond, cnd_b, go_opsN, go_ops, go_opsG, grd_b, grd_u, stp_some, fin_some, up_some, cont_some, k_call, k_mv, k_pick, k_bin, k_eqB, k_eqA, k_not, k_neg, k_conv, k_alloc, k_boxA, k_boxI, k_boxB, k_boxN, k_boxBs, k_ldR, k_ldA, k_ldI, k_ldB, k_stA, k_stI, k_stB, ldC_some, stC_some, k_mkfn, k_slc, k_slcA, k_ixA, k_ixBs, k_ixSl, k_fadr, k_fld, k_ext, k_len, k_app, k_mn, k_mx, k_nilck, k_build, k_bsl1, k_bsl2, b_add, b_sub, b_mul, b_eql, b_neq, b_lss, b_leq, b_gtr, b_geq, Dn.setLast, Dn.getLast, evalO, mapO, Dn.get, putE, keepE, TV.one, TV.isAgg, Dn.part, hlen, go_den l95_1, h1, h2]
  · simp [d95, c95, zipE, go_nil, go_last, go_past, go_pastR, go_blkN, go_blkR, go_blkE, go_skip, go_exit, go_ret, go_scope, go_seq, go_reg, go_block, go_cond, cnd_b, go_opsN, go_ops, go_opsG, grd_b, grd_u, stp_some, fin_some, up_some, cont_some, k_call, k_mv, k_pick, k_bin, k_eqB, k_eqA, k_not, k_neg, k_conv, k_alloc, k_boxA, k_boxI, k_boxB, k_boxN, k_boxBs, k_ldR, k_ldA, k_ldI, k_ldB, k_stA, k_stI, k_stB, ldC_some, stC_some, k_mkfn, k_slc, k_slcA, k_ixA, k_ixBs, k_ixSl, k_fadr, k_fld, k_ext, k_len, k_app, k_mn, k_mx, k_nilck, k_build, k_bsl1, k_bsl2, b_add, b_sub, b_mul, b_eql, b_neq, b_lss, b_leq, b_gtr, b_geq, Dn.setLast, Dn.getLast, evalO, mapO, Dn.get, putE, keepE, TV.one, TV.isAgg, Dn.part, hlen, go_den l95_1, h1]

theorem body91 {pg : Pg} (hF : Free pg) {H : Heap} {s f : TV} {l : List Int} {P : Int → Bool} (hs : elI.View H s l) (hf : Tells pg f H P) (hl : l.length ≤ 9223372036854775807) : bodyRun pg (den pg) 91 [s, f] H = some (.b (l.any P), H) := by
  refine body_of (x := .ret) (e := [(4, .b (l.any P))]) (d := d91) (by rw [hF.F]; rfl) rfl ?_ (.inl rfl) rfl
  have h := body95 hF hs hf hl
  simp [d91, c91, zipE, go_nil, go_last, go_past, go_pastR, go_blkN, go_blkR, go_blkE, go_skip, go_exit, go_ret, go_scope, go_seq, go_reg, go_block, go_cond, cnd_b, go_opsN, go_ops, go_opsG, grd_b, grd_u, stp_some, fin_some, up_some, cont_some, k_call, k_mv, k_pick, k_bin, k_eqB, k_eqA, k_not, k_neg, k_conv, k_alloc, k_boxA, k_boxI, k_boxB, k_boxN, k_boxBs, k_ldR, k_ldA, k_ldI, k_ldB, k_stA, k_stI, k_stB, ldC_some, stC_some, k_mkfn, k_slc, k_slcA, k_ixA, k_ixBs, k_ixSl, k_fadr, k_fld, k_ext, k_len, k_app, k_mn, k_mx, k_nilck, k_build, k_bsl1, k_bsl2, b_add, b_sub, b_mul, b_eql, b_neq, b_lss, b_leq, b_gtr, b_geq, Dn.setLast, Dn.getLast, evalO, mapO, Dn.get, putE, keepE, TV.one, TV.isAgg, Dn.part, sh_fn, h, firstIdx_any]


def outside (a b v : Int) : Bool := decide (v < a) || decide (b < v)

theorem body92 {pg : Pg} (hF : Free pg) {a b v : Int} {H : Heap} (h0 : H[0]? = some (.cells [.i .i64 a] false)) (h1 : H[1]? = some (.cells [.i .i64 b] false)) :
    bodyRun pg (den pg) 92 [.i .i64 v, .ref 0 0, .ref 1 0] H = some (.b (outside a b v), H) := by
  have d0 := ld_box (pg := pg) (R := den pg) h0 rfl
  have d1 := ld_box (pg := pg) (R := den pg) h1 rfl
  refine body_of (x := .ret) (e := [(4, .b (outside a b v))]) (d := d92) (by rw [hF.F]; rfl) rfl ?_ (.inl rfl) rfl
  by_cases h : v < a
  · simp [d92, c92, zipE, go_nil, go_last, go_past, go_pastR, go_blkN, go_blkR, go_blkE, go_skip, go_exit, go_ret, go_scope, go_seq, go_reg, go_block, go_cond, cnd_b, go_opsN, go_ops, go_opsG, grd_b, grd_u, stp_some, fin_some, up_some, cont_some, k_call, k_mv, k_pick, k_bin, k_eqB, k_eqA, k_not, k_neg, k_conv, k_alloc, k_boxA, k_boxI, k_boxB, k_boxN, k_boxBs, k_ldR, k_ldA, k_ldI, k_ldB, k_stA, k_stI, k_stB, ldC_some, stC_some, k_mkfn, k_slc, k_slcA, k_ixA, k_ixBs, k_ixSl, k_fadr, k_fld, k_ext, k_len, k_app, k_mn, k_mx, k_nilck, k_build, k_bsl1, k_bsl2, b_add, b_sub, b_mul, b_eql, b_neq, b_lss, b_leq, b_gtr, b_geq, Dn.setLast, Dn.getLast, evalO, mapO, Dn.get, putE, keepE, TV.one, TV.isAgg, Dn.part, d0, d1, h, outside]
  · simp [d92, c92, zipE, go_nil, go_last, go_past, go_pastR, go_blkN, go_blkR, go_blkE, go_skip, go_exit, go_ret, go_scope, go_seq, go_reg, go_block, go_cond, cnd_b, go_opsN, go_ops, go_opsG, grd_b, grd_u, stp_some, fin_some, up_some, cont_some, k_call, k_mv, k_pick, k_bin, k_eqB, k_eqA, k_not, k_neg, k_conv, k_alloc, k_boxA, k_boxI, k_boxB, k_boxN, k_boxBs, k_ldR, k_ldA, k_ldI, k_ldB, k_stA, k_stI, k_stB, ldC_some, stC_some, k_mkfn, k_slc, k_slcA, k_ixA, k_ixBs, k_ixSl, k_fadr, k_fld, k_ext, k_len, k_app, k_mn, k_mx, k_nilck, k_build, k_bsl1, k_bsl2, b_add, b_sub, b_mul, b_eql, b_neq, b_lss, b_leq, b_gtr, b_geq, Dn.setLast, Dn.getLast, evalO, mapO, Dn.get, putE, keepE, TV.one, TV.isAgg, Dn.part, d0, d1, h, outside]

theorem fn76 {pg : Pg} (hF : Free pg) {t : TV} {l : List Int} (ht : SV t l) (hl : l.length ≤ 1000000) (a b : Int) : PFn pg 76 [t, .i .i64 a, .i .i64 b] (.b (!l.any (outside a b))) := by
  have h91 := body91 hF (H := [.cells [.i .i64 a] false, .cells [.i .i64 b] false]) (f := .fn 92 [] [.ref 0 0, .ref 1 0]) (P := outside a b) (ht.view _) (fun v => by rw [sh_fn]; exact body92 hF rfl rfl) (by omega)
  refine .of1 (x := .ret) (e := [(6, .b (!l.any (outside a b)))]) (H' := [.cells [.i .i64 a] false, .cells [.i .i64 b] false]) (hF.S _ _ (by decide)) (d := d76) (by rw [hF.F]; rfl) rfl ?_ (.inl rfl) rfl (by simp [sn_i, sn_b, sn_nil, sn8_i, sn8_b, sn8_nil, sn7_i, sn7_b, sn_sl, sn8_sl, slB_some, sn_tup, sn_agg, sn8_agg, mapO, elems])
  simp [d76, c76, zipE, go_nil, go_last, go_past, go_pastR, go_blkN, go_blkR, go_blkE, go_skip, go_exit, go_ret, go_scope, go_seq, go_reg, go_block, go_cond, cnd_b, go_opsN, go_ops, go_opsG, grd_b, grd_u, stp_some, fin_some, up_some, cont_some, k_call, k_mv, k_pick, k_bin, k_eqB, k_eqA, k_not, k_neg, k_conv, k_alloc, k_boxA, k_boxI, k_boxB, k_boxN, k_boxBs, k_ldR, k_ldA, k_ldI, k_ldB, k_stA, k_stI, k_stB, ldC_some, stC_some, k_mkfn, k_slc, k_slcA, k_ixA, k_ixBs, k_ixSl, k_fadr, k_fld, k_ext, k_len, k_app, k_mn, k_mx, k_nilck, k_build, k_bsl1, k_bsl2, b_add, b_sub, b_mul, b_eql, b_neq, b_lss, b_leq, b_gtr, b_geq, Dn.setLast, Dn.getLast, evalO, mapO, Dn.get, putE, keepE, TV.one, TV.isAgg, Dn.part, k_mkfn, sh_fn, h91]

theorem call76 {pg : Pg} (hF : Free pg) {t : TV} {l : List Int} (ht : SV t l) (hl : l.length ≤ 1000000) (a b : Int) (H : Heap) : callRun pg (den pg) (.pu []) [.fn 76 [] [], t, .i .i64 a, .i .i64 b] H = some (.b (!l.any (outside a b)), H) := by
  obtain ⟨t', h1, h2⟩ := ht.snap H 7
  exact PFn.call (fn76 hF h2 hl a b) (args := [t, .i .i64 a, .i .i64 b]) (by simp [snapArgs, sn_i, h1])

/-- the greatest one -/
def maxs : Int → List Int → Int
  | m, [] => m
  | m, x :: l => maxs (if m < x then x else m) l

theorem maxs_ge : ∀ (l : List Int) (m : Int), m ≤ maxs m l ∧ ∀ x ∈ l, x ≤ maxs m l
  | [], m => ⟨Int.le_refl _, fun x hx => by cases hx⟩
  | y :: l, m => by
    obtain ⟨h1, h2⟩ := maxs_ge l (if m < y then y else m)
    have h3 : m ≤ (if m < y then y else m) ∧ y ≤ (if m < y then y else m) := by split <;> omega
    refine ⟨by simp only [maxs]; omega, fun x hx => ?_⟩
    simp only [maxs]
    rcases List.mem_cons.1 hx with rfl | hx
    · omega
    · exact h2 x hx

theorem maxs_mem : ∀ (l : List Int) (m : Int), maxs m l = m ∨ maxs m l ∈ l
  | [], m => .inl rfl
  | y :: l, m => by
    simp only [maxs]
    rcases maxs_mem l (if m < y then y else m) with h | h
    · by_cases hy : m < y
      · rw [if_pos hy] at h; exact .inr (by simp [if_pos hy, h])
      · rw [if_neg hy] at h; exact .inl (by simp [if_neg hy, h])
    · exact .inr (by simp [h])

theorem l79_all {pg : Pg} {T : TV} {l : List Int} (hT : ∀ H, elI.View H T l) (hl : l.length ≤ 1000000) {H : Heap} : ∀ (k i : Nat) (m : Int), i + k = l.length →
    ∃ e, den pg l79_1 [(0, T), (3, .i .i64 m), (4, .i .i64 (i : Int))] H = some ⟨.exit 0, e, H⟩ ∧ Dn.get e 0 = some T ∧ Dn.get e 3 = some (.i .i64 (maxs m (l.drop i)))
  | 0, i, m, h => by
    have e1 : ¬ ((i : Int) < (l.length : Int)) := by omega
    have hlen := (hT H).lenK
    refine ⟨[(0, T), (3, .i .i64 m), (4, .i .i64 (i : Int)), (15, .b false)], ?_, rfl, ?_⟩
    · rw [l79_1, den_loop]
      simp [b79_0, go_nil, go_last, go_past, go_pastR, go_blkN, go_blkR, go_blkE, go_skip, go_exit, go_ret, go_scope, go_seq, go_reg, go_block, go_cond, cnd_b, go_opsN, go_ops, go_opsG, grd_b, grd_u, stp_some, fin_some, up_some, cont_some, k_call, k_mv, k_pick, k_bin, k_eqB, k_eqA, k_not, k_neg, k_conv, k_alloc, k_boxA, k_boxI, k_boxB, k_boxN, k_boxBs, k_ldR, k_ldA, k_ldI, k_ldB, k_stA, k_stI, k_stB, ldC_some, stC_some, k_mkfn, k_slc, k_slcA, k_ixA, k_ixBs, k_ixSl, k_fadr, k_fld, k_ext, k_len, k_app, k_mn, k_mx, k_nilck, k_build, k_bsl1, k_bsl2, b_add, b_sub, b_mul, b_eql, b_neq, b_lss, b_leq, b_gtr, b_geq, Dn.setLast, Dn.getLast, evalO, mapO, Dn.get, putE, keepE, TV.one, TV.isAgg, Dn.part, hlen, e1]
    · rw [List.drop_eq_nil_of_le (by omega)]; rfl
  | k + 1, i, m, h => by
    have hi : i < l.length := by omega
    have e1 : ((i : Int) < (l.length : Int)) := by omega
    have e2 : wrapR .i64 ((i : Int) + 1) = .i .i64 ((i : Int) + 1) := wrapR_i64 (by omega)
    have hlen := (hT H).lenK
    obtain ⟨p, hp, hv⟩ := ixI (pg := pg) (R := den pg) (hT H) (List.getElem?_eq_getElem hi)
    obtain ⟨e, h1, h2, h3⟩ := l79_all (pg := pg) hT hl (H := H) k (i + 1) (if m < l[i] then l[i] else m) (by omega)
    refine ⟨e, Eq.trans ?_ h1, h2, ?_⟩
    · rw [l79_1, den_loop]
      simp [l79_1, b79_0, go_nil, go_last, go_past, go_pastR, go_blkN, go_blkR, go_blkE, go_skip, go_exit, go_ret, go_scope, go_seq, go_reg, go_block, go_cond, cnd_b, go_opsN, go_ops, go_opsG, grd_b, grd_u, stp_some, fin_some, up_some, cont_some, k_call, k_mv, k_pick, k_bin, k_eqB, k_eqA, k_not, k_neg, k_conv, k_alloc, k_boxA, k_boxI, k_boxB, k_boxN, k_boxBs, k_ldR, k_ldA, k_ldI, k_ldB, k_stA, k_stI, k_stB, ldC_some, stC_some, k_mkfn, k_slc, k_slcA, k_ixA, k_ixBs, k_ixSl, k_fadr, k_fld, k_ext, k_len, k_app, k_mn, k_mx, k_nilck, k_build, k_bsl1, k_bsl2, b_add, b_sub, b_mul, b_eql, b_neq, b_lss, b_leq, b_gtr, b_geq, Dn.setLast, Dn.getLast, evalO, mapO, Dn.get, putE, keepE, TV.one, TV.isAgg, Dn.part, hlen, e1, e2, hp, hv]
    · rw [List.drop_eq_getElem_cons hi]; exact h3

theorem fn79 {pg : Pg} (hF : Free pg) {t : TV} {x : Int} {l : List Int} (ht : SV t (x :: l)) (hl : l.length < 1000000) : PFn pg 79 [t] (.i .i64 (maxs x l)) := by
  have hlen := (ht.view []).lenK
  have e1 : ¬ ((l.length : Int) + 1 < 1) := by omega
  obtain ⟨p, hp, hv⟩ := ixI (pg := pg) (R := den pg) (ht.view []) (i := 0) (x := x) rfl
  obtain ⟨e, h1, h2, h3⟩ := l79_all (pg := pg) (fun H => ht.view H) (by simp; omega) (H := []) l.length 1 x (by simp; omega)
  simp only [Int.natCast_zero, Int.natCast_one, List.drop_succ_cons, List.drop_zero] at hp h1 h3
  refine .of1 (x := .ret) (e := [(2, .i .i64 (maxs x l))]) (H' := []) (hF.S _ _ (by decide)) (d := d79) (by rw [hF.F]; rfl) rfl ?_ (.inl rfl) rfl (by simp [sn_i, sn_b, sn_nil, sn8_i, sn8_b, sn8_nil, sn7_i, sn7_b, sn_sl, sn8_sl, slB_some, sn_tup, sn_agg, sn8_agg, mapO, elems])
  simp [d79, c79, zipE, go_nil, go_last, go_past, go_pastR, go_blkN, go_blkR, go_blkE, go_skip, go_exit, go_ret, go_scope, go_seq, go_reg, go_block, go_cond, cnd_b, go_opsN, go_ops, go_opsG, grd_b, grd_u, stp_some, fin_some, up_some, cont_some, k_call, k_mv, k_pick, k_bin, k_eqB, k_eqA, k_not, k_neg, k_conv, k_alloc, k_boxA, k_boxI, k_boxB, k_boxN, k_boxBs, k_ldR, k_ldA, k_ldI, k_ldB, k_stA, k_stI, k_stB, ldC_some, stC_some, k_mkfn, k_slc, k_slcA, k_ixA, k_ixBs, k_ixSl, k_fadr, k_fld, k_ext, k_len, k_app, k_mn, k_mx, k_nilck, k_build, k_bsl1, k_bsl2, b_add, b_sub, b_mul, b_eql, b_neq, b_lss, b_leq, b_gtr, b_geq, Dn.setLast, Dn.getLast, evalO, mapO, Dn.get, putE, keepE, TV.one, TV.isAgg, Dn.part, hlen, e1, hp, hv, go_denK (c := l79_1) rfl, h1, h2, h3]

theorem call79 {pg : Pg} (hF : Free pg) {t : TV} {x : Int} {l : List Int} (ht : SV t (x :: l)) (hl : l.length < 1000000) (H : Heap) : callRun pg (den pg) (.pu []) [.fn 79 [] [], t] H = some (.i .i64 (maxs x l), H) := by
  obtain ⟨t', h1, h2⟩ := ht.snap H 7
  exact PFn.call (fn79 hF h2 hl) (args := [t]) (by simp [snapArgs, sn_i, h1])

end Go.Proofs.Tryd.Dn

/-
  Whether these are observations: the program's Check, and what it costs.
-/

namespace Go.Proofs.Tryd.Dn
open Go.Dn

theorem any_out {a b : Int} {l : List Int} : l.any (outside a b) = false ↔ ∀ p ∈ l, a ≤ p ∧ p ≤ b := by
  rw [List.any_eq_false]
  constructor
  · intro h p hp
    have := h p hp
    simp [outside] at this
    omega
  · intro h p hp
    have := h p hp
    simp [outside]
    omega

/-- what one observation must be, as Check asks it -/
theorem okObs_eq {g : Nat} (hg : 1 ≤ g) {x : Obs} : okObs g x = true ↔ x.1.length = g ∧ x.2.length = g ∧ x.1.any (outside 1 20) = false ∧ x.2.any (outside 0 20) = false ∧ maxs (x.2.headD 0) x.2.tail ≠ 0 := by
  rw [okObs_iff, any_out, any_out]
  constructor
  · rintro ⟨h1, h2, h3, h4, p, h5, h6⟩
    refine ⟨h1, h2, h3, h4, ?_⟩
    cases hx : x.2 with
    | nil => rw [hx] at h5; cases h5
    | cons y l =>
      rw [hx] at h5
      obtain ⟨m1, m2⟩ := maxs_ge l y
      rcases List.mem_cons.1 h5 with rfl | h5
      · simp only [List.headD_cons, List.tail_cons]; omega
      · have := m2 p h5
        simp only [List.headD_cons, List.tail_cons]; omega
  · rintro ⟨h1, h2, h3, h4, h5⟩
    refine ⟨h1, h2, h3, h4, ?_⟩
    cases hx : x.2 with
    | nil => rw [hx] at h2; simp at h2; omega
    | cons y l =>
      rw [hx] at h5 h4
      simp only [List.headD_cons, List.tail_cons] at h5
      have hm : maxs y l ∈ y :: l := by
        rcases maxs_mem l y with h | h
        · rw [h]; simp
        · simp [h]
      exact ⟨_, hm, by have := h4 _ hm; omega⟩

theorem boxS {pg : Pg} {R : Rec} (H : Heap) {a c : TV} (ha : a.one = true) (hc : c.one = true) (na : a.isAgg = false) (nc : c.isAgg = false) :
    dkc pg R (.st 2) [.ref H.length 0, .agg [a, c]] (H ++ [.cells [.nilsl, .nilsl] true]) = some (.undef, H ++ [.cells [a, c] true]) ∧
    dkc pg R (.ld 1 false) [.ref H.length 0] (H ++ [.cells [a, c] true]) = some (a, H ++ [.cells [a, c] true]) ∧
    dkc pg R (.ld 1 false) [.ref H.length 1] (H ++ [.cells [a, c] true]) = some (c, H ++ [.cells [a, c] true]) := by
  refine ⟨?_, ?_, ?_⟩
  · rw [k_stA, Dn.getLast, stC_some, if_pos ⟨rfl, by simp [ha, hc], by simp⟩, Dn.setLast]; rfl
  · rw [k_ldR, Dn.getLast, ldC_some]; simp [Dn.part, na, up]
  · rw [k_ldR, Dn.getLast, ldC_some]; simp [Dn.part, nc, up]

theorem l52_round {pg : Pg} (hF : Free pg) {g : Nat} (hg : 1 ≤ g ∧ g ≤ 3) {T : TV} {l : List Obs} (hT : Rws T l) (hl : l.length ≤ 100) {i : Nat} {x : Obs} (hx : l[i]? = some x) (hs : x.1.length ≤ 1000 ∧ x.2.length ≤ 1000) {H : Heap} :
    (okObs g x = true → ∃ H', den pg l52_1 [(3, .i .i64 (g : Int)), (25, T), (26, .i .i64 (l.length : Int)), (27, .i .i64 (i : Int))] H = den pg l52_1 [(3, .i .i64 (g : Int)), (25, T), (26, .i .i64 (l.length : Int)), (27, .i .i64 ((i + 1 : Nat) : Int))] H') ∧
    (okObs g x = false → ∃ H', den pg l52_1 [(3, .i .i64 (g : Int)), (25, T), (26, .i .i64 (l.length : Int)), (27, .i .i64 (i : Int))] H = some ⟨.ret, [(2, .i .i64 90)], H'⟩) := by
  have hi := (List.getElem?_eq_some_iff.1 hx).1
  have e1 : ((i : Int) < (l.length : Int)) := by omega
  have e2 : wrapR .i64 ((i : Int) + 1) = .i .i64 ((i : Int) + 1) := wrapR_i64 (by omega)
  obtain ⟨b, a, c, hix, ha, hc⟩ := hT.ix (pg := pg) (R := den pg) hx H
  have la := (ha.view []).lenK
  have lc := (hc.view []).lenK
  have c1 := call76 hF ha (by omega) 1 20
  have c2 := call76 hF hc (by omega) 0 20
  have n1 := ha.noagg
  have n2 := hc.noagg
  have o1 := ha.one
  have o2 := hc.one
  obtain ⟨s1, s2, s3⟩ := boxS (pg := pg) (R := den pg) H ha.one hc.one ha.noagg hc.noagg
  by_cases g1 : x.1.length = g
  · by_cases g2 : x.2.length = g
    · cases g3 : x.1.any (outside 1 20) with
      | true =>
        have hno : okObs g x = false := by
          rw [Bool.eq_false_iff]; intro h
          have := (okObs_eq hg.1).1 h
          rw [g3] at this; exact absurd this.2.2.1 (by simp)
        refine ⟨fun h => (by rw [hno] at h; cases h), fun _ => ⟨H ++ [.cells [a, c] true], ?_⟩⟩
        rw [g3] at c1
        rw [l52_1, den_loop]
        simp [b52_0, go_nil, go_last, go_past, go_pastR, go_blkN, go_blkR, go_blkE, go_skip, go_exit, go_ret, go_scope, go_seq, go_reg, go_block, go_cond, cnd_b, go_opsN, go_ops, go_opsG, grd_b, grd_u, stp_some, fin_some, up_some, cont_some, k_call, k_mv, k_pick, k_bin, k_eqB, k_eqA, k_not, k_neg, k_conv, k_alloc, k_boxA, k_boxI, k_boxB, k_boxN, k_boxBs, k_ldR, k_ldA, k_ldI, k_ldB, k_stA, k_stI, k_stB, ldC_some, stC_some, k_mkfn, k_slc, k_slcA, k_ixA, k_ixBs, k_ixSl, k_fadr, k_fld, k_ext, k_len, k_app, k_mn, k_mx, k_nilck, k_build, k_bsl1, k_bsl2, b_add, b_sub, b_mul, b_eql, b_neq, b_lss, b_leq, b_gtr, b_geq, Dn.setLast, Dn.getLast, evalO, mapO, Dn.get, putE, keepE, TV.one, TV.isAgg, Dn.part, e1, e2, hix, la, lc, c1, c2, s1, s2, s3, g1, g2]
      | false =>
        rw [g3] at c1
        cases g4 : x.2.any (outside 0 20) with
        | true =>
          have hno : okObs g x = false := by
            rw [Bool.eq_false_iff]; intro h
            have := (okObs_eq hg.1).1 h
            rw [g4] at this; exact absurd this.2.2.2.1 (by simp)
          refine ⟨fun h => (by rw [hno] at h; cases h), fun _ => ⟨H ++ [.cells [a, c] true], ?_⟩⟩
          rw [g4] at c2
          rw [l52_1, den_loop]
          simp [b52_0, go_nil, go_last, go_past, go_pastR, go_blkN, go_blkR, go_blkE, go_skip, go_exit, go_ret, go_scope, go_seq, go_reg, go_block, go_cond, cnd_b, go_opsN, go_ops, go_opsG, grd_b, grd_u, stp_some, fin_some, up_some, cont_some, k_call, k_mv, k_pick, k_bin, k_eqB, k_eqA, k_not, k_neg, k_conv, k_alloc, k_boxA, k_boxI, k_boxB, k_boxN, k_boxBs, k_ldR, k_ldA, k_ldI, k_ldB, k_stA, k_stI, k_stB, ldC_some, stC_some, k_mkfn, k_slc, k_slcA, k_ixA, k_ixBs, k_ixSl, k_fadr, k_fld, k_ext, k_len, k_app, k_mn, k_mx, k_nilck, k_build, k_bsl1, k_bsl2, b_add, b_sub, b_mul, b_eql, b_neq, b_lss, b_leq, b_gtr, b_geq, Dn.setLast, Dn.getLast, evalO, mapO, Dn.get, putE, keepE, TV.one, TV.isAgg, Dn.part, e1, e2, hix, la, lc, c1, c2, s1, s2, s3, g1, g2]
        | false =>
          rw [g4] at c2
          obtain ⟨y, k, hy⟩ : ∃ y k, x.2 = y :: k := by
            cases hx2 : x.2 with
            | nil => rw [hx2] at g2; simp at g2; omega
            | cons y k => exact ⟨y, k, rfl⟩
          have hc' := hc
          rw [hy] at hc'
          have c3 := call79 hF hc' (by have := hs.2; rw [hy] at this; simp at this; omega)
          by_cases g5 : maxs y k = 0
          · have hno : okObs g x = false := by
              rw [Bool.eq_false_iff]; intro h
              have := (okObs_eq hg.1).1 h
              rw [hy] at this; exact this.2.2.2.2 g5
            refine ⟨fun h => (by rw [hno] at h; cases h), fun _ => ⟨H ++ [.cells [a, c] true], ?_⟩⟩
            rw [l52_1, den_loop]
            simp [b52_0, go_nil, go_last, go_past, go_pastR, go_blkN, go_blkR, go_blkE, go_skip, go_exit, go_ret, go_scope, go_seq, go_reg, go_block, go_cond, cnd_b, go_opsN, go_ops, go_opsG, grd_b, grd_u, stp_some, fin_some, up_some, cont_some, k_call, k_mv, k_pick, k_bin, k_eqB, k_eqA, k_not, k_neg, k_conv, k_alloc, k_boxA, k_boxI, k_boxB, k_boxN, k_boxBs, k_ldR, k_ldA, k_ldI, k_ldB, k_stA, k_stI, k_stB, ldC_some, stC_some, k_mkfn, k_slc, k_slcA, k_ixA, k_ixBs, k_ixSl, k_fadr, k_fld, k_ext, k_len, k_app, k_mn, k_mx, k_nilck, k_build, k_bsl1, k_bsl2, b_add, b_sub, b_mul, b_eql, b_neq, b_lss, b_leq, b_gtr, b_geq, Dn.setLast, Dn.getLast, evalO, mapO, Dn.get, putE, keepE, TV.one, TV.isAgg, Dn.part, e1, e2, hix, la, lc, c1, c2, c3, s1, s2, s3, g1, g2, g5]
          · have hyes : okObs g x = true := by rw [okObs_eq hg.1]; exact ⟨g1, g2, g3, g4, by rw [hy]; exact g5⟩
            refine ⟨fun _ => ⟨H ++ [.cells [a, c] true], ?_⟩, fun h => (by rw [hyes] at h; cases h)⟩
            rw [l52_1, den_loop]
            simp [l52_1, b52_0, go_nil, go_last, go_past, go_pastR, go_blkN, go_blkR, go_blkE, go_skip, go_exit, go_ret, go_scope, go_seq, go_reg, go_block, go_cond, cnd_b, go_opsN, go_ops, go_opsG, grd_b, grd_u, stp_some, fin_some, up_some, cont_some, k_call, k_mv, k_pick, k_bin, k_eqB, k_eqA, k_not, k_neg, k_conv, k_alloc, k_boxA, k_boxI, k_boxB, k_boxN, k_boxBs, k_ldR, k_ldA, k_ldI, k_ldB, k_stA, k_stI, k_stB, ldC_some, stC_some, k_mkfn, k_slc, k_slcA, k_ixA, k_ixBs, k_ixSl, k_fadr, k_fld, k_ext, k_len, k_app, k_mn, k_mx, k_nilck, k_build, k_bsl1, k_bsl2, b_add, b_sub, b_mul, b_eql, b_neq, b_lss, b_leq, b_gtr, b_geq, Dn.setLast, Dn.getLast, evalO, mapO, Dn.get, putE, keepE, TV.one, TV.isAgg, Dn.part, e1, e2, hix, la, lc, c1, c2, c3, s1, s2, s3, g1, g2, g5]
    · have hno : okObs g x = false := by
        rw [Bool.eq_false_iff]; intro h
        exact g2 ((okObs_eq hg.1).1 h).2.1
      have i2 : ¬ ((x.2.length : Int) = (g : Int)) := by omega
      have b2 : ((x.2.length : Int) != (g : Int)) = true := by simpa using i2
      refine ⟨fun h => (by rw [hno] at h; cases h), fun _ => ⟨H ++ [.cells [a, c] true], ?_⟩⟩
      rw [l52_1, den_loop]
      simp [b52_0, go_nil, go_last, go_past, go_pastR, go_blkN, go_blkR, go_blkE, go_skip, go_exit, go_ret, go_scope, go_seq, go_reg, go_block, go_cond, cnd_b, go_opsN, go_ops, go_opsG, grd_b, grd_u, stp_some, fin_some, up_some, cont_some, k_call, k_mv, k_pick, k_bin, k_eqB, k_eqA, k_not, k_neg, k_conv, k_alloc, k_boxA, k_boxI, k_boxB, k_boxN, k_boxBs, k_ldR, k_ldA, k_ldI, k_ldB, k_stA, k_stI, k_stB, ldC_some, stC_some, k_mkfn, k_slc, k_slcA, k_ixA, k_ixBs, k_ixSl, k_fadr, k_fld, k_ext, k_len, k_app, k_mn, k_mx, k_nilck, k_build, k_bsl1, k_bsl2, b_add, b_sub, b_mul, b_eql, b_neq, b_lss, b_leq, b_gtr, b_geq, Dn.setLast, Dn.getLast, evalO, mapO, Dn.get, putE, keepE, TV.one, TV.isAgg, Dn.part, e1, e2, hix, la, lc, c1, c2, s1, s2, s3, g1, i2, b2]
  · have hno : okObs g x = false := by
      rw [Bool.eq_false_iff]; intro h
      exact g1 ((okObs_eq hg.1).1 h).1
    have i1 : ¬ ((x.1.length : Int) = (g : Int)) := by omega
    have b1 : ((x.1.length : Int) != (g : Int)) = true := by simpa using i1
    refine ⟨fun h => (by rw [hno] at h; cases h), fun _ => ⟨H ++ [.cells [a, c] true], ?_⟩⟩
    rw [l52_1, den_loop]
    simp [b52_0, go_nil, go_last, go_past, go_pastR, go_blkN, go_blkR, go_blkE, go_skip, go_exit, go_ret, go_scope, go_seq, go_reg, go_block, go_cond, cnd_b, go_opsN, go_ops, go_opsG, grd_b, grd_u, stp_some, fin_some, up_some, cont_some, k_call, k_mv, k_pick, k_bin, k_eqB, k_eqA, k_not, k_neg, k_conv, k_alloc, k_boxA, k_boxI, k_boxB, k_boxN, k_boxBs, k_ldR, k_ldA, k_ldI, k_ldB, k_stA, k_stI, k_stB, ldC_some, stC_some, k_mkfn, k_slc, k_slcA, k_ixA, k_ixBs, k_ixSl, k_fadr, k_fld, k_ext, k_len, k_app, k_mn, k_mx, k_nilck, k_build, k_bsl1, k_bsl2, b_add, b_sub, b_mul, b_eql, b_neq, b_lss, b_leq, b_gtr, b_geq, Dn.setLast, Dn.getLast, evalO, mapO, Dn.get, putE, keepE, TV.one, TV.isAgg, Dn.part, e1, e2, hix, la, lc, c1, c2, s1, s2, s3, i1, b1]

theorem l52_all {pg : Pg} (hF : Free pg) {g : Nat} (hg : 1 ≤ g ∧ g ≤ 3) {T : TV} {l : List Obs} (hT : Rws T l) (hl : l.length ≤ 100) (hs : ∀ x ∈ l, x.1.length ≤ 1000 ∧ x.2.length ≤ 1000) : ∀ (k i : Nat) (H : Heap), i + k = l.length →
    ((l.drop i).all (okObs g) = true → ∃ e H', den pg l52_1 [(3, .i .i64 (g : Int)), (25, T), (26, .i .i64 (l.length : Int)), (27, .i .i64 (i : Int))] H = some ⟨.exit 0, e, H'⟩) ∧
    ((l.drop i).all (okObs g) = false → ∃ H', den pg l52_1 [(3, .i .i64 (g : Int)), (25, T), (26, .i .i64 (l.length : Int)), (27, .i .i64 (i : Int))] H = some ⟨.ret, [(2, .i .i64 90)], H'⟩)
  | 0, i, H, h => by
    have e1 : ¬ ((i : Int) < (l.length : Int)) := by omega
    rw [List.drop_eq_nil_of_le (by omega)]
    refine ⟨fun _ => ⟨[(3, .i .i64 (g : Int)), (25, T), (26, .i .i64 (l.length : Int)), (27, .i .i64 (i : Int)), (28, .b false)], H, ?_⟩, fun h => by simp at h⟩
    rw [l52_1, den_loop]
    simp [b52_0, go_nil, go_last, go_past, go_pastR, go_blkN, go_blkR, go_blkE, go_skip, go_exit, go_ret, go_scope, go_seq, go_reg, go_block, go_cond, cnd_b, go_opsN, go_ops, go_opsG, grd_b, grd_u, stp_some, fin_some, up_some, cont_some, k_call, k_mv, k_pick, k_bin, k_eqB, k_eqA, k_not, k_neg, k_conv, k_alloc, k_boxA, k_boxI, k_boxB, k_boxN, k_boxBs, k_ldR, k_ldA, k_ldI, k_ldB, k_stA, k_stI, k_stB, ldC_some, stC_some, k_mkfn, k_slc, k_slcA, k_ixA, k_ixBs, k_ixSl, k_fadr, k_fld, k_ext, k_len, k_app, k_mn, k_mx, k_nilck, k_build, k_bsl1, k_bsl2, b_add, b_sub, b_mul, b_eql, b_neq, b_lss, b_leq, b_gtr, b_geq, Dn.setLast, Dn.getLast, evalO, mapO, Dn.get, putE, keepE, TV.one, TV.isAgg, Dn.part, e1]
  | k + 1, i, H, h => by
    have hi : i < l.length := by omega
    obtain ⟨h1, h2⟩ := l52_round hF hg hT hl (List.getElem?_eq_getElem hi) (hs _ (List.getElem_mem hi)) (H := H)
    rw [List.drop_eq_getElem_cons hi, List.all_cons]
    cases ho : okObs g l[i] with
    | true =>
      obtain ⟨H', h3⟩ := h1 ho
      have ih := l52_all hF hg hT hl hs k (i + 1) H' (by omega)
      rw [h3]
      simpa using ih
    | false =>
      obtain ⟨H', h3⟩ := h2 ho
      exact ⟨fun h => by simp at h, fun _ => ⟨H', h3⟩⟩

def chkE (X : List Obs) : Int := if market X = true then 0 else 90

theorem fn52 {pg : Pg} (hF : Free pg) {T : TV} {l : List Obs} (hT : Rws T l) (hl : l.length ≤ 100) (hs : ∀ x ∈ l, x.1.length ≤ 1000 ∧ x.2.length ≤ 1000) : PFn pg 52 [T] (.i .i64 (chkE l)) := by
  have hlen := hT.len
  have hd : pg.F 52 = some d52 := by rw [hF.F]; rfl
  by_cases h1 : l.length < 1
  · have e1 : ((l.length : Int) < 1) := by omega
    have : chkE l = 90 := by
      have : market l = false := by
        rw [Bool.eq_false_iff]; intro h
        have := (market_iff.1 h).n1
        omega
      simp [chkE, this]
    rw [this]
    refine .of1 (x := .ret) (e := [(2, .i .i64 90)]) (H' := []) (hF.S _ _ (by decide)) hd rfl ?_ (.inl rfl) rfl (by simp [sn_i, sn_b, sn_nil, sn8_i, sn8_b, sn8_nil, sn7_i, sn7_b, sn_sl, sn8_sl, slB_some, sn_tup, sn_agg, sn8_agg, mapO, elems])
    simp [d52, c52, zipE, go_nil, go_last, go_past, go_pastR, go_blkN, go_blkR, go_blkE, go_skip, go_exit, go_ret, go_scope, go_seq, go_reg, go_block, go_cond, cnd_b, go_opsN, go_ops, go_opsG, grd_b, grd_u, stp_some, fin_some, up_some, cont_some, k_call, k_mv, k_pick, k_bin, k_eqB, k_eqA, k_not, k_neg, k_conv, k_alloc, k_boxA, k_boxI, k_boxB, k_boxN, k_boxBs, k_ldR, k_ldA, k_ldI, k_ldB, k_stA, k_stI, k_stB, ldC_some, stC_some, k_mkfn, k_slc, k_slcA, k_ixA, k_ixBs, k_ixSl, k_fadr, k_fld, k_ext, k_len, k_app, k_mn, k_mx, k_nilck, k_build, k_bsl1, k_bsl2, b_add, b_sub, b_mul, b_eql, b_neq, b_lss, b_leq, b_gtr, b_geq, Dn.setLast, Dn.getLast, evalO, mapO, Dn.get, putE, keepE, TV.one, TV.isAgg, Dn.part, hlen, e1]
  · by_cases h5 : l.length ≤ 5
    · have e1 : ¬ ((l.length : Int) < 1) := by omega
      have e5 : ¬ (5 < (l.length : Int)) := by omega
      obtain ⟨x, r, hxr⟩ : ∃ x r, l = x :: r := by
        cases l with
        | nil => simp at h1
        | cons x r => exact ⟨x, r, rfl⟩
      obtain ⟨b, a, c, hix, ha, hc⟩ := hT.ix (pg := pg) (R := den pg) (i := 0) (x := x) (by rw [hxr]; rfl) []
      obtain ⟨f1, f2⟩ := k_fadrP (pg := pg) (R := den pg) b a c ha.noagg hc.noagg []
      have d1 := k_ldV (pg := pg) (R := den pg) b a ha.one []
      have la := (ha.view []).lenK
      simp only [Int.natCast_zero] at hix
      by_cases h2 : x.1.length < 1 ∨ 3 < x.1.length
      · have : chkE l = 90 := by
          have : market l = false := by
            rw [Bool.eq_false_iff]; intro h
            have := market_iff.1 h
            have h6 := this.g1
            have h7 := this.g3
            simp only [hxr, goodsOf] at h6 h7
            omega
          simp [chkE, this]
        rw [this]
        refine .of1 (x := .ret) (e := [(2, .i .i64 90)]) (H' := []) (hF.S _ _ (by decide)) hd rfl ?_ (.inl rfl) rfl (by simp [sn_i, sn_b, sn_nil, sn8_i, sn8_b, sn8_nil, sn7_i, sn7_b, sn_sl, sn8_sl, slB_some, sn_tup, sn_agg, sn8_agg, mapO, elems])
        by_cases h3 : x.1.length < 1
        · have e6 : ((x.1.length : Int) < 1) := by omega
          simp [d52, c52, zipE, go_nil, go_last, go_past, go_pastR, go_blkN, go_blkR, go_blkE, go_skip, go_exit, go_ret, go_scope, go_seq, go_reg, go_block, go_cond, cnd_b, go_opsN, go_ops, go_opsG, grd_b, grd_u, stp_some, fin_some, up_some, cont_some, k_call, k_mv, k_pick, k_bin, k_eqB, k_eqA, k_not, k_neg, k_conv, k_alloc, k_boxA, k_boxI, k_boxB, k_boxN, k_boxBs, k_ldR, k_ldA, k_ldI, k_ldB, k_stA, k_stI, k_stB, ldC_some, stC_some, k_mkfn, k_slc, k_slcA, k_ixA, k_ixBs, k_ixSl, k_fadr, k_fld, k_ext, k_len, k_app, k_mn, k_mx, k_nilck, k_build, k_bsl1, k_bsl2, b_add, b_sub, b_mul, b_eql, b_neq, b_lss, b_leq, b_gtr, b_geq, Dn.setLast, Dn.getLast, evalO, mapO, Dn.get, putE, keepE, TV.one, TV.isAgg, Dn.part, hlen, e1, e5, hix, f1, d1, la, e6]
        · have e6 : ¬ ((x.1.length : Int) < 1) := by omega
          have e7 : (3 < (x.1.length : Int)) := by omega
          simp [d52, c52, zipE, go_nil, go_last, go_past, go_pastR, go_blkN, go_blkR, go_blkE, go_skip, go_exit, go_ret, go_scope, go_seq, go_reg, go_block, go_cond, cnd_b, go_opsN, go_ops, go_opsG, grd_b, grd_u, stp_some, fin_some, up_some, cont_some, k_call, k_mv, k_pick, k_bin, k_eqB, k_eqA, k_not, k_neg, k_conv, k_alloc, k_boxA, k_boxI, k_boxB, k_boxN, k_boxBs, k_ldR, k_ldA, k_ldI, k_ldB, k_stA, k_stI, k_stB, ldC_some, stC_some, k_mkfn, k_slc, k_slcA, k_ixA, k_ixBs, k_ixSl, k_fadr, k_fld, k_ext, k_len, k_app, k_mn, k_mx, k_nilck, k_build, k_bsl1, k_bsl2, b_add, b_sub, b_mul, b_eql, b_neq, b_lss, b_leq, b_gtr, b_geq, Dn.setLast, Dn.getLast, evalO, mapO, Dn.get, putE, keepE, TV.one, TV.isAgg, Dn.part, hlen, e1, e5, hix, f1, d1, la, e6, e7]
      · have e6 : ¬ ((x.1.length : Int) < 1) := by omega
        have e7 : ¬ (3 < (x.1.length : Int)) := by omega
        obtain ⟨hy, hn⟩ := l52_all hF (g := x.1.length) (by omega) hT hl hs l.length 0 [] (by omega)
        simp only [List.drop_zero, Int.natCast_zero] at hy hn
        have hm : market l = l.all (okObs x.1.length) := by
          have hgo : goodsOf l = x.1.length := by rw [hxr]; rfl
          simp only [market, hgo]
          have a1 : 1 ≤ l.length := by omega
          have a2 : l.length ≤ 5 := h5
          have a3 : 1 ≤ x.1.length := by omega
          have a4 : x.1.length ≤ 3 := by omega
          simp only [a1, a2, a3, a4, decide_true, Bool.true_and]
        cases hall : l.all (okObs x.1.length) with
        | true =>
          rw [hall] at hm
          obtain ⟨e, H', h8⟩ := hy hall
          have : chkE l = 0 := by simp [chkE, hm]
          rw [this]
          refine .of1 (x := .ret) (e := [(2, .i .i64 0)]) (H' := H') (hF.S _ _ (by decide)) hd rfl ?_ (.inl rfl) rfl (by simp [sn_i, sn_b, sn_nil, sn8_i, sn8_b, sn8_nil, sn7_i, sn7_b, sn_sl, sn8_sl, slB_some, sn_tup, sn_agg, sn8_agg, mapO, elems])
          simp [d52, c52, zipE, go_nil, go_last, go_past, go_pastR, go_blkN, go_blkR, go_blkE, go_skip, go_exit, go_ret, go_scope, go_seq, go_reg, go_block, go_cond, cnd_b, go_opsN, go_ops, go_opsG, grd_b, grd_u, stp_some, fin_some, up_some, cont_some, k_call, k_mv, k_pick, k_bin, k_eqB, k_eqA, k_not, k_neg, k_conv, k_alloc, k_boxA, k_boxI, k_boxB, k_boxN, k_boxBs, k_ldR, k_ldA, k_ldI, k_ldB, k_stA, k_stI, k_stB, ldC_some, stC_some, k_mkfn, k_slc, k_slcA, k_ixA, k_ixBs, k_ixSl, k_fadr, k_fld, k_ext, k_len, k_app, k_mn, k_mx, k_nilck, k_build, k_bsl1, k_bsl2, b_add, b_sub, b_mul, b_eql, b_neq, b_lss, b_leq, b_gtr, b_geq, Dn.setLast, Dn.getLast, evalO, mapO, Dn.get, putE, keepE, TV.one, TV.isAgg, Dn.part, hlen, e1, e5, hix, f1, d1, la, e6, e7, go_denK (c := l52_1) rfl, h8]
        | false =>
          rw [hall] at hm
          obtain ⟨H', h8⟩ := hn hall
          have : chkE l = 90 := by simp [chkE, hm]
          rw [this]
          refine .of1 (x := .ret) (e := [(2, .i .i64 90)]) (H' := H') (hF.S _ _ (by decide)) hd rfl ?_ (.inl rfl) rfl (by simp [sn_i, sn_b, sn_nil, sn8_i, sn8_b, sn8_nil, sn7_i, sn7_b, sn_sl, sn8_sl, slB_some, sn_tup, sn_agg, sn8_agg, mapO, elems])
          simp [d52, c52, zipE, go_nil, go_last, go_past, go_pastR, go_blkN, go_blkR, go_blkE, go_skip, go_exit, go_ret, go_scope, go_seq, go_reg, go_block, go_cond, cnd_b, go_opsN, go_ops, go_opsG, grd_b, grd_u, stp_some, fin_some, up_some, cont_some, k_call, k_mv, k_pick, k_bin, k_eqB, k_eqA, k_not, k_neg, k_conv, k_alloc, k_boxA, k_boxI, k_boxB, k_boxN, k_boxBs, k_ldR, k_ldA, k_ldI, k_ldB, k_stA, k_stI, k_stB, ldC_some, stC_some, k_mkfn, k_slc, k_slcA, k_ixA, k_ixBs, k_ixSl, k_fadr, k_fld, k_ext, k_len, k_app, k_mn, k_mx, k_nilck, k_build, k_bsl1, k_bsl2, b_add, b_sub, b_mul, b_eql, b_neq, b_lss, b_leq, b_gtr, b_geq, Dn.setLast, Dn.getLast, evalO, mapO, Dn.get, putE, keepE, TV.one, TV.isAgg, Dn.part, hlen, e1, e5, hix, f1, d1, la, e6, e7, go_denK (c := l52_1) rfl, h8]
    · have e1 : ¬ ((l.length : Int) < 1) := by omega
      have e5 : (5 < (l.length : Int)) := by omega
      have : chkE l = 90 := by
        have : market l = false := by
          rw [Bool.eq_false_iff]; intro h
          exact h5 (market_iff.1 h).n5
        simp [chkE, this]
      rw [this]
      refine .of1 (x := .ret) (e := [(2, .i .i64 90)]) (H' := []) (hF.S _ _ (by decide)) hd rfl ?_ (.inl rfl) rfl (by simp [sn_i, sn_b, sn_nil, sn8_i, sn8_b, sn8_nil, sn7_i, sn7_b, sn_sl, sn8_sl, slB_some, sn_tup, sn_agg, sn8_agg, mapO, elems])
      simp [d52, c52, zipE, go_nil, go_last, go_past, go_pastR, go_blkN, go_blkR, go_blkE, go_skip, go_exit, go_ret, go_scope, go_seq, go_reg, go_block, go_cond, cnd_b, go_opsN, go_ops, go_opsG, grd_b, grd_u, stp_some, fin_some, up_some, cont_some, k_call, k_mv, k_pick, k_bin, k_eqB, k_eqA, k_not, k_neg, k_conv, k_alloc, k_boxA, k_boxI, k_boxB, k_boxN, k_boxBs, k_ldR, k_ldA, k_ldI, k_ldB, k_stA, k_stI, k_stB, ldC_some, stC_some, k_mkfn, k_slc, k_slcA, k_ixA, k_ixBs, k_ixSl, k_fadr, k_fld, k_ext, k_len, k_app, k_mn, k_mx, k_nilck, k_build, k_bsl1, k_bsl2, b_add, b_sub, b_mul, b_eql, b_neq, b_lss, b_leq, b_gtr, b_geq, Dn.setLast, Dn.getLast, evalO, mapO, Dn.get, putE, keepE, TV.one, TV.isAgg, Dn.part, hlen, e1, e5]

theorem call52 {pg : Pg} (hF : Free pg) {T : TV} {l : List Obs} (hT : Rws T l) (hl : l.length ≤ 100) (hs : ∀ x ∈ l, x.1.length ≤ 1000 ∧ x.2.length ≤ 1000) (H : Heap) : callRun pg (den pg) (.pu []) [.fn 52 [] [], T] H = some (.i .i64 (chkE l), H) := by
  obtain ⟨T', h1, h2⟩ := hT.snap H 5
  exact PFn.call (fn52 hF h2 hl hs) (args := [T]) (by simp [snapArgs, h1])

end Go.Proofs.Tryd.Dn

/-
  The market: what bundles cost.
-/

namespace Go.Proofs.Tryd.Dn
open Go.Dn

end Go.Proofs.Tryd.Dn

/-
  The market as an object, and as a value.
-/

namespace Go.Proofs.Tryd.Dn
open Go.Dn

section
variable {pg : Pg} {R : Rec}

end

end Go.Proofs.Tryd.Dn

/-
  The market opened.
-/

namespace Go.Proofs.Tryd.Dn
open Go.Dn

theorem body_ofs {pg : Pg} {f : Nat} {xs : List TV} {d : DFun} {x : Ex} {e : Env} {H H' : Heap} {vs : List TV} (hd : pg.F f = some d) (hl : xs.length = d.np)
    (ho : go pg (den pg) [.c d.body] .normal (zipE xs 0) H = some ⟨x, e, H'⟩) (hx : x = .ret ∨ x = .normal) (hv : mapO (resRun e H') d.res = some vs) : bodyRun pg (den pg) f xs H = some (tupR vs, H') := by
  refine bodyRun_of (o := ⟨x, e, H'⟩) hd hl (by rw [runC_go]; exact ho) ?_ hv
  intro id
  rcases hx with rfl | rfl <;> simp

theorem Market.small {X : List Obs} {g : Nat} (h : Market X g) {x y : Obs} (hx : x ∈ X) (hy : y ∈ X) : x.1.length ≤ y.2.length ∧ x.1.length ≤ 1000 ∧ (∀ p ∈ x.1, 0 ≤ p ∧ p ≤ 1000) ∧ (∀ p ∈ y.2, 0 ≤ p ∧ p ≤ 1000) := by
  obtain ⟨a1, a2, a3, a4, a5⟩ := okObs_iff.1 (h.ok x hx)
  obtain ⟨b1, b2, b3, b4, b5⟩ := okObs_iff.1 (h.ok y hy)
  have := h.g3
  exact ⟨by omega, by omega, fun p hp => by have := a3 p hp; omega, fun p hp => by have := b4 p hp; omega⟩

/-- open, where these are no observations -/
theorem body53e {pg : Pg} (hF : Free pg) {X : List Obs} (hm : market X = false) {T P : TV} (hT : Rws T X) (q1 : X.length ≤ 100) (q2 : ∀ x ∈ X, x.1.length ≤ 1000 ∧ x.2.length ≤ 1000) {H : Heap} :
    bodyRun pg (den pg) 53 [T, P] H = some (.tup [.nilp, .i .i64 90], H) := by
  have c52 := call52 hF hT q1 q2 H
  have hE : chkE X = 90 := by simp [chkE, hm]
  rw [hE] at c52
  refine body_ofs (x := .ret) (e := [(4, .nilp), (5, .i .i64 90)]) (vs := [.nilp, .i .i64 90]) (d := d53) (by rw [hF.F]; rfl) rfl ?_ (.inl rfl) rfl
  simp [d53, c53, zipE, go_nil, go_last, go_past, go_pastR, go_blkN, go_blkR, go_blkE, go_skip, go_exit, go_ret, go_scope, go_seq, go_reg, go_block, go_cond, cnd_b, go_opsN, go_ops, go_opsG, grd_b, grd_u, stp_some, fin_some, up_some, cont_some, k_call, k_mv, k_pick, k_bin, k_eqB, k_eqA, k_not, k_neg, k_conv, k_alloc, k_boxA, k_boxI, k_boxB, k_boxN, k_boxBs, k_ldR, k_ldA, k_ldI, k_ldB, k_stA, k_stI, k_stB, ldC_some, stC_some, k_mkfn, k_slc, k_slcA, k_ixA, k_ixBs, k_ixSl, k_fadr, k_fld, k_ext, k_len, k_app, k_mn, k_mx, k_nilck, k_build, k_bsl1, k_bsl2, b_add, b_sub, b_mul, b_eql, b_neq, b_lss, b_leq, b_gtr, b_geq, Dn.setLast, Dn.getLast, evalO, mapO, Dn.get, putE, keepE, TV.one, TV.isAgg, Dn.part, c52]

end Go.Proofs.Tryd.Dn

