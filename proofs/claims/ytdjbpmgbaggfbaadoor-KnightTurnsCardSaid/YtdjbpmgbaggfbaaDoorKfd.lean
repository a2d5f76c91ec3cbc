/-
  Knight: tight sets, in the program.
-/
import Derived.Test.YtdjbpmgbaggfbaaDoorKfc
set_option linter.unusedSimpArgs false
set_option linter.unusedVariables false

namespace Go.Proofs.Tryd.Dn
open Go.Dn

def fitsB (r c whole others set : Nat) : Bool := decide (set ≠ 0) && decide (pop 64 (around r c set) ≤ pop 64 set) && (decide (set ≠ whole) || decide (pop 64 others < pop 64 whole))

def tightL (r c : Nat) (M : List Int) (whole others : Nat) : List Nat → Option Nat
  | [] => none
  | s :: l => if fitsB r c whole others (reachS r c M [s]).1 = true then some (reachS r c M [s]).1 else tightL r c M whole others l
def tightC (r c : Nat) (M : List Int) (col : Nat) : Option Nat :=
  match tightL r c M (colM r c col) (colM r c (1 - col)) (mem64 (colM r c col)) with
  | some v => some v
  | none => if fitsB r c (colM r c col) (colM r c (1 - col)) (colM r c col) = true then some (colM r c col) else none
def tightS (r c : Nat) : Option Nat :=
  match tightC r c (matesOf r c) 0 with
  | some v => some v
  | none => tightC r c (matesOf r c) 1

theorem reachF_lt {r c : Nat} (h : Brd r c) {M : List Int} (hM : MOk (r * c) M) : ∀ (f own last other : Nat), own < 2 ^ (r * c) → (reachF r c M f own last other).1 < 2 ^ (r * c)
  | 0, own, last, other, h0 => h0
  | f + 1, own, last, other, h0 => by
    rw [reachF]
    split
    · exact h0
    · have hn := h.n36
      exact reachF_lt h hM f _ _ _ (addMates_lt hM _ _ (fun t ht => by have := mem64_in (around_lt h h0) ht; omega) h0)

theorem reachS_lt {r c : Nat} (h : Brd r c) {M : List Int} (hM : MOk (r * c) M) {l : List Nat} (hl : ∀ s, s ∈ l → s < r * c) : (reachS r c M l).1 < 2 ^ (r * c) :=
  reachF_lt h hM 40 _ _ _ (bitsF_lt l 0 hl (Nat.two_pow_pos _))

theorem body88 {pg : Pg} (hF : Free pg) {r c bc wc oc whole others set : Nat} {BV : TV} (h : Brd r c) {H : Heap} (hB : BOk r c H BV) (hb : H[bc]? = some (.cells [BV] false)) (hw : H[wc]? = some (.cells [.i .u64 (whole : Int)] false)) (ho : H[oc]? = some (.cells [.i .u64 (others : Int)] false))
    (hs : set < 2 ^ (r * c)) (hwl : whole < 2 ^ (r * c)) (hol : others < 2 ^ (r * c)) :
    bodyRun pg (den pg) 88 [.i .u64 (set : Int), .ref bc 0, .ref wc 0, .ref oc 0] H = some (.b (fitsB r c whole others set), H) := by
  have h64 := lv64 h
  have lb := ld_box (pg := pg) (R := den pg) hb hB.one.2
  have lw := ld_box (pg := pg) (R := den pg) hw rfl
  have lo := ld_box (pg := pg) (R := den pg) ho rfl
  have har := around_lt h hs
  have c71 := hB.bv.call71 (pg := pg) hF h hs
  have c1 := call70 (pg := pg) hF (x := around r c set) (by omega) H
  have c2 := call70 (pg := pg) hF (x := set) (by omega) H
  have c3 := call70 (pg := pg) hF (x := others) (by omega) H
  have c4 := call70 (pg := pg) hF (x := whole) (by omega) H
  refine body_ofs (x := .ret) (e := [(5, .b (fitsB r c whole others set))]) (vs := [.b (fitsB r c whole others set)]) (d := d88) (by rw [hF.F]; rfl) rfl ?_ (.inl rfl) rfl
  unfold fitsB
  have e2 : set = whole → pop 64 set = pop 64 whole := fun e => by rw [e]
  generalize around r c set = ar at *
  generalize pop 64 ar = pa at *
  generalize pop 64 set = ps at *
  generalize pop 64 others = po at *
  generalize pop 64 whole = pw at *
  by_cases h0 : set = 0
  · subst h0
    simp (disch := omega) [d88, c88, zipE, go_nil, go_last, go_past, go_pastR, go_blkN, go_blkR, go_blkE, go_skip, go_exit, go_ret, go_scope, go_seq, go_reg, go_regd, go_opdN, go_opd, go_opdG, grdd_b, grdd_u, stpd_some, find_some, go_block, go_cond, cnd_b, go_opsN, go_ops, go_opsG, grd_b, grd_u, stp_some, fin_some, up_some, cont_some, k_call, k_mv, k_pick, k_bin, k_eqB, k_eqA, k_not, k_neg, k_conv, k_alloc, k_boxA, k_boxI, k_boxB, k_boxN, k_boxBs, k_ldR, k_ldA, k_ldI, k_ldB, k_stA, k_stI, k_stB, ldC_some, stC_some, k_mkfn, k_slc, k_slcA, k_ixA, k_ixBs, k_ixSl, k_fadr, k_fld, k_ext, k_len, k_app, k_mn, k_mx, k_nilck, k_build, k_bsl1, k_bsl2, b_add, b_sub, b_mul, b_eql, b_neq, b_lss, b_leq, b_gtr, b_geq, Dn.setLast, Dn.getLast, evalO, mapO, Dn.get, putE, keepE_nil, keepE_cons, kp_some, kp_none, TV.one, TV.isAgg, Dn.part, k_boxR, negb, at0, at1, at2, at3, at4, dT, dF, wrapR_i64, Option.bind_some, Option.map_some, bneF]
  · have n0 : (((set : Int) != 0) = true) := bneT (by omega)
    by_cases h1 : pa ≤ ps
    · by_cases h2 : set = whole
      · have e3 := e2 h2
        subst h2
        subst e3
        have n1 : (((set : Int) != (set : Int)) = false) := by simp
        by_cases h3 : po < ps
        · simp (disch := omega) [d88, c88, zipE, go_nil, go_last, go_past, go_pastR, go_blkN, go_blkR, go_blkE, go_skip, go_exit, go_ret, go_scope, go_seq, go_reg, go_regd, go_opdN, go_opd, go_opdG, grdd_b, grdd_u, stpd_some, find_some, go_block, go_cond, cnd_b, go_opsN, go_ops, go_opsG, grd_b, grd_u, stp_some, fin_some, up_some, cont_some, k_call, k_mv, k_pick, k_bin, k_eqB, k_eqA, k_not, k_neg, k_conv, k_alloc, k_boxA, k_boxI, k_boxB, k_boxN, k_boxBs, k_ldR, k_ldA, k_ldI, k_ldB, k_stA, k_stI, k_stB, ldC_some, stC_some, k_mkfn, k_slc, k_slcA, k_ixA, k_ixBs, k_ixSl, k_fadr, k_fld, k_ext, k_len, k_app, k_mn, k_mx, k_nilck, k_build, k_bsl1, k_bsl2, b_add, b_sub, b_mul, b_eql, b_neq, b_lss, b_leq, b_gtr, b_geq, Dn.setLast, Dn.getLast, evalO, mapO, Dn.get, putE, keepE_nil, keepE_cons, kp_some, kp_none, TV.one, TV.isAgg, Dn.part, k_boxR, negb, at0, at1, at2, at3, at4, dT, dF, wrapR_i64, Option.bind_some, Option.map_some, n0, lb, c71, c1, c2, lw, lo, c3, c4, n1, h0, h1, h3]
        · simp (disch := omega) [d88, c88, zipE, go_nil, go_last, go_past, go_pastR, go_blkN, go_blkR, go_blkE, go_skip, go_exit, go_ret, go_scope, go_seq, go_reg, go_regd, go_opdN, go_opd, go_opdG, grdd_b, grdd_u, stpd_some, find_some, go_block, go_cond, cnd_b, go_opsN, go_ops, go_opsG, grd_b, grd_u, stp_some, fin_some, up_some, cont_some, k_call, k_mv, k_pick, k_bin, k_eqB, k_eqA, k_not, k_neg, k_conv, k_alloc, k_boxA, k_boxI, k_boxB, k_boxN, k_boxBs, k_ldR, k_ldA, k_ldI, k_ldB, k_stA, k_stI, k_stB, ldC_some, stC_some, k_mkfn, k_slc, k_slcA, k_ixA, k_ixBs, k_ixSl, k_fadr, k_fld, k_ext, k_len, k_app, k_mn, k_mx, k_nilck, k_build, k_bsl1, k_bsl2, b_add, b_sub, b_mul, b_eql, b_neq, b_lss, b_leq, b_gtr, b_geq, Dn.setLast, Dn.getLast, evalO, mapO, Dn.get, putE, keepE_nil, keepE_cons, kp_some, kp_none, TV.one, TV.isAgg, Dn.part, k_boxR, negb, at0, at1, at2, at3, at4, dT, dF, wrapR_i64, Option.bind_some, Option.map_some, n0, lb, c71, c1, c2, lw, lo, c3, c4, n1, h0, h1, h3]
      · have n1 : (((set : Int) != (whole : Int)) = true) := bneT (by omega)
        simp (disch := omega) [d88, c88, zipE, go_nil, go_last, go_past, go_pastR, go_blkN, go_blkR, go_blkE, go_skip, go_exit, go_ret, go_scope, go_seq, go_reg, go_regd, go_opdN, go_opd, go_opdG, grdd_b, grdd_u, stpd_some, find_some, go_block, go_cond, cnd_b, go_opsN, go_ops, go_opsG, grd_b, grd_u, stp_some, fin_some, up_some, cont_some, k_call, k_mv, k_pick, k_bin, k_eqB, k_eqA, k_not, k_neg, k_conv, k_alloc, k_boxA, k_boxI, k_boxB, k_boxN, k_boxBs, k_ldR, k_ldA, k_ldI, k_ldB, k_stA, k_stI, k_stB, ldC_some, stC_some, k_mkfn, k_slc, k_slcA, k_ixA, k_ixBs, k_ixSl, k_fadr, k_fld, k_ext, k_len, k_app, k_mn, k_mx, k_nilck, k_build, k_bsl1, k_bsl2, b_add, b_sub, b_mul, b_eql, b_neq, b_lss, b_leq, b_gtr, b_geq, Dn.setLast, Dn.getLast, evalO, mapO, Dn.get, putE, keepE_nil, keepE_cons, kp_some, kp_none, TV.one, TV.isAgg, Dn.part, k_boxR, negb, at0, at1, at2, at3, at4, dT, dF, wrapR_i64, Option.bind_some, Option.map_some, n0, lb, c71, c1, c2, lw, n1, h0, h1, h2]
    · simp (disch := omega) [d88, c88, zipE, go_nil, go_last, go_past, go_pastR, go_blkN, go_blkR, go_blkE, go_skip, go_exit, go_ret, go_scope, go_seq, go_reg, go_regd, go_opdN, go_opd, go_opdG, grdd_b, grdd_u, stpd_some, find_some, go_block, go_cond, cnd_b, go_opsN, go_ops, go_opsG, grd_b, grd_u, stp_some, fin_some, up_some, cont_some, k_call, k_mv, k_pick, k_bin, k_eqB, k_eqA, k_not, k_neg, k_conv, k_alloc, k_boxA, k_boxI, k_boxB, k_boxN, k_boxBs, k_ldR, k_ldA, k_ldI, k_ldB, k_stA, k_stI, k_stB, ldC_some, stC_some, k_mkfn, k_slc, k_slcA, k_ixA, k_ixBs, k_ixSl, k_fadr, k_fld, k_ext, k_len, k_app, k_mn, k_mx, k_nilck, k_build, k_bsl1, k_bsl2, b_add, b_sub, b_mul, b_eql, b_neq, b_lss, b_leq, b_gtr, b_geq, Dn.setLast, Dn.getLast, evalO, mapO, Dn.get, putE, keepE_nil, keepE_cons, kp_some, kp_none, TV.one, TV.isAgg, Dn.part, k_boxR, negb, at0, at1, at2, at3, at4, dT, dF, wrapR_i64, Option.bind_some, Option.map_some, n0, lb, c71, c1, c2, h0, h1]

theorem snap_p {r c P : Nat} {BV : TV} {M : List Int} {tr : Nat} {H : Heap} (hp : H[P]? = some (.cells (pC BV M tr) true)) (hB : BOk r c H BV) : snap .borrow H 9 (.ref P 0) = some (pV true true r c M tr) := by
  have h8 : snap .borrow H 8 BV = some (.bp true (.agg (bM r c))) := by
    rcases hB with ⟨bo, rfl⟩ | ⟨id, rfl, h⟩
    · have hm : mapO (snap .borrow H 6) (bM r c) = some (bM r c) := mapO_self fun x hx => by obtain ⟨k, n, rfl⟩ := bM_int hx; exact snS_i _ _ 5 _ _
      have : snap .borrow H 7 (.agg (bM r c)) = some (.agg (bM r c)) := by rw [snS_agg, hm]; rfl
      rw [snap]
      simp [this, SM.flag]
    · have hm : mapO (snap .borrow H 7) (bM r c) = some (bM r c) := mapO_self fun x hx => by obtain ⟨k, n, rfl⟩ := bM_int hx; exact sn7_i _ _ _ _
      rw [snap]
      simp [h, hm]
  have hm : mapO (snap .borrow H 8) (pC BV M tr) = some (pC (.bp true (.agg (bM r c))) M tr) := by
    have hr : ∀ l : List TV, (∀ x, x ∈ l → ∃ k n, x = .i k n) → mapO (snap .borrow H 8) l = some l := fun l hl => mapO_self fun x hx => by obtain ⟨k, n, rfl⟩ := hl x hx; exact sn8_i _ _ _ _
    unfold pC
    rw [List.cons_append, mapO, h8, Option.bind_some, hr _ (fun x hx => by
      rw [List.mem_append, List.mem_map, List.mem_singleton] at hx
      rcases hx with ⟨y, _, rfl⟩ | rfl <;> exact ⟨_, _, rfl⟩)]
    rfl
  rw [snap]
  simp [hp, hm, pV]

structure TS (r c Q W lp : Nat) (BV : TV) (M : List Int) (tr whole others : Nat) (H : Heap) (v : Nat) (ok : Bool) : Prop where
  b : H[0]? = some (.cells [BV] false)
  v : H[1]? = some (.cells [.i .u64 (v : Int)] false)
  ok : H[2]? = some (.cells [.b ok] false)
  p : H[3]? = some (.cells (pC BV M tr) true)
  q : H[Q]? = some (.cells [.ref 3 0] false)
  w : H[W]? = some (.cells [.i .u64 (whole : Int)] false)
  o : H[W + 1]? = some (.cells [.i .u64 (others : Int)] false)
  f : H[W + 2]? = some (.cells [.fn 88 [] [.ref 0 0, .ref W 0, .ref (W + 1) 0]] false)
  len : lp < H.length

theorem TS.grow {r c Q W lp : Nat} {BV : TV} {M : List Int} {tr whole others : Nat} {H H' : Heap} {v : Nat} {ok : Bool} (h : TS r c Q W lp BV M tr whole others H v ok) (hf : ∀ j, j < W + 3 → H'[j]? = H[j]?) (hQ : 3 < Q ∧ Q < W) (hl : H.length ≤ H'.length) : TS r c Q W lp BV M tr whole others H' v ok :=
  ⟨by rw [hf 0 (by omega)]; exact h.b, by rw [hf 1 (by omega)]; exact h.v, by rw [hf 2 (by omega)]; exact h.ok, by rw [hf 3 (by omega)]; exact h.p, by rw [hf Q (by omega)]; exact h.q, by rw [hf W (by omega)]; exact h.w, by rw [hf _ (by omega)]; exact h.o, by rw [hf _ (by omega)]; exact h.f, by have := h.len; omega⟩

theorem TS.set {r c Q W lp : Nat} {BV : TV} {M : List Int} {tr whole others : Nat} {H : Heap} {v : Nat} {ok : Bool} (h : TS r c Q W lp BV M tr whole others H v ok) (hQ : 3 < Q ∧ Q < W) {j : Nat} (hj : W + 3 ≤ j) (o : AObj) : TS r c Q W lp BV M tr whole others (H.set j o) v ok :=
  h.grow (fun k hk => by rw [List.getElem?_set_ne (by omega)]) hQ (by simp)

theorem TS.found {r c Q W lp : Nat} {BV : TV} {M : List Int} {tr whole others : Nat} {H : Heap} {v : Nat} {ok : Bool} (h : TS r c Q W lp BV M tr whole others H v ok) (hQ : 3 < Q ∧ Q < W) (v' : Nat) : TS r c Q W lp BV M tr whole others ((H.set 1 (.cells [.i .u64 (v' : Int)] false)).set 2 (.cells [.b true] false)) v' true := by
  have h1 := (List.getElem?_eq_some_iff.1 h.v).1
  have h2 := (List.getElem?_eq_some_iff.1 h.ok).1
  have k : ∀ j, j ≠ 1 → j ≠ 2 → ((H.set 1 (.cells [.i .u64 (v' : Int)] false)).set 2 (.cells [.b true] false))[j]? = H[j]? := fun j j1 j2 => by rw [List.getElem?_set_ne (by omega), List.getElem?_set_ne (by omega)]
  exact ⟨by rw [k 0 (by omega) (by omega)]; exact h.b, by rw [List.getElem?_set_ne (by omega), List.getElem?_set_self h1], by rw [List.getElem?_set_self (by simpa using h2)], by rw [k 3 (by omega) (by omega)]; exact h.p, by rw [k Q (by omega) (by omega)]; exact h.q, by rw [k W (by omega) (by omega)]; exact h.w, by rw [k _ (by omega) (by omega)]; exact h.o, by rw [k _ (by omega) (by omega)]; exact h.f, by simpa using h.len⟩

theorem tight_round {pg : Pg} (hF : Free pg) {r c Q W lp : Nat} {bo : Bool} {M : List Int} {tr whole others : Nat} (h : Brd r c) (hM : MOk (r * c) M) (hQ : 3 < Q ∧ Q < W) (hlp : lp = W + 4) (hwl : whole < 2 ^ (r * c)) (hol : others < 2 ^ (r * c))
    {L : ALoop} {e : Env} {x1 x14 : TV} (hL : L = lp1 a60_0 b60_1 27 [1, 2, 3, 4, 6, 8, 14] e) (he : keepE [1, 2, 3, 4, 6, 8, 14] e = [(1, x1), (2, .ref 1 0), (3, .ref 2 0), (4, .ref Q 0), (6, .ref W 0), (8, .ref (W + 2) 0), (14, x14)]) {o : Option Nat} :
    Rnd pg lp (W + 3) L (fun l H => ∃ v, TS r c Q W lp (.bp bo (.agg (bM r c))) M tr whole others H v false ∧ (∀ t, t ∈ l → t < r * c) ∧ tightL r c M whole others l = o)
      (fun x H => x = .ret ∧ ∃ v, o = some v ∧ TS r c Q W lp (.bp bo (.agg (bM r c))) M tr whole others H v true) := by
  rintro s rest H ⟨v, hS, hts, ho⟩ hlpc hk
  have hn := h.n36
  have hs := hts s (by simp)
  obtain ⟨HB, hHB⟩ : ∃ HB, HB = H.set lp (.loop { L with st := .busy }) := ⟨_, rfl⟩
  have pB : TS r c Q W lp (.bp bo (.agg (bM r c))) M tr whole others HB v false := by rw [hHB]; exact hS.set hQ (by omega) _
  have hlB : HB[lp]? = some (.loop { L with st := .busy }) := by rw [hHB, List.getElem?_set_self hS.len]
  have hsB : HB[W + 3]? = H[W + 3]? := by rw [hHB, List.getElem?_set_ne (by omega)]
  have hLe : L.env = [(1, x1), (2, .ref 1 0), (3, .ref 2 0), (4, .ref Q 0), (6, .ref W 0), (8, .ref (W + 2) 0), (14, x14)] := by rw [hL]; exact he
  have hLa : L.assign = a60_0 := by rw [hL]; rfl
  have hLb : L.body = b60_1 := by rw [hL]; rfl
  have hLp : L.params = [27] := by rw [hL]; rfl
  have ha1 : den pg L.assign ((L.params.zip [.i .i64 (s : Int)]).reverse ++ L.env) H = some ⟨.normal, [(2, .ref 1 0), (3, .ref 2 0), (4, .ref Q 0), (8, .ref (W + 2) 0), (9, .i .i64 (s : Int))], H⟩ := by
    rw [hLe, hLa, hLp, den_eq, runC_go]
    simp [a60_0, go_nil, go_last, go_past, go_pastR, go_blkN, go_blkR, go_blkE, go_skip, go_exit, go_ret, go_scope, go_seq, go_reg, go_regd, go_opdN, go_opd, go_opdG, grdd_b, grdd_u, stpd_some, find_some, go_block, go_cond, cnd_b, go_opsN, go_ops, go_opsG, grd_b, grd_u, stp_some, fin_some, up_some, cont_some, k_call, k_mv, k_pick, k_bin, k_eqB, k_eqA, k_not, k_neg, k_conv, k_alloc, k_boxA, k_boxI, k_boxB, k_boxN, k_boxBs, k_ldR, k_ldA, k_ldI, k_ldB, k_stA, k_stI, k_stB, ldC_some, stC_some, k_mkfn, k_slc, k_slcA, k_ixA, k_ixBs, k_ixSl, k_fadr, k_fld, k_ext, k_len, k_app, k_mn, k_mx, k_nilck, k_build, k_bsl1, k_bsl2, b_add, b_sub, b_mul, b_eql, b_neq, b_lss, b_leq, b_gtr, b_geq, Dn.setLast, Dn.getLast, evalO, mapO, Dn.get, putE, keepE, TV.one, TV.isAgg, Dn.part]
  have hlenB : HB.length = H.length := by rw [hHB]; simp
  obtain ⟨H1, hH1⟩ : ∃ H1 : Heap, H1 = HB ++ [.cells [.i .i64 (s : Int)] false] := ⟨_, rfl⟩
  have hBl := pB.len
  have k1 : ∀ j, j < HB.length → H1[j]? = HB[j]? := fun j hj => by rw [hH1, List.getElem?_append_left hj]
  have p1 : TS r c Q W lp (.bp bo (.agg (bM r c))) M tr whole others H1 v false := pB.grow (fun j hj => k1 j (by omega)) hQ (by rw [hH1]; simp)
  have hl1 : H1[lp]? = some (.loop { L with st := .busy }) := by rw [k1 lp (by omega)]; exact hlB
  have hs1 : H1[W + 3]? = H[W + 3]? := by rw [k1 _ (by omega)]; exact hsB
  have lq := ld_box (pg := pg) (R := den pg) pB.q rfl
  have lf := ld_box (pg := pg) (R := den pg) p1.f rfl
  have hBO : BOk r c H1 (.bp bo (.agg (bM r c))) := .inl ⟨bo, rfl⟩
  have sp := snap_p p1.p hBO
  have f75 := fn75 (pg := pg) hF (bo := true) (bo' := true) (tr := tr) h hM (A := .bs true 1 [.i .i64 (s : Int)]) (l := [s]) (.inr ⟨true, rfl⟩) (fun x hx => by rw [List.mem_singleton] at hx; subst hx; exact hs) (by simp)
  have ssl : snap .borrow H1 9 (.sl HB.length 0 1 false 1 (some 1)) = some (.bs true 1 [.i .i64 (s : Int)]) := by
    rw [sn_sl _ (by decide), hH1, getLast, slB_some]
    simp [sn_i, sn_b, sn_nil, sn8_i, sn8_b, sn8_nil, sn7_i, sn7_b, sn_sl, sn8_sl, slB_some, sn_tup, sn_agg, sn8_agg, mapO, elems]
  have c75 := PFn.call f75 (args := [.ref 3 0, .sl HB.length 0 1 false 1 (some 1)]) (ks := []) (fs := []) (cs := []) (H := H1) (by simp [snapArgs, sp, ssl])
  have hrl := reachS_lt h hM (l := [s]) (fun x hx => by rw [List.mem_singleton] at hx; subst hx; exact hs)
  have b88 := body88 (pg := pg) hF h hBO p1.b p1.w p1.o hrl hwl hol
  have b88' : callRun pg (den pg) .sh [.fn 88 [] [.ref 0 0, .ref W 0, .ref (W + 1) 0], .i .u64 ((reachS r c M [s]).1 : Int)] H1 = some (.b (fitsB r c whole others (reachS r c M [s]).1), H1) := by rw [sh_fn]; exact b88
  have ho' : (if fitsB r c whole others (reachS r c M [s]).1 = true then some (reachS r c M [s]).1 else tightL r c M whole others rest) = o := ho
  have kbs : dkc pg (den pg) (.bsl false [.i .i64 0] false 1 [0]) [.i .i64 (s : Int)] HB = some (.sl HB.length 0 1 false 1 (some 1), H1) := by rw [k_bsl1, hH1]
  generalize (reachS r c M [s]).2 = R2 at *
  generalize (reachS r c M [s]).1 = R1 at *
  generalize TV.bp bo (.agg (bM r c)) = BB at *
  cases hfit : fitsB r c whole others R1 with
  | false =>
    rw [hfit] at b88' ho'
    simp only [Bool.false_eq_true, if_false] at ho'
    have hbd : den pg L.body [(2, .ref 1 0), (3, .ref 2 0), (4, .ref Q 0), (8, .ref (W + 2) 0), (9, .i .i64 (s : Int))] HB = some ⟨.normal, [(2, .ref 1 0), (3, .ref 2 0), (10, .i .u64 (R1 : Int)), (37, .b false)], H1⟩ := by
      rw [hLb, den_eq, runC_go]
      simp (disch := omega) [b60_1, go_nil, go_last, go_past, go_pastR, go_blkN, go_blkR, go_blkE, go_skip, go_exit, go_ret, go_scope, go_seq, go_reg, go_regd, go_opdN, go_opd, go_opdG, grdd_b, grdd_u, stpd_some, find_some, go_block, go_cond, cnd_b, go_opsN, go_ops, go_opsG, grd_b, grd_u, stp_some, fin_some, up_some, cont_some, k_call, k_mv, k_pick, k_bin, k_eqB, k_eqA, k_not, k_neg, k_conv, k_alloc, k_boxA, k_boxI, k_boxB, k_boxN, k_boxBs, k_ldR, k_ldA, k_ldI, k_ldB, k_stA, k_stI, k_stB, ldC_some, stC_some, k_mkfn, k_slc, k_slcA, k_ixA, k_ixBs, k_ixSl, k_fadr, k_fld, k_ext, k_len, k_app, k_mn, k_mx, k_nilck, k_build, k_bsl1, k_bsl2, b_add, b_sub, b_mul, b_eql, b_neq, b_lss, b_leq, b_gtr, b_geq, Dn.setLast, Dn.getLast, evalO, mapO, Dn.get, putE, keepE_nil, keepE_cons, kp_some, kp_none, TV.one, TV.isAgg, Dn.part, k_boxR, negb, at0, at1, at2, at3, at4, dT, dF, wrapR_i64, Option.bind_some, Option.map_some, lq, kbs, c75, lf, b88']
    refine .inl ⟨H1.set lp (.loop L), Body.of ha1 hlpc (by rw [← hHB]; exact hbd) hl1, ⟨v, p1.set hQ (by omega) _, fun x hx => hts x (by simp [hx]), ho'⟩, ?_⟩
    rw [List.getElem?_set_ne (by omega)]; exact hs1
  | true =>
    rw [hfit] at b88' ho'
    simp only [if_true] at ho'
    have s1 := st_box (pg := pg) (R := den pg) (v := .i .u64 (R1 : Int)) p1.v rfl
    obtain ⟨H2, hH2⟩ : ∃ H2, H2 = H1.set 1 (.cells [.i .u64 (R1 : Int)] false) := ⟨_, rfl⟩
    rw [← hH2] at s1
    have s2 := st_box (pg := pg) (R := den pg) (H := H2) (v := .b true) (id := 2) (u := .b false) (ag := false) (by rw [hH2, List.getElem?_set_ne (by omega)]; exact p1.ok) rfl
    have p3 := p1.found hQ R1
    rw [← hH2] at p3
    have hbd : den pg L.body [(2, .ref 1 0), (3, .ref 2 0), (4, .ref Q 0), (8, .ref (W + 2) 0), (9, .i .i64 (s : Int))] HB = some ⟨.ret, [], H2.set 2 (.cells [.b true] false)⟩ := by
      rw [hLb, den_eq, runC_go]
      simp (disch := omega) [b60_1, go_nil, go_last, go_past, go_pastR, go_blkN, go_blkR, go_blkE, go_skip, go_exit, go_ret, go_scope, go_seq, go_reg, go_regd, go_opdN, go_opd, go_opdG, grdd_b, grdd_u, stpd_some, find_some, go_block, go_cond, cnd_b, go_opsN, go_ops, go_opsG, grd_b, grd_u, stp_some, fin_some, up_some, cont_some, k_call, k_mv, k_pick, k_bin, k_eqB, k_eqA, k_not, k_neg, k_conv, k_alloc, k_boxA, k_boxI, k_boxB, k_boxN, k_boxBs, k_ldR, k_ldA, k_ldI, k_ldB, k_stA, k_stI, k_stB, ldC_some, stC_some, k_mkfn, k_slc, k_slcA, k_ixA, k_ixBs, k_ixSl, k_fadr, k_fld, k_ext, k_len, k_app, k_mn, k_mx, k_nilck, k_build, k_bsl1, k_bsl2, b_add, b_sub, b_mul, b_eql, b_neq, b_lss, b_leq, b_gtr, b_geq, Dn.setLast, Dn.getLast, evalO, mapO, Dn.get, putE, keepE_nil, keepE_cons, kp_some, kp_none, TV.one, TV.isAgg, Dn.part, k_boxR, negb, at0, at1, at2, at3, at4, dT, dF, wrapR_i64, Option.bind_some, Option.map_some, lq, kbs, c75, lf, b88', s1, s2]
    refine .inr ⟨.ret, (H2.set 2 (.cells [.b true] false)).set lp (.loop L), by simp, Body.of ha1 hlpc (by rw [← hHB]; exact hbd) ?_, rfl, R1, ho'.symm, p3.set hQ (by omega) _⟩
    rw [List.getElem?_set_ne (by omega), hH2, List.getElem?_set_ne (by omega)]; exact hl1

structure TQ (r c Q : Nat) (BV : TV) (M : List Int) (tr : Nat) (H : Heap) (v : Nat) (ok : Bool) : Prop where
  b : H[0]? = some (.cells [BV] false)
  v : H[1]? = some (.cells [.i .u64 (v : Int)] false)
  ok : H[2]? = some (.cells [.b ok] false)
  p : H[3]? = some (.cells (pC BV M tr) true)
  q : H[Q]? = some (.cells [.ref 3 0] false)
  hQ : 3 < Q

theorem tight_col {pg : Pg} (hF : Free pg) {r c Q : Nat} {bo : Bool} {M : List Int} {tr col : Nat} (h : Brd r c) (hM : MOk (r * c) M) (hcol : col < 2) {H : Heap} {v : Nat} (hT : TQ r c Q (.bp bo (.agg (bM r c))) M tr H v false) :
    (∃ v' H', tightC r c M col = none ∧ TQ r c Q (.bp bo (.agg (bM r c))) M tr H' v' false ∧ den pg l60_3 [(1, .ref 0 0), (2, .ref 1 0), (3, .ref 2 0), (4, .ref Q 0), (14, .i .i64 (col : Int))] H = den pg l60_3 [(1, .ref 0 0), (2, .ref 1 0), (3, .ref 2 0), (4, .ref Q 0), (14, .i .i64 ((col : Int) + 1))] H') ∨
    (∃ v' e H', tightC r c M col = some v' ∧ TQ r c Q (.bp bo (.agg (bM r c))) M tr H' v' true ∧ den pg l60_3 [(1, .ref 0 0), (2, .ref 1 0), (3, .ref 2 0), (4, .ref Q 0), (14, .i .i64 (col : Int))] H = some ⟨.ret, e, H'⟩ ∧ keepE [2, 3] e = [(2, .ref 1 0), (3, .ref 2 0)]) := by
  have hn := h.n36
  have h1n := lv64 h
  obtain ⟨BB, hBB⟩ : ∃ BB, BB = TV.bp bo (.agg (bM r c)) := ⟨_, rfl⟩
  have hBO : ∀ K, BOk r c K BB := fun K => by rw [hBB]; exact .inl ⟨bo, rfl⟩
  have hag : BB.isAgg = false := (hBO H).one.2
  obtain ⟨W, hW⟩ : ∃ W, W = H.length := ⟨_, rfl⟩
  have hQl := (List.getElem?_eq_some_iff.1 hT.q).1
  have hQ := hT.hQ
  have l0 := ld_box (pg := pg) (R := den pg) hT.b (by rw [← hBB]; exact hag)
  rw [← hBB] at l0
  have cA := (hBO H).bv.call69 (pg := pg) hF (col := col) h
  have cB := (hBO H).bv.call69 (pg := pg) hF (col := 1 - col) h
  have w1c : wrapR .i64 (1 - (col : Int)) = .i .i64 ((1 - col : Nat) : Int) := by rw [show 1 - (col : Int) = ((1 - col : Nat) : Int) by omega]; exact wrapR_i64 (by omega)
  have hwl := colM_lt r c col
  have hol := colM_lt r c (1 - col)
  obtain ⟨whole, hwh⟩ : ∃ w, w = colM r c col := ⟨_, rfl⟩
  obtain ⟨others, hot⟩ : ∃ w, w = colM r c (1 - col) := ⟨_, rfl⟩
  rw [← hwh] at cA hwl
  rw [← hot] at cB hol
  have htc : tightC r c M col = match tightL r c M whole others (mem64 whole) with
    | some v => some v
    | none => if fitsB r c whole others whole = true then some whole else none := by unfold tightC; rw [hwh, hot]
  -- the cells
  obtain ⟨HA, hHA⟩ : ∃ HA : Heap, HA = (H ++ [.cells [.i .u64 0] false]) ++ [.cells [.i .u64 0] false] := ⟨_, rfl⟩
  have lHA : HA.length = W + 2 := by rw [hHA, hW]; simp
  obtain ⟨HC, hHC⟩ : ∃ HC : Heap, HC = (H ++ [.cells [.i .u64 (whole : Int)] false]) ++ [.cells [.i .u64 0] false] := ⟨_, rfl⟩
  obtain ⟨HD, hHD⟩ : ∃ HD : Heap, HD = (H ++ [.cells [.i .u64 (whole : Int)] false]) ++ [.cells [.i .u64 (others : Int)] false] := ⟨_, rfl⟩
  have lHD : HD.length = W + 2 := by rw [hHD, hW]; simp
  have sA : dkc pg (den pg) (.st 1) [.ref W 0, .i .u64 (whole : Int)] HA = some (.undef, HC) := by
    have := st_box (pg := pg) (R := den pg) (H := HA) (id := W) (u := .i .u64 0) (ag := false) (v := .i .u64 (whole : Int)) (by rw [hHA, List.getElem?_append_left (by simp [hW]), hW]; exact getLast _ _) rfl
    rw [this, hHC, hHA, List.set_append_left _ _ (by simp [hW]), hW, Dn.setLast]
  have sC : dkc pg (den pg) (.st 1) [.ref (W + 1) 0, .i .u64 (others : Int)] HC = some (.undef, HD) := by
    have hl : (H ++ [AObj.cells [TV.i .u64 (whole : Int)] false]).length = W + 1 := by simp [hW]
    have := st_box (pg := pg) (R := den pg) (H := HC) (id := W + 1) (u := .i .u64 0) (ag := false) (v := .i .u64 (others : Int)) (by rw [hHC, ← hl]; exact getLast _ _) rfl
    rw [this, hHD, hHC, ← hl, Dn.setLast]
  obtain ⟨HE, hHE⟩ : ∃ HE : Heap, HE = HD ++ [.cells [.fn 88 [] [.ref 0 0, .ref W 0, .ref (W + 1) 0]] false] := ⟨_, rfl⟩
  have lHE : HE.length = W + 3 := by rw [hHE]; simp [lHD]
  have sE : dkc pg (den pg) (.st 1) [.ref (W + 2) 0, .fn 88 [] [.ref 0 0, .ref W 0, .ref (W + 1) 0]] (HD ++ [.cells [.nilfn] false]) = some (.undef, HE) := by
    have := st_box (pg := pg) (R := den pg) (H := HD ++ [.cells [.nilfn] false]) (id := W + 2) (u := .nilfn) (ag := false) (v := .fn 88 [] [.ref 0 0, .ref W 0, .ref (W + 1) 0]) (by rw [← lHD]; exact getLast _ _) rfl
    rw [this, ← lHD, Dn.setLast, hHE]
  have kE : ∀ j, j < W → HE[j]? = H[j]? := fun j hj => by rw [hHE, List.getElem?_append_left (by omega), hHD, List.getElem?_append_left (by simp; omega), List.getElem?_append_left (by omega)]
  have eW : HE[W]? = some (.cells [.i .u64 (whole : Int)] false) := by rw [hHE, List.getElem?_append_left (by omega), hHD, List.getElem?_append_left (by simp; omega), hW]; exact getLast _ _
  have eO : HE[W + 1]? = some (.cells [.i .u64 (others : Int)] false) := by
    have hl : (H ++ [AObj.cells [TV.i .u64 (whole : Int)] false]).length = W + 1 := by simp [hW]
    rw [hHE, List.getElem?_append_left (by omega), hHD, ← hl]; exact getLast _ _
  have eF : HE[W + 2]? = some (.cells [.fn 88 [] [.ref 0 0, .ref W 0, .ref (W + 1) 0]] false) := by rw [hHE, ← lHD]; exact getLast _ _
  have lW := ld_box (pg := pg) (R := den pg) eW rfl
  obtain ⟨HG, hHG⟩ : ∃ HG : Heap, HG = HE ++ [.cells [.i .u64 (whole : Int)] false] := ⟨_, rfl⟩
  have lHG : HG.length = W + 4 := by rw [hHG]; simp [lHE]
  have b63 := body63 (pg := pg) hF whole HE
  rw [← hHG, lHE] at b63
  obtain ⟨L, hL⟩ : ∃ L, L = lp1 a60_0 b60_1 27 [1, 2, 3, 4, 6, 8, 14] [(1, .ref 0 0), (2, .ref 1 0), (3, .ref 2 0), (4, .ref Q 0), (6, .ref W 0), (8, .ref (W + 2) 0), (14, .i .i64 (col : Int)), (26, .fn 93 [] [.ref (W + 3) 0])] := ⟨_, rfl⟩
  have hkeep : keepE [1, 2, 3, 4, 6, 8, 14] ([(1, .ref 0 0), (2, .ref 1 0), (3, .ref 2 0), (4, .ref Q 0), (6, .ref W 0), (8, .ref (W + 2) 0), (14, .i .i64 (col : Int)), (26, .fn 93 [] [.ref (W + 3) 0])] : Env) = [(1, .ref 0 0), (2, .ref 1 0), (3, .ref 2 0), (4, .ref Q 0), (6, .ref W 0), (8, .ref (W + 2) 0), (14, .i .i64 (col : Int))] := rfl
  have kl : ∀ j, j < W + 3 → (HG ++ [.loop L])[j]? = HE[j]? := fun j hj => by rw [List.getElem?_append_left (by omega), hHG, List.getElem?_append_left (by omega)]
  have hS0 : TS r c Q W (W + 4) (.bp bo (.agg (bM r c))) M tr whole others (HG ++ [.loop L]) v false :=
    ⟨by rw [kl 0 (by omega), kE 0 (by omega)]; exact hT.b, by rw [kl 1 (by omega), kE 1 (by omega)]; exact hT.v, by rw [kl 2 (by omega), kE 2 (by omega)]; exact hT.ok, by rw [kl 3 (by omega), kE 3 (by omega)]; exact hT.p, by rw [kl Q (by omega), kE Q (by omega)]; exact hT.q, by rw [kl W (by omega)]; exact eW, by rw [kl _ (by omega)]; exact eO, by rw [kl _ (by omega)]; exact eF, by simp [lHG]⟩
  have hQW : 3 < Q ∧ Q < W := ⟨hQ, by omega⟩
  have mk : dkc pg (den pg) (.mkfn 88 0) [.ref 0 0, .ref W 0, .ref (W + 1) 0] HD = some (.fn 88 [] [.ref 0 0, .ref W 0, .ref (W + 1) 0], HD) := rfl
  have eHl : H.length = W := hW.symm
  have al1 : dkc pg (den pg) (.alloc [.i .u64 0] false) [] H = some (.ref W 0, H ++ [.cells [.i .u64 0] false]) := by rw [k_alloc, eHl]
  have al2 : dkc pg (den pg) (.alloc [.i .u64 0] false) [] (H ++ [.cells [.i .u64 0] false]) = some (.ref (W + 1) 0, HA) := by rw [k_alloc, hHA]; simp [eHl]
  have al3 : dkc pg (den pg) (.alloc [.nilfn] false) [] HD = some (.ref (W + 2) 0, HD ++ [.cells [.nilfn] false]) := by rw [k_alloc, lHD]
  rcases rng hF (f := 26) (s := W + 3) (p := 27) (as_ := a60_0) (bd := b60_1) (ks := [1, 2, 3, 4, 6, 8, 14]) (e := [(1, .ref 0 0), (2, .ref 1 0), (3, .ref 2 0), (4, .ref Q 0), (6, .ref W 0), (8, .ref (W + 2) 0), (14, .i .i64 (col : Int)), (26, .fn 93 [] [.ref (W + 3) 0])]) (H := HG) (x := whole) rfl (by rw [hHG, ← lHE]; exact getLast _ _) (by omega)
      (P := fun l K => ∃ v, TS r c Q W (W + 4) (.bp bo (.agg (bM r c))) M tr whole others K v false ∧ (∀ t, t ∈ l → t < r * c) ∧ tightL r c M whole others l = tightL r c M whole others (mem64 whole))
      (Q := fun x K => x = .ret ∧ ∃ v, tightL r c M whole others (mem64 whole) = some v ∧ TS r c Q W (W + 4) (.bp bo (.agg (bM r c))) M tr whole others K v true) (by rw [← hL]; exact ⟨v, hS0, fun t ht => mem64_in hwl ht, rfl⟩)
      (fun l K cc ⟨v, g1, g2, g3⟩ => ⟨v, g1.set hQW (by omega) _, g2, g3⟩) (by rw [lHG, ← hL]; exact tight_round hF h hM hQW rfl hwl hol hL hkeep) with ⟨H6, r1, v', g1, _, g2⟩ | ⟨x, H6, hx, r1, rfl, v', g1, g2⟩
  · have g2' : none = tightL r c M whole others (mem64 whole) := g2
    rw [lHG, ← hL, hkeep] at r1
    obtain ⟨H7, hH7⟩ : ∃ H7, H7 = H6.set (W + 4) (.loop { L with st := .exhausted }) := ⟨_, rfl⟩
    rw [← hH7] at r1
    have g7 : TS r c Q W (W + 4) (.bp bo (.agg (bM r c))) M tr whole others H7 v' false := by rw [hH7]; exact g1.set hQW (by omega) _
    rw [← g2'] at htc
    have f7 := ld_box (pg := pg) (R := den pg) g7.f rfl
    have w7 := ld_box (pg := pg) (R := den pg) g7.w rfl
    have b88 := body88 (pg := pg) hF h (.inl ⟨bo, rfl⟩) g7.b g7.w g7.o hwl hwl hol
    have b88' : callRun pg (den pg) .sh [.fn 88 [] [.ref 0 0, .ref W 0, .ref (W + 1) 0], .i .u64 (whole : Int)] H7 = some (.b (fitsB r c whole others whole), H7) := by rw [sh_fn]; exact b88
    cases hfit : fitsB r c whole others whole with
    | false =>
      rw [hfit] at b88' htc
      refine .inl ⟨v', H7, htc, ⟨g7.b, g7.v, g7.ok, g7.p, g7.q, hQ⟩, ?_⟩
      rw [l60_3, den_loop]
      simp (disch := omega) [l60_3, b60_2, go_nil, go_last, go_past, go_pastR, go_blkN, go_blkR, go_blkE, go_skip, go_exit, go_ret, go_scope, go_seq, go_reg, go_regd, go_opdN, go_opd, go_opdG, grdd_b, grdd_u, stpd_some, find_some, go_block, go_cond, cnd_b, go_opsN, go_ops, go_opsG, grd_b, grd_u, stp_some, fin_some, up_some, cont_some, k_call, k_mv, k_pick, k_bin, k_eqB, k_eqA, k_not, k_neg, k_conv, k_alloc, k_boxA, k_boxI, k_boxB, k_boxN, k_boxBs, k_ldR, k_ldA, k_ldI, k_ldB, k_stA, k_stI, k_stB, ldC_some, stC_some, k_mkfn, k_slc, k_slcA, k_ixA, k_ixBs, k_ixSl, k_fadr, k_fld, k_ext, k_len, k_app, k_mn, k_mx, k_nilck, k_build, k_bsl1, k_bsl2, b_add, b_sub, b_mul, b_eql, b_neq, b_lss, b_leq, b_gtr, b_geq, Dn.setLast, Dn.getLast, evalO, mapO, Dn.get, putE, keepE_nil, keepE_cons, kp_some, kp_none, TV.one, TV.isAgg, Dn.part, k_boxR, negb, at0, at1, at2, at3, at4, dT, dF, wrapR_i64, Option.bind_some, Option.map_some, l0, cA, cB, w1c, al1, al2, al3, sA, sC, mk, sE, lW, sh_fn, b63, r1, f7, w7, b88']
    | true =>
      rw [hfit] at b88' htc
      have s1 := st_box (pg := pg) (R := den pg) (v := .i .u64 (whole : Int)) g7.v rfl
      obtain ⟨H8, hH8⟩ : ∃ H8, H8 = H7.set 1 (.cells [.i .u64 (whole : Int)] false) := ⟨_, rfl⟩
      rw [← hH8] at s1
      have s2 := st_box (pg := pg) (R := den pg) (H := H8) (v := .b true) (id := 2) (u := .b false) (ag := false) (by rw [hH8, List.getElem?_set_ne (by omega)]; exact g7.ok) rfl
      have g9 := g7.found hQW whole
      rw [← hH8] at g9
      refine .inr ⟨whole, _, H8.set 2 (.cells [.b true] false), htc, ⟨g9.b, g9.v, g9.ok, g9.p, g9.q, hQ⟩, by
        rw [l60_3, den_loop]
        simp (disch := omega) [l60_3, b60_2, go_nil, go_last, go_past, go_pastR, go_blkN, go_blkR, go_blkE, go_skip, go_exit, go_ret, go_scope, go_seq, go_reg, go_regd, go_opdN, go_opd, go_opdG, grdd_b, grdd_u, stpd_some, find_some, go_block, go_cond, cnd_b, go_opsN, go_ops, go_opsG, grd_b, grd_u, stp_some, fin_some, up_some, cont_some, k_call, k_mv, k_pick, k_bin, k_eqB, k_eqA, k_not, k_neg, k_conv, k_alloc, k_boxA, k_boxI, k_boxB, k_boxN, k_boxBs, k_ldR, k_ldA, k_ldI, k_ldB, k_stA, k_stI, k_stB, ldC_some, stC_some, k_mkfn, k_slc, k_slcA, k_ixA, k_ixBs, k_ixSl, k_fadr, k_fld, k_ext, k_len, k_app, k_mn, k_mx, k_nilck, k_build, k_bsl1, k_bsl2, b_add, b_sub, b_mul, b_eql, b_neq, b_lss, b_leq, b_gtr, b_geq, Dn.setLast, Dn.getLast, evalO, mapO, Dn.get, putE, keepE_nil, keepE_cons, kp_some, kp_none, TV.one, TV.isAgg, Dn.part, k_boxR, negb, at0, at1, at2, at3, at4, dT, dF, wrapR_i64, Option.bind_some, Option.map_some, l0, cA, cB, w1c, al1, al2, al3, sA, sC, mk, sE, lW, sh_fn, b63, r1, f7, w7, b88', s1, s2]
        rfl, rfl⟩
  · rw [lHG, ← hL, hkeep] at r1
    obtain ⟨H7, hH7⟩ : ∃ H7, H7 = H6.set (W + 4) (.loop { L with st := .exhausted, pend := some .ret }) := ⟨_, rfl⟩
    rw [← hH7] at r1
    have g7 : TS r c Q W (W + 4) (.bp bo (.agg (bM r c))) M tr whole others H7 v' true := by rw [hH7]; exact g2.set hQW (by omega) _
    rw [g1] at htc
    refine .inr ⟨v', _, H7, htc, ⟨g7.b, g7.v, g7.ok, g7.p, g7.q, hQ⟩, by
      rw [l60_3, den_loop]
      simp (disch := omega) [l60_3, b60_2, go_nil, go_last, go_past, go_pastR, go_blkN, go_blkR, go_blkE, go_skip, go_exit, go_ret, go_scope, go_seq, go_reg, go_regd, go_opdN, go_opd, go_opdG, grdd_b, grdd_u, stpd_some, find_some, go_block, go_cond, cnd_b, go_opsN, go_ops, go_opsG, grd_b, grd_u, stp_some, fin_some, up_some, cont_some, k_call, k_mv, k_pick, k_bin, k_eqB, k_eqA, k_not, k_neg, k_conv, k_alloc, k_boxA, k_boxI, k_boxB, k_boxN, k_boxBs, k_ldR, k_ldA, k_ldI, k_ldB, k_stA, k_stI, k_stB, ldC_some, stC_some, k_mkfn, k_slc, k_slcA, k_ixA, k_ixBs, k_ixSl, k_fadr, k_fld, k_ext, k_len, k_app, k_mn, k_mx, k_nilck, k_build, k_bsl1, k_bsl2, b_add, b_sub, b_mul, b_eql, b_neq, b_lss, b_leq, b_gtr, b_geq, Dn.setLast, Dn.getLast, evalO, mapO, Dn.get, putE, keepE_nil, keepE_cons, kp_some, kp_none, TV.one, TV.isAgg, Dn.part, k_boxR, negb, at0, at1, at2, at3, at4, dT, dF, wrapR_i64, Option.bind_some, Option.map_some, l0, cA, cB, w1c, al1, al2, al3, sA, sC, mk, sE, lW, sh_fn, b63, r1]
      rfl, rfl⟩

end Go.Proofs.Tryd.Dn

/-
  Knight: a tight set, in the program: the end.
-/

namespace Go.Proofs.Tryd.Dn
open Go.Dn

def tightV (o : Option Nat) : TV := .tup [.i .u64 ((o.getD 0 : Nat) : Int), .b o.isSome]

theorem fn60 {pg : Pg} (hF : Free pg) {r c : Nat} {bo : Bool} (h : Brd r c) : PFn pg 60 [.bp bo (.agg (bM r c))] (tightV (tightS r c)) := by
  obtain ⟨BB, hBB⟩ : ∃ BB, BB = TV.bp bo (.agg (bM r c)) := ⟨_, rfl⟩
  have hBO : ∀ K, BOk r c K BB := fun K => by rw [hBB]; exact .inl ⟨bo, rfl⟩
  have hag : BB.isAgg = false := (hBO []).one.2
  have kb : dkc pg (den pg) (.box false) [BB] [] = some (.ref 0 0, [.cells [BB] false]) := by rw [hBB]; exact k_boxP _ _ _
  obtain ⟨H0, hH0⟩ : ∃ H0 : Heap, H0 = [.cells [BB] false, .cells [.i .u64 0] false, .cells [.b false] false] := ⟨_, rfl⟩
  have al1 : dkc pg (den pg) (.alloc [.i .u64 0] false) [] [.cells [BB] false] = some (.ref 1 0, [.cells [BB] false, .cells [.i .u64 0] false]) := rfl
  have al2 : dkc pg (den pg) (.alloc [.b false] false) [] [.cells [BB] false, .cells [.i .u64 0] false] = some (.ref 2 0, H0) := by rw [hH0]; rfl
  have l0 := ld_box (pg := pg) (R := den pg) (H := H0) (id := 0) (t := BB) (by rw [hH0]; rfl) hag
  obtain ⟨H1, tr, b1, b2, b3, b4⟩ := body74 (pg := pg) hF h (hBO H0)
  have hl0 : H0.length = 3 := by rw [hH0]; rfl
  rw [hl0] at b1 b2 b3 b4
  have b1' : callRun pg (den pg) .sh [.fn 74 [] [], BB] H0 = some (.ref 3 0, H1) := by rw [sh_fn]; exact b1
  obtain ⟨Q, hQ⟩ : ∃ Q, Q = H1.length := ⟨_, rfl⟩
  obtain ⟨H2, hH2⟩ : ∃ H2 : Heap, H2 = H1 ++ [.cells [.ref 3 0] false] := ⟨_, rfl⟩
  have al3 : dkc pg (den pg) (.alloc [.nilp] false) [] H1 = some (.ref Q 0, H1 ++ [.cells [.nilp] false]) := by rw [k_alloc, hQ]
  have s3 : dkc pg (den pg) (.st 1) [.ref Q 0, .ref 3 0] (H1 ++ [.cells [.nilp] false]) = some (.undef, H2) := by
    have := st_box (pg := pg) (R := den pg) (H := H1 ++ [.cells [.nilp] false]) (id := Q) (u := .nilp) (ag := false) (v := .ref 3 0) (by rw [hQ]; exact getLast _ _) rfl
    rw [this, hQ, Dn.setLast, hH2]
  have k2 : ∀ j, j < H1.length → H2[j]? = H1[j]? := fun j hj => by rw [hH2, List.getElem?_append_left hj]
  have hT : TQ r c Q (.bp bo (.agg (bM r c))) (matesOf r c) tr H2 0 false := by
    rw [← hBB]
    exact ⟨by rw [k2 0 (by omega), b4 0 (by omega), hH0]; rfl, by rw [k2 1 (by omega), b4 1 (by omega), hH0]; rfl, by rw [k2 2 (by omega), b4 2 (by omega), hH0]; rfl, by rw [k2 3 (by omega)]; exact b2, by rw [hH2, hQ]; exact getLast _ _, by omega⟩
  -- the end of a run that found a set
  have found : ∀ (v : Nat) (e : Env) (H3 : Heap), TQ r c Q (.bp bo (.agg (bM r c))) (matesOf r c) tr H3 v true → den pg l60_3 [(1, .ref 0 0), (2, .ref 1 0), (3, .ref 2 0), (4, .ref Q 0), (14, .i .i64 0)] H2 = some ⟨.ret, e, H3⟩ → keepE [2, 3] e = [(2, .ref 1 0), (3, .ref 2 0)] →
      PFn pg 60 [BB] (.tup [.i .u64 (v : Int), .b true]) := fun v e H3 t3 r3 ke => by
    have g2 := keep_get ke (s := 2) (by simp) rfl
    have g3 := keep_get ke (s := 3) (by simp) rfl
    have lv := ld_box (pg := pg) (R := den pg) t3.v rfl
    have lk := ld_box (pg := pg) (R := den pg) t3.ok rfl
    refine .of_go (x := .ret) (e := e) (H' := H3) (vs := [.i .u64 (v : Int), .b true]) (hF.S _ _ (by decide)) (d := d60) (by rw [hF.F]; rfl) rfl ?_ (.inl rfl) ?_ (by simp [sn_i, sn_b, sn_nil, sn8_i, sn8_b, sn8_nil, sn7_i, sn7_b, sn_sl, sn8_sl, slB_some, sn_tup, sn_agg, sn8_agg, mapO, elems, tupR])
    · simp (disch := omega) [d60, c60, zipE, go_nil, go_last, go_past, go_pastR, go_blkN, go_blkR, go_blkE, go_skip, go_exit, go_ret, go_scope, go_seq, go_reg, go_regd, go_opdN, go_opd, go_opdG, grdd_b, grdd_u, stpd_some, find_some, go_block, go_cond, cnd_b, go_opsN, go_ops, go_opsG, grd_b, grd_u, stp_some, fin_some, up_some, cont_some, k_call, k_mv, k_pick, k_bin, k_eqB, k_eqA, k_not, k_neg, k_conv, k_alloc, k_boxA, k_boxI, k_boxB, k_boxN, k_boxBs, k_ldR, k_ldA, k_ldI, k_ldB, k_stA, k_stI, k_stB, ldC_some, stC_some, k_mkfn, k_slc, k_slcA, k_ixA, k_ixBs, k_ixSl, k_fadr, k_fld, k_ext, k_len, k_app, k_mn, k_mx, k_nilck, k_build, k_bsl1, k_bsl2, b_add, b_sub, b_mul, b_eql, b_neq, b_lss, b_leq, b_gtr, b_geq, Dn.setLast, Dn.getLast, evalO, mapO, Dn.get, putE, keepE_nil, keepE_cons, kp_some, kp_none, TV.one, TV.isAgg, Dn.part, k_boxR, negb, at0, at1, at2, at3, at4, dT, dF, wrapR_i64, Option.bind_some, Option.map_some, kb, al1, al2, l0, b1', al3, s3, go_denK (c := l60_3) rfl, r3]
    · have d1 : dk (.ld 1 false) [.ref 1 0] H3 = some (.i .u64 (v : Int), H3) := lv
      have d2 : dk (.ld 1 false) [.ref 2 0] H3 = some (.b true, H3) := lk
      simp only [d60, mapO, resRun, g2, g3, Option.bind_some, d1, d2, Option.map_some]
  rw [← hBB]
  rcases tight_col (pg := pg) hF h (matesOf_ok h) (col := 0) (by omega) hT with ⟨v', H3, t1, t2, t3⟩ | ⟨v', e, H3, t1, t2, t3, t4⟩
  · rcases tight_col (pg := pg) hF h (matesOf_ok h) (col := 1) (by omega) t2 with ⟨v2, H4, u1, u2, u3⟩ | ⟨v2, e, H4, u1, u2, u3, u4⟩
    · have hts : tightS r c = none := by unfold tightS; rw [t1]; exact u1
      rw [hts]
      have hend : den pg l60_3 [(1, .ref 0 0), (2, .ref 1 0), (3, .ref 2 0), (4, .ref Q 0), (14, .i .i64 (1 + 1))] H4 = some ⟨.exit 0, [(1, .ref 0 0), (2, .ref 1 0), (3, .ref 2 0), (4, .ref Q 0), (14, .i .i64 (1 + 1)), (15, .b false)], H4⟩ := by
        rw [l60_3, den_loop]
        simp (disch := omega) [b60_2, go_nil, go_last, go_past, go_pastR, go_blkN, go_blkR, go_blkE, go_skip, go_exit, go_ret, go_scope, go_seq, go_reg, go_regd, go_opdN, go_opd, go_opdG, grdd_b, grdd_u, stpd_some, find_some, go_block, go_cond, cnd_b, go_opsN, go_ops, go_opsG, grd_b, grd_u, stp_some, fin_some, up_some, cont_some, k_call, k_mv, k_pick, k_bin, k_eqB, k_eqA, k_not, k_neg, k_conv, k_alloc, k_boxA, k_boxI, k_boxB, k_boxN, k_boxBs, k_ldR, k_ldA, k_ldI, k_ldB, k_stA, k_stI, k_stB, ldC_some, stC_some, k_mkfn, k_slc, k_slcA, k_ixA, k_ixBs, k_ixSl, k_fadr, k_fld, k_ext, k_len, k_app, k_mn, k_mx, k_nilck, k_build, k_bsl1, k_bsl2, b_add, b_sub, b_mul, b_eql, b_neq, b_lss, b_leq, b_gtr, b_geq, Dn.setLast, Dn.getLast, evalO, mapO, Dn.get, putE, keepE_nil, keepE_cons, kp_some, kp_none, TV.one, TV.isAgg, Dn.part, k_boxR, negb, at0, at1, at2, at3, at4, dT, dF, wrapR_i64, Option.bind_some, Option.map_some]
      simp only [Int.natCast_zero, Int.zero_add, Int.natCast_one] at t3 u3
      rw [← u3, ← t3] at hend
      have s4 := st_box (pg := pg) (R := den pg) (v := .i .u64 0) u2.v rfl
      obtain ⟨H5, hH5⟩ : ∃ H5, H5 = H4.set 1 (.cells [.i .u64 0] false) := ⟨_, rfl⟩
      rw [← hH5] at s4
      have h1l := (List.getElem?_eq_some_iff.1 u2.v).1
      have h5ok : H5[2]? = some (.cells [.b false] false) := by rw [hH5, List.getElem?_set_ne (by omega)]; exact u2.ok
      have s5 := st_box (pg := pg) (R := den pg) (v := .b false) h5ok rfl
      rw [set_cell h5ok] at s5
      have lv := ld_box (pg := pg) (R := den pg) (H := H5) (id := 1) (t := .i .u64 0) (by rw [hH5, List.getElem?_set_self h1l]) rfl
      have lk := ld_box (pg := pg) (R := den pg) h5ok rfl
      refine .of_go (x := .ret) (e := [(2, .ref 1 0), (3, .ref 2 0)]) (H' := H5) (vs := [.i .u64 0, .b false]) (hF.S _ _ (by decide)) (d := d60) (by rw [hF.F]; rfl) rfl ?_ (.inl rfl) ?_ (by simp [sn_i, sn_b, sn_nil, sn8_i, sn8_b, sn8_nil, sn7_i, sn7_b, sn_sl, sn8_sl, slB_some, sn_tup, sn_agg, sn8_agg, mapO, elems, tupR, tightV])
      · simp (disch := omega) [d60, c60, zipE, go_nil, go_last, go_past, go_pastR, go_blkN, go_blkR, go_blkE, go_skip, go_exit, go_ret, go_scope, go_seq, go_reg, go_regd, go_opdN, go_opd, go_opdG, grdd_b, grdd_u, stpd_some, find_some, go_block, go_cond, cnd_b, go_opsN, go_ops, go_opsG, grd_b, grd_u, stp_some, fin_some, up_some, cont_some, k_call, k_mv, k_pick, k_bin, k_eqB, k_eqA, k_not, k_neg, k_conv, k_alloc, k_boxA, k_boxI, k_boxB, k_boxN, k_boxBs, k_ldR, k_ldA, k_ldI, k_ldB, k_stA, k_stI, k_stB, ldC_some, stC_some, k_mkfn, k_slc, k_slcA, k_ixA, k_ixBs, k_ixSl, k_fadr, k_fld, k_ext, k_len, k_app, k_mn, k_mx, k_nilck, k_build, k_bsl1, k_bsl2, b_add, b_sub, b_mul, b_eql, b_neq, b_lss, b_leq, b_gtr, b_geq, Dn.setLast, Dn.getLast, evalO, mapO, Dn.get, putE, keepE_nil, keepE_cons, kp_some, kp_none, TV.one, TV.isAgg, Dn.part, k_boxR, negb, at0, at1, at2, at3, at4, dT, dF, wrapR_i64, Option.bind_some, Option.map_some, kb, al1, al2, l0, b1', al3, s3, go_denK (c := l60_3) rfl, hend, s4, s5]
      · have d1 : dk (.ld 1 false) [.ref 1 0] H5 = some (.i .u64 0, H5) := lv
        have d2 : dk (.ld 1 false) [.ref 2 0] H5 = some (.b false, H5) := lk
        simp only [d60, mapO, resRun, Dn.get, Nat.reduceEqDiff, if_true, if_false, Option.bind_some, d1, d2, Option.map_some]
    · have hts : tightS r c = some v2 := by unfold tightS; rw [t1]; exact u1
      rw [hts]
      simp only [Int.natCast_zero, Int.zero_add, Int.natCast_one] at t3 u3
      rw [← t3] at u3
      exact found v2 e H4 u2 u3 u4
  · have hts : tightS r c = some v' := by unfold tightS; rw [t1]
    rw [hts]
    exact found v' e H3 t2 t3 t4

end Go.Proofs.Tryd.Dn

