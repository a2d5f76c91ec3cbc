/-
  Knight: what the search for a tour keeps: the way, and what it knows to lead nowhere.
-/
import Derived.Test.YtdjbpmgbaggfbaaDoorKfq
set_option linter.unusedSimpArgs false
set_option linter.unusedVariables false

namespace Go.Proofs.Tryd.Dn
open Go.Dn

theorem Wy.own2 {H : Heap} {t : TV} {l : List Int} (h : Wy H t l) (hl : 2 ≤ l.length) : elI.Own H t l := by
  rcases h with h | ⟨id, v, rfl, rfl, h⟩
  · exact h
  · simp at hl
theorem Wy.one {H : Heap} {t : TV} {l : List Int} (h : Wy H t l) : t.isAgg = false ∧ t.one = true := by
  rcases h with (⟨rfl, _⟩ | ⟨_, id, ag, c, rfl, _⟩) | ⟨id, v, rfl, _, _⟩ <;> exact ⟨rfl, rfl⟩

theorem Wy.cut {H : Heap} {t : TV} {l : List Int} {w : Int} (h : Wy H t (l ++ [w])) (hl : l ≠ []) :
    ∃ t', slcRun false true false 1 false t [.i .i64 (l.length : Int)] = some t' ∧ Wy H t' l ∧ t'.idOf = t.idOf := by
  have hp : 1 ≤ l.length := List.length_pos_iff.2 hl
  rcases h.own2 (by simp; omega) with ⟨_, h0⟩ | ⟨_, id, ag, c, rfl, h1, h2, h3⟩
  · simp at h0
  · refine ⟨.sl id 0 1 false l.length none, ?_, .inl (.inr ⟨hl, id, ag, c, rfl, h1, ?_, ?_⟩), rfl⟩
    · have e1 : (elI.sz) = 1 := rfl
      have e2 : (elI.ag) = false := rfl
      have hb : bounds3 false true false (l ++ [w]).length [.i .i64 (l.length : Int)] = some (0, l.length, none) := by
        simp [bounds3, bound]
      rw [e1, e2]
      simp only [slcRun, hb, Option.bind_some]
      simp
    · simp only [List.length_append, List.length_singleton] at h2
      have e1 : (elI.sz) = 1 := rfl
      rw [e1] at h2 ⊢; omega
    · have e1 : (elI.sz) = 1 := rfl
      rw [e1] at h2 h3 ⊢
      have h4 := congrArg (List.take (l.length * 1)) h3
      rw [List.take_take] at h4
      rw [show min (l.length * 1) ((l ++ [w]).length * 1) = l.length * 1 by simp] at h4
      rw [h4, El.flat_append]
      have e5 : (elI.flat l).length = l.length * 1 := El.flat_len elI l
      rw [← e5, List.take_left']
      rfl

def KnOk (c first : Nat) (closed : Bool) (es : List (TV × TV × Nat)) : Prop :=
  ∀ x, x ∈ es → ∃ a l ck : Nat, x = (.agg [.i .i64 (a : Int), .i .u64 (l : Int)], .b true, ck) ∧ ∀ p, ¬ Compl c first closed a l p

theorem KnOk.look {c first a l : Nat} {closed : Bool} : ∀ {es : List (TV × TV × Nat)}, KnOk c first closed es → ∃ q, findK (.flat [true, true]) (.agg [.i .i64 (a : Int), .i .u64 (l : Int)]) es = some q ∧ ∀ i v, q = some (i, v) → v = .b true ∧ ∀ p, ¬ Compl c first closed a l p
  | [], _ => ⟨none, rfl, fun i v h => by cases h⟩
  | x :: es, h => by
    obtain ⟨a', l', ck, hx, hn⟩ := h x (by simp)
    obtain ⟨q, q1, q2⟩ := KnOk.look (a := a) (l := l) (es := es) fun y hy => h y (by simp [hy])
    subst hx
    have he : eqK (.flat [true, true]) (.agg [.i .i64 (a : Int), .i .u64 (l : Int)]) (.agg [.i .i64 (a' : Int), .i .u64 (l' : Int)]) = some (((a : Int) == (a' : Int)) && ((l : Int) == (l' : Int))) := by
      simp [eqK, eqL, eqS]
    rw [findK, he, Option.bind_some]
    by_cases hal : a = a' ∧ l = l'
    · obtain ⟨rfl, rfl⟩ := hal
      refine ⟨some (0, .b true), by simp, fun i v hiv => ?_⟩
      cases hiv
      exact ⟨rfl, hn⟩
    · have hf : (((a : Int) == (a' : Int)) && ((l : Int) == (l' : Int))) = false := by
        by_cases h1 : a = a'
        · rw [beqF (x := (l : Int)) (y := (l' : Int)) (by intro e; exact hal ⟨h1, by omega⟩), Bool.and_false]
        · rw [beqF (x := (a : Int)) (y := (a' : Int)) (by omega), Bool.false_and]
      rw [hf, q1]
      refine ⟨q.map fun x => (x.1 + 1, x.2), ?_, fun i v hiv => ?_⟩
      · cases q <;> simp
      · cases q with
        | none => cases hiv
        | some y =>
          cases hiv
          exact q2 y.1 y.2 rfl

theorem mem_mod {α : Type} {f : α → α} : ∀ (es : List α) (i : Nat) (x : α), x ∈ es.modify i f → x ∈ es ∨ ∃ e, e ∈ es ∧ x = f e
  | [], i, x, h => by simp at h
  | y :: es, 0, x, h => by
    simp at h
    rcases h with rfl | h
    · exact .inr ⟨y, by simp, rfl⟩
    · exact .inl (by simp [h])
  | y :: es, i + 1, x, h => by
    simp at h
    rcases h with rfl | h
    · exact .inl (by simp)
    · rcases mem_mod es i x h with h | ⟨e, h1, h2⟩
      · exact .inl (by simp [h])
      · exact .inr ⟨e, by simp [h1], h2⟩

theorem k_look {pg : Pg} {R : Rec} {H : Heap} {es : List (TV × TV × Nat)} {ck c first a l : Nat} {closed : Bool} (h : H[3]? = some (.map es ck)) (hk : KnOk c first closed es) :
    ∃ v, dkc pg R (.lkp (.flat [true, true]) (.b false) false) [.mp 3, .agg [.i .i64 (a : Int), .i .u64 (l : Int)]] H = some (.b v, H) ∧ (v = true → ∀ p, ¬ Compl c first closed a l p) := by
  obtain ⟨q, q1, q2⟩ := hk.look (a := a) (l := l)
  have he : eqK (.flat [true, true]) (.agg [.i .i64 (a : Int), .i .u64 (l : Int)]) (.agg [.i .i64 (a : Int), .i .u64 (l : Int)]) = some true := by simp [eqK, eqL, eqS]
  cases q with
  | none => exact ⟨false, by simp [dkc, dk, h, he, q1], fun e => by cases e⟩
  | some y =>
    obtain ⟨h1, h2⟩ := q2 y.1 y.2 rfl
    refine ⟨true, ?_, fun _ => h2⟩
    obtain ⟨i, v⟩ := y
    cases h1
    simp [dkc, dk, h, he, q1]

theorem k_put {pg : Pg} {R : Rec} {H : Heap} {es : List (TV × TV × Nat)} {ck c first a l : Nat} {closed : Bool} (h : H[3]? = some (.map es ck)) (hk : KnOk c first closed es) (hn : ∀ p, ¬ Compl c first closed a l p) :
    ∃ es' ck', dkc pg R (.mset (.flat [true, true])) [.mp 3, .agg [.i .i64 (a : Int), .i .u64 (l : Int)], .b true] H = some (.undef, H.set 3 (.map es' ck')) ∧ KnOk c first closed es' := by
  obtain ⟨q, q1, q2⟩ := hk.look (a := a) (l := l)
  have he : eqK (.flat [true, true]) (.agg [.i .i64 (a : Int), .i .u64 (l : Int)]) (.agg [.i .i64 (a : Int), .i .u64 (l : Int)]) = some true := by simp [eqK, eqL, eqS]
  cases q with
  | none =>
    refine ⟨es ++ [(.agg [.i .i64 (a : Int), .i .u64 (l : Int)], .b true, ck)], ck + 1, by simp [dkc, dk, h, he, q1], fun x hx => ?_⟩
    rw [List.mem_append, List.mem_singleton] at hx
    rcases hx with hx | rfl
    · exact hk x hx
    · exact ⟨a, l, ck, rfl, hn⟩
  | some y =>
    refine ⟨es.modify y.1 fun e => (.agg [.i .i64 (a : Int), .i .u64 (l : Int)], .b true, e.2.2), ck, by simp [dkc, dk, h, he, q1], fun x hx => ?_⟩
    rcases mem_mod es _ x hx with hx | ⟨e, h1, rfl⟩
    · exact hk x hx
    · exact ⟨a, l, e.2.2, rfl, hn⟩

theorem cmp92 {pg : Pg} (hF : Free pg) {r c left W : Nat} {bo : Bool} (h : Brd r c) (hl : left < 2 ^ (r * c)) {t : TV} {H0 : Heap} (h0 : H0[0]? = some (.cells [.bp bo (.agg (bM r c))] false)) (hW : H0[W]? = some (.cells [.i .u64 (left : Int)] false)) (t0 : t.idOf ≠ some 0) (tW : t.idOf ≠ some W) :
    CmpOk pg (.fn 92 [] [.ref 0 0, .ref W 0]) t H0 fun x => ∃ s : Nat, s < r * c ∧ x = (s : Int) := by
  rintro H hH hf x y ⟨s, hs, rfl⟩ ⟨u, hu, rfl⟩
  have h1n := lv64 h
  have g0 : H[0]? = some (.cells [.bp bo (.agg (bM r c))] false) := by rw [hf 0 t0]; exact h0
  have gW : H[W]? = some (.cells [.i .u64 (left : Int)] false) := by rw [hf W tW]; exact hW
  have l0 := ld_box (pg := pg) (R := den pg) g0 rfl
  have lW := ld_box (pg := pg) (R := den pg) gW rfl
  obtain ⟨MB, QB, bf⟩ := bd_facts (pg := pg) h (H0 := H) (BV := .bp bo (.agg (bM r c))) (.inl ⟨bo, rfl⟩)
  obtain ⟨nc, f3, bx⟩ := bf H (.inl ⟨bo, rfl⟩)
  obtain ⟨ix, lx⟩ := bx s hs
  obtain ⟨iy, ly⟩ := bx u hu
  have mx := mv_bound h hs
  have my := mv_bound h hu
  have ax := and_uu (m := mv r c s) (k := left) (by omega) (by omega)
  have ay := and_uu (m := mv r c u) (k := left) (by omega) (by omega)
  have cx := call70 (pg := pg) hF (x := mv r c s &&& left) (Nat.lt_of_le_of_lt Nat.and_le_right (by omega)) H
  have cy := call70 (pg := pg) hF (x := mv r c u &&& left) (Nat.lt_of_le_of_lt Nat.and_le_right (by omega)) H
  have px := pop_le 64 (mv r c s &&& left)
  have py := pop_le 64 (mv r c u &&& left)
  refine ⟨(pop 64 (mv r c s &&& left) : Int) - (pop 64 (mv r c u &&& left) : Int), ?_⟩
  rw [sh_fn]
  generalize pop 64 (mv r c s &&& left) = PX at *
  generalize pop 64 (mv r c u &&& left) = PY at *
  generalize mv r c s &&& left = AX at *
  generalize mv r c u &&& left = AY at *
  generalize TV.bp bo (.agg (bM r c)) = BB at *
  refine body_ofs (x := .ret) (e := [(6, .i .i64 ((PX : Int) - (PY : Int)))]) (vs := [.i .i64 ((PX : Int) - (PY : Int))]) (d := d92) (by rw [hF.F]; rfl) rfl ?_ (.inl rfl) rfl
  simp (disch := omega) [d92, c92, zipE, go_nil, go_last, go_past, go_pastR, go_blkN, go_blkR, go_blkE, go_skip, go_exit, go_ret, go_scope, go_seq, go_reg, go_regd, go_opdN, go_opd, go_opdG, grdd_b, grdd_u, stpd_some, find_some, go_block, go_cond, cnd_b, go_opsN, go_ops, go_opsG, grd_b, grd_u, stp_some, fin_some, up_some, cont_some, k_call, k_mv, k_pick, k_bin, k_eqB, k_eqA, k_not, k_neg, k_conv, k_alloc, k_boxA, k_boxI, k_boxB, k_boxN, k_boxBs, k_ldR, k_ldA, k_ldI, k_ldB, k_stA, k_stI, k_stB, ldC_some, stC_some, k_mkfn, k_slc, k_slcA, k_ixA, k_ixBs, k_ixSl, k_fadr, k_fld, k_ext, k_len, k_app, k_mn, k_mx, k_nilck, k_build, k_bsl1, k_bsl2, b_add, b_sub, b_mul, b_eql, b_neq, b_lss, b_leq, b_gtr, b_geq, Dn.setLast, Dn.getLast, evalO, mapO, Dn.get, putE, keepE_nil, keepE_cons, kp_some, kp_none, TV.one, TV.isAgg, Dn.part, k_boxR, negb, at0, at1, at2, at3, at4, dT, dF, wrapR_i64, Option.bind_some, Option.map_some, l0, lW, nc, f3, ix, lx, iy, ly, ax, ay, cx, cy]

end Go.Proofs.Tryd.Dn

/-
  Knight: the search for a tour.
-/

namespace Go.Proofs.Tryd.Dn
open Go.Dn

def sF : TV := .fn 89 [] [.ref 2 0, .ref 0 0, .ref 1 0, .ref 4 0, .ref 6 0, .ref 7 0]

structure SE (r c first : Nat) (closed : Bool) (H : Heap) (O : TV) (p : List Int) : Prop where
  b : H[0]? = some (.cells [.bp true (.agg (bM r c))] false)
  f : H[1]? = some (.cells [.i .i64 (first : Int)] false)
  cl : H[2]? = some (.cells [.b closed] false)
  k : ∃ es ck, H[3]? = some (.map es ck) ∧ KnOk c first closed es
  m : H[4]? = some (.cells [.mp 3] false)
  o : H[6]? = some (.cells [O] false)
  s : H[7]? = some (.cells [sF] false)
  w : Wy H O p
  id : ∀ id, O.idOf = some id → id = 5 ∨ 8 ≤ id

theorem SE.len {r c first : Nat} {closed : Bool} {H : Heap} {O : TV} {p : List Int} (h : SE r c first closed H O p) : 8 ≤ H.length := by
  have := (List.getElem?_eq_some_iff.1 h.s).1; omega

theorem SE.mono {r c first : Nat} {closed : Bool} {H H' : Heap} {O : TV} {p : List Int} (h : SE r c first closed H O p) (hf : ∀ j, j < 8 → j ≠ 5 → H'[j]? = H[j]?) (ho : ∀ j, O.idOf = some j → H'[j]? = H[j]?) : SE r c first closed H' O p :=
  ⟨by rw [hf 0 (by omega) (by omega)]; exact h.b, by rw [hf 1 (by omega) (by omega)]; exact h.f, by rw [hf 2 (by omega) (by omega)]; exact h.cl, by rw [hf 3 (by omega) (by omega)]; exact h.k, by rw [hf 4 (by omega) (by omega)]; exact h.m, by rw [hf 6 (by omega) (by omega)]; exact h.o, by rw [hf 7 (by omega) (by omega)]; exact h.s, h.w.mono ho, h.id⟩

theorem SE.app {r c first : Nat} {closed : Bool} {H : Heap} {O : TV} {p : List Int} (h : SE r c first closed H O p) (new : Heap) : SE r c first closed (H ++ new) O p :=
  h.mono (fun j hj _ => by rw [List.getElem?_append_left (by have := h.len; omega)]) (fun j hj => by rw [List.getElem?_append_left (h.w.lt j hj)])

def SSpec (pg : Pg) (r c first : Nat) (closed : Bool) (f at_ left : Nat) : Prop :=
  ∀ (H : Heap) (O : TV) (p : List Int), SE r c first closed H O p → p ≠ [] → f + p.length ≤ 100 →
    ∃ v H' O' p', bodyRun pg (den pg) 89 [.i .i64 (at_ : Int), .i .u64 (left : Int), .ref 2 0, .ref 0 0, .ref 1 0, .ref 4 0, .ref 6 0, .ref 7 0] H = some (.b v, H') ∧ SE r c first closed H' O' (p ++ nI p') ∧
      (v = true → Compl c first closed at_ left p') ∧ (v = false → p' = [] ∧ ∀ q, ¬ Compl c first closed at_ left q) ∧ H.length ≤ H'.length ∧ (∀ j, 8 ≤ j → j < H.length → O.idOf ≠ some j → H'[j]? = H[j]?) ∧ (O'.idOf = O.idOf ∨ ∀ id, O'.idOf = some id → H.length ≤ id)

theorem l89_1_all {pg : Pg} {r c first at_ left f W : Nat} {closed : Bool} (h : Brd r c) (hl : left < 2 ^ (r * c)) {A : TV} {ms : List Nat} (hms : ∀ s, s ∈ ms → s < r * c) (hlen : ms.length ≤ 64) (hsp : ∀ s, s ∈ ms → SSpec pg r c first closed f s (andN left (2 ^ s))) {p : List Int} (hp : p ≠ []) (hpl : f + 1 + p.length ≤ 100) (hA8 : ∀ id, A.idOf = some id → 8 ≤ id) (hW8 : 8 ≤ W) :
    ∀ (d k : Nat) (H : Heap) (O : TV), k + d = ms.length → SE r c first closed H O p → H[W]? = some (.cells [.i .u64 (left : Int)] false) → elI.Own H A (nI ms) → O.idOf ≠ some W → (∀ id, A.idOf = some id → O.idOf ≠ some id) → (∀ j s, j < k → ms[j]? = some s → ∀ q, ¬ Compl c first closed s (andN left (2 ^ s)) q) →
    ∃ e H' O', H.length ≤ H'.length ∧ (∀ j, 8 ≤ j → j < H.length → O.idOf ≠ some j → H'[j]? = H[j]?) ∧ (O'.idOf = O.idOf ∨ ∀ id, O'.idOf = some id → H.length ≤ id) ∧
      ((∃ s q, s ∈ ms ∧ Compl c first closed s (andN left (2 ^ s)) q ∧ SE r c first closed H' O' (p ++ nI (s :: q)) ∧ den pg l89_1 [(0, .i .i64 (at_ : Int)), (5, .ref 4 0), (6, .ref 6 0), (7, .ref 7 0), (9, .ref W 0), (56, A), (57, .i .i64 (ms.length : Int)), (58, .i .i64 (k : Int))] H = some ⟨.ret, e, H'⟩ ∧ Dn.get e 10 = some (.b true)) ∨
       ((∀ s, s ∈ ms → ∀ q, ¬ Compl c first closed s (andN left (2 ^ s)) q) ∧ SE r c first closed H' O' p ∧ H'[W]? = some (.cells [.i .u64 (left : Int)] false) ∧ den pg l89_1 [(0, .i .i64 (at_ : Int)), (5, .ref 4 0), (6, .ref 6 0), (7, .ref 7 0), (9, .ref W 0), (56, A), (57, .i .i64 (ms.length : Int)), (58, .i .i64 (k : Int))] H = some ⟨.exit 0, e, H'⟩ ∧ keepE [0, 5, 9] e = [(0, .i .i64 (at_ : Int)), (5, .ref 4 0), (9, .ref W 0)]))
  | 0, k, H, O, hd, hS, hW, hA, hOW, hOA, hno => by
    have key : ∃ e, den pg l89_1 [(0, .i .i64 (at_ : Int)), (5, .ref 4 0), (6, .ref 6 0), (7, .ref 7 0), (9, .ref W 0), (56, A), (57, .i .i64 (ms.length : Int)), (58, .i .i64 (k : Int))] H = some ⟨.exit 0, e, H⟩ ∧ keepE [0, 5, 9] e = [(0, .i .i64 (at_ : Int)), (5, .ref 4 0), (9, .ref W 0)] := by
      refine ⟨_, by
        rw [l89_1, den_loop]
        simp (disch := omega) [b89_0, go_nil, go_last, go_past, go_pastR, go_blkN, go_blkR, go_blkE, go_skip, go_exit, go_ret, go_scope, go_seq, go_reg, go_regd, go_opdN, go_opd, go_opdG, grdd_b, grdd_u, stpd_some, find_some, go_block, go_cond, cnd_b, go_opsN, go_ops, go_opsG, grd_b, grd_u, stp_some, fin_some, up_some, cont_some, k_call, k_mv, k_pick, k_bin, k_eqB, k_eqA, k_not, k_neg, k_conv, k_alloc, k_boxA, k_boxI, k_boxB, k_boxN, k_boxBs, k_ldR, k_ldA, k_ldI, k_ldB, k_stA, k_stI, k_stB, ldC_some, stC_some, k_mkfn, k_slc, k_slcA, k_ixA, k_ixBs, k_ixSl, k_fadr, k_fld, k_ext, k_len, k_app, k_mn, k_mx, k_nilck, k_build, k_bsl1, k_bsl2, b_add, b_sub, b_mul, b_eql, b_neq, b_lss, b_leq, b_gtr, b_geq, Dn.setLast, Dn.getLast, evalO, mapO, Dn.get, putE, keepE_nil, keepE_cons, kp_some, kp_none, TV.one, TV.isAgg, Dn.part, k_boxR, negb, at0, at1, at2, at3, at4, dT, dF, wrapR_i64, Option.bind_some, Option.map_some]
        rfl, rfl⟩
    obtain ⟨e, k1, k2⟩ := key
    refine ⟨e, H, O, Nat.le_refl _, fun _ _ _ _ => rfl, .inl rfl, .inr ⟨fun s hs => ?_, hS, hW, k1, k2⟩⟩
    obtain ⟨j, hj, hjs⟩ := List.getElem_of_mem hs
    exact hno j s (by omega) (by rw [List.getElem?_eq_getElem hj, hjs])
  | d + 1, k, H, O, hd, hS, hW, hA, hOW, hOA, hno => by
    have hn := h.n36
    have h64 := lv64 h
    have hk : k < ms.length := by omega
    have hx : ms[k]? = some ms[k] := List.getElem?_eq_getElem hk
    have hsm := List.getElem_mem hk
    have hs := hms _ hsm
    obtain ⟨s, hseq⟩ : ∃ s, s = ms[k] := ⟨_, rfl⟩
    rw [← hseq] at hx hsm hs
    obtain ⟨z, z1, z2⟩ := ixI (pg := pg) (R := den pg) hA.view (nI_at hx)
    have hHl := hS.len
    have hWl := (List.getElem?_eq_some_iff.1 hW).1
    -- one more square
    have lo := ld_box (pg := pg) (R := den pg) hS.o hS.w.one.1
    obtain ⟨H1, hH1⟩ : ∃ H1 : Heap, H1 = H ++ [.cells [.i .i64 (s : Int)] false] := ⟨_, rfl⟩
    have kbs : dkc pg (den pg) (.bsl false [.i .i64 0] false 1 [0]) [.i .i64 (s : Int)] H = some (.sl H.length 0 1 false 1 (some 1), H1) := by rw [k_bsl1, hH1]
    have hS1 := hS.app [.cells [.i .i64 (s : Int)] false]
    have lH1 : H1.length = H.length + 1 := by rw [hH1]; simp
    obtain ⟨O1, H2, a1, a2, a3, a4, a5⟩ := hS1.w.app (w := (s : Int)) (by omega)
    rw [← hH1] at a1 a3 a4 a5 hS1
    have ka : dkc pg (den pg) (.app 1 false 8) [O, .sl H.length 0 1 false 1 (some 1)] H1 = some (O1, H2) := a1
    have kOlt := hS.w.lt
    have e12 : ∀ j, j < H1.length → O.idOf ≠ some j → H2[j]? = H1[j]? := a4
    have e01 : ∀ j, j < H.length → H1[j]? = H[j]? := fun j hj => by rw [hH1, List.getElem?_append_left hj]
    have hO8 : ∀ j, j < 8 → j ≠ 5 → O.idOf ≠ some j := fun j hj h5 he => by rcases hS.id j he with h | h <;> omega
    have o6 : H2[6]? = some (.cells [O] false) := by rw [e12 6 (by omega) (hO8 6 (by omega) (by omega)), e01 6 (by omega)]; exact hS.o
    have st1 := st_box (pg := pg) (R := den pg) (v := O1) o6 a2.one.2
    obtain ⟨H3, hH3⟩ : ∃ H3, H3 = H2.set 6 (.cells [O1] false) := ⟨_, rfl⟩
    rw [← hH3] at st1
    have lH3 : H3.length = H2.length := by rw [hH3]; simp
    have hid1 : ∀ j, O1.idOf = some j → O.idOf = some j ∨ H1.length ≤ j := fun j hj => by
      rcases a5 with rfl | a5
      · exact .inl hj
      · exact .inr (a5 j hj)
    have e3 : ∀ j, j < H.length → j ≠ 6 → O.idOf ≠ some j → H3[j]? = H[j]? := fun j hj h6 ho => by
      rw [hH3, List.getElem?_set_ne (by omega), e12 j (by omega) ho, e01 j hj]
    have hid3 : ∀ j, O1.idOf = some j → j = 5 ∨ 8 ≤ j := fun j hj => by
      rcases hid1 j hj with h | h
      · exact hS.id j h
      · omega
    have hS3 : SE r c first closed H3 O1 (p ++ [(s : Int)]) :=
      ⟨by rw [e3 0 (by omega) (by omega) (hO8 0 (by omega) (by omega))]; exact hS.b, by rw [e3 1 (by omega) (by omega) (hO8 1 (by omega) (by omega))]; exact hS.f, by rw [e3 2 (by omega) (by omega) (hO8 2 (by omega) (by omega))]; exact hS.cl, by rw [e3 3 (by omega) (by omega) (hO8 3 (by omega) (by omega))]; exact hS.k, by rw [e3 4 (by omega) (by omega) (hO8 4 (by omega) (by omega))]; exact hS.m,
       by rw [hH3, List.getElem?_set_self (by omega)], by rw [e3 7 (by omega) (by omega) (hO8 7 (by omega) (by omega))]; exact hS.s, a2.mono fun j hj => by rw [hH3, List.getElem?_set_ne (by rcases hid3 j hj with h | h <;> omega)], hid3⟩
    have hW3 : H3[W]? = some (.cells [.i .u64 (left : Int)] false) := by rw [e3 W hWl (by omega) hOW]; exact hW
    have l7 := ld_box (pg := pg) (R := den pg) hS3.s rfl
    have l9 := ld_box (pg := pg) (R := den pg) hW3 rfl
    have ws := wrap_u (m := s) (by omega)
    have sh := Dn.shl_u (k := .u64) (c := s) (by omega)
    have an := andN_uu (m := left) (k := 2 ^ s) (by omega)
    obtain ⟨v, H4, O4, q, b1, b2, b3, b4, b5, b6, b7⟩ := hsp s hsm H3 O1 _ hS3 (by simp) (by simp; omega)
    have b1' : callRun pg (den pg) .sh [sF, .i .i64 (s : Int), .i .u64 (andN left (2 ^ s) : Int)] H3 = some (.b v, H4) := by rw [sF, sh_fn]; exact b1
    have hid4 : ∀ j, O4.idOf = some j → O.idOf = some j ∨ H1.length ≤ j := fun j hj => by
      rcases b7 with b7 | b7
      · exact hid1 j (by rw [← b7]; exact hj)
      · have := b7 j hj; omega
    have hO4 : O4.idOf = O.idOf ∨ ∀ id, O4.idOf = some id → H1.length ≤ id := by
      rcases b7 with b7 | b7
      · rcases a5 with rfl | a5
        · exact .inl b7
        · exact .inr fun id hid => a5 id (by rw [← b7]; exact hid)
      · exact .inr fun id hid => by have := b7 id hid; omega
    have e4 : ∀ j, 8 ≤ j → j < H.length → O.idOf ≠ some j → H4[j]? = H[j]? := fun j h8 hj ho => by
      rw [b6 j h8 (by omega) (fun he => by rcases hid1 j he with h | h; exact ho h; omega), e3 j hj (by omega) ho]
    have lH4 : H.length + 1 ≤ H4.length := by omega
    obtain ⟨AL, hAL⟩ : ∃ AL, AL = andN left (2 ^ s) := ⟨_, rfl⟩
    rw [← hAL] at an b1' b3 b4
    obtain ⟨U, hU⟩ : ∃ U, U = 2 ^ s := ⟨_, rfl⟩
    rw [← hU] at sh an hAL
    obtain ⟨SF, hSF⟩ : ∃ SF, SF = sF := ⟨_, rfl⟩
    rw [← hSF] at l7 b1'
    cases v with
    | true =>
      have hC := b3 rfl
      have hnI : p ++ nI (s :: q) = p ++ [(s : Int)] ++ nI q := by simp [nI]
      have key : ∃ e, den pg l89_1 [(0, .i .i64 (at_ : Int)), (5, .ref 4 0), (6, .ref 6 0), (7, .ref 7 0), (9, .ref W 0), (56, A), (57, .i .i64 (ms.length : Int)), (58, .i .i64 (k : Int))] H = some ⟨.ret, e, H4⟩ ∧ Dn.get e 10 = some (.b true) := by
        refine ⟨_, by
          rw [l89_1, den_loop]
          simp (disch := omega) [b89_0, go_nil, go_last, go_past, go_pastR, go_blkN, go_blkR, go_blkE, go_skip, go_exit, go_ret, go_scope, go_seq, go_reg, go_regd, go_opdN, go_opd, go_opdG, grdd_b, grdd_u, stpd_some, find_some, go_block, go_cond, cnd_b, go_opsN, go_ops, go_opsG, grd_b, grd_u, stp_some, fin_some, up_some, cont_some, k_call, k_mv, k_pick, k_bin, k_eqB, k_eqA, k_not, k_neg, k_conv, k_alloc, k_boxA, k_boxI, k_boxB, k_boxN, k_boxBs, k_ldR, k_ldA, k_ldI, k_ldB, k_stA, k_stI, k_stB, ldC_some, stC_some, k_mkfn, k_slc, k_slcA, k_ixA, k_ixBs, k_ixSl, k_fadr, k_fld, k_ext, k_len, k_app, k_mn, k_mx, k_nilck, k_build, k_bsl1, k_bsl2, b_add, b_sub, b_mul, b_eql, b_neq, b_lss, b_leq, b_gtr, b_geq, Dn.setLast, Dn.getLast, evalO, mapO, Dn.get, putE, keepE_nil, keepE_cons, kp_some, kp_none, TV.one, TV.isAgg, Dn.part, k_boxR, negb, at0, at1, at2, at3, at4, dT, dF, wrapR_i64, Option.bind_some, Option.map_some, z1, z2, lo, kbs, ka, st1, l7, l9, ws, sh, an, b1']
          rfl, rfl⟩
      obtain ⟨e, k1, k2⟩ := key
      exact ⟨e, H4, O4, by omega, e4, hO4.imp id fun h id hid => by have := h id hid; omega, .inl ⟨s, q, hsm, by rw [← hU, ← hAL]; exact hC, by rw [hnI]; exact b2, k1, k2⟩⟩
    | false =>
      obtain ⟨rfl, hnone⟩ := b4 rfl
      have b2' : SE r c first closed H4 O4 (p ++ [(s : Int)]) := by simpa [nI] using b2
      obtain ⟨O5, c1, c2, c3⟩ := b2'.w.cut hp
      have hp1 : 1 ≤ p.length := List.length_pos_iff.2 hp
      have hlen4 := (b2'.w.own2 (by simp; omega)).view.lenK H4
      rw [List.length_append, List.length_singleton] at hlen4
      have l6 := ld_box (pg := pg) (R := den pg) b2'.o b2'.w.one.1
      have ksl : dkc pg (den pg) (.slc false true false 1 false) [O4, .i .i64 (p.length : Int)] H4 = some (O5, H4) := by rw [k_slc, c1]; rfl
      have w1 : wrapR .i64 (((p.length + 1 : Nat) : Int) - 1) = .i .i64 (p.length : Int) := by rw [show ((p.length + 1 : Nat) : Int) - 1 = (p.length : Int) by omega]; exact wrapR_i64 (by omega)
      have st2 := st_box (pg := pg) (R := den pg) (v := O5) b2'.o c2.one.2
      obtain ⟨H5, hH5⟩ : ∃ H5, H5 = H4.set 6 (.cells [O5] false) := ⟨_, rfl⟩
      rw [← hH5] at st2
      have e5 : ∀ j, j ≠ 6 → H5[j]? = H4[j]? := fun j hj => by rw [hH5, List.getElem?_set_ne (by omega)]
      have hid5 : ∀ j, O5.idOf = some j → O.idOf = some j ∨ H1.length ≤ j := fun j hj => hid4 j (by rw [← c3]; exact hj)
      have hid5' : ∀ j, O5.idOf = some j → j = 5 ∨ 8 ≤ j := fun j hj => b2'.id j (by rw [← c3]; exact hj)
      have hS5 : SE r c first closed H5 O5 p :=
        ⟨by rw [e5 0 (by omega)]; exact b2'.b, by rw [e5 1 (by omega)]; exact b2'.f, by rw [e5 2 (by omega)]; exact b2'.cl, by rw [e5 3 (by omega)]; exact b2'.k, by rw [e5 4 (by omega)]; exact b2'.m,
         by rw [hH5, List.getElem?_set_self (by omega)], by rw [e5 7 (by omega)]; exact b2'.s, c2.mono fun j hj => e5 j (by rcases hid5' j hj with h | h <;> omega), hid5'⟩
      have e5' : ∀ j, 8 ≤ j → j < H.length → O.idOf ≠ some j → H5[j]? = H[j]? := fun j h8 hj ho => by rw [e5 j (by omega), e4 j h8 hj ho]
      have lH5 : H5.length = H4.length := by rw [hH5]; simp
      have hO5 : O5.idOf = O.idOf ∨ ∀ id, O5.idOf = some id → H1.length ≤ id := by rw [c3]; exact hO4
      have hAlt := hA.lt
      obtain ⟨e, H6, O6, f1, f2, f3, f4⟩ := l89_1_all (at_ := at_) h hl hms hlen hsp hp hpl hA8 hW8 d (k + 1) H5 O5 (by omega) hS5 (by rw [e5' W hW8 hWl hOW]; exact hW) (hA.mono fun j hj => e5' j (hA8 j hj) (hAlt j hj) (hOA j hj))
        (fun he => by rcases hid5 W he with h | h; exact hOW h; omega) (fun j hj he => by rcases hid5 j he with h | h; exact hOA j hj h; have := hAlt j hj; omega)
        (fun j t hj ht u => by
          by_cases hjk : j = k
          · subst hjk
            rw [hx] at ht
            cases ht
            rw [← hU, ← hAL]; exact hnone u
          · exact hno j t (by omega) ht u)
      have step : den pg l89_1 [(0, .i .i64 (at_ : Int)), (5, .ref 4 0), (6, .ref 6 0), (7, .ref 7 0), (9, .ref W 0), (56, A), (57, .i .i64 (ms.length : Int)), (58, .i .i64 (k : Int))] H = den pg l89_1 [(0, .i .i64 (at_ : Int)), (5, .ref 4 0), (6, .ref 6 0), (7, .ref 7 0), (9, .ref W 0), (56, A), (57, .i .i64 (ms.length : Int)), (58, .i .i64 ((k + 1 : Nat) : Int))] H5 := by
        have wk : wrapR .i64 ((k : Int) + 1) = .i .i64 ((k + 1 : Nat) : Int) := by rw [← Int.natCast_succ]; exact wrapR_i64 (by omega)
        generalize ((p.length + 1 : Nat) : Int) = PL at *
        rw [l89_1, den_loop]
        simp (disch := omega) [l89_1, b89_0, go_nil, go_last, go_past, go_pastR, go_blkN, go_blkR, go_blkE, go_skip, go_exit, go_ret, go_scope, go_seq, go_reg, go_regd, go_opdN, go_opd, go_opdG, grdd_b, grdd_u, stpd_some, find_some, go_block, go_cond, cnd_b, go_opsN, go_ops, go_opsG, grd_b, grd_u, stp_some, fin_some, up_some, cont_some, k_call, k_mv, k_pick, k_bin, k_eqB, k_eqA, k_not, k_neg, k_conv, k_alloc, k_boxA, k_boxI, k_boxB, k_boxN, k_boxBs, k_ldR, k_ldA, k_ldI, k_ldB, k_stA, k_stI, k_stB, ldC_some, stC_some, k_mkfn, k_slc, k_slcA, k_ixA, k_ixBs, k_ixSl, k_fadr, k_fld, k_ext, k_len, k_app, k_mn, k_mx, k_nilck, k_build, k_bsl1, k_bsl2, b_add, b_sub, b_mul, b_eql, b_neq, b_lss, b_leq, b_gtr, b_geq, Dn.setLast, Dn.getLast, evalO, mapO, Dn.get, putE, keepE_nil, keepE_cons, kp_some, kp_none, TV.one, TV.isAgg, Dn.part, k_boxR, negb, at0, at1, at2, at3, at4, dT, dF, wrapR_i64, Option.bind_some, Option.map_some, z1, z2, lo, kbs, ka, st1, l7, l9, ws, sh, an, b1', l6, hlen4, w1, ksl, st2, wk]
      rw [step]
      refine ⟨e, H6, O6, by omega, fun j h8 hj ho => ?_, ?_, f4⟩
      · rw [f2 j h8 (by omega) (fun he => by rcases hid5 j he with h | h; exact ho h; omega), e5' j h8 hj ho]
      · rcases f3 with f3 | f3
        · rcases hO5 with h | h
          · exact .inl (f3.trans h)
          · exact .inr fun id hid => by have := h id (by rw [← f3]; exact hid); omega
        · exact .inr fun id hid => by have := f3 id hid; omega

end Go.Proofs.Tryd.Dn

/-
  Knight: what the search for a tour finds.
-/

namespace Go.Proofs.Tryd.Dn
open Go.Dn

theorem CmpOk.mono {pg : Pg} {F t : TV} {H0 : Heap} {ok ok' : Int → Prop} (h : CmpOk pg F t H0 ok) (hk : ∀ x, ok' x → ok x) : CmpOk pg F t H0 ok' := fun H a b x y hx hy => h H a b x y (hk x hx) (hk y hy)

theorem left_less {left s : Nat} (hl : left < 18446744073709551616) (hs : s < 64) (hb : left.testBit s = true) : (mem64 (andN left (2 ^ s))).length + 1 ≤ (mem64 left).length := by
  have hle := andN_le left (2 ^ s) hl
  have h1 := sub_len (s :: mem64 (andN left (2 ^ s))) (mem64 left) (List.nodup_cons.2 ⟨fun hm => by
      have := (mem_mem64 (by omega)).1 hm
      rw [andN_two hl hs] at this
      simp at this, mem64_nodup _⟩) fun x hx => by
    rcases List.mem_cons.1 hx with rfl | hx
    · exact (mem_mem64 hl).2 hb
    · have := (mem_mem64 (by omega)).1 hx
      rw [andN_two hl hs] at this
      simp only [Bool.and_eq_true] at this
      exact (mem_mem64 hl).2 this.1
  simpa using h1

theorem int_list (l : List Int) (h : ∀ x, x ∈ l → ∃ s : Nat, x = (s : Int)) : ∃ ms : List Nat, l = nI ms := by
  induction l with
  | nil => exact ⟨[], rfl⟩
  | cons x l ih =>
    obtain ⟨ms, rfl⟩ := ih fun y hy => h y (by simp [hy])
    obtain ⟨s, rfl⟩ := h x (by simp)
    exact ⟨s :: ms, rfl⟩

theorem nI_mem {l : List Nat} {s : Nat} : (s : Int) ∈ nI l ↔ s ∈ l := by
  unfold nI
  rw [List.mem_map]
  exact ⟨fun ⟨a, h1, h2⟩ => by rwa [show s = a by omega], fun h => ⟨s, h, rfl⟩⟩

theorem base89 {pg : Pg} (hF : Free pg) {r c first f at_ : Nat} {closed : Bool} (h : Brd r c) (hfst : first < r * c) (ha : at_ < r * c) : SSpec pg r c first closed f at_ 0 := by
  obtain ⟨left, hl0⟩ : ∃ left : Nat, left = 0 := ⟨_, rfl⟩
  rw [← hl0]
  intro H O p hS hp hpl
  have hn := h.n36
  have h64 := lv64 h
  have hHl := hS.len
  obtain ⟨W, hW⟩ : ∃ W, W = H.length := ⟨_, rfl⟩
  obtain ⟨H1, hH1⟩ : ∃ H1 : Heap, H1 = H ++ [.cells [.i .u64 (left : Int)] false] := ⟨_, rfl⟩
  have lH1 : H1.length = W + 1 := by rw [hH1, hW]; simp
  have kb : dkc pg (den pg) (.box false) [.i .u64 (left : Int)] H = some (.ref W 0, H1) := by rw [hH1, hW]; exact k_boxI _ _ _
  have fH1 := hH1.symm
  have fW := hW.symm
  have hS1 := hS.app [.cells [.i .u64 (left : Int)] false]
  rw [← hH1] at hS1
  have e01 : ∀ j, j < H.length → H1[j]? = H[j]? := fun j hj => by rw [hH1, List.getElem?_append_left hj]
  have gW1 : H1[W]? = some (.cells [.i .u64 (left : Int)] false) := by rw [hH1, hW]; exact getLast _ _
  have l9 := ld_box (pg := pg) (R := den pg) gW1 rfl
  have l2 := ld_box (pg := pg) (R := den pg) hS1.cl rfl
  have l3 := ld_box (pg := pg) (R := den pg) hS1.b rfl
  have l4 := ld_box (pg := pg) (R := den pg) hS1.f rfl
  have l5 := ld_box (pg := pg) (R := den pg) hS1.m rfl
  obtain ⟨MB, QB, bf⟩ := bd_facts (pg := pg) h (H0 := H1) (BV := .bp true (.agg (bM r c))) (.inl ⟨true, rfl⟩)
  obtain ⟨nc, f3, bx⟩ := bf H1 (.inl ⟨true, rfl⟩)
  obtain ⟨ix, lx⟩ := bx at_ ha
  have hmv := mv_bound h ha
  have hbd : ∀ (v : Bool) (e : Env) (K : Heap), go pg (den pg) [.c c89] .normal [(0, .i .i64 (at_ : Int)), (1, .i .u64 (left : Int)), (2, .ref 2 0), (3, .ref 0 0), (4, .ref 1 0), (5, .ref 4 0), (6, .ref 6 0), (7, .ref 7 0)] H = some ⟨.ret, e, K⟩ → Dn.get e 10 = some (.b v) →
      bodyRun pg (den pg) 89 [.i .i64 (at_ : Int), .i .u64 (left : Int), .ref 2 0, .ref 0 0, .ref 1 0, .ref 4 0, .ref 6 0, .ref 7 0] H = some (.b v, K) := fun v e K g1 g2 => by
    have := body_ofs (pg := pg) (f := 89) (xs := [.i .i64 (at_ : Int), .i .u64 (left : Int), .ref 2 0, .ref 0 0, .ref 1 0, .ref 4 0, .ref 6 0, .ref 7 0]) (x := .ret) (e := e) (H := H) (H' := K) (vs := [.b v]) (d := d89) (by rw [hF.F]; rfl) rfl (by simpa [d89, zipE] using g1) (.inl rfl) (by simp [d89, mapO, resRun, g2])
    simpa [tupR] using this
  -- what stays if nothing is found at once
  have stay : ∀ (v : Bool), (v = true → Compl c first closed at_ left []) → (v = false → ∀ q, ¬ Compl c first closed at_ left q) → bodyRun pg (den pg) 89 [.i .i64 (at_ : Int), .i .u64 (left : Int), .ref 2 0, .ref 0 0, .ref 1 0, .ref 4 0, .ref 6 0, .ref 7 0] H = some (.b v, H1) →
      ∃ v H' O' p', bodyRun pg (den pg) 89 [.i .i64 (at_ : Int), .i .u64 (left : Int), .ref 2 0, .ref 0 0, .ref 1 0, .ref 4 0, .ref 6 0, .ref 7 0] H = some (.b v, H') ∧ SE r c first closed H' O' (p ++ nI p') ∧
        (v = true → Compl c first closed at_ left p') ∧ (v = false → p' = [] ∧ ∀ q, ¬ Compl c first closed at_ left q) ∧ H.length ≤ H'.length ∧ (∀ j, 8 ≤ j → j < H.length → O.idOf ≠ some j → H'[j]? = H[j]?) ∧ (O'.idOf = O.idOf ∨ ∀ id, O'.idOf = some id → H.length ≤ id) :=
    fun v hv1 hv2 hr => ⟨v, H1, O, [], hr, by simpa [nI] using hS1, hv1, fun hv => ⟨rfl, hv2 hv⟩, by omega, fun j _ hj _ => e01 j hj, .inl rfl⟩
  subst hl0
  simp only [Int.natCast_zero] at fH1 kb l9
  have key : ∃ e, go pg (den pg) [.c c89] .normal [(0, .i .i64 (at_ : Int)), (1, .i .u64 ((0 : Nat) : Int)), (2, .ref 2 0), (3, .ref 0 0), (4, .ref 1 0), (5, .ref 4 0), (6, .ref 6 0), (7, .ref 7 0)] H = some ⟨.ret, e, H1⟩ ∧ Dn.get e 10 = some (.b (!closed || near c at_ first)) := by
    cases closed with
    | false =>
      generalize TV.bp true (.agg (bM r c)) = BB at *
      refine ⟨_, by
        simp (disch := omega) [c89, go_nil, go_last, go_past, go_pastR, go_blkN, go_blkR, go_blkE, go_skip, go_exit, go_ret, go_scope, go_seq, go_reg, go_regd, go_opdN, go_opd, go_opdG, grdd_b, grdd_u, stpd_some, find_some, go_block, go_cond, cnd_b, go_opsN, go_ops, go_opsG, grd_b, grd_u, stp_some, fin_some, up_some, cont_some, k_call, k_mv, k_pick, k_bin, k_eqB, k_eqA, k_not, k_neg, k_conv, k_alloc, k_boxA, k_boxI, k_boxB, k_boxN, k_boxBs, k_ldR, k_ldA, k_ldI, k_ldB, k_stA, k_stI, k_stB, ldC_some, stC_some, k_mkfn, k_slc, k_slcA, k_ixA, k_ixBs, k_ixSl, k_fadr, k_fld, k_ext, k_len, k_app, k_mn, k_mx, k_nilck, k_build, k_bsl1, k_bsl2, b_add, b_sub, b_mul, b_eql, b_neq, b_lss, b_leq, b_gtr, b_geq, Dn.setLast, Dn.getLast, evalO, mapO, Dn.get, putE, keepE_nil, keepE_cons, kp_some, kp_none, TV.one, TV.isAgg, Dn.part, k_boxR, negb, at0, at1, at2, at3, at4, dT, dF, wrapR_i64, Option.bind_some, Option.map_some, fH1, fW, l9, l2]
        rfl, rfl⟩
    | true =>
      have wb := wrap_u (m := first) (by omega)
      have sh := Dn.shr_u (k := .u64) (m := mv r c at_) (c := first) (by omega)
      have hdv : mv r c at_ / 2 ^ first < 18446744073709551616 := Nat.lt_of_le_of_lt (Nat.div_le_self _ _) (by omega)
      have an := and_uu (m := mv r c at_ / 2 ^ first) (k := 1) hdv (by omega)
      rw [bit_and1, mv_near h ha hfst] at an
      cases hnr : near c at_ first with
      | false =>
        rw [hnr] at an
        have an' : binI .and (.i .u64 ((mv r c at_ / 2 ^ first : Nat) : Int)) (.i .u64 1) = some (.i .u64 0) := an
        generalize mv r c at_ / 2 ^ first = D at *
        generalize TV.bp true (.agg (bM r c)) = BB at *
        refine ⟨_, by
          simp (disch := omega) [c89, go_nil, go_last, go_past, go_pastR, go_blkN, go_blkR, go_blkE, go_skip, go_exit, go_ret, go_scope, go_seq, go_reg, go_regd, go_opdN, go_opd, go_opdG, grdd_b, grdd_u, stpd_some, find_some, go_block, go_cond, cnd_b, go_opsN, go_ops, go_opsG, grd_b, grd_u, stp_some, fin_some, up_some, cont_some, k_call, k_mv, k_pick, k_bin, k_eqB, k_eqA, k_not, k_neg, k_conv, k_alloc, k_boxA, k_boxI, k_boxB, k_boxN, k_boxBs, k_ldR, k_ldA, k_ldI, k_ldB, k_stA, k_stI, k_stB, ldC_some, stC_some, k_mkfn, k_slc, k_slcA, k_ixA, k_ixBs, k_ixSl, k_fadr, k_fld, k_ext, k_len, k_app, k_mn, k_mx, k_nilck, k_build, k_bsl1, k_bsl2, b_add, b_sub, b_mul, b_eql, b_neq, b_lss, b_leq, b_gtr, b_geq, Dn.setLast, Dn.getLast, evalO, mapO, Dn.get, putE, keepE_nil, keepE_cons, kp_some, kp_none, TV.one, TV.isAgg, Dn.part, k_boxR, negb, at0, at1, at2, at3, at4, dT, dF, wrapR_i64, Option.bind_some, Option.map_some, fH1, fW, l9, l2, l3, l4, nc, f3, ix, lx, wb, sh, an']
          rfl, rfl⟩
      | true =>
        rw [hnr] at an
        have an' : binI .and (.i .u64 ((mv r c at_ / 2 ^ first : Nat) : Int)) (.i .u64 1) = some (.i .u64 1) := an
        generalize mv r c at_ / 2 ^ first = D at *
        generalize TV.bp true (.agg (bM r c)) = BB at *
        refine ⟨_, by
          simp (disch := omega) [c89, go_nil, go_last, go_past, go_pastR, go_blkN, go_blkR, go_blkE, go_skip, go_exit, go_ret, go_scope, go_seq, go_reg, go_regd, go_opdN, go_opd, go_opdG, grdd_b, grdd_u, stpd_some, find_some, go_block, go_cond, cnd_b, go_opsN, go_ops, go_opsG, grd_b, grd_u, stp_some, fin_some, up_some, cont_some, k_call, k_mv, k_pick, k_bin, k_eqB, k_eqA, k_not, k_neg, k_conv, k_alloc, k_boxA, k_boxI, k_boxB, k_boxN, k_boxBs, k_ldR, k_ldA, k_ldI, k_ldB, k_stA, k_stI, k_stB, ldC_some, stC_some, k_mkfn, k_slc, k_slcA, k_ixA, k_ixBs, k_ixSl, k_fadr, k_fld, k_ext, k_len, k_app, k_mn, k_mx, k_nilck, k_build, k_bsl1, k_bsl2, b_add, b_sub, b_mul, b_eql, b_neq, b_lss, b_leq, b_gtr, b_geq, Dn.setLast, Dn.getLast, evalO, mapO, Dn.get, putE, keepE_nil, keepE_cons, kp_some, kp_none, TV.one, TV.isAgg, Dn.part, k_boxR, negb, at0, at1, at2, at3, at4, dT, dF, wrapR_i64, Option.bind_some, Option.map_some, fH1, fW, l9, l2, l3, l4, nc, f3, ix, lx, wb, sh, an']
          rfl, rfl⟩
  obtain ⟨e, k1, k2⟩ := key
  refine stay _ (fun hv => ⟨rfl, fun hc => ?_⟩) (fun hv q hq => ?_) (hbd _ e H1 k1 k2)
  · subst hc
    simpa using hv
  · cases q with
    | nil =>
      cases closed with
      | false => simp at hv
      | true =>
        have := hq.2 rfl
        rw [this] at hv
        simp at hv
    | cons s q => have := hq.2.1; simp at this

theorem spec89 {pg : Pg} (hF : Free pg) {r c first : Nat} {closed : Bool} (h : Brd r c) (hfst : first < r * c) : ∀ (f at_ left : Nat), at_ < r * c → left < 2 ^ (r * c) → left.testBit at_ = false → (closed = true → left.testBit first = false) →
    (closed = true → at_ = first → ∀ s, s < r * c → near c at_ s = true → left ≠ 2 ^ s) → (mem64 left).length ≤ f → SSpec pg r c first closed f at_ left := by
  intro f
  induction f with
  | zero =>
    intro at_ left ha hl hla hlf hedge hlen
    have hn := h.n36
    have h64 := lv64 h
    have : left = 0 := by
      apply Classical.byContradiction
      intro hc
      obtain ⟨hm, _⟩ := mem64_step (x := left) (by omega) (by omega)
      rw [hm] at hlen
      simp at hlen
    subst this
    exact base89 hF h hfst ha
  | succ f ih =>
    intro at_ left ha hl hla hlf hedge hlen
    by_cases h0 : left = 0
    · subst h0; exact base89 hF h hfst ha
    intro H O p hS hp hpl
    have hn := h.n36
    have h64 := lv64 h
    have hHl := hS.len
    obtain ⟨W, hW⟩ : ∃ W, W = H.length := ⟨_, rfl⟩
    obtain ⟨H1, hH1⟩ : ∃ H1 : Heap, H1 = H ++ [.cells [.i .u64 (left : Int)] false] := ⟨_, rfl⟩
    have lH1 : H1.length = W + 1 := by rw [hH1, hW]; simp
    have kb : dkc pg (den pg) (.box false) [.i .u64 (left : Int)] H = some (.ref W 0, H1) := by rw [hH1, hW]; exact k_boxI _ _ _
    have fH1 := hH1.symm
    have fW := hW.symm
    have hS1 := hS.app [.cells [.i .u64 (left : Int)] false]
    rw [← hH1] at hS1
    have e01 : ∀ j, j < H.length → H1[j]? = H[j]? := fun j hj => by rw [hH1, List.getElem?_append_left hj]
    have gW1 : H1[W]? = some (.cells [.i .u64 (left : Int)] false) := by rw [hH1, hW]; exact getLast _ _
    have l9 := ld_box (pg := pg) (R := den pg) gW1 rfl
    have l2 := ld_box (pg := pg) (R := den pg) hS1.cl rfl
    have l3 := ld_box (pg := pg) (R := den pg) hS1.b rfl
    have l4 := ld_box (pg := pg) (R := den pg) hS1.f rfl
    have l5 := ld_box (pg := pg) (R := den pg) hS1.m rfl
    obtain ⟨MB, QB, bf⟩ := bd_facts (pg := pg) h (H0 := H1) (BV := .bp true (.agg (bM r c))) (.inl ⟨true, rfl⟩)
    obtain ⟨nc, f3, bx⟩ := bf H1 (.inl ⟨true, rfl⟩)
    obtain ⟨ix, lx⟩ := bx at_ ha
    have hmv := mv_bound h ha
    have hbd : ∀ (v : Bool) (e : Env) (K : Heap), go pg (den pg) [.c c89] .normal [(0, .i .i64 (at_ : Int)), (1, .i .u64 (left : Int)), (2, .ref 2 0), (3, .ref 0 0), (4, .ref 1 0), (5, .ref 4 0), (6, .ref 6 0), (7, .ref 7 0)] H = some ⟨.ret, e, K⟩ → Dn.get e 10 = some (.b v) →
        bodyRun pg (den pg) 89 [.i .i64 (at_ : Int), .i .u64 (left : Int), .ref 2 0, .ref 0 0, .ref 1 0, .ref 4 0, .ref 6 0, .ref 7 0] H = some (.b v, K) := fun v e K g1 g2 => by
      have := body_ofs (pg := pg) (f := 89) (xs := [.i .i64 (at_ : Int), .i .u64 (left : Int), .ref 2 0, .ref 0 0, .ref 1 0, .ref 4 0, .ref 6 0, .ref 7 0]) (x := .ret) (e := e) (H := H) (H' := K) (vs := [.b v]) (d := d89) (by rw [hF.F]; rfl) rfl (by simpa [d89, zipE] using g1) (.inl rfl) (by simp [d89, mapO, resRun, g2])
      simpa [tupR] using this
    -- what stays if nothing is found at once
    have stay : ∀ (v : Bool), (v = true → Compl c first closed at_ left []) → (v = false → ∀ q, ¬ Compl c first closed at_ left q) → bodyRun pg (den pg) 89 [.i .i64 (at_ : Int), .i .u64 (left : Int), .ref 2 0, .ref 0 0, .ref 1 0, .ref 4 0, .ref 6 0, .ref 7 0] H = some (.b v, H1) →
        ∃ v H' O' p', bodyRun pg (den pg) 89 [.i .i64 (at_ : Int), .i .u64 (left : Int), .ref 2 0, .ref 0 0, .ref 1 0, .ref 4 0, .ref 6 0, .ref 7 0] H = some (.b v, H') ∧ SE r c first closed H' O' (p ++ nI p') ∧
          (v = true → Compl c first closed at_ left p') ∧ (v = false → p' = [] ∧ ∀ q, ¬ Compl c first closed at_ left q) ∧ H.length ≤ H'.length ∧ (∀ j, 8 ≤ j → j < H.length → O.idOf ≠ some j → H'[j]? = H[j]?) ∧ (O'.idOf = O.idOf ∨ ∀ id, O'.idOf = some id → H.length ≤ id) :=
      fun v hv1 hv2 hr => ⟨v, H1, O, [], hr, by simpa [nI] using hS1, hv1, fun hv => ⟨rfl, hv2 hv⟩, by omega, fun j _ hj _ => e01 j hj, .inl rfl⟩
    have hle := hl
    have kbd : ∀ K, dkc pg (den pg) (.build [.i .i64 0, .i .u64 0] [(0, 1), (1, 1)]) [.i .i64 (at_ : Int), .i .u64 (left : Int)] K = some (.agg [.i .i64 (at_ : Int), .i .u64 (left : Int)], K) := fun K => rfl
    have hlz : ¬ ((left : Int) = 0) := by omega
    obtain ⟨es, ck, hes, hkn⟩ := hS1.k
    obtain ⟨v1, lk1, lk2⟩ := k_look (pg := pg) (R := den pg) (a := at_) (l := left) hes hkn
    have sbp := snap_bp true H1 r c
    have c90 : callRun pg (den pg) (.pu []) [.fn 90 [] [], .bp true (.agg (bM r c)), .i .i64 (at_ : Int), .i .i64 (first : Int), .i .u64 (left : Int), .b closed] H1 = some (.b (hopeB r c at_ first left closed), H1) :=
      PFn.call (fn90 (pg := pg) hF (bo := true) (closed := closed) h ha hfst hl) (args := [.bp true (.agg (bM r c)), .i .i64 (at_ : Int), .i .i64 (first : Int), .i .u64 (left : Int), .b closed]) (ks := []) (fs := []) (cs := []) (by simp [snapArgs, sn_i, sn_b, sn_nil, sn8_i, sn8_b, sn8_nil, sn7_i, sn7_b, sn_sl, sn8_sl, slB_some, sn_tup, sn_agg, sn8_agg, mapO, elems, sbp])
    cases v1 with
    | true =>
      have key : ∃ e, go pg (den pg) [.c c89] .normal [(0, .i .i64 (at_ : Int)), (1, .i .u64 (left : Int)), (2, .ref 2 0), (3, .ref 0 0), (4, .ref 1 0), (5, .ref 4 0), (6, .ref 6 0), (7, .ref 7 0)] H = some ⟨.ret, e, H1⟩ ∧ Dn.get e 10 = some (.b false) := by
        generalize TV.bp true (.agg (bM r c)) = BB at *
        refine ⟨_, by
          simp (disch := omega) [c89, go_nil, go_last, go_past, go_pastR, go_blkN, go_blkR, go_blkE, go_skip, go_exit, go_ret, go_scope, go_seq, go_reg, go_regd, go_opdN, go_opd, go_opdG, grdd_b, grdd_u, stpd_some, find_some, go_block, go_cond, cnd_b, go_opsN, go_ops, go_opsG, grd_b, grd_u, stp_some, fin_some, up_some, cont_some, k_call, k_mv, k_pick, k_bin, k_eqB, k_eqA, k_not, k_neg, k_conv, k_alloc, k_boxA, k_boxI, k_boxB, k_boxN, k_boxBs, k_ldR, k_ldA, k_ldI, k_ldB, k_stA, k_stI, k_stB, ldC_some, stC_some, k_mkfn, k_slc, k_slcA, k_ixA, k_ixBs, k_ixSl, k_fadr, k_fld, k_ext, k_len, k_app, k_mn, k_mx, k_nilck, k_build, k_bsl1, k_bsl2, b_add, b_sub, b_mul, b_eql, b_neq, b_lss, b_leq, b_gtr, b_geq, Dn.setLast, Dn.getLast, evalO, mapO, Dn.get, putE, keepE_nil, keepE_cons, kp_some, kp_none, TV.one, TV.isAgg, Dn.part, k_boxR, negb, at0, at1, at2, at3, at4, dT, dF, wrapR_i64, Option.bind_some, Option.map_some, fH1, fW, l9, h0, l5, kbd, lk1]
          rfl, rfl⟩
      obtain ⟨e, k1, k2⟩ := key
      exact stay false (fun hv => by cases hv) (fun _ => lk2 rfl) (hbd _ e H1 k1 k2)
    | false =>
      cases hhp : hopeB r c at_ first left closed with
      | true =>
        rw [hhp] at c90
        have key : ∃ e, go pg (den pg) [.c c89] .normal [(0, .i .i64 (at_ : Int)), (1, .i .u64 (left : Int)), (2, .ref 2 0), (3, .ref 0 0), (4, .ref 1 0), (5, .ref 4 0), (6, .ref 6 0), (7, .ref 7 0)] H = some ⟨.ret, e, H1⟩ ∧ Dn.get e 10 = some (.b false) := by
          generalize TV.bp true (.agg (bM r c)) = BB at *
          refine ⟨_, by
            simp (disch := omega) [c89, go_nil, go_last, go_past, go_pastR, go_blkN, go_blkR, go_blkE, go_skip, go_exit, go_ret, go_scope, go_seq, go_reg, go_regd, go_opdN, go_opd, go_opdG, grdd_b, grdd_u, stpd_some, find_some, go_block, go_cond, cnd_b, go_opsN, go_ops, go_opsG, grd_b, grd_u, stp_some, fin_some, up_some, cont_some, k_call, k_mv, k_pick, k_bin, k_eqB, k_eqA, k_not, k_neg, k_conv, k_alloc, k_boxA, k_boxI, k_boxB, k_boxN, k_boxBs, k_ldR, k_ldA, k_ldI, k_ldB, k_stA, k_stI, k_stB, ldC_some, stC_some, k_mkfn, k_slc, k_slcA, k_ixA, k_ixBs, k_ixSl, k_fadr, k_fld, k_ext, k_len, k_app, k_mn, k_mx, k_nilck, k_build, k_bsl1, k_bsl2, b_add, b_sub, b_mul, b_eql, b_neq, b_lss, b_leq, b_gtr, b_geq, Dn.setLast, Dn.getLast, evalO, mapO, Dn.get, putE, keepE_nil, keepE_cons, kp_some, kp_none, TV.one, TV.isAgg, Dn.part, k_boxR, negb, at0, at1, at2, at3, at4, dT, dF, wrapR_i64, Option.bind_some, Option.map_some, fH1, fW, l9, h0, l5, kbd, lk1, l2, l3, l4, c90]
            rfl, rfl⟩
        obtain ⟨e, k1, k2⟩ := key
        exact stay false (fun hv => by cases hv) (fun _ => hope_sound h hfst ha hl hla hlf hedge hhp) (hbd _ e H1 k1 k2)
      | false =>
        rw [hhp] at c90
        have hVl : mv r c at_ &&& left < 2 ^ (r * c) := Nat.lt_of_le_of_lt Nat.and_le_right hl
        have a1 := and_uu (m := mv r c at_) (k := left) (by omega) (by omega)
        obtain ⟨V, hV⟩ : ∃ V, V = mv r c at_ &&& left := ⟨_, rfl⟩
        rw [← hV] at a1 hVl
        have hVm : ∀ s, s ∈ mem64 V ↔ s < r * c ∧ near c at_ s = true ∧ left.testBit s = true := fun s => by
          rw [mem_mem64 (by omega), hV, Nat.testBit_and, Bool.and_eq_true]
          constructor
          · rintro ⟨g1, g2⟩
            have hs : s < r * c := by
              apply Classical.byContradiction
              intro hc
              rw [Nat.testBit_lt_two_pow (Nat.lt_of_lt_of_le hl (Nat.pow_le_pow_right (by decide) (by omega)))] at g2
              cases g2
            rw [mv_near h ha hs] at g1
            exact ⟨hs, g1, g2⟩
          · rintro ⟨g1, g2, g3⟩
            rw [mv_near h ha g1]; exact ⟨g2, g3⟩
        have hfew : (mem64 V).length ≤ 8 := by
          refine Nat.le_trans ?_ (mv_few h ha)
          rw [← mem64_len]
          refine sub_len _ _ (mem64_nodup _) fun s hs => ?_
          have := (hVm s).1 hs
          rw [mem_mem64 (by omega), mv_near h ha this.1]
          exact this.2.1
        obtain ⟨A, H2, d1, d2, d3, d4, d5⟩ := body64 (pg := pg) hF (x := V) (by omega) H1
        have d1' : callRun pg (den pg) .sh [.fn 64 [] [], .i .u64 (V : Int)] H1 = some (A, H2) := by rw [sh_fn]; exact d1
        have hA1 : ∀ j, j < H1.length → A.idOf ≠ some j := fun j hj he => by have := d5 j he; omega
        have hS2 : SE r c first closed H2 O p := hS1.mono (fun j hj _ => d4 j (by omega)) (fun j hj => d4 j (hS1.w.lt j hj))
        have gW2 : H2[W]? = some (.cells [.i .u64 (left : Int)] false) := by rw [d4 W (by omega)]; exact gW1
        have hc := (cmp92 (pg := pg) hF h hl (t := A) hS2.b gW2 (hA1 0 (by omega)) (hA1 W (by omega))).mono (ok' := fun x => x ∈ nI (mem64 V)) fun x hx => by
          unfold nI at hx
          rw [List.mem_map] at hx
          obtain ⟨s, hs, rfl⟩ := hx
          exact ⟨s, ((hVm s).1 hs).1, rfl⟩
        obtain ⟨l', H3, m1, m2, m3, m4, m5⟩ := body91 (pg := pg) hF hc d2 (by rw [nI_len]; omega)
        have m1' : callRun pg (den pg) .sh [.fn 91 [] [], A, .fn 92 [] [.ref 0 0, .ref W 0]] H2 = some (.tup [], H3) := by rw [sh_fn]; exact m1
        obtain ⟨ms, rfl⟩ := int_list l' fun x hx => by
          have := m2.mem_iff.1 hx
          unfold nI at this
          rw [List.mem_map] at this
          obtain ⟨s, _, rfl⟩ := this
          exact ⟨s, rfl⟩
        have hmem : ∀ s, s ∈ ms ↔ s < r * c ∧ near c at_ s = true ∧ left.testBit s = true := fun s => by rw [← hVm s, ← nI_mem, m2.mem_iff, nI_mem]
        have hmsl : ms.length ≤ 64 := by have := m2.length_eq; rw [nI_len, nI_len] at this; omega
        have hS3 : SE r c first closed H3 O p := hS2.mono (fun j hj _ => m5 j (hA1 j (by omega))) (fun j hj => m5 j (hA1 j (hS1.w.lt j hj)))
        have gW3 : H3[W]? = some (.cells [.i .u64 (left : Int)] false) := by rw [m5 W (hA1 W (by omega))]; exact gW2
        have hOlt := hS.w.lt
        obtain ⟨e, H4, O4, f1, f2, f3, hres⟩ := l89_1_all (pg := pg) (at_ := at_) (f := f) h hl (A := A) (ms := ms) (fun s hs => ((hmem s).1 hs).1) hmsl
          (fun s hs => by
            obtain ⟨s1, s2, s3⟩ := (hmem s).1 hs
            have hlt : andN left (2 ^ s) < 2 ^ (r * c) := Nat.lt_of_le_of_lt (andN_le _ _ (by omega)) hl
            refine ih s _ s1 hlt ?_ (fun hcl => ?_) (fun hcl hsf => ?_) ?_
            · rw [andN_two (by omega) (by omega)]; simp
            · rw [andN_two (by omega) (by omega), hlf hcl]; rfl
            · rw [hsf, hlf hcl] at s3; cases s3
            · have := left_less (left := left) (s := s) (by omega) (by omega) s3; omega)
          hp (by omega) (fun j hj => by have := d5 j hj; omega) (W := W) (by omega) ms.length 0 H3 O (by omega) hS3 gW3 m3 (fun he => by have := hOlt W he; omega) (fun j hj he => by have := d5 j hj; have := hOlt j he; omega) (fun j s hj => by omega)
        have hlen3 := m3.view.lenK H3
        rw [nI_len] at hlen3
        have fr : ∀ j, 8 ≤ j → j < H.length → O.idOf ≠ some j → H4[j]? = H[j]? := fun j h8 hj ho => by
          rw [f2 j h8 (by omega) ho, m5 j (hA1 j (by omega)), d4 j (by omega), e01 j hj]
        have fo : O4.idOf = O.idOf ∨ ∀ id, O4.idOf = some id → H.length ≤ id := f3.imp id fun g id hid => by have := g id hid; omega
        have mkf : dkc pg (den pg) (.mkfn 92 0) [.ref 0 0, .ref W 0] H2 = some (.fn 92 [] [.ref 0 0, .ref W 0], H2) := rfl
        rcases hres with ⟨s, q, r1, r2, r3, r4, r5⟩ | ⟨r1, r2, r3, r4, r5⟩
        · simp only [Int.natCast_zero] at r4
          obtain ⟨s1, s2, s3⟩ := (hmem s).1 r1
          have key : go pg (den pg) [.c c89] .normal [(0, .i .i64 (at_ : Int)), (1, .i .u64 (left : Int)), (2, .ref 2 0), (3, .ref 0 0), (4, .ref 1 0), (5, .ref 4 0), (6, .ref 6 0), (7, .ref 7 0)] H = some ⟨.ret, e, H4⟩ := by
            generalize TV.bp true (.agg (bM r c)) = BB at *
            simp (disch := omega) [c89, go_nil, go_last, go_past, go_pastR, go_blkN, go_blkR, go_blkE, go_skip, go_exit, go_ret, go_scope, go_seq, go_reg, go_regd, go_opdN, go_opd, go_opdG, grdd_b, grdd_u, stpd_some, find_some, go_block, go_cond, cnd_b, go_opsN, go_ops, go_opsG, grd_b, grd_u, stp_some, fin_some, up_some, cont_some, k_call, k_mv, k_pick, k_bin, k_eqB, k_eqA, k_not, k_neg, k_conv, k_alloc, k_boxA, k_boxI, k_boxB, k_boxN, k_boxBs, k_ldR, k_ldA, k_ldI, k_ldB, k_stA, k_stI, k_stB, ldC_some, stC_some, k_mkfn, k_slc, k_slcA, k_ixA, k_ixBs, k_ixSl, k_fadr, k_fld, k_ext, k_len, k_app, k_mn, k_mx, k_nilck, k_build, k_bsl1, k_bsl2, b_add, b_sub, b_mul, b_eql, b_neq, b_lss, b_leq, b_gtr, b_geq, Dn.setLast, Dn.getLast, evalO, mapO, Dn.get, putE, keepE_nil, keepE_cons, kp_some, kp_none, TV.one, TV.isAgg, Dn.part, k_boxR, negb, at0, at1, at2, at3, at4, dT, dF, wrapR_i64, Option.bind_some, Option.map_some, fH1, fW, l9, h0, l5, kbd, lk1, l2, l3, l4, c90, nc, f3, ix, lx, a1, d1', mkf, m1', hlen3, go_denK (c := l89_1) rfl, r4]
          exact ⟨true, H4, O4, s :: q, hbd _ e H4 key r5, r3, fun _ => ⟨s2, s3, r2⟩, (fun hv => by cases hv), by omega, fr, fo⟩
        · simp only [Int.natCast_zero] at r4
          have hno : ∀ q, ¬ Compl c first closed at_ left q := fun q hq => by
            cases q with
            | nil => exact h0 hq.1
            | cons s q =>
              obtain ⟨q1, q2, q3⟩ := hq
              have hs : s < r * c := by
                apply Classical.byContradiction
                intro hc
                rw [Nat.testBit_lt_two_pow (Nat.lt_of_lt_of_le hl (Nat.pow_le_pow_right (by decide) (by omega)))] at q2
                cases q2
              exact r1 s ((hmem s).2 ⟨hs, q1, q2⟩) q q3
          have g0 := keep_get r5 (s := 0) (by simp) rfl
          have g5 := keep_get r5 (s := 5) (by simp) rfl
          have g9 := keep_get r5 (s := 9) (by simp) rfl
          have l5' := ld_box (pg := pg) (R := den pg) r2.m rfl
          have l9' := ld_box (pg := pg) (R := den pg) r3 rfl
          obtain ⟨es4, ck4, hes4, hkn4⟩ := r2.k
          obtain ⟨es5, ck5, p1, p2⟩ := k_put (pg := pg) (R := den pg) hes4 hkn4 hno
          obtain ⟨H5, hH5⟩ : ∃ H5, H5 = H4.set 3 (.map es5 ck5) := ⟨_, rfl⟩
          rw [← hH5] at p1
          have h4l := r2.len
          have e5 : ∀ j, j ≠ 3 → H5[j]? = H4[j]? := fun j hj => by rw [hH5, List.getElem?_set_ne (by omega)]
          have hS5 : SE r c first closed H5 O4 p :=
            ⟨by rw [e5 0 (by omega)]; exact r2.b, by rw [e5 1 (by omega)]; exact r2.f, by rw [e5 2 (by omega)]; exact r2.cl, ⟨es5, ck5, by rw [hH5, List.getElem?_set_self (by omega)], p2⟩, by rw [e5 4 (by omega)]; exact r2.m, by rw [e5 6 (by omega)]; exact r2.o, by rw [e5 7 (by omega)]; exact r2.s,
             r2.w.mono fun j hj => e5 j (by rcases r2.id j hj with g | g <;> omega), r2.id⟩
          have key : ∃ e', go pg (den pg) [.c c89] .normal [(0, .i .i64 (at_ : Int)), (1, .i .u64 (left : Int)), (2, .ref 2 0), (3, .ref 0 0), (4, .ref 1 0), (5, .ref 4 0), (6, .ref 6 0), (7, .ref 7 0)] H = some ⟨.ret, e', H5⟩ ∧ Dn.get e' 10 = some (.b false) := by
            generalize TV.bp true (.agg (bM r c)) = BB at *
            refine ⟨_, by
              simp (disch := omega) [c89, go_nil, go_last, go_past, go_pastR, go_blkN, go_blkR, go_blkE, go_skip, go_exit, go_ret, go_scope, go_seq, go_reg, go_regd, go_opdN, go_opd, go_opdG, grdd_b, grdd_u, stpd_some, find_some, go_block, go_cond, cnd_b, go_opsN, go_ops, go_opsG, grd_b, grd_u, stp_some, fin_some, up_some, cont_some, k_call, k_mv, k_pick, k_bin, k_eqB, k_eqA, k_not, k_neg, k_conv, k_alloc, k_boxA, k_boxI, k_boxB, k_boxN, k_boxBs, k_ldR, k_ldA, k_ldI, k_ldB, k_stA, k_stI, k_stB, ldC_some, stC_some, k_mkfn, k_slc, k_slcA, k_ixA, k_ixBs, k_ixSl, k_fadr, k_fld, k_ext, k_len, k_app, k_mn, k_mx, k_nilck, k_build, k_bsl1, k_bsl2, b_add, b_sub, b_mul, b_eql, b_neq, b_lss, b_leq, b_gtr, b_geq, Dn.setLast, Dn.getLast, evalO, mapO, Dn.get, putE, keepE_nil, keepE_cons, kp_some, kp_none, TV.one, TV.isAgg, Dn.part, k_boxR, negb, at0, at1, at2, at3, at4, dT, dF, wrapR_i64, Option.bind_some, Option.map_some, fH1, fW, l9, h0, l5, kbd, lk1, l2, l3, l4, c90, nc, f3, ix, lx, a1, d1', mkf, m1', hlen3, go_denK (c := l89_1) rfl, r4, g0, g5, g9, l5', l9', p1]
              rfl, rfl⟩
          obtain ⟨e', k1, k2⟩ := key
          have lH5 : H5.length = H4.length := by rw [hH5]; simp
          exact ⟨false, H5, O4, [], hbd _ e' H5 k1 k2, by simpa [nI] using hS5, (fun hv => by cases hv), fun _ => ⟨rfl, hno⟩, by omega, fun j h8 hj ho => by rw [e5 j (by omega), fr j h8 hj ho], fo⟩

end Go.Proofs.Tryd.Dn

