/-
  The reference's search.
-/
import Derived.Test.YtegihfgibonhpaaPf
import Derived.Test.YtegihfgibonhpaaPe
set_option linter.unusedSimpArgs false
set_option linter.unusedVariables false

namespace Go.Proofs.Try.Dn
open Go.Dn

theorem Que.ix {pg : Pg} {R : Rec} {H : Heap} {t : TV} {l : List Int} (h : Que H t l) {i : Nat} {x : Int} (hx : l[i]? = some x) : ∃ p, dkc pg R (.ixS 1 false) [t, .i .i64 (i : Int)] H = some (p, H) ∧ dkc pg R (.ld 1 false) [p] H = some (.i .i64 x, H) := ixI h.view hx

structure HR (L : Nat) (H : Heap) (pre : List Nat) (s : St) (t : TV) : Prop where
  seen : ∃ c, H[0]? = some (.cells c false) ∧ c.length = L ∧ ∀ q, q < L → c[q]? = some (.b (s.S q))
  que : Que H t ((pre ++ s.qs).map fun (n : Nat) => (n : Int))
  ne : t.idOf ≠ some 0

def SV (L : Nat) : TV := .sl 0 0 1 false L (some L)

theorem l19_1_round {pg : Pg} (hF : Free pg) {L now i kk : Nat} {T : TV} {j : Line} {J : List Line} {H : Heap} {pre : List Nat} {s : St} {t : TV} (h : HR L H pre s t) (hi : (pre ++ s.qs)[i]? = some now) (hk : J[kk]? = some j) (hJ : J.length ≤ 80) (hcan : can now j = true) (hj : Hole3 j) (hnow : now < 65536) (hq : leap now j < L) (hlen : (pre ++ s.qs).length ≤ 1000000) :
    ∃ H' t', den pg l19_1 [(1, T), (7, SV L), (8, t), (9, .i .i64 (i : Int)), (10, LT false J), (11, .i .i64 (kk : Int))] H = den pg l19_1 [(1, T), (7, SV L), (8, t'), (9, .i .i64 (i : Int)), (10, LT false J), (11, .i .i64 ((kk + 1 : Nat) : Int))] H' ∧ HR L H' pre (s.step now j) t' := by
  obtain ⟨c, c1, c2, c3⟩ := h.seen
  have hkl := (List.getElem?_eq_some_iff.1 hk).1
  have e1 : ((kk : Int) < (J.length : Int)) := by omega
  have e2 : wrapR .i64 ((kk : Int) + 1) = .i .i64 ((kk : Int) + 1) := wrapR_i64 (by omega)
  have hlJ := LT_len false J
  have hVJ : elL.View H (LT false J) J := by rw [LT_lt]; exact El.lt_view _ _ _
  obtain ⟨p1, hp1, hv1⟩ := h.que.ix (pg := pg) (R := den pg) (i := i) (x := (now : Int)) (by rw [List.getElem?_map, hi]; rfl)
  obtain ⟨p2, hp2, hat, _⟩ := ixL (pg := pg) (R := den pg) hVJ hk
  have hl2 := ldL (pg := pg) (R := den pg) hat
  have c39 := fun H => Fn.call (fn39 hF hnow hj) (args := [.i .i64 (now : Int), lineTV j]) (ks := []) (fs := []) (cs := []) (H := H) (by simp [snapArgs, sn_i, snap_line _ _ 7])
  rw [hcan] at c39
  generalize hqe : leap now j = q at c39 hq
  have hix : dkc pg (den pg) (.ixS 1 false) [SV L, .i .i64 (q : Int)] H = some (.ref 0 q, H) := by
    unfold SV
    rw [k_ixSl 1 false false 0 0 L (some L) .i64 (q : Int) H (by omega) (by omega)]
    simp
  have hld : dkc pg (den pg) (.ld 1 false) [.ref 0 q] H = some (.b (s.S q), H) := by
    rw [k_ldR, c1, ldC_some, part_one (c3 q hq) rfl]; rfl
  cases hS : s.S q with
  | true =>
    rw [hS] at hld
    have hst : s.step now j = s := by unfold St.step; rw [hcan, hqe, hS]; rfl
    refine ⟨H, t, ?_, by rw [hst]; exact h⟩
    rw [l19_1, den_loop]
    simp [l19_1, b19_0, go_nil, go_last, go_past, go_pastR, go_blkN, go_blkR, go_blkE, go_skip, go_exit, go_ret, go_scope, go_seq, go_reg, go_block, go_cond, cnd_b, go_opsN, go_ops, go_opsG, grd_b, grd_u, stp_some, fin_some, up_some, cont_some, k_call, k_mv, k_pick, k_bin, k_eqB, k_eqA, k_not, k_neg, k_conv, k_alloc, k_boxA, k_boxI, k_boxB, k_boxN, k_boxBs, k_ldR, k_ldA, k_ldI, k_ldB, k_stA, k_stI, k_stB, ldC_some, stC_some, k_mkfn, k_slc, k_slcA, k_ixA, k_ixBs, k_ixSl, k_fadr, k_fld, k_ext, k_len, k_app, k_mn, k_mx, k_nilck, k_build, k_bsl1, k_bsl2, b_add, b_sub, b_mul, b_eql, b_neq, b_lss, b_leq, b_gtr, b_geq, Dn.setLast, Dn.getLast, evalO, mapO, Dn.get, putE, keepE, TV.one, TV.isAgg, Dn.part, hlJ, e1, e2, hp1, hv1, hp2, hl2, c39, hix, hld]
  | false =>
    rw [hS] at hld
    have hst : s.step now j = ⟨fun x => x == q || s.S x, s.qs ++ [q], s.M ++ [(q, now, j)]⟩ := by unfold St.step; rw [hcan, hqe, hS]; rfl
    let H1 : Heap := H.set 0 (.cells (put2 c q [.b true]) false)
    have h0 := (List.getElem?_eq_some_iff.1 c1).1
    have hs1 : dkc pg (den pg) (.st 1) [.ref 0 q, .b true] H = some (.undef, H1) := by
      rw [k_stB, c1, stC_some, if_pos ⟨rfl, rfl, by omega⟩]
    have hq1 : Que H1 t ((pre ++ s.qs).map fun (n : Nat) => (n : Int)) := h.que.mono fun id hid => List.getElem?_set_ne (fun he => h.ne (by rw [he]; exact hid))
    obtain ⟨t', H2, ha, q2, l2, f2, i2⟩ := hq1.app (x := (q : Int)) (by simpa using hlen)
    refine ⟨H2, t', ?_, ?_⟩
    · rw [l19_1, den_loop]
      simp [l19_1, b19_0, go_nil, go_last, go_past, go_pastR, go_blkN, go_blkR, go_blkE, go_skip, go_exit, go_ret, go_scope, go_seq, go_reg, go_block, go_cond, cnd_b, go_opsN, go_ops, go_opsG, grd_b, grd_u, stp_some, fin_some, up_some, cont_some, k_call, k_mv, k_pick, k_bin, k_eqB, k_eqA, k_not, k_neg, k_conv, k_alloc, k_boxA, k_boxI, k_boxB, k_boxN, k_boxBs, k_ldR, k_ldA, k_ldI, k_ldB, k_stA, k_stI, k_stB, ldC_some, stC_some, k_mkfn, k_slc, k_slcA, k_ixA, k_ixBs, k_ixSl, k_fadr, k_fld, k_ext, k_len, k_app, k_mn, k_mx, k_nilck, k_build, k_bsl1, k_bsl2, b_add, b_sub, b_mul, b_eql, b_neq, b_lss, b_leq, b_gtr, b_geq, Dn.setLast, Dn.getLast, evalO, mapO, Dn.get, putE, keepE, TV.one, TV.isAgg, Dn.part, hlJ, e1, e2, hp1, hv1, hp2, hl2, c39, hix, hld, hs1, ha]
    · rw [hst]
      refine ⟨⟨put2 c q [.b true], ?_, ?_, ?_⟩, ?_, ?_⟩
      · rw [f2 0 (by rw [show H1.length = H.length by simp [H1]]; exact h0) h.ne]; exact List.getElem?_set_self h0
      · simp [put2]; omega
      · have hput : put2 c q [TV.b true] = c.set q (.b true) := by
          simp only [put2, List.length_singleton]
          rw [List.set_eq_take_append_cons_drop, if_pos (by omega)]
          simp
        intro x hx
        rw [hput]
        by_cases hxq : x = q
        · subst hxq; rw [List.getElem?_set_self (by omega)]; simp
        · rw [List.getElem?_set_ne (by omega), c3 x hx]; simp [hxq]
      · simp only [← List.append_assoc]
        rw [List.map_append]
        exact q2
      · rcases i2 with i2 | i2
        · rw [i2]; exact h.ne
        · intro he
          have := i2 0 he
          have h1l : H1.length = H.length := by simp [H1]
          omega

theorem St.step_qs (now : Nat) (s : St) (j : Line) : ∃ x, (s.step now j).qs = s.qs ++ x ∧ x.length ≤ 1 := by
  unfold St.step
  split
  · exact ⟨[leap now j], rfl, by simp⟩
  · exact ⟨[], by simp, by simp⟩

theorem l19_1_all {pg : Pg} (hF : Free pg) {L now i : Nat} {T : TV} {J : List Line} {pre : List Nat} (hJ : J.length ≤ 80) (hcan : ∀ j ∈ J, can now j = true ∧ Hole3 j ∧ leap now j < L) (hnow : now < 65536) : ∀ (f kk : Nat) (H : Heap) (s : St) (t : TV), kk + f = J.length → HR L H pre s t → (pre ++ s.qs)[i]? = some now → (pre ++ s.qs).length + f ≤ 1000000 →
    ∃ H' t', den pg l19_1 [(1, T), (7, SV L), (8, t), (9, .i .i64 (i : Int)), (10, LT false J), (11, .i .i64 (kk : Int))] H = some ⟨.exit 2, [(1, T), (7, SV L), (8, t'), (9, .i .i64 (i : Int)), (10, LT false J), (11, .i .i64 (J.length : Int)), (37, .b false)], H'⟩ ∧ HR L H' pre (St.steps now s (J.drop kk)) t'
  | 0, kk, H, s, t, h, hr, hi, hl => by
    obtain rfl : kk = J.length := by omega
    have hlJ := LT_len false J
    refine ⟨H, t, ?_, by rw [List.drop_length]; exact hr⟩
    rw [l19_1, den_loop]
    simp [b19_0, go_nil, go_last, go_past, go_pastR, go_blkN, go_blkR, go_blkE, go_skip, go_exit, go_ret, go_scope, go_seq, go_reg, go_block, go_cond, cnd_b, go_opsN, go_ops, go_opsG, grd_b, grd_u, stp_some, fin_some, up_some, cont_some, k_call, k_mv, k_pick, k_bin, k_eqB, k_eqA, k_not, k_neg, k_conv, k_alloc, k_boxA, k_boxI, k_boxB, k_boxN, k_boxBs, k_ldR, k_ldA, k_ldI, k_ldB, k_stA, k_stI, k_stB, ldC_some, stC_some, k_mkfn, k_slc, k_slcA, k_ixA, k_ixBs, k_ixSl, k_fadr, k_fld, k_ext, k_len, k_app, k_mn, k_mx, k_nilck, k_build, k_bsl1, k_bsl2, b_add, b_sub, b_mul, b_eql, b_neq, b_lss, b_leq, b_gtr, b_geq, Dn.setLast, Dn.getLast, evalO, mapO, Dn.get, putE, keepE, TV.one, TV.isAgg, Dn.part, hlJ]
  | f + 1, kk, H, s, t, h, hr, hi, hl => by
    have hk : J[kk]? = some J[kk] := List.getElem?_eq_getElem (by omega)
    obtain ⟨a1, a2, a3⟩ := hcan _ (List.getElem_mem (by omega : kk < J.length))
    obtain ⟨H1, t1, r1, hr1⟩ := l19_1_round (pg := pg) (T := T) hF hr hi hk hJ a1 a2 hnow a3 (by omega)
    obtain ⟨x, hx, hxl⟩ := St.step_qs now s J[kk]
    obtain ⟨H', t', r2, hr2⟩ := l19_1_all (T := T) hF hJ hcan hnow f (kk + 1) H1 (s.step now J[kk]) t1 (by omega) hr1 (by
      rw [hx, ← List.append_assoc, List.getElem?_append_left (List.getElem?_eq_some_iff.1 hi).1]; exact hi) (by rw [hx]; simp at hl ⊢; omega)
    refine ⟨H', t', r1.trans r2, ?_⟩
    rw [List.drop_eq_getElem_cons (by omega : kk < J.length)]
    exact hr2

/-- a round, with any list of the jumps that can be made -/
theorem St.roundJ {l : List Line} {p now : Nat} {s : St} {qs : List Nat} {J : List Line} (hfit : ∀ j ∈ js l, ∀ m, m < 65536 → leap m j < 65536) (hlt : ∀ q, s.S q = true → q < 65536) (hJ : ∀ z, z ∈ J ↔ z ∈ js l ∧ can now z = true) (hq : s.qs = now :: qs) (h : Inv l p s) (hc : ∀ q, q ∉ s.qs → s.S q = true → Closed l s q) :
    Inv l p (St.steps now { s with qs := qs } J) ∧ (St.steps now { s with qs := qs } J).mu < s.mu ∧ (∀ q, q ∉ (St.steps now { s with qs := qs } J).qs → (St.steps now { s with qs := qs } J).S q = true → Closed l (St.steps now { s with qs := qs } J) q) := by
  have hnow : s.S now = true := h.qin now (by rw [hq]; simp)
  have h1 : Inv l p { s with qs := qs } := ⟨h.start, h.sound, fun q hx => h.qin q (by rw [hq]; simp [hx]), h.how, h.has, h.once, h.ord⟩
  obtain ⟨i1, i2, i3, i4, i5⟩ := St.steps_inv (n := 0) hfit (hlt now hnow) J { s with qs := qs } (fun _ h => ((hJ _).1 h).1) h1 hnow
  refine ⟨i1, ?_, ?_⟩
  · refine Nat.lt_of_le_of_lt i2 ?_
    simp only [St.mu, St.left, hq, List.length_cons]
    omega
  · intro q hx hS
    obtain ⟨h2, h3⟩ := i5 q hx hS
    intro j hj hcan
    by_cases hqn : q = now
    · subst hqn; exact i4 j ((hJ j).2 ⟨hj, hcan⟩) hcan
    · exact i3 _ (hc q (by rw [hq]; simp [hqn]; exact h2) h3 j hj hcan)

theorem l19_3_all {pg : Pg} (hF : Free pg) {k : Nat} {l : List Line} (hc : chk (k : Int) l = 0) {p : Nat} (hp : p < 2 ^ k) : ∀ (f : Nat) (H : Heap) (pre : List Nat) (s : St) (t : TV), s.mu < f → pre.length + s.mu ≤ 900000 → HR (2 ^ k) H pre s t → Inv l p s → (∀ q, q ∉ s.qs → s.S q = true → Closed l s q) →
    ∃ H' e pre' s' t', den pg l19_3 [(1, LT true l), (7, SV (2 ^ k)), (8, t), (9, .i .i64 (pre.length : Int))] H = some ⟨.exit 0, e, H'⟩ ∧ get e 7 = some (SV (2 ^ k)) ∧ HR (2 ^ k) H' pre' s' t' ∧ (∀ q, s'.S q = true ↔ Reach l p q) := by
  obtain ⟨hn1, hn2, hl, hf⟩ := chk_ok hc
  have hk : k ≤ 16 := by omega
  have h16 : 2 ^ k ≤ 2 ^ 16 := Nat.pow_le_pow_right (by decide) hk
  intro f
  induction f with
  | zero => intro H pre s t h _ _ _ _; omega
  | succ f ih =>
    intro H pre s t hmf hb hr hi hcl
    have hltn : ∀ q, s.S q = true → q < 2 ^ k := fun q hq => (hi.sound q hq).ltn hf hp
    have hlt : ∀ q, s.S q = true → q < 65536 := fun q hq => by have := hltn q hq; omega
    have hfit : ∀ j ∈ js l, ∀ m, m < 65536 → leap m j < 65536 := fun j hj m hm => leap_lt hm (by have := Hole3.of hn2 (js_fits hf j hj); unfold Hole3 at this; omega)
    have hlen := hr.que.view.lenK
    simp only [List.length_map, List.length_append] at hlen
    cases hqs : s.qs with
    | nil =>
      rw [hqs] at hlen
      simp only [List.length_nil, Nat.add_zero] at hlen
      refine ⟨H, [(1, LT true l), (7, SV (2 ^ k)), (8, t), (9, .i .i64 (pre.length : Int)), (25, .b false)], pre, s, t, ?_, rfl, hr, hi.all hqs hcl⟩
      rw [l19_3, den_loop]
      simp [b19_2, go_nil, go_last, go_past, go_pastR, go_blkN, go_blkR, go_blkE, go_skip, go_exit, go_ret, go_scope, go_seq, go_reg, go_block, go_cond, cnd_b, go_opsN, go_ops, go_opsG, grd_b, grd_u, stp_some, fin_some, up_some, cont_some, k_call, k_mv, k_pick, k_bin, k_eqB, k_eqA, k_not, k_neg, k_conv, k_alloc, k_boxA, k_boxI, k_boxB, k_boxN, k_boxBs, k_ldR, k_ldA, k_ldI, k_ldB, k_stA, k_stI, k_stB, ldC_some, stC_some, k_mkfn, k_slc, k_slcA, k_ixA, k_ixBs, k_ixSl, k_fadr, k_fld, k_ext, k_len, k_app, k_mn, k_mx, k_nilck, k_build, k_bsl1, k_bsl2, b_add, b_sub, b_mul, b_eql, b_neq, b_lss, b_leq, b_gtr, b_geq, Dn.setLast, Dn.getLast, evalO, mapO, Dn.get, putE, keepE, TV.one, TV.isAgg, Dn.part, hlen]
    | cons now rest =>
      have hnow : s.S now = true := hi.qin now (by rw [hqs]; simp)
      obtain ⟨J, hJ, hJl, f38⟩ := fn38i (pg := pg) hF hc (p := now) (hlt now hnow)
      have c38 := fun H => Fn.call f38 (args := [LT true l, .i .i64 (now : Int)]) (ks := []) (fs := []) (cs := []) (H := H) (by simp [snapArgs, sn_i, LW_snap0])
      obtain ⟨i1, i2, i3⟩ := St.roundJ hfit hlt hJ hqs hi hcl
      have hix : (pre ++ s.qs)[pre.length]? = some now := by rw [hqs]; simp
      obtain ⟨p1, hp1, hv1⟩ := hr.que.ix (pg := pg) (R := den pg) (i := pre.length) (x := (now : Int)) (by rw [List.getElem?_map, hix]; rfl)
      have hr1 : HR (2 ^ k) H (pre ++ [now]) { s with qs := rest } t := ⟨hr.seen, by have := hr.que; rw [hqs] at this; simpa using this, hr.ne⟩
      have hmuq : s.qs.length ≤ s.mu := by unfold St.mu; omega
      obtain ⟨H1, t1, r1, hr2⟩ := l19_1_all (pg := pg) (i := pre.length) (T := LT true l) hF hJl (fun j hj => by
        obtain ⟨a, b⟩ := (hJ j).1 hj
        have h3 := js_fits hf j a
        refine ⟨b, Hole3.of hn2 h3, leap_ltn (hltn now hnow) (by unfold FitsJ at h3; omega)⟩) (hlt now hnow) J.length 0 H { s with qs := rest } t (by omega) hr1 (by simp) (by rw [hqs] at hmuq; simp at hmuq ⊢; omega)
      simp only [Int.natCast_zero, List.drop_zero] at r1 hr2
      obtain ⟨H', e, pre', s', t', r2, rest'⟩ := ih H1 (pre ++ [now]) _ t1 (by omega) (by simp; omega) hr2 i1 i3
      refine ⟨H', e, pre', s', t', Eq.trans ?_ r2, rest'⟩
      have e1 : ((pre.length : Int) < ((pre.length + s.qs.length : Nat) : Int)) := by rw [hqs]; simp; omega
      have e2 : wrapR .i64 ((pre.length : Int) + 1) = .i .i64 ((pre.length : Int) + 1) := wrapR_i64 (by omega)
      generalize hsl : pre.length + s.qs.length = SL at hlen e1
      rw [l19_3, den_loop]
      simp [l19_3, b19_2, go_nil, go_last, go_past, go_pastR, go_blkN, go_blkR, go_blkE, go_skip, go_exit, go_ret, go_scope, go_seq, go_reg, go_block, go_cond, cnd_b, go_opsN, go_ops, go_opsG, grd_b, grd_u, stp_some, fin_some, up_some, cont_some, k_call, k_mv, k_pick, k_bin, k_eqB, k_eqA, k_not, k_neg, k_conv, k_alloc, k_boxA, k_boxI, k_boxB, k_boxN, k_boxBs, k_ldR, k_ldA, k_ldI, k_ldB, k_stA, k_stI, k_stB, ldC_some, stC_some, k_mkfn, k_slc, k_slcA, k_ixA, k_ixBs, k_ixSl, k_fadr, k_fld, k_ext, k_len, k_app, k_mn, k_mx, k_nilck, k_build, k_bsl1, k_bsl2, b_add, b_sub, b_mul, b_eql, b_neq, b_lss, b_leq, b_gtr, b_geq, Dn.setLast, Dn.getLast, evalO, mapO, Dn.get, putE, keepE, TV.one, TV.isAgg, Dn.part, hlen, e1, e2, hp1, hv1, c38, go_denK (c := l19_1) rfl, r1]


/-- the set, as a list of truth values -/
def boolsOf (k : Nat) (S : Nat → Bool) : List Bool := (List.range (2 ^ k)).map S

theorem fn19 {pg : Pg} (hF : Free pg) {k : Nat} {l : List Line} (hc : chk (k : Int) l = 0) (hk15 : k ≤ 15) {p : Nat} (hp : p < 2 ^ k) : ∃ S : Nat → Bool, (∀ q, S q = true ↔ Reach l p q) ∧ Fn pg 19 [.i .i64 (k : Int), LT true l, .i .i64 (p : Int)] (.bs false 1 ((boolsOf k S).map elB.val)) := by
  obtain ⟨hn1, hn2, hl, hf⟩ := chk_ok hc
  have hk : k ≤ 16 := by omega
  have h16 : 2 ^ k ≤ 2 ^ 16 := Nat.pow_le_pow_right (by decide) hk
  have hpos : 0 < 2 ^ k := Nat.two_pow_pos k
  let s0 : St := ⟨fun q => q == p, [p], []⟩
  let c0 : List TV := List.replicate (2 ^ k) (.b false)
  have hc0 : c0.length = 2 ^ k := List.length_replicate
  let H1 : Heap := [.cells (put2 c0 p [.b true]) false, .cells [.i .i64 (p : Int)] false]
  have hput : put2 c0 p [TV.b true] = c0.set p (.b true) := by
    simp only [put2, List.length_singleton]
    rw [List.set_eq_take_append_cons_drop, if_pos (by rw [hc0]; exact hp)]
    simp
  have hr : HR (2 ^ k) H1 [] s0 (.sl 1 0 1 false 1 (some 1)) := by
    refine ⟨⟨_, rfl, by rw [hput, List.length_set, hc0], ?_⟩, ⟨1, 0, some 1, [.i .i64 (p : Int)], false, rfl, rfl, by simp [s0], by simp [s0], fun k hk => by cases hk; simp [s0]⟩, by simp [TV.idOf]⟩
    intro q hq
    rw [hput]
    by_cases hqp : q = p
    · subst hqp; rw [List.getElem?_set_self (by rw [hc0]; exact hq)]; simp [s0]
    · rw [List.getElem?_set_ne (by omega)]
      show (List.replicate (2 ^ k) (TV.b false))[q]? = _
      rw [List.getElem?_replicate, if_pos hq]
      simp [s0, hqp]
  have hinv : Inv l p s0 := ⟨by simp [s0], fun q hq => by simp [s0] at hq; subst hq; exact .here, fun q hq => by simp [s0] at hq; simp [s0, hq], fun e he => by simp [s0] at he, fun q hq => by simp [s0] at hq; exact .inl hq, by simp [s0], fun M1 e M2 h => by simp [s0] at h⟩
  have hmu : s0.mu ≤ 800000 := by
    have : s0.left ≤ 65536 := by
      unfold St.left
      exact Nat.le_trans List.countP_le_length (by simp)
    simp only [St.mu, s0] at this ⊢
    simp
    omega
  obtain ⟨H', e, pre', s', t', r1, g7, hr', hS⟩ := l19_3_all (pg := pg) hF hc hp (s0.mu + 1) H1 [] s0 _ (by omega) (by simp; omega) hr hinv (fun q hq hs => by simp [s0] at hq hs; exact absurd hs hq)
  simp only [List.length_nil, Int.natCast_zero] at r1
  obtain ⟨c, c1, c2, c3⟩ := hr'.seen
  have hcs : c = (boolsOf k s'.S).map elB.val := by
    apply List.ext_getElem?
    intro q
    by_cases hq : q < 2 ^ k
    · rw [c3 q hq]
      simp [boolsOf, hq, elB, El.val]
    · rw [List.getElem?_eq_none (by omega), List.getElem?_eq_none (by simp [boolsOf]; omega)]
  refine ⟨s'.S, hS, ?_⟩
  have hsh := shl_eq (k := .i64) (a := (k : Int)) (by omega) (by omega)
  simp only [Int.toNat_natCast] at hsh
  have hmk := k_mksl (pg := pg) (R := den pg) [.b false] false 1 .i64 .i64 (2 ^ k) [] (by omega) (by omega)
  have hrep : repl [TV.b false] (2 ^ k) = c0 := rfl
  rw [hrep] at hmk
  have hix : dkc pg (den pg) (.ixS 1 false) [SV (2 ^ k), .i .i64 (p : Int)] [.cells c0 false] = some (.ref 0 p, [.cells c0 false]) := by
    unfold SV
    rw [k_ixSl 1 false false 0 0 _ _ .i64 (p : Int) _ (by omega) (by omega)]
    simp
  have hst : dkc pg (den pg) (.st 1) [.ref 0 p, .b true] [.cells c0 false] = some (.undef, [.cells (put2 c0 p [.b true]) false]) := by
    rw [k_stB, show ([AObj.cells c0 false] : Heap)[0]? = some (AObj.cells c0 false) from rfl, stC_some, if_pos ⟨rfl, rfl, by rw [hc0]; omega⟩]
    rfl
  have hSV : TV.sl ([] : Heap).length 0 [TV.b false].length false (2 ^ k) (some (2 ^ k)) = SV (2 ^ k) := rfl
  rw [hSV] at hmk
  simp only [List.nil_append] at hmk
  refine .of_go (x := .ret) (e := [(6, SV (2 ^ k))]) (H' := H') (vs := [SV (2 ^ k)]) (hF.S _ _ (by decide)) (d := d19) (by rw [hF.F]; rfl) rfl ?_ (.inl rfl) rfl ?_
  · generalize ((2 ^ k : Nat) : Int) = PW at hsh hmk
    generalize SV (2 ^ k) = V at *
    simp only [H1] at r1
    simp [d19, c19, zipE, go_nil, go_last, go_past, go_pastR, go_blkN, go_blkR, go_blkE, go_skip, go_exit, go_ret, go_scope, go_seq, go_reg, go_block, go_cond, cnd_b, go_opsN, go_ops, go_opsG, grd_b, grd_u, stp_some, fin_some, up_some, cont_some, k_call, k_mv, k_pick, k_bin, k_eqB, k_eqA, k_not, k_neg, k_conv, k_alloc, k_boxA, k_boxI, k_boxB, k_boxN, k_boxBs, k_ldR, k_ldA, k_ldI, k_ldB, k_stA, k_stI, k_stB, ldC_some, stC_some, k_mkfn, k_slc, k_slcA, k_ixA, k_ixBs, k_ixSl, k_fadr, k_fld, k_ext, k_len, k_app, k_mn, k_mx, k_nilck, k_build, k_bsl1, k_bsl2, b_add, b_sub, b_mul, b_eql, b_neq, b_lss, b_leq, b_gtr, b_geq, Dn.setLast, Dn.getLast, evalO, mapO, Dn.get, putE, keepE, TV.one, TV.isAgg, Dn.part, hsh, hmk, hix, hst, go_denK (c := l19_3) rfl, r1, g7]
  · show snap .fin H' 9 (SV (2 ^ k)) = _
    unfold SV
    rw [sn_sl _ (by decide), c1, slB_some, if_pos ⟨by rw [c2]; omega, .inr rfl⟩, List.drop_zero]
    simp only [elems, Bool.false_eq_true, if_false, Nat.mul_one]
    rw [List.take_of_length_le (by omega), hcs, elB_flat.mapO .fin H' 6]
    rfl

end Go.Proofs.Try.Dn

/-
  PegSolves: the whole run answers true.
-/

namespace Go.Proofs.Try.Dn
open Go.Dn

theorem countP_flip {P Q : Nat → Bool} {x : Nat} : ∀ L : List Nat, L.Nodup → (∀ y, y ≠ x → P y = Q y) → x ∈ L → Q x = true → P x = false → L.countP P + 1 = L.countP Q
  | [], _, _, hx, _, _ => by cases hx
  | y :: L, hn, h, hx, hQ, hP => by
    rw [List.nodup_cons] at hn
    rw [List.countP_cons, List.countP_cons]
    by_cases hy : y = x
    · subst hy
      have : L.countP P = L.countP Q := List.countP_congr fun z hz => by rw [h z (fun he => hn.1 (by rw [← he]; exact hz))]
      rw [this]; simp [hQ, hP]
    · have hx' : x ∈ L := by
        rcases List.mem_cons.1 hx with h1 | h1
        · exact absurd h1.symm hy
        · exact h1
      have ih := countP_flip L hn.2 h hx' hQ hP
      rw [h y hy]
      omega

/-- the number of pegs -/
def pegs (m : Nat) : Nat := (List.range 16).countP fun i => m.testBit i

theorem pegs_le (m : Nat) : pegs m ≤ 16 := Nat.le_trans List.countP_le_length (by simp)

theorem pegs_leap {m : Nat} {j : Line} (hm : m < 65536) (hj : Hole3 j) (hd : j.1 ≠ j.2.2 ∧ j.2.1 ≠ j.1 ∧ j.2.1 ≠ j.2.2) (hc : can m j = true) : pegs (leap m j) + 1 = pegs m := by
  obtain ⟨a, b, c⟩ := j
  unfold Hole3 at hj
  simp only at hj hd
  simp only [can, Bool.and_eq_true, Bool.not_eq_true'] at hc
  obtain ⟨⟨ha, hb⟩, hcc⟩ := hc
  have na : a.toNat < 16 := by omega
  have nb : b.toNat < 16 := by omega
  have nc : c.toNat < 16 := by omega
  have hab : ¬ b.toNat = a.toNat := by omega
  have hac : ¬ a.toNat = c.toNat := by omega
  have hbc : ¬ b.toNat = c.toNat := by omega
  let P1 : Nat → Bool := fun i => m.testBit i && !decide (a.toNat = i)
  let P2 : Nat → Bool := fun i => P1 i && !decide (b.toNat = i)
  have h1 := countP_flip (P := P1) (Q := fun i => m.testBit i) (x := a.toNat) (List.range 16) List.nodup_range (fun y hy => by simp [P1]; intro _ h; exact absurd h.symm hy) (List.mem_range.2 na) ha (by simp [P1])
  have h2 := countP_flip (P := P2) (Q := P1) (x := b.toNat) (List.range 16) List.nodup_range (fun y hy => by simp [P2]; intro _ h; exact absurd h.symm hy) (List.mem_range.2 nb) (by simp [P1, hb]; omega) (by simp [P2])
  have h3 := countP_flip (P := P2) (Q := fun i => (leap m (a, b, c)).testBit i) (x := c.toNat) (List.range 16) List.nodup_range (fun y hy => by
    simp only [leap_bit hm, P2, P1]
    have : decide (c.toNat = y) = false := by simp; exact fun h => hy h.symm
    rw [this]
    cases m.testBit y <;> cases decide (a.toNat = y) <;> cases decide (b.toNat = y) <;> rfl) (List.mem_range.2 nc) (by simp [leap_bit hm]) (by simp [P2, P1, hcc])
  unfold pegs
  omega

theorem playR_len {n : Int} {l : List Line} (hn : n ≤ 16) (hf : ∀ x ∈ l, Fits n x) : ∀ (g : List Line) (p q : Nat), p < 65536 → playR l p g = (q, true) → g.length ≤ pegs p
  | [], p, q, _, _ => Nat.zero_le _
  | j :: g, p, q, hp, h => by
    rw [playR] at h
    split at h
    · rename_i hc
      simp only [Bool.and_eq_true] at hc
      have hj := js_fits hf j (mem_js.2 hc.1)
      have hh := Hole3.of hn hj
      have h1 := pegs_leap hp hh (by unfold FitsJ at hj; omega) hc.2
      have h2 := playR_len hn hf g (leap p j) q (leap_lt hp (by unfold Hole3 at hh; omega)) h
      simp only [List.length_cons]
      omega
    · simp at h

theorem ixB {pg : Pg} {R : Rec} {H : Heap} {t : TV} {l : List Bool} (h : elB.View H t l) {i : Nat} {x : Bool} (hx : l[i]? = some x) : ∃ p, dkc pg R (.ixS 1 false) [t, .i .i64 (i : Int)] H = some (p, H) ∧ dkc pg R (.ld 1 false) [p] H = some (.b x, H) := by
  obtain ⟨p, h1, h2, _⟩ := h.ix (pg := pg) (R := R) hx .i64
  exact ⟨p, h1, h2.ld⟩

def BT (k : Nat) (S : Nat → Bool) : TV := .bs false 1 ((boolsOf k S).map elB.val)

theorem BT_view (k : Nat) (S : Nat → Bool) (H : Heap) : elB.View H (BT k S) (boolsOf k S) := .inr (.inl ⟨false, rfl⟩)

theorem boolsOf_get {k q : Nat} {S : Nat → Bool} (h : q < 2 ^ k) : (boolsOf k S)[q]? = some (S q) := by
  simp [boolsOf, h]

theorem l3_1_all {pg : Pg} (hF : Free pg) {k : Nat} (hk : k ≤ 15) {S : Nat → Bool} {p : Nat} (hp : p < 2 ^ k) (hS : S p = true) {L P R : TV} {H : Heap} : ∀ (d q : Nat), q < 2 ^ k → (q + d) % 2 ^ k = p →
    ∃ (q' : Nat) (e : Env), q' < 2 ^ k ∧ den pg l3_1 [(0, .i .i64 (k : Int)), (7, L), (8, P), (9, .i .i64 (q : Int)), (10, BT k S), (11, R)] H = some ⟨.exit 2, [(0, .i .i64 (k : Int)), (7, L), (8, P), (9, .i .i64 (q' : Int)), (10, BT k S), (11, R), (99, .b false)], H⟩ := by
  have hsh := shl_eq (k := .i64) (a := (k : Int)) (by omega) (by omega)
  simp only [Int.toNat_natCast] at hsh
  have h0 : 0 < 2 ^ k := Nat.two_pow_pos k
  have h16 : 2 ^ k ≤ 2 ^ 15 := Nat.pow_le_pow_right (by decide) hk
  have stop : ∀ q : Nat, q < 2 ^ k → S q = true → ∃ (q' : Nat) (e : Env), q' < 2 ^ k ∧ den pg l3_1 [(0, .i .i64 (k : Int)), (7, L), (8, P), (9, .i .i64 (q : Int)), (10, BT k S), (11, R)] H = some ⟨.exit 2, [(0, .i .i64 (k : Int)), (7, L), (8, P), (9, .i .i64 (q' : Int)), (10, BT k S), (11, R), (99, .b false)], H⟩ := by
    intro q hq hs
    obtain ⟨a, ha, hv⟩ := ixB (pg := pg) (R := den pg) (BT_view k S H) (boolsOf_get hq)
    rw [hs] at hv
    refine ⟨q, [], hq, ?_⟩
    rw [l3_1, den_loop]
    simp [b3_0, go_nil, go_last, go_past, go_pastR, go_blkN, go_blkR, go_blkE, go_skip, go_exit, go_ret, go_scope, go_seq, go_reg, go_block, go_cond, cnd_b, go_opsN, go_ops, go_opsG, grd_b, grd_u, stp_some, fin_some, up_some, cont_some, k_call, k_mv, k_pick, k_bin, k_eqB, k_eqA, k_not, k_neg, k_conv, k_alloc, k_boxA, k_boxI, k_boxB, k_boxN, k_boxBs, k_ldR, k_ldA, k_ldI, k_ldB, k_stA, k_stI, k_stB, ldC_some, stC_some, k_mkfn, k_slc, k_slcA, k_ixA, k_ixBs, k_ixSl, k_fadr, k_fld, k_ext, k_len, k_app, k_mn, k_mx, k_nilck, k_build, k_bsl1, k_bsl2, b_add, b_sub, b_mul, b_eql, b_neq, b_lss, b_leq, b_gtr, b_geq, Dn.setLast, Dn.getLast, evalO, mapO, Dn.get, putE, keepE, TV.one, TV.isAgg, Dn.part, ha, hv]
  intro d
  induction d with
  | zero =>
    intro q hq hd
    rw [Nat.add_zero, Nat.mod_eq_of_lt hq] at hd
    subst hd
    exact stop q hq hS
  | succ d ih =>
    intro q hq hd
    cases hs : S q with
    | true => exact stop q hq hs
    | false =>
      obtain ⟨a, ha, hv⟩ := ixB (pg := pg) (R := den pg) (BT_view k S H) (boolsOf_get hq)
      rw [hs] at hv
      have hq1 : (q + 1) % 2 ^ k < 2 ^ k := Nat.mod_lt _ h0
      obtain ⟨q', e, h1, h2⟩ := ih ((q + 1) % 2 ^ k) hq1 (by rw [Nat.mod_add_mod, ← hd]; congr 1; omega)
      refine ⟨q', e, h1, Eq.trans ?_ h2⟩
      have e1 : wrapR .i64 ((q : Int) + 1) = .i .i64 ((q : Int) + 1) := wrapR_i64 (by omega)
      have hrem : binI .rem (.i .i64 ((q : Int) + 1)) (.i .i64 ((2 ^ k : Nat) : Int)) = some (.i .i64 (((q + 1) % 2 ^ k : Nat) : Int)) := by
        rw [b_rem, if_neg (by omega), Int.tmod_eq_emod_of_nonneg (by omega)]
        simp
      generalize hw : (((q + 1) % 2 ^ k : Nat) : Int) = w at hrem ⊢
      generalize ((2 ^ k : Nat) : Int) = PW at hsh hrem
      rw [l3_1, den_loop]
      simp [l3_1, b3_0, go_nil, go_last, go_past, go_pastR, go_blkN, go_blkR, go_blkE, go_skip, go_exit, go_ret, go_scope, go_seq, go_reg, go_block, go_cond, cnd_b, go_opsN, go_ops, go_opsG, grd_b, grd_u, stp_some, fin_some, up_some, cont_some, k_call, k_mv, k_pick, k_bin, k_eqB, k_eqA, k_not, k_neg, k_conv, k_alloc, k_boxA, k_boxI, k_boxB, k_boxN, k_boxBs, k_ldR, k_ldA, k_ldI, k_ldB, k_stA, k_stI, k_stB, ldC_some, stC_some, k_mkfn, k_slc, k_slcA, k_ixA, k_ixBs, k_ixSl, k_fadr, k_fld, k_ext, k_len, k_app, k_mn, k_mx, k_nilck, k_build, k_bsl1, k_bsl2, b_add, b_sub, b_mul, b_eql, b_neq, b_lss, b_leq, b_gtr, b_geq, Dn.setLast, Dn.getLast, evalO, mapO, Dn.get, putE, keepE, TV.one, TV.isAgg, Dn.part, ha, hv, e1, hsh, hrem]

theorem l3_3_round {pg : Pg} (hF : Free pg) {k : Nat} {l : List Line} (hc : chk (k : Int) l = 0) (hk : k ≤ 15) {p q : Nat} (hp : p < 2 ^ k) (hq : q < 2 ^ k) {S : Nat → Bool} (hS : ∀ q, S q = true ↔ Reach l p q) {r : Int} (hr : 0 ≤ r ∧ r < 2) {H : Heap} :
    ∃ q' : Nat, q' < 2 ^ k ∧ den pg l3_3 [(0, .i .i64 (k : Int)), (7, LT false l), (8, .i .i64 (p : Int)), (9, .i .i64 (q : Int)), (10, BT k S), (11, .i .i64 r)] H =
      den pg l3_3 [(0, .i .i64 (k : Int)), (7, LT false l), (8, .i .i64 (p : Int)), (9, .i .i64 (q' : Int)), (10, BT k S), (11, .i .i64 (r + 1))] H := by
  obtain ⟨hn1, hn2, hl, hf⟩ := chk_ok hc
  have h16 : 2 ^ k ≤ 2 ^ 15 := Nat.pow_le_pow_right (by decide) hk
  have e0 : r < 2 := hr.2
  have e2 : wrapR .i64 (r + 1) = .i .i64 (r + 1) := wrapR_i64 (by omega)
  obtain ⟨ok, g, o1, o2, o3, f20⟩ := fn20 (pg := pg) hF hc (p := p) (q := q) (by omega) (by omega) (out_false hp) (out_false hq)
  have hok : ok = S q := by rw [Bool.eq_iff_iff, o1, hS]
  subst hok
  have c20 := fun H => Fn.call f20 (args := [.i .i64 (k : Int), LT false l, .i .i64 (p : Int), .i .i64 (q : Int)]) (ks := []) (fs := []) (cs := []) (H := H) (by simp [snapArgs, sn_i, LW_snap0])
  obtain ⟨a, ha, hv⟩ := ixB (pg := pg) (R := den pg) (BT_view k S H) (boolsOf_get hq)
  have hgl : g.length ≤ 16 := by
    cases hs : S q with
    | true => exact Nat.le_trans (playR_len hn2 hf g p q (by omega) (o2 hs)) (pegs_le p)
    | false => rw [o3 hs]; simp
  have hlg := LT_len false g
  have f21 := fn21 (pg := pg) hF hc (g := g) (by omega) (m := p) (by omega)
  have c21 := fun H => Fn.call f21 (args := [LT false l, .i .i64 (p : Int), LT false g]) (ks := []) (fs := []) (cs := []) (H := H) (by simp [snapArgs, sn_i, LW_snap0])
  obtain ⟨q', e, hq', h1⟩ := l3_1_all (pg := pg) (L := LT false l) (P := .i .i64 (p : Int)) (R := .i .i64 r) (H := H) hF hk hp ((hS p).2 .here) (2 ^ k - q + p) q hq (by
    rw [show q + (2 ^ k - q + p) = p + 2 ^ k by omega, Nat.add_mod_right, Nat.mod_eq_of_lt hp])
  have hg16 : ¬ (16 : Int) < (g.length : Int) := by omega
  refine ⟨q', hq', ?_⟩
  cases hs : S q with
  | true =>
    rw [hs] at c20 hv
    rw [o2 hs] at c21
    rw [l3_3, den_loop]
    simp [l3_3, b3_2, go_nil, go_last, go_past, go_pastR, go_blkN, go_blkR, go_blkE, go_skip, go_exit, go_ret, go_scope, go_seq, go_reg, go_block, go_cond, cnd_b, go_opsN, go_ops, go_opsG, grd_b, grd_u, stp_some, fin_some, up_some, cont_some, k_call, k_mv, k_pick, k_bin, k_eqB, k_eqA, k_not, k_neg, k_conv, k_alloc, k_boxA, k_boxI, k_boxB, k_boxN, k_boxBs, k_ldR, k_ldA, k_ldI, k_ldB, k_stA, k_stI, k_stB, ldC_some, stC_some, k_mkfn, k_slc, k_slcA, k_ixA, k_ixBs, k_ixSl, k_fadr, k_fld, k_ext, k_len, k_app, k_mn, k_mx, k_nilck, k_build, k_bsl1, k_bsl2, b_add, b_sub, b_mul, b_eql, b_neq, b_lss, b_leq, b_gtr, b_geq, Dn.setLast, Dn.getLast, evalO, mapO, Dn.get, putE, keepE, TV.one, TV.isAgg, Dn.part, e0, e2, c20, ha, hv, negb, hlg, hg16, c21, go_denK (c := l3_1) rfl, h1]
  | false =>
    rw [hs] at c20 hv
    have hg0 : g = [] := o3 hs
    subst hg0
    have hl0 : ∀ H, lenK 0 (LT false []) H = some 0 := LT_len false []
    rw [l3_3, den_loop]
    simp [l3_3, b3_2, go_nil, go_last, go_past, go_pastR, go_blkN, go_blkR, go_blkE, go_skip, go_exit, go_ret, go_scope, go_seq, go_reg, go_block, go_cond, cnd_b, go_opsN, go_ops, go_opsG, grd_b, grd_u, stp_some, fin_some, up_some, cont_some, k_call, k_mv, k_pick, k_bin, k_eqB, k_eqA, k_not, k_neg, k_conv, k_alloc, k_boxA, k_boxI, k_boxB, k_boxN, k_boxBs, k_ldR, k_ldA, k_ldI, k_ldB, k_stA, k_stI, k_stB, ldC_some, stC_some, k_mkfn, k_slc, k_slcA, k_ixA, k_ixBs, k_ixSl, k_fadr, k_fld, k_ext, k_len, k_app, k_mn, k_mx, k_nilck, k_build, k_bsl1, k_bsl2, b_add, b_sub, b_mul, b_eql, b_neq, b_lss, b_leq, b_gtr, b_geq, Dn.setLast, Dn.getLast, evalO, mapO, Dn.get, putE, keepE, TV.one, TV.isAgg, Dn.part, e0, e2, c20, ha, hv, negb, hl0, c21, go_denK (c := l3_1) rfl, h1]

theorem run3 {pg : Pg} (hF : Free pg) (h22 : Fn pg 22 [] (.b true)) (n : Int) (t : TV) (l : List Line) (P Q : Int) (ht : IsLines t l) :
    ∃ H, bodyRun pg (den pg) 3 [.i .i64 n, t, .agg [.i .i64 P, .i .i64 Q]] [] = some (.b true, H) := by
  obtain ⟨N, m, hN1, hN2, hm, hc, h18⟩ := call18 hF (n := n) (most := 12) (many := 20) (by omega) ht (by omega)
  simp only [Int.cast_ofNat_Int] at h18
  obtain ⟨k, rfl⟩ : ∃ k : Nat, N = (k : Int) := ⟨N.toNat, by omega⟩
  have hk : k ≤ 15 := by omega
  have hk16 : k ≤ 16 := by omega
  have e3 : ∀ v, wrapR .u64 v = .i .u64 (IntKind.wrap .u64 v) := fun _ => rfl
  have hcast : ((2 ^ k : Nat) : Int) = (2 : Int) ^ k := by simp
  have hr1 := posOf_range hk16 P
  have hr2 := posOf_range hk16 Q
  have h2 : ¬ (2 : Int) ^ k = 0 := by omega
  have hpos1 := posOf_i64 hk16 P
  have hpos2 := posOf_i64 hk16 Q
  have hsh := b_shlu hk16
  obtain ⟨p, hpe⟩ : ∃ p : Nat, posOf k P = (p : Int) := ⟨(posOf k P).toNat, by omega⟩
  obtain ⟨q, hqe⟩ : ∃ q : Nat, posOf k Q = (q : Int) := ⟨(posOf k Q).toNat, by omega⟩
  rw [hpe] at hr1 hpos1
  rw [hqe] at hr2 hpos2
  have hp : p < 2 ^ k := by omega
  have hq : q < 2 ^ k := by omega
  obtain ⟨S, hS, f19⟩ := fn19 (pg := pg) hF hc hk hp
  have hbt : TV.bs false 1 ((boolsOf k S).map elB.val) = BT k S := rfl
  rw [hbt] at f19
  have c19 := fun H => Fn.call f19 (args := [.i .i64 (k : Int), LT false m, .i .i64 (p : Int)]) (ks := []) (fs := []) (cs := []) (H := H) (by simp [snapArgs, sn_i, LW_snap0])
  obtain ⟨q1, hq1, s1⟩ := l3_3_round (pg := pg) hF hc hk hp hq hS (r := 0) (H := [.cells [.i .i64 P, .i .i64 Q] true]) (by omega)
  obtain ⟨q2, hq2, s2⟩ := l3_3_round (pg := pg) hF hc hk hp hq1 hS (r := 1) (H := [.cells [.i .i64 P, .i .i64 Q] true]) (by omega)
  have s3 : den pg l3_3 [(0, .i .i64 (k : Int)), (7, LT false m), (8, .i .i64 (p : Int)), (9, .i .i64 (q2 : Int)), (10, BT k S), (11, .i .i64 2)] [.cells [.i .i64 P, .i .i64 Q] true] = some ⟨.exit 0, [(0, .i .i64 (k : Int)), (7, LT false m), (8, .i .i64 (p : Int)), (9, .i .i64 (q2 : Int)), (10, BT k S), (11, .i .i64 2), (42, .b false)], [.cells [.i .i64 P, .i .i64 Q] true]⟩ := by
    rw [l3_3, den_loop]
    simp [b3_2, go_nil, go_last, go_past, go_pastR, go_blkN, go_blkR, go_blkE, go_skip, go_exit, go_ret, go_scope, go_seq, go_reg, go_block, go_cond, cnd_b, go_opsN, go_ops, go_opsG, grd_b, grd_u, stp_some, fin_some, up_some, cont_some, k_call, k_mv, k_pick, k_bin, k_eqB, k_eqA, k_not, k_neg, k_conv, k_alloc, k_boxA, k_boxI, k_boxB, k_boxN, k_boxBs, k_ldR, k_ldA, k_ldI, k_ldB, k_stA, k_stI, k_stB, ldC_some, stC_some, k_mkfn, k_slc, k_slcA, k_ixA, k_ixBs, k_ixSl, k_fadr, k_fld, k_ext, k_len, k_app, k_mn, k_mx, k_nilck, k_build, k_bsl1, k_bsl2, b_add, b_sub, b_mul, b_eql, b_neq, b_lss, b_leq, b_gtr, b_geq, Dn.setLast, Dn.getLast, evalO, mapO, Dn.get, putE, keepE, TV.one, TV.isAgg, Dn.part]
  have hr := s1.trans (s2.trans s3)
  have c22 := fun H => Fn.call h22 (args := []) (ks := []) (fs := []) (cs := []) (H := H) (by simp [snapArgs])
  refine ⟨[.cells [.i .i64 P, .i .i64 Q] true], bodyRun_of (o := ⟨.ret, [(6, .b true)], [.cells [.i .i64 P, .i .i64 Q] true]⟩) (vs := [.b true]) (d := d3) (by rw [hF.F]; rfl) rfl ?_ (by simp) rfl⟩
  rw [runC_go]
  simp [d3, c3, zipE, go_nil, go_last, go_past, go_pastR, go_blkN, go_blkR, go_blkE, go_skip, go_exit, go_ret, go_scope, go_seq, go_reg, go_block, go_cond, cnd_b, go_opsN, go_ops, go_opsG, grd_b, grd_u, stp_some, fin_some, up_some, cont_some, k_call, k_mv, k_pick, k_bin, k_eqB, k_eqA, k_not, k_neg, k_conv, k_alloc, k_boxA, k_boxI, k_boxB, k_boxN, k_boxBs, k_ldR, k_ldA, k_ldI, k_ldB, k_stA, k_stI, k_stB, ldC_some, stC_some, k_mkfn, k_slc, k_slcA, k_ixA, k_ixBs, k_ixSl, k_fadr, k_fld, k_ext, k_len, k_app, k_mn, k_mx, k_nilck, k_build, k_bsl1, k_bsl2, b_add, b_sub, b_mul, b_eql, b_neq, b_lss, b_leq, b_gtr, b_geq, Dn.setLast, Dn.getLast, evalO, mapO, Dn.get, putE, keepE, TV.one, TV.isAgg, Dn.part, h18, e3, hsh, b_rem, h2, hpos1, hpos2, c19, go_denK (c := l3_3) rfl, hr, c22]

end Go.Proofs.Try.Dn

