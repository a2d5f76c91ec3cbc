/-
  Dice: sums of both: the law run.
-/
import Derived.Test.YtijeefncmgjlpaaR10
import Derived.Test.YtijeefncmgjlpaaT7
set_option linter.unusedSimpArgs false
set_option linter.unusedVariables false

set_option maxHeartbeats 4000000
set_option maxRecDepth 100000
namespace Go.Proofs.Try.Dn
open Go.Dn

theorem wn_rangeM {m : Nat} {ls : List (List Int)} (hD : ∀ d ∈ ls, DieL m d) {j : Int} (h : wn ls j ≠ 0) : 0 ≤ j ∧ j ≤ m * ls.length := by
  have key : ∀ i, i ≤ ls.length → ∀ j, wn (ls.take i) j ≠ 0 → 0 ≤ j ∧ j ≤ m * i := by
    intro i
    induction i with
    | zero =>
      intro _ j hj
      rw [List.take_zero] at hj
      have : wn0 j ≠ 0 := hj
      unfold wn0 at this
      split at this
      · simp; omega
      · exact absurd rfl this
    | succ i ih =>
      intro hi j hj
      have e : ls.take (i + 1) = ls.take i ++ [ls[i]] := by rw [List.take_add_one, List.getElem?_eq_getElem (by omega)]; rfl
      rw [e, wn_snoc] at hj
      obtain ⟨f, hf, h0⟩ := wnF_ne.1 hj
      have h1 := ih (by omega) _ h0
      have h2 := (hD ls[i] (List.getElem_mem (by omega))).ok f hf
      rw [Int.natCast_succ, Int.mul_add]
      omega
  have := key ls.length (Nat.le_refl _) j (by rw [List.take_length]; exact h)
  exact this

theorem sumsL_len {m : Nat} (hm : m ≤ 60) {ls : List (List Int)} (hl : ls.length ≤ 6) (hD : ∀ d ∈ ls, DieL m d) : (sumsL ls).length ≤ m * ls.length + 1 := by
  rw [← sums_of hl (fun d hd => (hD d hd).mono (by omega)) (sumsE_cm (ls := ls) (N := m * ls.length + 1) fun j hj => ?_), sumsE_ent]
  · exact sumsN_len _ _
  · have := wn_rangeM hD hj
    rw [Int.natCast_succ, Int.natCast_mul]
    omega

theorem sumsL_mem {ls : List (List Int)} (hl : ls.length ≤ 6) (hD : ∀ d ∈ ls, DieL 60 d) {p : Int × Int} (hp : p ∈ sumsL ls) : 0 ≤ p.1 ∧ p.1 ≤ 360 ∧ p.2 = ((wn ls p.1 : Nat) : Int) ∧ wn ls p.1 ≠ 0 ∧ wn ls p.1 ≤ 262144 := by
  unfold sumsL sumsN at hp
  rw [List.mem_filterMap] at hp
  obtain ⟨s, hs, he⟩ := hp
  split at he
  · cases he
  · rename_i h0
    cases he
    have h1 := List.mem_range.1 hs
    have := wn_small hl (fun d hd => (hD d hd).le) ls.length (Nat.le_refl _) (s : Int)
    rw [List.take_length] at this
    exact ⟨by simp, by simp only; omega, rfl, h0, this⟩

theorem sumsL_rise (ls : List (List Int)) : (sumsL ls).Pairwise fun p q => p.1 < q.1 := by
  unfold sumsL sumsN
  rw [List.pairwise_filterMap]
  refine List.pairwise_lt_range.imp fun {a b} hab => ?_
  intro x hx y hy
  split at hx
  · cases hx
  · split at hy
    · cases hy
    · cases hx; cases hy; simp only; omega

theorem cellQ {pg : Pg} {H : Heap} {l : List (Int × Int)} {i : Nat} {x : Int × Int} (hx : l[i]? = some x) : ∃ p, dkc pg (den pg) (.ixS 2 true) [elQ.lt false l, .i .i64 (i : Int)] H = some (p, H) ∧
    (∃ q, dkc pg (den pg) (.ixA 2 1 false) [p, .i .i64 0] H = some (q, H) ∧ dkc pg (den pg) (.ld 1 false) [q] H = some (.i .i64 x.1, H)) ∧
    ∃ q, dkc pg (den pg) (.ixA 2 1 false) [p, .i .i64 1] H = some (q, H) ∧ dkc pg (den pg) (.ld 1 false) [q] H = some (.i .i64 x.2, H) := by
  obtain ⟨p, h1, h2, _⟩ := (ltV elQ false H l).ix (pg := pg) (R := den pg) hx .i64
  exact ⟨p, h1, h2.cell (j := 0) (v := .i .i64 x.1) rfl rfl .i64, h2.cell (j := 1) (v := .i .i64 x.2) rfl rfl .i64⟩

def tmQ (k : Int) (p q : Int × Int) : Nat := if p.1 + q.1 = k then p.2.toNat * q.2.toNat else 0
def inQ (k : Int) (p : Int × Int) (B : List (Int × Int)) : Nat := (B.map (tmQ k p)).sum
def ouQ (k : Int) (A B : List (Int × Int)) : Nat := (A.map fun p => inQ k p B).sum

def OkQ (A : List (Int × Int)) : Prop := ∀ p ∈ A, 0 ≤ p.1 ∧ p.1 ≤ 360 ∧ 1 ≤ p.2 ∧ p.2 ≤ 262144

theorem l11_1_all {pg : Pg} {O N S : TV} {A B C : List (Int × Int)} (hA : OkQ A) (hB : OkQ B) (hBl : B.length ≤ 1000) {i j : Nat} {c p : Int × Int} (hc : C[i]? = some c) (hp : A[j]? = some p) {H : Heap} : ∀ (r m : Nat) (acc : Nat), m + r = B.length → acc + inQ c.1 p (B.drop m) ≤ 262144 →
    ∃ e, den pg l11_1 [(7, elQ.lt false A), (9, elQ.lt false B), (11, O), (12, elQ.lt false C), (14, N), (16, S), (17, .i .i64 (i : Int)), (18, .i .i64 (acc : Int)), (19, .i .i64 (j : Int)), (20, .i .i64 (m : Int))] H =
      some ⟨.exit 4, (7, elQ.lt false A) :: (9, elQ.lt false B) :: (11, O) :: (12, elQ.lt false C) :: (14, N) :: (16, S) :: (17, .i .i64 (i : Int)) :: (18, .i .i64 ((acc + inQ c.1 p (B.drop m) : Nat) : Int)) :: (19, .i .i64 (j : Int)) :: e, H⟩
  | 0, m, acc, hm, hb => by
    obtain rfl : m = B.length := by omega
    have ln := lnE elQ B
    refine ⟨[(20, .i .i64 (B.length : Int)), (97, .b false)], ?_⟩
    rw [List.drop_length, show inQ c.1 p [] = 0 from rfl, Nat.add_zero]
    generalize elQ.lt false A = A0 at *
    generalize elQ.lt false B = B0 at *
    generalize elQ.lt false C = C0 at *
    generalize (B.length : Int) = M at *
    generalize (i : Int) = I at *
    generalize (j : Int) = J at *
    generalize (acc : Int) = Z at *
    rw [l11_1, den_loop]
    simp (disch := omega) [b11_0, go_nil, go_last, go_past, go_pastR, go_blkN, go_blkR, go_blkE, go_skip, go_exit, go_ret, go_scope, go_seq, go_reg, go_regd, go_opdN, go_opd, go_opdG, grdd_b, grdd_u, stpd_some, find_some, go_block, go_cond, cnd_b, go_opsN, go_ops, go_opsG, grd_b, grd_u, stp_some, fin_some, up_some, cont_some, k_call, k_mv, k_pick, k_bin, k_eqB, k_eqA, k_not, k_neg, k_conv, k_alloc, k_boxA, k_boxI, k_boxB, k_boxN, k_boxBs, k_ldR, k_ldA, k_ldI, k_ldB, k_stA, k_stI, k_stB, ldC_some, stC_some, k_mkfn, k_slc, k_slcA, k_ixA, k_ixBs, k_ixSl, k_fadr, k_fld, k_ext, k_len, k_app, k_mn, k_mx, k_nilck, k_build, k_bsl1, k_bsl2, b_add, b_sub, b_mul, b_eql, b_neq, b_lss, b_leq, b_gtr, b_geq, Dn.setLast, Dn.getLast, evalO, mapO, Dn.get, putE, keepE_nil, keepE_cons, kp_some, kp_none, TV.one, TV.isAgg, Dn.part, k_boxR, negb, at0, at1, at2, at3, at4, dT, dF, wrapR_i64, Option.bind_some, Option.map_some, ln]
  | r + 1, m, acc, hm, hb => by
    have ln := lnE elQ B
    obtain ⟨q, hq⟩ : ∃ q, B[m]? = some q := ⟨_, List.getElem?_eq_getElem (by omega)⟩
    have hdr : B.drop m = q :: B.drop (m + 1) := by
      have hlt : m < B.length := by omega
      rw [List.drop_eq_getElem_cons hlt]
      have := List.getElem?_eq_getElem hlt
      rw [hq] at this
      cases this; rfl
    have hin : inQ c.1 p (B.drop m) = tmQ c.1 p q + inQ c.1 p (B.drop (m + 1)) := by rw [hdr]; rfl
    rw [hin] at hb ⊢
    obtain ⟨pa, a1, ⟨pa0, a2, a3⟩, ⟨pa1, a4, a5⟩⟩ := cellQ (pg := pg) (H := H) hp
    obtain ⟨pb, b1, ⟨pb0, b2, b3⟩, ⟨pb1, b4, b5⟩⟩ := cellQ (pg := pg) (H := H) hq
    obtain ⟨pc, c1, ⟨pc0, c2, c3⟩, -⟩ := cellQ (pg := pg) (H := H) hc
    have op := hA p (List.mem_of_getElem? hp)
    have oq := hB q (List.mem_of_getElem? hq)
    have wa : wrapR .i64 (p.1 + q.1) = .i .i64 (p.1 + q.1) := wrapR_i64 (by omega)
    have w2 : wrapR .i64 ((m : Int) + 1) = .i .i64 ((m + 1 : Nat) : Int) := by rw [← Int.natCast_succ]; exact wrapR_i64 (by omega)
    have dd : decide ((m : Int) < (B.length : Int)) = true := dT (by omega)
    by_cases hk : p.1 + q.1 = c.1
    · have ht : tmQ c.1 p q = p.2.toNat * q.2.toNat := by unfold tmQ; rw [if_pos hk]
      rw [ht] at hb ⊢
      have wm : wrapR .i64 (p.2 * q.2) = .i .i64 (((p.2.toNat * q.2.toNat : Nat)) : Int) := by
        rw [show p.2 * q.2 = ((p.2.toNat * q.2.toNat : Nat) : Int) by rw [Int.natCast_mul]; congr 1 <;> omega]
        exact wrapR_i64 (by omega)
      have ws : wrapR .i64 ((acc : Int) + ((p.2.toNat * q.2.toNat : Nat) : Int)) = .i .i64 ((acc + p.2.toNat * q.2.toNat : Nat) : Int) := by
        rw [← Int.natCast_add]; exact wrapR_i64 (by omega)
      obtain ⟨e, r1⟩ := l11_1_all (pg := pg) (O := O) (N := N) (S := S) hA hB hBl hc hp (H := H) r (m + 1) (acc + p.2.toNat * q.2.toNat) (by omega) (by omega)
      rw [Nat.add_assoc] at r1
      refine ⟨e, Eq.trans ?_ r1⟩
      have wa : wrapR .i64 (p.1 + q.1) = .i .i64 c.1 := by rw [hk]; exact wrapR_i64 (by omega)
      clear hin hdr hb hk ht op oq r1
      generalize ((p.2.toNat * q.2.toNat : Nat) : Int) = PQ at *
      generalize ((acc + p.2.toNat * q.2.toNat : Nat) : Int) = Z2 at *
      generalize (acc : Int) = Z at *
      generalize c.1 = kc at *
      generalize elQ.lt false A = A0 at *
      generalize elQ.lt false B = B0 at *
      generalize elQ.lt false C = C0 at *
      generalize ((m + 1 : Nat) : Int) = m2 at *
      generalize (m : Int) = m at *
      generalize (B.length : Int) = M at *
      generalize (i : Int) = I at *
      generalize (j : Int) = J at *
      generalize p.1 = p1 at *
      generalize p.2 = p2 at *
      generalize q.1 = q1 at *
      generalize q.2 = q2 at *
      rw [l11_1, den_loop]
      simp (disch := omega) [l11_1, b11_0, go_nil, go_last, go_past, go_pastR, go_blkN, go_blkR, go_blkE, go_skip, go_exit, go_ret, go_scope, go_seq, go_reg, go_regd, go_opdN, go_opd, go_opdG, grdd_b, grdd_u, stpd_some, find_some, go_block, go_cond, cnd_b, go_opsN, go_ops, go_opsG, grd_b, grd_u, stp_some, fin_some, up_some, cont_some, k_call, k_mv, k_pick, k_bin, k_eqB, k_eqA, k_not, k_neg, k_conv, k_alloc, k_boxA, k_boxI, k_boxB, k_boxN, k_boxBs, k_ldR, k_ldA, k_ldI, k_ldB, k_stA, k_stI, k_stB, ldC_some, stC_some, k_mkfn, k_slc, k_slcA, k_ixA, k_ixBs, k_ixSl, k_fadr, k_fld, k_ext, k_len, k_app, k_mn, k_mx, k_nilck, k_build, k_bsl1, k_bsl2, b_add, b_sub, b_mul, b_eql, b_neq, b_lss, b_leq, b_gtr, b_geq, Dn.setLast, Dn.getLast, evalO, mapO, Dn.get, putE, keepE_nil, keepE_cons, kp_some, kp_none, TV.one, TV.isAgg, Dn.part, k_boxR, negb, at0, at1, at2, at3, at4, dT, dF, wrapR_i64, Option.bind_some, Option.map_some, ln, dd, a1, a2, a3, a4, a5, b1, b2, b3, b4, b5, c1, c2, c3, wa, wm, ws, w2]
    · have ht : tmQ c.1 p q = 0 := by unfold tmQ; rw [if_neg hk]
      rw [ht, Nat.zero_add] at hb ⊢
      obtain ⟨e, r1⟩ := l11_1_all (pg := pg) (O := O) (N := N) (S := S) hA hB hBl hc hp (H := H) r (m + 1) acc (by omega) (by omega)
      refine ⟨e, Eq.trans ?_ r1⟩
      obtain ⟨s, hs⟩ : ∃ s, s = p.1 + q.1 := ⟨_, rfl⟩
      have wa : wrapR .i64 (p.1 + q.1) = .i .i64 s := by rw [hs]; exact wrapR_i64 (by omega)
      have de : (s == c.1) = false := by rw [hs]; simpa using hk
      clear hin hdr hb hk ht op oq r1 hs
      generalize (acc : Int) = Z at *
      generalize c.1 = kc at *
      generalize elQ.lt false A = A0 at *
      generalize elQ.lt false B = B0 at *
      generalize elQ.lt false C = C0 at *
      generalize ((m + 1 : Nat) : Int) = m2 at *
      generalize (m : Int) = m at *
      generalize (B.length : Int) = M at *
      generalize (i : Int) = I at *
      generalize (j : Int) = J at *
      rw [l11_1, den_loop]
      simp (disch := omega) [l11_1, b11_0, go_nil, go_last, go_past, go_pastR, go_blkN, go_blkR, go_blkE, go_skip, go_exit, go_ret, go_scope, go_seq, go_reg, go_regd, go_opdN, go_opd, go_opdG, grdd_b, grdd_u, stpd_some, find_some, go_block, go_cond, cnd_b, go_opsN, go_ops, go_opsG, grd_b, grd_u, stp_some, fin_some, up_some, cont_some, k_call, k_mv, k_pick, k_bin, k_eqB, k_eqA, k_not, k_neg, k_conv, k_alloc, k_boxA, k_boxI, k_boxB, k_boxN, k_boxBs, k_ldR, k_ldA, k_ldI, k_ldB, k_stA, k_stI, k_stB, ldC_some, stC_some, k_mkfn, k_slc, k_slcA, k_ixA, k_ixBs, k_ixSl, k_fadr, k_fld, k_ext, k_len, k_app, k_mn, k_mx, k_nilck, k_build, k_bsl1, k_bsl2, b_add, b_sub, b_mul, b_eql, b_neq, b_lss, b_leq, b_gtr, b_geq, Dn.setLast, Dn.getLast, evalO, mapO, Dn.get, putE, keepE_nil, keepE_cons, kp_some, kp_none, TV.one, TV.isAgg, Dn.part, k_boxR, negb, at0, at1, at2, at3, at4, dT, dF, wrapR_i64, Option.bind_some, Option.map_some, ln, dd, a1, a2, a3, b1, b2, b3, c1, c2, c3, wa, de, w2]

theorem l11_3_all {pg : Pg} {O N S : TV} {A B C : List (Int × Int)} (hA : OkQ A) (hB : OkQ B) (hAl : A.length ≤ 1000) (hBl : B.length ≤ 1000) {i : Nat} {c : Int × Int} (hc : C[i]? = some c) {H : Heap} : ∀ (r j : Nat) (acc : Nat), j + r = A.length → acc + ouQ c.1 (A.drop j) B ≤ 262144 →
    ∃ e, den pg l11_3 [(7, elQ.lt false A), (9, elQ.lt false B), (11, O), (12, elQ.lt false C), (14, N), (16, S), (17, .i .i64 (i : Int)), (18, .i .i64 (acc : Int)), (19, .i .i64 (j : Int))] H =
      some ⟨.exit 2, (7, elQ.lt false A) :: (9, elQ.lt false B) :: (11, O) :: (12, elQ.lt false C) :: (14, N) :: (16, S) :: (17, .i .i64 (i : Int)) :: (18, .i .i64 ((acc + ouQ c.1 (A.drop j) B : Nat) : Int)) :: e, H⟩
  | 0, j, acc, hj, hb => by
    obtain rfl : j = A.length := by omega
    have ln := lnE elQ A
    refine ⟨[(19, .i .i64 (A.length : Int)), (91, .b false)], ?_⟩
    rw [List.drop_length, show ouQ c.1 [] B = 0 from rfl, Nat.add_zero]
    generalize elQ.lt false A = A0 at *
    generalize elQ.lt false B = B0 at *
    generalize elQ.lt false C = C0 at *
    generalize (A.length : Int) = M at *
    generalize (i : Int) = I at *
    generalize (acc : Int) = Z at *
    rw [l11_3, den_loop]
    simp (disch := omega) [b11_2, go_nil, go_last, go_past, go_pastR, go_blkN, go_blkR, go_blkE, go_skip, go_exit, go_ret, go_scope, go_seq, go_reg, go_regd, go_opdN, go_opd, go_opdG, grdd_b, grdd_u, stpd_some, find_some, go_block, go_cond, cnd_b, go_opsN, go_ops, go_opsG, grd_b, grd_u, stp_some, fin_some, up_some, cont_some, k_call, k_mv, k_pick, k_bin, k_eqB, k_eqA, k_not, k_neg, k_conv, k_alloc, k_boxA, k_boxI, k_boxB, k_boxN, k_boxBs, k_ldR, k_ldA, k_ldI, k_ldB, k_stA, k_stI, k_stB, ldC_some, stC_some, k_mkfn, k_slc, k_slcA, k_ixA, k_ixBs, k_ixSl, k_fadr, k_fld, k_ext, k_len, k_app, k_mn, k_mx, k_nilck, k_build, k_bsl1, k_bsl2, b_add, b_sub, b_mul, b_eql, b_neq, b_lss, b_leq, b_gtr, b_geq, Dn.setLast, Dn.getLast, evalO, mapO, Dn.get, putE, keepE_nil, keepE_cons, kp_some, kp_none, TV.one, TV.isAgg, Dn.part, k_boxR, negb, at0, at1, at2, at3, at4, dT, dF, wrapR_i64, Option.bind_some, Option.map_some, ln]
  | r + 1, j, acc, hj, hb => by
    have ln := lnE elQ A
    obtain ⟨p, hp⟩ : ∃ p, A[j]? = some p := ⟨_, List.getElem?_eq_getElem (by omega)⟩
    have hdr : A.drop j = p :: A.drop (j + 1) := by
      have hlt : j < A.length := by omega
      rw [List.drop_eq_getElem_cons hlt]
      have := List.getElem?_eq_getElem hlt
      rw [hp] at this
      cases this; rfl
    have hin : ouQ c.1 (A.drop j) B = inQ c.1 p B + ouQ c.1 (A.drop (j + 1)) B := by rw [hdr]; rfl
    rw [hin] at hb ⊢
    obtain ⟨e0, r0⟩ := l11_1_all (pg := pg) (O := O) (N := N) (S := S) hA hB hBl hc hp (H := H) B.length 0 acc (by omega) (by rw [List.drop_zero]; omega)
    rw [List.drop_zero] at r0
    obtain ⟨e, r1⟩ := l11_3_all (pg := pg) (O := O) (N := N) (S := S) hA hB hAl hBl hc (H := H) r (j + 1) (acc + inQ c.1 p B) (by omega) (by omega)
    rw [Nat.add_assoc] at r1
    refine ⟨e, Eq.trans ?_ r1⟩
    have w2 : wrapR .i64 ((j : Int) + 1) = .i .i64 ((j + 1 : Nat) : Int) := by rw [← Int.natCast_succ]; exact wrapR_i64 (by omega)
    have dd : decide ((j : Int) < (A.length : Int)) = true := dT (by omega)
    clear hin hdr hb r1
    simp only [Int.natCast_zero] at r0
    generalize ((acc + inQ c.1 p B : Nat) : Int) = Z2 at *
    generalize (acc : Int) = Z at *
    generalize elQ.lt false A = A0 at *
    generalize elQ.lt false B = B0 at *
    generalize elQ.lt false C = C0 at *
    generalize ((j + 1 : Nat) : Int) = j2 at *
    generalize (j : Int) = j at *
    generalize (A.length : Int) = M at *
    generalize (i : Int) = I at *
    rw [l11_3, den_loop]
    simp (disch := omega) [l11_3, b11_2, go_nil, go_last, go_past, go_pastR, go_blkN, go_blkR, go_blkE, go_skip, go_exit, go_ret, go_scope, go_seq, go_reg, go_regd, go_opdN, go_opd, go_opdG, grdd_b, grdd_u, stpd_some, find_some, go_block, go_cond, cnd_b, go_opsN, go_ops, go_opsG, grd_b, grd_u, stp_some, fin_some, up_some, cont_some, k_call, k_mv, k_pick, k_bin, k_eqB, k_eqA, k_not, k_neg, k_conv, k_alloc, k_boxA, k_boxI, k_boxB, k_boxN, k_boxBs, k_ldR, k_ldA, k_ldI, k_ldB, k_stA, k_stI, k_stB, ldC_some, stC_some, k_mkfn, k_slc, k_slcA, k_ixA, k_ixBs, k_ixSl, k_fadr, k_fld, k_ext, k_len, k_app, k_mn, k_mx, k_nilck, k_build, k_bsl1, k_bsl2, b_add, b_sub, b_mul, b_eql, b_neq, b_lss, b_leq, b_gtr, b_geq, Dn.setLast, Dn.getLast, evalO, mapO, Dn.get, putE, keepE_nil, keepE_cons, kp_some, kp_none, TV.one, TV.isAgg, Dn.part, k_boxR, negb, at0, at1, at2, at3, at4, dT, dF, wrapR_i64, Option.bind_some, Option.map_some, ln, dd, go_denK (c := l11_1) rfl, r0, w2]

theorem ownR_bor {H : Heap} {t : TV} {l : List (List Int)} (h : (elR false).Own H t l) : snap .borrow H 9 t = some ((elR true).lt true l) := by
  rcases h with ⟨rfl, rfl⟩ | ⟨h0, id, ag, c, rfl, h1, h2, h3⟩
  · rfl
  · have hm := snap_rows false false H 6 l
    rw [El.lt_ne h0, snap] at hm
    rw [snap]
    simp only [reduceCtorEq, if_false, h1]
    rw [if_pos ⟨by omega, .inr rfl⟩, List.drop_zero, h3, (elR false).elems_flat]
    exact hm

theorem l11_5_all {pg : Pg} (hF : Free pg) {O : TV} {xs ys : List (List Int)} {H : Heap} (hO : (elR false).Own H O (xs ++ ys)) (hx : xs.length ≤ 3) (hy : ys.length ≤ 3) (hX : ∀ d ∈ xs, DieL 20 d) (hY : ∀ d ∈ ys, DieL 20 d) (h0 : chkD (xs ++ ys) = 0) (hsum : ((sumsL (xs ++ ys)).map fun p => p.2.toNat).sum = lenP (xs ++ ys)) :
    ∀ (r i : Nat), i + r = (sumsL (xs ++ ys)).length →
    ∃ e, den pg l11_5 [(7, elQ.lt false (sumsL xs)), (9, elQ.lt false (sumsL ys)), (11, O), (12, elQ.lt false (sumsL (xs ++ ys))), (14, .i .i64 ((lenP (xs ++ ys) : Nat) : Int)), (16, .i .i64 (((((sumsL (xs ++ ys)).take i).map fun p => p.2.toNat).sum : Nat) : Int)), (17, .i .i64 (i : Int))] H =
      some ⟨.exit 0, (7, elQ.lt false (sumsL xs)) :: (9, elQ.lt false (sumsL ys)) :: (11, O) :: (12, elQ.lt false (sumsL (xs ++ ys))) :: (14, .i .i64 ((lenP (xs ++ ys) : Nat) : Int)) :: (16, .i .i64 ((lenP (xs ++ ys) : Nat) : Int)) :: e, H⟩
  | 0, i, hi => by
    obtain rfl : i = (sumsL (xs ++ ys)).length := by omega
    have ln := lnE elQ (sumsL (xs ++ ys))
    rw [List.take_length, hsum]
    refine ⟨[(17, .i .i64 ((sumsL (xs ++ ys)).length : Int)), (85, .b false)], ?_⟩
    generalize elQ.lt false (sumsL xs) = A0 at *
    generalize elQ.lt false (sumsL ys) = B0 at *
    generalize elQ.lt false (sumsL (xs ++ ys)) = C0 at *
    generalize ((sumsL (xs ++ ys)).length : Int) = M at *
    generalize ((lenP (xs ++ ys) : Nat) : Int) = P at *
    clear h0 hsum hO
    rw [l11_5, den_loop]
    simp (disch := omega) [b11_4, go_nil, go_last, go_past, go_pastR, go_blkN, go_blkR, go_blkE, go_skip, go_exit, go_ret, go_scope, go_seq, go_reg, go_regd, go_opdN, go_opd, go_opdG, grdd_b, grdd_u, stpd_some, find_some, go_block, go_cond, cnd_b, go_opsN, go_ops, go_opsG, grd_b, grd_u, stp_some, fin_some, up_some, cont_some, k_call, k_mv, k_pick, k_bin, k_eqB, k_eqA, k_not, k_neg, k_conv, k_alloc, k_boxA, k_boxI, k_boxB, k_boxN, k_boxBs, k_ldR, k_ldA, k_ldI, k_ldB, k_stA, k_stI, k_stB, ldC_some, stC_some, k_mkfn, k_slc, k_slcA, k_ixA, k_ixBs, k_ixSl, k_fadr, k_fld, k_ext, k_len, k_app, k_mn, k_mx, k_nilck, k_build, k_bsl1, k_bsl2, b_add, b_sub, b_mul, b_eql, b_neq, b_lss, b_leq, b_gtr, b_geq, Dn.setLast, Dn.getLast, evalO, mapO, Dn.get, putE, keepE_nil, keepE_cons, kp_some, kp_none, TV.one, TV.isAgg, Dn.part, k_boxR, negb, at0, at1, at2, at3, at4, dT, dF, wrapR_i64, Option.bind_some, Option.map_some, ln]
  | r + 1, i, hi => by
    have ln := lnE elQ (sumsL (xs ++ ys))
    have hBoth : ∀ d ∈ xs ++ ys, DieL 20 d := fun d hd => (List.mem_append.1 hd).elim (hX d) (hY d)
    have hb6 : (xs ++ ys).length ≤ 6 := by rw [List.length_append]; omega
    have okq : ∀ {ls : List (List Int)}, ls.length ≤ 6 → (∀ d ∈ ls, DieL 20 d) → OkQ (sumsL ls) := fun hl hD p hp => by
      have := sumsL_mem hl (fun d hd => (hD d hd).mono (by omega)) hp
      omega
    have hA := okq (by omega) hX
    have hB := okq (by omega) hY
    have hAl := sumsL_len (m := 20) (by omega) (by omega) hX
    have hBl := sumsL_len (m := 20) (by omega) (by omega) hY
    have hCl := sumsL_len (m := 20) (by omega) hb6 hBoth
    obtain ⟨c, hc⟩ : ∃ c, (sumsL (xs ++ ys))[i]? = some c := ⟨_, List.getElem?_eq_getElem (by omega)⟩
    have hcm := List.mem_of_getElem? hc
    obtain ⟨m1, m2, m3, m4, m5⟩ := sumsL_mem hb6 (fun d hd => (hBoth d hd).mono (by omega)) hcm
    have hcv := conv_wn (xs := xs) (ys := ys) (by omega) (by omega) (fun d hd => (hX d hd).mono (by omega)) (fun d hd => (hY d hd).mono (by omega)) c.1
    have hcv' : ouQ c.1 (sumsL xs) (sumsL ys) = wn (xs ++ ys) c.1 := hcv
    obtain ⟨e0, r0⟩ := l11_3_all (pg := pg) (O := O) (N := .i .i64 ((lenP (xs ++ ys) : Nat) : Int)) (S := .i .i64 (((((sumsL (xs ++ ys)).take i).map fun p => p.2.toNat).sum : Nat) : Int)) hA hB (by omega) (by omega) hc (H := H) (sumsL xs).length 0 0 (by omega) (by rw [List.drop_zero, hcv']; omega)
    rw [List.drop_zero, hcv', Nat.zero_add, ← m3] at r0
    have c47 := PFn.call (fn47 (pg := pg) hF (elR_SSV true true (xs ++ ys)) h0 c.1) (args := [O, .i .i64 c.1]) (ks := []) (fs := []) (cs := []) (H := H) (by simp [snapArgs, ownR_bor hO, sn_i])
    rw [← m3] at c47
    have htk : (((sumsL (xs ++ ys)).take (i + 1)).map fun p => p.2.toNat).sum = (((sumsL (xs ++ ys)).take i).map fun p => p.2.toNat).sum + c.2.toNat := by
      rw [List.take_add_one, hc]; simp
    have hle : (((sumsL (xs ++ ys)).take (i + 1)).map fun p => p.2.toNat).sum ≤ 262144 := by
      refine Nat.le_trans (sum_take _ _ _) ?_
      rw [hsum]
      exact lenP_le (fun d hd => (hBoth d hd).le) hb6
    obtain ⟨e, r1⟩ := l11_5_all (pg := pg) hF hO hx hy hX hY h0 hsum r (i + 1) (by omega)
    refine ⟨e, Eq.trans ?_ r1⟩
    have ws : wrapR .i64 ((((((sumsL (xs ++ ys)).take i).map fun p => p.2.toNat).sum : Nat) : Int) + c.2) = .i .i64 (((((sumsL (xs ++ ys)).take (i + 1)).map fun p => p.2.toNat).sum : Nat) : Int) := by
      rw [show (((((sumsL (xs ++ ys)).take i).map fun p => p.2.toNat).sum : Nat) : Int) + c.2 = (((((sumsL (xs ++ ys)).take (i + 1)).map fun p => p.2.toNat).sum : Nat) : Int) by rw [htk]; omega]
      exact wrapR_i64 (by omega)
    obtain ⟨pc, c1, ⟨pc0, c2, c3⟩, ⟨pc1, c4, c5⟩⟩ := cellQ (pg := pg) (H := H) hc
    have w2 : wrapR .i64 ((i : Int) + 1) = .i .i64 ((i + 1 : Nat) : Int) := by rw [← Int.natCast_succ]; exact wrapR_i64 (by omega)
    have dd : decide ((i : Int) < ((sumsL (xs ++ ys)).length : Int)) = true := dT (by omega)
    have d1 : decide (c.2 < 1) = false := by rw [decide_eq_false_iff_not]; omega
    simp only [Int.natCast_zero] at r0
    rcases Nat.eq_zero_or_pos i with hip | hip
    · have d2 : decide ((i : Int) > 0) = false := by rw [decide_eq_false_iff_not]; omega
      have d2' : decide (0 < (i : Int)) = false := by rw [decide_eq_false_iff_not]; omega
      clear hA hB hAl hBl hcv hcv' hle htk m3 m4 m5 okq r1 hi hc hcm hCl hip
      generalize (((((sumsL (xs ++ ys)).take (i + 1)).map fun p => p.2.toNat).sum : Nat) : Int) = S2 at *
      generalize (((((sumsL (xs ++ ys)).take i).map fun p => p.2.toNat).sum : Nat) : Int) = S1 at *
      generalize elQ.lt false (sumsL xs) = A0 at *
      generalize elQ.lt false (sumsL ys) = B0 at *
      generalize elQ.lt false (sumsL (xs ++ ys)) = C0 at *
      generalize ((sumsL (xs ++ ys)).length : Int) = M at *
      generalize ((lenP (xs ++ ys) : Nat) : Int) = P at *
      generalize ((i + 1 : Nat) : Int) = I2 at *
      generalize (i : Int) = I at *
      clear hsum h0 hO
      rw [l11_5, den_loop]
      simp (disch := omega) [l11_5, b11_4, go_nil, go_last, go_past, go_pastR, go_blkN, go_blkR, go_blkE, go_skip, go_exit, go_ret, go_scope, go_seq, go_reg, go_regd, go_opdN, go_opd, go_opdG, grdd_b, grdd_u, stpd_some, find_some, go_block, go_cond, cnd_b, go_opsN, go_ops, go_opsG, grd_b, grd_u, stp_some, fin_some, up_some, cont_some, k_call, k_mv, k_pick, k_bin, k_eqB, k_eqA, k_not, k_neg, k_conv, k_alloc, k_boxA, k_boxI, k_boxB, k_boxN, k_boxBs, k_ldR, k_ldA, k_ldI, k_ldB, k_stA, k_stI, k_stB, ldC_some, stC_some, k_mkfn, k_slc, k_slcA, k_ixA, k_ixBs, k_ixSl, k_fadr, k_fld, k_ext, k_len, k_app, k_mn, k_mx, k_nilck, k_build, k_bsl1, k_bsl2, b_add, b_sub, b_mul, b_eql, b_neq, b_lss, b_leq, b_gtr, b_geq, Dn.setLast, Dn.getLast, evalO, mapO, Dn.get, putE, keepE_nil, keepE_cons, kp_some, kp_none, TV.one, TV.isAgg, Dn.part, k_boxR, negb, at0, at1, at2, at3, at4, dT, dF, wrapR_i64, Option.bind_some, Option.map_some, ln, dd, go_denK (c := l11_3) rfl, r0, c47, c1, c2, c3, c4, c5, d1, d2, d2', ws, w2]
    · obtain ⟨z, hz⟩ : ∃ z, (sumsL (xs ++ ys))[i - 1]? = some z := ⟨_, List.getElem?_eq_getElem (by omega)⟩
      have hlt : z.1 < c.1 := by
        have := List.pairwise_iff_getElem.1 (sumsL_rise (xs ++ ys)) (i - 1) i (by omega) (by omega) (by omega)
        have e1 := List.getElem?_eq_getElem (l := sumsL (xs ++ ys)) (i := i - 1) (by omega)
        have e2 := List.getElem?_eq_getElem (l := sumsL (xs ++ ys)) (i := i) (by omega)
        rw [hz] at e1
        rw [hc] at e2
        rw [Option.some.inj e1, Option.some.inj e2]
        exact this
      obtain ⟨pz, z1, ⟨pz0, z2, z3⟩, -⟩ := cellQ (pg := pg) (H := H) hz
      have w3 : wrapR .i64 ((i : Int) - 1) = .i .i64 ((i - 1 : Nat) : Int) := by rw [show (i : Int) - 1 = ((i - 1 : Nat) : Int) by omega]; exact wrapR_i64 (by omega)
      have d2 : decide ((i : Int) > 0) = true := dT (by omega)
      have d2' : decide (0 < (i : Int)) = true := dT (by omega)
      have d3 : decide (z.1 ≥ c.1) = false := by rw [decide_eq_false_iff_not]; omega
      have d3' : decide (c.1 ≤ z.1) = false := by rw [decide_eq_false_iff_not]; omega
      clear hA hB hAl hBl hcv hcv' hle htk m3 m4 m5 okq r1 hi hc hcm hCl hz hlt hip
      generalize (((((sumsL (xs ++ ys)).take (i + 1)).map fun p => p.2.toNat).sum : Nat) : Int) = S2 at *
      generalize (((((sumsL (xs ++ ys)).take i).map fun p => p.2.toNat).sum : Nat) : Int) = S1 at *
      generalize elQ.lt false (sumsL xs) = A0 at *
      generalize elQ.lt false (sumsL ys) = B0 at *
      generalize elQ.lt false (sumsL (xs ++ ys)) = C0 at *
      generalize ((sumsL (xs ++ ys)).length : Int) = M at *
      generalize ((lenP (xs ++ ys) : Nat) : Int) = P at *
      generalize ((i + 1 : Nat) : Int) = I2 at *
      generalize ((i - 1 : Nat) : Int) = I0 at *
      generalize (i : Int) = I at *
      clear hsum h0 hO
      rw [l11_5, den_loop]
      simp (disch := omega) [l11_5, b11_4, go_nil, go_last, go_past, go_pastR, go_blkN, go_blkR, go_blkE, go_skip, go_exit, go_ret, go_scope, go_seq, go_reg, go_regd, go_opdN, go_opd, go_opdG, grdd_b, grdd_u, stpd_some, find_some, go_block, go_cond, cnd_b, go_opsN, go_ops, go_opsG, grd_b, grd_u, stp_some, fin_some, up_some, cont_some, k_call, k_mv, k_pick, k_bin, k_eqB, k_eqA, k_not, k_neg, k_conv, k_alloc, k_boxA, k_boxI, k_boxB, k_boxN, k_boxBs, k_ldR, k_ldA, k_ldI, k_ldB, k_stA, k_stI, k_stB, ldC_some, stC_some, k_mkfn, k_slc, k_slcA, k_ixA, k_ixBs, k_ixSl, k_fadr, k_fld, k_ext, k_len, k_app, k_mn, k_mx, k_nilck, k_build, k_bsl1, k_bsl2, b_add, b_sub, b_mul, b_eql, b_neq, b_lss, b_leq, b_gtr, b_geq, Dn.setLast, Dn.getLast, evalO, mapO, Dn.get, putE, keepE_nil, keepE_cons, kp_some, kp_none, TV.one, TV.isAgg, Dn.part, k_boxR, negb, at0, at1, at2, at3, at4, dT, dF, wrapR_i64, Option.bind_some, Option.map_some, ln, dd, go_denK (c := l11_3) rfl, r0, c47, c1, c2, c3, c4, c5, z1, z2, z3, d1, d2, d2', d3, d3', ws, w2, w3]

theorem run11 {pg : Pg} (hF : Free pg) (hQ96 : pg.Q 96 = some 2) (h23 : PFn pg 23 [] (.b true)) {S T : TV} {k l : List (List Int)} (hS : SSV S k) (hk : k.length ≤ 9223372036854775807) (hK : ∀ x ∈ k, x.length ≤ 9223372036854775807) (hT : SSV T l) (hl : l.length ≤ 9223372036854775807) (hL : ∀ x ∈ l, x.length ≤ 9223372036854775807) : ∃ H, bodyRun pg (den pg) 11 [S, T] [] = some (.b true, H) := by
  obtain ⟨xs, rx, c28⟩ := call28 (pg := pg) hF hS hk hK (many := 3) (most := 20) (by omega) (by omega) (by omega) []
  obtain ⟨ys, ry, c28'⟩ := call28 (pg := pg) hF hT hl hL (many := 3) (most := 20) (by omega) (by omega) (by omega) []
  have hx := rx.le
  have hy := ry.le
  have hX := rx.all
  have hY := ry.all
  have hBoth : ∀ d ∈ xs ++ ys, DieL 20 d := fun d hd => (List.mem_append.1 hd).elim (hX d) (hY d)
  have hb6 : (xs ++ ys).length ≤ 6 := by rw [List.length_append]; omega
  have hrow : Row 20 6 (xs ++ ys) := ⟨hBoth, by rw [List.length_append]; have := rx.pos; omega, hb6⟩
  have h0 := chk_row hrow (by omega) (by omega)
  have h0x := chk_row rx (by omega) (by omega)
  have h0y := chk_row ry (by omega) (by omega)
  have c43x := PFn.call (fn43 (pg := pg) hF hQ96 (elR_SSV true true xs) h0x) (args := [(elR false).lt false xs]) (ks := []) (fs := []) (cs := []) (H := []) (by have := snap_rows false false [] 6 xs; simp only [Nat.reduceAdd] at this; simp [snapArgs, this])
  have c43y := PFn.call (fn43 (pg := pg) hF hQ96 (elR_SSV true true ys) h0y) (args := [(elR false).lt false ys]) (ks := []) (fs := []) (cs := []) (H := []) (by have := snap_rows false false [] 6 ys; simp only [Nat.reduceAdd] at this; simp [snapArgs, this])
  obtain ⟨O1, H1, a1, a2, -⟩ := El.app (E := elR false) (bytes := 24) (H := []) (t := .nilsl) (l := []) (.inl ⟨rfl, rfl⟩) (ltV (elR false) false [] xs) (by simp; omega)
  rw [List.nil_append] at a2
  obtain ⟨O2, H2, b1, b2, -⟩ := El.app (E := elR false) (bytes := 24) a2 (ltV (elR false) false H1 ys) (by omega)
  have ap1 : dkc pg (den pg) (.app 1 false 24) [.nilsl, (elR false).lt false xs] [] = some (O1, H1) := a1
  have ap2 : dkc pg (den pg) (.app 1 false 24) [O1, (elR false).lt false ys] H1 = some (O2, H2) := b1
  have sb := ownR_bor b2
  have c43 := PFn.call (fn43 (pg := pg) hF hQ96 (elR_SSV true true (xs ++ ys)) h0) (args := [O2]) (ks := []) (fs := []) (cs := []) (H := H2) (by simp [snapArgs, sb])
  have c42 := PFn.call (fn42 (pg := pg) hF (elR_SSV true true (xs ++ ys)) h0) (args := [O2]) (ks := []) (fs := []) (cs := []) (H := H2) (by simp [snapArgs, sb])
  have c23 := PFn.call h23 (args := []) (ks := []) (fs := []) (cs := []) (H := H2) (by simp [snapArgs])
  have hsum : ((sumsL (xs ++ ys)).map fun p => p.2.toNat).sum = lenP (xs ++ ys) := by
    obtain ⟨mid, H', es, _, _, r3, r4, _⟩ := body58 (pg := pg) hF hb6 (fun d hd => (hBoth d hd).mono (by omega)) [] (Rd.ssv (elR_SSV true true (xs ++ ys)) _ _)
    rw [← r4, ← sums_of hb6 (fun d hd => (hBoth d hd).mono (by omega)) r3, List.map_map]
    unfold mass
    refine congrArg List.sum (List.map_congr_left fun q _ => ?_)
    show ((q.2.num : Int)).toNat = q.2.num
    omega
  obtain ⟨e, r⟩ := l11_5_all (pg := pg) hF b2 hx hy hX hY h0 hsum (sumsL (xs ++ ys)).length 0 (by omega)
  have s1 := sumsL_len (m := 20) (by omega) (by omega) hX
  have s2 := sumsL_len (m := 20) (by omega) (by omega) hY
  have s3 := sumsL_len (m := 20) (by omega) hb6 hBoth
  have d1 : decide (((sumsL xs).length : Int) > 70) = false := by rw [decide_eq_false_iff_not]; omega
  have d2 : decide (((sumsL ys).length : Int) > 70) = false := by rw [decide_eq_false_iff_not]; omega
  have d3 : decide (((sumsL (xs ++ ys)).length : Int) > 140) = false := by rw [decide_eq_false_iff_not]; omega
  have d1' : decide ((70 : Int) < ((sumsL xs).length : Int)) = false := by rw [decide_eq_false_iff_not]; omega
  have d2' : decide ((70 : Int) < ((sumsL ys).length : Int)) = false := by rw [decide_eq_false_iff_not]; omega
  have d3' : decide ((140 : Int) < ((sumsL (xs ++ ys)).length : Int)) = false := by rw [decide_eq_false_iff_not]; omega
  have l1 := lnE elQ (sumsL xs)
  have l2 := lnE elQ (sumsL ys)
  have l3 := lnE elQ (sumsL (xs ++ ys))
  refine ⟨H2, body_of (x := .ret) (e := [(4, .b true)]) (d := d11) (by rw [hF.F]; rfl) rfl ?_ (.inl rfl) rfl⟩
  rw [List.take_zero] at r
  simp only [List.map_nil, List.sum_nil, Int.natCast_zero, Int.cast_ofNat_Int] at r c28 c28'
  clear hS hT hX hY hBoth hb6 hrow h0 h0x h0y a1 a2 b1 b2 sb hsum s1 s2 s3 hx hy
  generalize elQ.lt false (sumsL xs) = A0 at *
  generalize elQ.lt false (sumsL ys) = B0 at *
  generalize elQ.lt false (sumsL (xs ++ ys)) = C0 at *
  generalize ((sumsL xs).length : Int) = n1 at *
  generalize ((sumsL ys).length : Int) = n2 at *
  generalize ((sumsL (xs ++ ys)).length : Int) = n3 at *
  generalize ((lenP (xs ++ ys) : Nat) : Int) = P at *
  generalize (elR false).lt false xs = X at *
  generalize (elR false).lt false ys = Y at *
  simp (maxSteps := 1000000) (disch := omega) [d11, c11, zipE, go_nil, go_last, go_past, go_pastR, go_blkN, go_blkR, go_blkE, go_skip, go_exit, go_ret, go_scope, go_seq, go_reg, go_regd, go_opdN, go_opd, go_opdG, grdd_b, grdd_u, stpd_some, find_some, go_block, go_cond, cnd_b, go_opsN, go_ops, go_opsG, grd_b, grd_u, stp_some, fin_some, up_some, cont_some, k_call, k_mv, k_pick, k_bin, k_eqB, k_eqA, k_not, k_neg, k_conv, k_alloc, k_boxA, k_boxI, k_boxB, k_boxN, k_boxBs, k_ldR, k_ldA, k_ldI, k_ldB, k_stA, k_stI, k_stB, ldC_some, stC_some, k_mkfn, k_slc, k_slcA, k_ixA, k_ixBs, k_ixSl, k_fadr, k_fld, k_ext, k_len, k_app, k_mn, k_mx, k_nilck, k_build, k_bsl1, k_bsl2, b_add, b_sub, b_mul, b_eql, b_neq, b_lss, b_leq, b_gtr, b_geq, Dn.setLast, Dn.getLast, evalO, mapO, Dn.get, putE, keepE_nil, keepE_cons, kp_some, kp_none, TV.one, TV.isAgg, Dn.part, k_boxR, negb, at0, at1, at2, at3, at4, dT, dF, wrapR_i64, Option.bind_some, Option.map_some, c28, c28', c43x, c43y, ap1, ap2, c43, c42, l1, l2, l3, d1, d2, d3, d1', d2', d3', go_denK (c := l11_5) rfl, r, c23]

end Go.Proofs.Try.Dn

