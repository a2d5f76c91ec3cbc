/-
  Knight: the reference's pairs.
-/
import Derived.Test.YtdjbpmgbaggfbaaDoorKfe
set_option linter.unusedSimpArgs false
set_option linter.unusedVariables false

namespace Go.Proofs.Tryd.Dn
open Go.Dn

/-! in plain terms -/
abbrev AugR := Bool × List Int × List Bool
def augL (g : List Int → List Bool → Nat → AugR) (P : Nat → Bool) (a : Nat) : List Nat → List Int → List Bool → AugR
  | [], W, S => (false, W, S)
  | b :: bs, W, S =>
    if (!(P b) || S.getD b false) = true then augL g P a bs W S
    else if W.getD b 0 < 0 then (true, W.set b a, S.set b true)
    else
      let o := g W (S.set b true) (W.getD b 0).toNat
      if o.1 = true then (true, o.2.1.set b a, o.2.2) else augL g P a bs o.2.1 o.2.2

def mayPair (c to a b : Nat) : Bool := to.testBit b && near c a b
def aug (r c to : Nat) : Nat → List Int → List Bool → Nat → AugR
  | 0, W, S, _ => (false, W, S)
  | f + 1, W, S, a => augL (aug r c to f) (mayPair c to a) a (List.range (r * c)) W S

def unsn (n : Nat) (S : List Bool) : Nat := (List.range n).countP fun b => !(S.getD b false)

theorem getD_setB {l : List Bool} {i j : Nat} {v d : Bool} (hi : i < l.length) : (l.set i v).getD j d = if j = i then v else l.getD j d := by
  simp only [List.getD_eq_getElem?_getD]
  by_cases h : j = i
  · subst h; rw [if_pos rfl, List.getElem?_set_self hi]; rfl
  · rw [if_neg h, List.getElem?_set_ne (by omega)]

theorem unsn_set {n b : Nat} {S : List Bool} (hl : S.length = n) (hb : b < n) (hf : S.getD b false = false) : unsn n (S.set b true) + 1 ≤ unsn n S := by
  unfold unsn
  refine cnt_lt (fun x hx hp => ?_) ⟨b, List.mem_range.2 hb, by rw [hf]; rfl, by rw [getD_setB (by omega), if_pos rfl]; rfl⟩
  rw [getD_setB (by omega)] at hp
  split at hp
  · cases hp
  · exact hp

theorem unsn_le (n : Nat) (S : List Bool) : unsn n S ≤ n := by
  unfold unsn
  exact Nat.le_trans List.countP_le_length (by simp)

/-- tables that point within the board -/
structure AIn (n : Nat) (W : List Int) (S : List Bool) : Prop where
  wl : W.length = n
  sl : S.length = n
  wb : ∀ b, b < n → W.getD b 0 < (n : Int)

theorem AIn.setW {n : Nat} {W : List Int} {S : List Bool} (h : AIn n W S) {b a : Nat} (hb : b < n) (ha : a < n) : AIn n (W.set b (a : Int)) S := by
  refine ⟨by simpa using h.wl, h.sl, fun x hx => ?_⟩
  rw [getD_set (by rw [h.wl]; exact hb)]
  split
  · omega
  · exact h.wb x hx
theorem AIn.setS {n : Nat} {W : List Int} {S : List Bool} (h : AIn n W S) (b : Nat) : AIn n W (S.set b true) := ⟨h.wl, by simpa using h.sl, h.wb⟩

theorem augL_ok {n a : Nat} (ha : a < n) {P : Nat → Bool} {g : List Int → List Bool → Nat → AugR} (hg : ∀ W S x, AIn n W S → x < n → AIn n (g W S x).2.1 (g W S x).2.2 ∧ unsn n (g W S x).2.2 ≤ unsn n S) : ∀ (bs : List Nat) (W : List Int) (S : List Bool), (∀ b, b ∈ bs → b < n) → AIn n W S →
    AIn n (augL g P a bs W S).2.1 (augL g P a bs W S).2.2 ∧ unsn n (augL g P a bs W S).2.2 ≤ unsn n S
  | [], W, S, _, h => ⟨h, Nat.le_refl _⟩
  | b :: bs, W, S, hb, h => by
    have hbn := hb b (by simp)
    have hb' : ∀ x, x ∈ bs → x < n := fun x hx => hb x (by simp [hx])
    rw [augL]
    split
    · exact augL_ok ha hg bs W S hb' h
    · rename_i hc
      have hf : S.getD b false = false := by
        cases hs : S.getD b false with
        | false => rfl
        | true => rw [hs] at hc; simp at hc
      have hu := unsn_set h.sl hbn hf
      split
      · exact ⟨(h.setW hbn ha).setS b, Nat.le_trans (Nat.le_succ _) hu⟩
      · rename_i hneg
        have hw := h.wb b hbn
        obtain ⟨o1, o2⟩ := hg W (S.set b true) (W.getD b 0).toNat (h.setS b) (by omega)
        simp only
        split
        · exact ⟨o1.setW hbn ha, Nat.le_trans o2 (Nat.le_trans (Nat.le_succ _) hu)⟩
        · obtain ⟨p1, p2⟩ := augL_ok ha hg bs _ _ hb' o1
          exact ⟨p1, Nat.le_trans p2 (Nat.le_trans o2 (Nat.le_trans (Nat.le_succ _) hu))⟩

theorem aug_ok {r c to : Nat} : ∀ (f : Nat) (W : List Int) (S : List Bool) (a : Nat), AIn (r * c) W S → a < r * c → AIn (r * c) (aug r c to f W S a).2.1 (aug r c to f W S a).2.2 ∧ unsn (r * c) (aug r c to f W S a).2.2 ≤ unsn (r * c) S
  | 0, W, S, a, h, _ => ⟨h, Nat.le_refl _⟩
  | f + 1, W, S, a, h, ha => by
    rw [aug]
    exact augL_ok ha (fun W S x h1 h2 => aug_ok f W S x h1 h2) _ W S (fun b hb => List.mem_range.1 hb) h

/-! in memory -/
structure AM (H : Heap) (WT ST : TV) (W : List Int) (S : List Bool) : Prop where
  w : elI.Arr H WT W
  s : elB.Arr H ST S
  ne : WT.idOf ≠ ST.idOf

def AugOk (pg : Pg) (r c to : Nat) (f : Nat) : Prop :=
  ∀ (H : Heap) (WT ST : TV) (W : List Int) (S : List Bool) (a : Nat), AM H WT ST W S → AIn (r * c) W S → a < r * c → unsn (r * c) S < f →
    ∃ H', bodyRun pg (den pg) 94 [.i .i64 (c : Int), .i .i64 (to : Int), .i .i64 (a : Int), WT, ST] H = some (.b (aug r c to f W S a).1, H') ∧ AM H' WT ST (aug r c to f W S a).2.1 (aug r c to f W S a).2.2 ∧ H'.length = H.length ∧ ∀ j, WT.idOf ≠ some j → ST.idOf ≠ some j → H'[j]? = H[j]?

theorem l94_all {pg : Pg} (hF : Free pg) {r c to f a : Nat} (h : Brd r c) (hto : to < 2 ^ (r * c)) (ha : a < r * c) (ih : AugOk pg r c to f) {WT ST : TV} : ∀ (d b : Nat) (H : Heap) (W : List Int) (S : List Bool) (o : AugR), b + d = r * c → AM H WT ST W S → AIn (r * c) W S → unsn (r * c) S < f + 1 → augL (aug r c to f) (mayPair c to a) a ((List.range (r * c)).drop b) W S = o →
    ∃ e H', AM H' WT ST o.2.1 o.2.2 ∧ H'.length = H.length ∧ (∀ j, WT.idOf ≠ some j → ST.idOf ≠ some j → H'[j]? = H[j]?) ∧
      ((o.1 = false ∧ den pg l94_1 [(0, .i .i64 (c : Int)), (1, .i .i64 (to : Int)), (2, .i .i64 (a : Int)), (3, WT), (4, ST), (11, .i .i64 (b : Int))] H = some ⟨.exit 0, e, H'⟩) ∨ (o.1 = true ∧ den pg l94_1 [(0, .i .i64 (c : Int)), (1, .i .i64 (to : Int)), (2, .i .i64 (a : Int)), (3, WT), (4, ST), (11, .i .i64 (b : Int))] H = some ⟨.ret, [(10, .b true)], H'⟩))
  | 0, b, H, W, S, o, hd, hM, hI, hu, ho => by
    obtain rfl : b = r * c := by omega
    rw [List.drop_eq_nil_of_le (by simp)] at ho
    have ho' : (false, W, S) = o := ho
    subst ho'
    have hlen := fun K => hM.w.view.lenK K
    rw [hI.wl] at hlen
    refine ⟨_, H, hM, rfl, fun _ _ _ => rfl, .inl ⟨rfl, by
      rw [l94_1, den_loop]
      simp (disch := omega) [b94_0, go_nil, go_last, go_past, go_pastR, go_blkN, go_blkR, go_blkE, go_skip, go_exit, go_ret, go_scope, go_seq, go_reg, go_regd, go_opdN, go_opd, go_opdG, grdd_b, grdd_u, stpd_some, find_some, go_block, go_cond, cnd_b, go_opsN, go_ops, go_opsG, grd_b, grd_u, stp_some, fin_some, up_some, cont_some, k_call, k_mv, k_pick, k_bin, k_eqB, k_eqA, k_not, k_neg, k_conv, k_alloc, k_boxA, k_boxI, k_boxB, k_boxN, k_boxBs, k_ldR, k_ldA, k_ldI, k_ldB, k_stA, k_stI, k_stB, ldC_some, stC_some, k_mkfn, k_slc, k_slcA, k_ixA, k_ixBs, k_ixSl, k_fadr, k_fld, k_ext, k_len, k_app, k_mn, k_mx, k_nilck, k_build, k_bsl1, k_bsl2, b_add, b_sub, b_mul, b_eql, b_neq, b_lss, b_leq, b_gtr, b_geq, Dn.setLast, Dn.getLast, evalO, mapO, Dn.get, putE, keepE_nil, keepE_cons, kp_some, kp_none, TV.one, TV.isAgg, Dn.part, k_boxR, negb, at0, at1, at2, at3, at4, dT, dF, wrapR_i64, Option.bind_some, Option.map_some, hlen]
      rfl⟩⟩
  | d + 1, b, H, W, S, o, hd, hM, hI, hu, ho => by
    have hn := h.n36
    have h63 := lt63 h
    have hb : b < r * c := by omega
    have hdr : (List.range (r * c)).drop b = b :: (List.range (r * c)).drop (b + 1) := by
      rw [List.drop_eq_getElem_cons (by simpa using hb)]
      simp
    rw [hdr, augL] at ho
    have hlen := fun K => hM.w.view.lenK K
    rw [hI.wl] at hlen
    have sh0 := Dn.shr_i (k := .i64) (m := to) (c := b) (by omega)
    have rm := tmod_nat (to / 2 ^ b) 2
    simp only [Int.cast_ofNat_Int] at rm
    have hbit : to.testBit b = decide (to / 2 ^ b % 2 = 1) := Nat.testBit_eq_decide_div_mod_eq
    have hm2 : to / 2 ^ b % 2 < 2 := Nat.mod_lt _ (by decide)
    have c62 := call62 (pg := pg) hF h.c1 h.c8 (a := a) (b := b) (by omega) (by omega) H
    have hSb : S[b]? = some (S.getD b false) := by rw [List.getD_eq_getElem?_getD, List.getElem?_eq_getElem (by rw [hI.sl]; exact hb)]; rfl
    obtain ⟨si, so, y0, y1, y2, y3⟩ := arrB (pg := pg) (R := den pg) hM.s hSb
    have hmp : mayPair c to a b = (to.testBit b && near c a b) := rfl
    -- the next round
    have next : ∀ o', augL (aug r c to f) (mayPair c to a) a ((List.range (r * c)).drop (b + 1)) W S = o' → _ := fun o' ho' => l94_all hF h hto ha ih d (b + 1) H W S o' (by omega) hM hI hu ho'
    by_cases hbt : to / 2 ^ b % 2 = 1
    · rw [dT hbt] at hbit
      rw [hbt] at rm
      cases hSv : S.getD b false with
      | true =>
        rw [hSv] at y2 ho
        rw [if_pos (by simp)] at ho
        obtain ⟨e, H', n1, n2, n3, n4⟩ := next o ho
        refine ⟨e, H', n1, n2, n3, n4.imp (fun ⟨u1, u2⟩ => ⟨u1, Eq.trans ?_ u2⟩) (fun ⟨u1, u2⟩ => ⟨u1, Eq.trans ?_ u2⟩)⟩
        · generalize to / 2 ^ b = D at *
          rw [l94_1, den_loop]
          simp (disch := omega) [l94_1, b94_0, go_nil, go_last, go_past, go_pastR, go_blkN, go_blkR, go_blkE, go_skip, go_exit, go_ret, go_scope, go_seq, go_reg, go_regd, go_opdN, go_opd, go_opdG, grdd_b, grdd_u, stpd_some, find_some, go_block, go_cond, cnd_b, go_opsN, go_ops, go_opsG, grd_b, grd_u, stp_some, fin_some, up_some, cont_some, k_call, k_mv, k_pick, k_bin, k_eqB, k_eqA, k_not, k_neg, k_conv, k_alloc, k_boxA, k_boxI, k_boxB, k_boxN, k_boxBs, k_ldR, k_ldA, k_ldI, k_ldB, k_stA, k_stI, k_stB, ldC_some, stC_some, k_mkfn, k_slc, k_slcA, k_ixA, k_ixBs, k_ixSl, k_fadr, k_fld, k_ext, k_len, k_app, k_mn, k_mx, k_nilck, k_build, k_bsl1, k_bsl2, b_add, b_sub, b_mul, b_eql, b_neq, b_lss, b_leq, b_gtr, b_geq, Dn.setLast, Dn.getLast, evalO, mapO, Dn.get, putE, keepE_nil, keepE_cons, kp_some, kp_none, TV.one, TV.isAgg, Dn.part, k_boxR, negb, at0, at1, at2, at3, at4, dT, dF, wrapR_i64, Option.bind_some, Option.map_some, hlen, sh0, b_rem, rm, y1, y2]
        · generalize to / 2 ^ b = D at *
          rw [l94_1, den_loop]
          simp (disch := omega) [l94_1, b94_0, go_nil, go_last, go_past, go_pastR, go_blkN, go_blkR, go_blkE, go_skip, go_exit, go_ret, go_scope, go_seq, go_reg, go_regd, go_opdN, go_opd, go_opdG, grdd_b, grdd_u, stpd_some, find_some, go_block, go_cond, cnd_b, go_opsN, go_ops, go_opsG, grd_b, grd_u, stp_some, fin_some, up_some, cont_some, k_call, k_mv, k_pick, k_bin, k_eqB, k_eqA, k_not, k_neg, k_conv, k_alloc, k_boxA, k_boxI, k_boxB, k_boxN, k_boxBs, k_ldR, k_ldA, k_ldI, k_ldB, k_stA, k_stI, k_stB, ldC_some, stC_some, k_mkfn, k_slc, k_slcA, k_ixA, k_ixBs, k_ixSl, k_fadr, k_fld, k_ext, k_len, k_app, k_mn, k_mx, k_nilck, k_build, k_bsl1, k_bsl2, b_add, b_sub, b_mul, b_eql, b_neq, b_lss, b_leq, b_gtr, b_geq, Dn.setLast, Dn.getLast, evalO, mapO, Dn.get, putE, keepE_nil, keepE_cons, kp_some, kp_none, TV.one, TV.isAgg, Dn.part, k_boxR, negb, at0, at1, at2, at3, at4, dT, dF, wrapR_i64, Option.bind_some, Option.map_some, hlen, sh0, b_rem, rm, y1, y2]
      | false =>
        rw [hSv] at y2
        cases hnr : near c a b with
        | false =>
          rw [hnr] at c62
          rw [hSv, hmp, hnr, Bool.and_false, if_pos (by simp)] at ho
          obtain ⟨e, H', n1, n2, n3, n4⟩ := next o ho
          refine ⟨e, H', n1, n2, n3, n4.imp (fun ⟨u1, u2⟩ => ⟨u1, Eq.trans ?_ u2⟩) (fun ⟨u1, u2⟩ => ⟨u1, Eq.trans ?_ u2⟩)⟩
          · generalize to / 2 ^ b = D at *
            rw [l94_1, den_loop]
            simp (disch := omega) [l94_1, b94_0, go_nil, go_last, go_past, go_pastR, go_blkN, go_blkR, go_blkE, go_skip, go_exit, go_ret, go_scope, go_seq, go_reg, go_regd, go_opdN, go_opd, go_opdG, grdd_b, grdd_u, stpd_some, find_some, go_block, go_cond, cnd_b, go_opsN, go_ops, go_opsG, grd_b, grd_u, stp_some, fin_some, up_some, cont_some, k_call, k_mv, k_pick, k_bin, k_eqB, k_eqA, k_not, k_neg, k_conv, k_alloc, k_boxA, k_boxI, k_boxB, k_boxN, k_boxBs, k_ldR, k_ldA, k_ldI, k_ldB, k_stA, k_stI, k_stB, ldC_some, stC_some, k_mkfn, k_slc, k_slcA, k_ixA, k_ixBs, k_ixSl, k_fadr, k_fld, k_ext, k_len, k_app, k_mn, k_mx, k_nilck, k_build, k_bsl1, k_bsl2, b_add, b_sub, b_mul, b_eql, b_neq, b_lss, b_leq, b_gtr, b_geq, Dn.setLast, Dn.getLast, evalO, mapO, Dn.get, putE, keepE_nil, keepE_cons, kp_some, kp_none, TV.one, TV.isAgg, Dn.part, k_boxR, negb, at0, at1, at2, at3, at4, dT, dF, wrapR_i64, Option.bind_some, Option.map_some, hlen, sh0, b_rem, rm, y1, y2, c62]
          · generalize to / 2 ^ b = D at *
            rw [l94_1, den_loop]
            simp (disch := omega) [l94_1, b94_0, go_nil, go_last, go_past, go_pastR, go_blkN, go_blkR, go_blkE, go_skip, go_exit, go_ret, go_scope, go_seq, go_reg, go_regd, go_opdN, go_opd, go_opdG, grdd_b, grdd_u, stpd_some, find_some, go_block, go_cond, cnd_b, go_opsN, go_ops, go_opsG, grd_b, grd_u, stp_some, fin_some, up_some, cont_some, k_call, k_mv, k_pick, k_bin, k_eqB, k_eqA, k_not, k_neg, k_conv, k_alloc, k_boxA, k_boxI, k_boxB, k_boxN, k_boxBs, k_ldR, k_ldA, k_ldI, k_ldB, k_stA, k_stI, k_stB, ldC_some, stC_some, k_mkfn, k_slc, k_slcA, k_ixA, k_ixBs, k_ixSl, k_fadr, k_fld, k_ext, k_len, k_app, k_mn, k_mx, k_nilck, k_build, k_bsl1, k_bsl2, b_add, b_sub, b_mul, b_eql, b_neq, b_lss, b_leq, b_gtr, b_geq, Dn.setLast, Dn.getLast, evalO, mapO, Dn.get, putE, keepE_nil, keepE_cons, kp_some, kp_none, TV.one, TV.isAgg, Dn.part, k_boxR, negb, at0, at1, at2, at3, at4, dT, dF, wrapR_i64, Option.bind_some, Option.map_some, hlen, sh0, b_rem, rm, y1, y2, c62]
        | true =>
          rw [hnr] at c62
          rw [hSv, hmp, hnr, hbit, if_neg (by simp)] at ho
          obtain ⟨H1, s1, s2, s3, s4⟩ := y3 true
          have hW1 : elI.Arr H1 WT W := hM.w.mono fun id hid => s4 id (fun he => hM.ne (by rw [he, hid]))
          have hM1 : AM H1 WT ST W (S.set b true) := ⟨hW1, s2, hM.ne⟩
          have hu1 := unsn_set hI.sl hb hSv
          obtain ⟨wi, wo, z0, z1, z2, z3⟩ := arrI (pg := pg) (R := den pg) hW1 (getD_some (l := W) (x := b) (by rw [hI.wl]; exact hb))
          have hwb := hI.wb b hb
          by_cases hneg : W.getD b 0 < 0
          · rw [if_pos hneg] at ho
            subst ho
            obtain ⟨H2, t1, t2, t3, t4⟩ := z3 (a : Int)
            have hM2 : AM H2 WT ST (W.set b (a : Int)) (S.set b true) := ⟨t2, s2.mono fun id hid => t4 id (fun he => hM.ne (by rw [he, hid])), hM.ne⟩
            refine ⟨[], H2, hM2, by omega, fun j j1 j2 => by rw [t4 j j1, s4 j j2], .inr ⟨rfl, ?_⟩⟩
            generalize to / 2 ^ b = D at *
            generalize W.getD b 0 = Y at *
            rw [l94_1, den_loop]
            simp (disch := omega) [b94_0, go_nil, go_last, go_past, go_pastR, go_blkN, go_blkR, go_blkE, go_skip, go_exit, go_ret, go_scope, go_seq, go_reg, go_regd, go_opdN, go_opd, go_opdG, grdd_b, grdd_u, stpd_some, find_some, go_block, go_cond, cnd_b, go_opsN, go_ops, go_opsG, grd_b, grd_u, stp_some, fin_some, up_some, cont_some, k_call, k_mv, k_pick, k_bin, k_eqB, k_eqA, k_not, k_neg, k_conv, k_alloc, k_boxA, k_boxI, k_boxB, k_boxN, k_boxBs, k_ldR, k_ldA, k_ldI, k_ldB, k_stA, k_stI, k_stB, ldC_some, stC_some, k_mkfn, k_slc, k_slcA, k_ixA, k_ixBs, k_ixSl, k_fadr, k_fld, k_ext, k_len, k_app, k_mn, k_mx, k_nilck, k_build, k_bsl1, k_bsl2, b_add, b_sub, b_mul, b_eql, b_neq, b_lss, b_leq, b_gtr, b_geq, Dn.setLast, Dn.getLast, evalO, mapO, Dn.get, putE, keepE_nil, keepE_cons, kp_some, kp_none, TV.one, TV.isAgg, Dn.part, k_boxR, negb, at0, at1, at2, at3, at4, dT, dF, wrapR_i64, Option.bind_some, Option.map_some, hlen, sh0, b_rem, rm, y1, y2, c62, s1, z1, z2, t1]
          · rw [if_neg hneg] at ho
            obtain ⟨m, hm⟩ : ∃ m : Nat, W.getD b 0 = (m : Int) := ⟨(W.getD b 0).toNat, by omega⟩
            rw [hm] at z2 hwb ho hneg
            rw [Int.toNat_natCast] at ho
            obtain ⟨H2, g1, g2, g3, g4⟩ := ih H1 WT ST W (S.set b true) m hM1 (hI.setS b) (by omega) (by omega)
            obtain ⟨k1, k2⟩ := aug_ok (to := to) f W (S.set b true) m (hI.setS b) (by omega)
            generalize aug r c to f W (S.set b true) m = oo at *
            obtain ⟨ok, W2, S2⟩ := oo
            have g1' : callRun pg (den pg) .sh [.fn 94 [] [], .i .i64 (c : Int), .i .i64 (to : Int), .i .i64 (m : Int), WT, ST] H1 = some (.b ok, H2) := by rw [sh_fn]; exact g1
            simp only at ho g2 k1 k2
            cases ok with
            | true =>
              rw [if_pos rfl] at ho
              subst ho
              obtain ⟨wi2, wo2, x0, x1, x2, x3⟩ := arrI (pg := pg) (R := den pg) g2.w (getD_some (l := W2) (x := b) (by rw [k1.wl]; exact hb))
              obtain ⟨H3, t1, t2, t3, t4⟩ := x3 (a : Int)
              have hM3 : AM H3 WT ST (W2.set b (a : Int)) S2 := ⟨t2, g2.s.mono fun id hid => t4 id (fun he => hM.ne (by rw [he, hid])), hM.ne⟩
              refine ⟨[], H3, hM3, by omega, fun j j1 j2 => by rw [t4 j j1, g4 j j1 j2, s4 j j2], .inr ⟨rfl, ?_⟩⟩
              generalize to / 2 ^ b = D at *
              rw [l94_1, den_loop]
              simp (disch := omega) [b94_0, go_nil, go_last, go_past, go_pastR, go_blkN, go_blkR, go_blkE, go_skip, go_exit, go_ret, go_scope, go_seq, go_reg, go_regd, go_opdN, go_opd, go_opdG, grdd_b, grdd_u, stpd_some, find_some, go_block, go_cond, cnd_b, go_opsN, go_ops, go_opsG, grd_b, grd_u, stp_some, fin_some, up_some, cont_some, k_call, k_mv, k_pick, k_bin, k_eqB, k_eqA, k_not, k_neg, k_conv, k_alloc, k_boxA, k_boxI, k_boxB, k_boxN, k_boxBs, k_ldR, k_ldA, k_ldI, k_ldB, k_stA, k_stI, k_stB, ldC_some, stC_some, k_mkfn, k_slc, k_slcA, k_ixA, k_ixBs, k_ixSl, k_fadr, k_fld, k_ext, k_len, k_app, k_mn, k_mx, k_nilck, k_build, k_bsl1, k_bsl2, b_add, b_sub, b_mul, b_eql, b_neq, b_lss, b_leq, b_gtr, b_geq, Dn.setLast, Dn.getLast, evalO, mapO, Dn.get, putE, keepE_nil, keepE_cons, kp_some, kp_none, TV.one, TV.isAgg, Dn.part, k_boxR, negb, at0, at1, at2, at3, at4, dT, dF, wrapR_i64, Option.bind_some, Option.map_some, hlen, sh0, b_rem, rm, y1, y2, c62, s1, z1, z2, g1', x1, t1]
            | false =>
              rw [if_neg (by simp)] at ho
              obtain ⟨e, H', n1, n2, n3, n4⟩ := l94_all hF h hto ha ih d (b + 1) H2 W2 S2 o (by omega) g2 k1 (by omega) ho
              refine ⟨e, H', n1, by omega, fun j j1 j2 => by rw [n3 j j1 j2, g4 j j1 j2, s4 j j2], n4.imp (fun ⟨u1, u2⟩ => ⟨u1, Eq.trans ?_ u2⟩) (fun ⟨u1, u2⟩ => ⟨u1, Eq.trans ?_ u2⟩)⟩
              · generalize to / 2 ^ b = D at *
                rw [l94_1, den_loop]
                simp (disch := omega) [l94_1, b94_0, go_nil, go_last, go_past, go_pastR, go_blkN, go_blkR, go_blkE, go_skip, go_exit, go_ret, go_scope, go_seq, go_reg, go_regd, go_opdN, go_opd, go_opdG, grdd_b, grdd_u, stpd_some, find_some, go_block, go_cond, cnd_b, go_opsN, go_ops, go_opsG, grd_b, grd_u, stp_some, fin_some, up_some, cont_some, k_call, k_mv, k_pick, k_bin, k_eqB, k_eqA, k_not, k_neg, k_conv, k_alloc, k_boxA, k_boxI, k_boxB, k_boxN, k_boxBs, k_ldR, k_ldA, k_ldI, k_ldB, k_stA, k_stI, k_stB, ldC_some, stC_some, k_mkfn, k_slc, k_slcA, k_ixA, k_ixBs, k_ixSl, k_fadr, k_fld, k_ext, k_len, k_app, k_mn, k_mx, k_nilck, k_build, k_bsl1, k_bsl2, b_add, b_sub, b_mul, b_eql, b_neq, b_lss, b_leq, b_gtr, b_geq, Dn.setLast, Dn.getLast, evalO, mapO, Dn.get, putE, keepE_nil, keepE_cons, kp_some, kp_none, TV.one, TV.isAgg, Dn.part, k_boxR, negb, at0, at1, at2, at3, at4, dT, dF, wrapR_i64, Option.bind_some, Option.map_some, hlen, sh0, b_rem, rm, y1, y2, c62, s1, z1, z2, g1']
              · generalize to / 2 ^ b = D at *
                rw [l94_1, den_loop]
                simp (disch := omega) [l94_1, b94_0, go_nil, go_last, go_past, go_pastR, go_blkN, go_blkR, go_blkE, go_skip, go_exit, go_ret, go_scope, go_seq, go_reg, go_regd, go_opdN, go_opd, go_opdG, grdd_b, grdd_u, stpd_some, find_some, go_block, go_cond, cnd_b, go_opsN, go_ops, go_opsG, grd_b, grd_u, stp_some, fin_some, up_some, cont_some, k_call, k_mv, k_pick, k_bin, k_eqB, k_eqA, k_not, k_neg, k_conv, k_alloc, k_boxA, k_boxI, k_boxB, k_boxN, k_boxBs, k_ldR, k_ldA, k_ldI, k_ldB, k_stA, k_stI, k_stB, ldC_some, stC_some, k_mkfn, k_slc, k_slcA, k_ixA, k_ixBs, k_ixSl, k_fadr, k_fld, k_ext, k_len, k_app, k_mn, k_mx, k_nilck, k_build, k_bsl1, k_bsl2, b_add, b_sub, b_mul, b_eql, b_neq, b_lss, b_leq, b_gtr, b_geq, Dn.setLast, Dn.getLast, evalO, mapO, Dn.get, putE, keepE_nil, keepE_cons, kp_some, kp_none, TV.one, TV.isAgg, Dn.part, k_boxR, negb, at0, at1, at2, at3, at4, dT, dF, wrapR_i64, Option.bind_some, Option.map_some, hlen, sh0, b_rem, rm, y1, y2, c62, s1, z1, z2, g1']
    · have hz : to / 2 ^ b % 2 = 0 := by omega
      rw [dF hbt] at hbit
      rw [hz] at rm
      rw [hmp, hbit, if_pos (by simp)] at ho
      obtain ⟨e, H', n1, n2, n3, n4⟩ := next o ho
      refine ⟨e, H', n1, n2, n3, n4.imp (fun ⟨u1, u2⟩ => ⟨u1, Eq.trans ?_ u2⟩) (fun ⟨u1, u2⟩ => ⟨u1, Eq.trans ?_ u2⟩)⟩
      · generalize to / 2 ^ b = D at *
        rw [l94_1, den_loop]
        simp (disch := omega) [l94_1, b94_0, go_nil, go_last, go_past, go_pastR, go_blkN, go_blkR, go_blkE, go_skip, go_exit, go_ret, go_scope, go_seq, go_reg, go_regd, go_opdN, go_opd, go_opdG, grdd_b, grdd_u, stpd_some, find_some, go_block, go_cond, cnd_b, go_opsN, go_ops, go_opsG, grd_b, grd_u, stp_some, fin_some, up_some, cont_some, k_call, k_mv, k_pick, k_bin, k_eqB, k_eqA, k_not, k_neg, k_conv, k_alloc, k_boxA, k_boxI, k_boxB, k_boxN, k_boxBs, k_ldR, k_ldA, k_ldI, k_ldB, k_stA, k_stI, k_stB, ldC_some, stC_some, k_mkfn, k_slc, k_slcA, k_ixA, k_ixBs, k_ixSl, k_fadr, k_fld, k_ext, k_len, k_app, k_mn, k_mx, k_nilck, k_build, k_bsl1, k_bsl2, b_add, b_sub, b_mul, b_eql, b_neq, b_lss, b_leq, b_gtr, b_geq, Dn.setLast, Dn.getLast, evalO, mapO, Dn.get, putE, keepE_nil, keepE_cons, kp_some, kp_none, TV.one, TV.isAgg, Dn.part, k_boxR, negb, at0, at1, at2, at3, at4, dT, dF, wrapR_i64, Option.bind_some, Option.map_some, hlen, sh0, b_rem, rm]
      · generalize to / 2 ^ b = D at *
        rw [l94_1, den_loop]
        simp (disch := omega) [l94_1, b94_0, go_nil, go_last, go_past, go_pastR, go_blkN, go_blkR, go_blkE, go_skip, go_exit, go_ret, go_scope, go_seq, go_reg, go_regd, go_opdN, go_opd, go_opdG, grdd_b, grdd_u, stpd_some, find_some, go_block, go_cond, cnd_b, go_opsN, go_ops, go_opsG, grd_b, grd_u, stp_some, fin_some, up_some, cont_some, k_call, k_mv, k_pick, k_bin, k_eqB, k_eqA, k_not, k_neg, k_conv, k_alloc, k_boxA, k_boxI, k_boxB, k_boxN, k_boxBs, k_ldR, k_ldA, k_ldI, k_ldB, k_stA, k_stI, k_stB, ldC_some, stC_some, k_mkfn, k_slc, k_slcA, k_ixA, k_ixBs, k_ixSl, k_fadr, k_fld, k_ext, k_len, k_app, k_mn, k_mx, k_nilck, k_build, k_bsl1, k_bsl2, b_add, b_sub, b_mul, b_eql, b_neq, b_lss, b_leq, b_gtr, b_geq, Dn.setLast, Dn.getLast, evalO, mapO, Dn.get, putE, keepE_nil, keepE_cons, kp_some, kp_none, TV.one, TV.isAgg, Dn.part, k_boxR, negb, at0, at1, at2, at3, at4, dT, dF, wrapR_i64, Option.bind_some, Option.map_some, hlen, sh0, b_rem, rm]

theorem body94 {pg : Pg} (hF : Free pg) {r c to : Nat} (h : Brd r c) (hto : to < 2 ^ (r * c)) : ∀ f, AugOk pg r c to f
  | 0 => fun H WT ST W S a _ _ _ hu => by omega
  | f + 1 => fun H WT ST W S a hM hI ha hu => by
    have ih := body94 hF h hto f
    obtain ⟨e, H', n1, n2, n3, n4⟩ := l94_all (pg := pg) hF h hto ha ih (WT := WT) (ST := ST) (r * c) 0 H W S _ (by omega) hM hI hu rfl
    rw [List.drop_zero] at n1 n4
    have ha' : aug r c to (f + 1) W S a = augL (aug r c to f) (mayPair c to a) a (List.range (r * c)) W S := rfl
    rw [ha']
    simp only [Int.natCast_zero] at n4
    refine ⟨H', ?_, n1, n2, n3⟩
    generalize augL (aug r c to f) (mayPair c to a) a (List.range (r * c)) W S = o at *
    rcases n4 with ⟨u1, u2⟩ | ⟨u1, u2⟩
    · rw [u1]
      refine body_ofs (x := .ret) (e := [(10, .b false)]) (vs := [.b false]) (d := d94) (by rw [hF.F]; rfl) rfl ?_ (.inl rfl) rfl
      simp (disch := omega) [d94, c94, zipE, go_nil, go_last, go_past, go_pastR, go_blkN, go_blkR, go_blkE, go_skip, go_exit, go_ret, go_scope, go_seq, go_reg, go_regd, go_opdN, go_opd, go_opdG, grdd_b, grdd_u, stpd_some, find_some, go_block, go_cond, cnd_b, go_opsN, go_ops, go_opsG, grd_b, grd_u, stp_some, fin_some, up_some, cont_some, k_call, k_mv, k_pick, k_bin, k_eqB, k_eqA, k_not, k_neg, k_conv, k_alloc, k_boxA, k_boxI, k_boxB, k_boxN, k_boxBs, k_ldR, k_ldA, k_ldI, k_ldB, k_stA, k_stI, k_stB, ldC_some, stC_some, k_mkfn, k_slc, k_slcA, k_ixA, k_ixBs, k_ixSl, k_fadr, k_fld, k_ext, k_len, k_app, k_mn, k_mx, k_nilck, k_build, k_bsl1, k_bsl2, b_add, b_sub, b_mul, b_eql, b_neq, b_lss, b_leq, b_gtr, b_geq, Dn.setLast, Dn.getLast, evalO, mapO, Dn.get, putE, keepE_nil, keepE_cons, kp_some, kp_none, TV.one, TV.isAgg, Dn.part, k_boxR, negb, at0, at1, at2, at3, at4, dT, dF, wrapR_i64, Option.bind_some, Option.map_some, go_denK (c := l94_1) rfl, u2]
    · rw [u1]
      refine body_ofs (x := .ret) (e := [(10, .b true)]) (vs := [.b true]) (d := d94) (by rw [hF.F]; rfl) rfl ?_ (.inl rfl) rfl
      simp (disch := omega) [d94, c94, zipE, go_nil, go_last, go_past, go_pastR, go_blkN, go_blkR, go_blkE, go_skip, go_exit, go_ret, go_scope, go_seq, go_reg, go_regd, go_opdN, go_opd, go_opdG, grdd_b, grdd_u, stpd_some, find_some, go_block, go_cond, cnd_b, go_opsN, go_ops, go_opsG, grd_b, grd_u, stp_some, fin_some, up_some, cont_some, k_call, k_mv, k_pick, k_bin, k_eqB, k_eqA, k_not, k_neg, k_conv, k_alloc, k_boxA, k_boxI, k_boxB, k_boxN, k_boxBs, k_ldR, k_ldA, k_ldI, k_ldB, k_stA, k_stI, k_stB, ldC_some, stC_some, k_mkfn, k_slc, k_slcA, k_ixA, k_ixBs, k_ixSl, k_fadr, k_fld, k_ext, k_len, k_app, k_mn, k_mx, k_nilck, k_build, k_bsl1, k_bsl2, b_add, b_sub, b_mul, b_eql, b_neq, b_lss, b_leq, b_gtr, b_geq, Dn.setLast, Dn.getLast, evalO, mapO, Dn.get, putE, keepE_nil, keepE_cons, kp_some, kp_none, TV.one, TV.isAgg, Dn.part, k_boxR, negb, at0, at1, at2, at3, at4, dT, dF, wrapR_i64, Option.bind_some, Option.map_some, go_denK (c := l94_1) rfl, u2]

end Go.Proofs.Tryd.Dn

/-
  Knight: the reference's number of pairs; whether it says that there is a tight set.
-/

namespace Go.Proofs.Tryd.Dn
open Go.Dn

/-- the pairs, square by square -/
def pairTo (r c frm to : Nat) : Nat → List Int × Nat
  | 0 => (List.replicate (r * c) (-1), 0)
  | a + 1 =>
    if frm.testBit a = true then
      let o := aug r c to 37 (pairTo r c frm to a).1 (List.replicate (r * c) false) a
      (o.2.1, (pairTo r c frm to a).2 + if o.1 = true then 1 else 0)
    else pairTo r c frm to a
/-- the greatest number of pairs of squares of one set and of another one -/
def pairN (r c frm to : Nat) : Nat := (pairTo r c frm to (r * c)).2

theorem aIn0 {n : Nat} {W : List Int} (h1 : W.length = n) (h2 : ∀ b, b < n → W.getD b 0 < (n : Int)) : AIn n W (List.replicate n false) := ⟨h1, by simp, h2⟩

theorem pairTo_ok {r c frm to : Nat} : ∀ a, a ≤ r * c → (pairTo r c frm to a).1.length = r * c ∧ (∀ b, b < r * c → (pairTo r c frm to a).1.getD b 0 < ((r * c : Nat) : Int)) ∧ (pairTo r c frm to a).2 ≤ a
  | 0, _ => by
    refine ⟨by simp [pairTo], fun b hb => ?_, Nat.le_refl _⟩
    show (List.replicate (r * c) (-1 : Int)).getD b 0 < _
    rw [List.getD_eq_getElem?_getD, List.getElem?_replicate, if_pos hb]
    show (-1 : Int) < _
    omega
  | a + 1, ha => by
    obtain ⟨h1, h2, h3⟩ := pairTo_ok (r := r) (c := c) (frm := frm) (to := to) a (by omega)
    rw [pairTo]
    split
    · obtain ⟨k1, _⟩ := aug_ok (to := to) 37 _ _ a (aIn0 h1 h2) (by omega)
      refine ⟨k1.wl, k1.wb, ?_⟩
      simp only
      split <;> omega
    · exact ⟨h1, h2, by omega⟩

theorem l66_1_all {pg : Pg} {r c : Nat} (h : Brd r c) {F T W : TV} : ∀ (d i : Nat) (H : Heap), i + d = r * c → elI.Arr H W (List.replicate i (-1) ++ List.replicate d 0) →
    ∃ e H', den pg l66_1 [(1, .i .i64 (c : Int)), (2, F), (3, T), (9, .i .i64 ((r * c : Nat) : Int)), (10, W), (11, .i .i64 (i : Int))] H = some ⟨.exit 0, e, H'⟩ ∧
      keepE [1, 2, 3, 9, 10] e = [(1, .i .i64 (c : Int)), (2, F), (3, T), (9, .i .i64 ((r * c : Nat) : Int)), (10, W)] ∧ elI.Arr H' W (List.replicate (r * c) (-1)) ∧ H'.length = H.length
  | 0, i, H, hd, hO => by
    obtain rfl : i = r * c := by omega
    have key : ∀ N : Int, ∃ e, den pg l66_1 [(1, .i .i64 (c : Int)), (2, F), (3, T), (9, .i .i64 N), (10, W), (11, .i .i64 N)] H = some ⟨.exit 0, e, H⟩ ∧ keepE [1, 2, 3, 9, 10] e = [(1, .i .i64 (c : Int)), (2, F), (3, T), (9, .i .i64 N), (10, W)] := fun N => ⟨_, by
      rw [l66_1, den_loop]
      simp (disch := omega) [b66_0, go_nil, go_last, go_past, go_pastR, go_blkN, go_blkR, go_blkE, go_skip, go_exit, go_ret, go_scope, go_seq, go_reg, go_regd, go_opdN, go_opd, go_opdG, grdd_b, grdd_u, stpd_some, find_some, go_block, go_cond, cnd_b, go_opsN, go_ops, go_opsG, grd_b, grd_u, stp_some, fin_some, up_some, cont_some, k_call, k_mv, k_pick, k_bin, k_eqB, k_eqA, k_not, k_neg, k_conv, k_alloc, k_boxA, k_boxI, k_boxB, k_boxN, k_boxBs, k_ldR, k_ldA, k_ldI, k_ldB, k_stA, k_stI, k_stB, ldC_some, stC_some, k_mkfn, k_slc, k_slcA, k_ixA, k_ixBs, k_ixSl, k_fadr, k_fld, k_ext, k_len, k_app, k_mn, k_mx, k_nilck, k_build, k_bsl1, k_bsl2, b_add, b_sub, b_mul, b_eql, b_neq, b_lss, b_leq, b_gtr, b_geq, Dn.setLast, Dn.getLast, evalO, mapO, Dn.get, putE, keepE_nil, keepE_cons, kp_some, kp_none, TV.one, TV.isAgg, Dn.part, k_boxR, negb, at0, at1, at2, at3, at4, dT, dF, wrapR_i64, Option.bind_some, Option.map_some]
      rfl, rfl⟩
    obtain ⟨e, k1, k2⟩ := key ((r * c : Nat) : Int)
    exact ⟨e, H, k1, k2, by simpa using hO, rfl⟩
  | d + 1, i, H, hd, hO => by
    have hn := h.n36
    obtain ⟨id, o, a0, a1, a2, a3⟩ := arrI (pg := pg) (R := den pg) hO (i := i) (x := 0) (by rw [List.getElem?_append_right (by simp)]; simp)
    obtain ⟨H1, s1, s2, s3, s4⟩ := a3 (-1)
    have hs : (List.replicate i (-1 : Int) ++ List.replicate (d + 1) 0).set i (-1) = List.replicate (i + 1) (-1) ++ List.replicate d 0 := by
      rw [List.set_append_right _ _ (by simp), List.length_replicate, Nat.sub_self, List.replicate_succ, List.set_cons_zero, List.replicate_succ']
      simp
    rw [hs] at s2
    obtain ⟨e, H', e1, e2, e3, e4⟩ := l66_1_all (pg := pg) h (F := F) (T := T) d (i + 1) H1 (by omega) s2
    have hlt : decide ((i : Int) < ((r * c : Nat) : Int)) = true := dT (by omega)
    refine ⟨e, H', Eq.trans ?_ e1, e2, e3, by omega⟩
    generalize ((r * c : Nat) : Int) = N at *
    rw [l66_1, den_loop]
    simp (disch := omega) [l66_1, b66_0, go_nil, go_last, go_past, go_pastR, go_blkN, go_blkR, go_blkE, go_skip, go_exit, go_ret, go_scope, go_seq, go_reg, go_regd, go_opdN, go_opd, go_opdG, grdd_b, grdd_u, stpd_some, find_some, go_block, go_cond, cnd_b, go_opsN, go_ops, go_opsG, grd_b, grd_u, stp_some, fin_some, up_some, cont_some, k_call, k_mv, k_pick, k_bin, k_eqB, k_eqA, k_not, k_neg, k_conv, k_alloc, k_boxA, k_boxI, k_boxB, k_boxN, k_boxBs, k_ldR, k_ldA, k_ldI, k_ldB, k_stA, k_stI, k_stB, ldC_some, stC_some, k_mkfn, k_slc, k_slcA, k_ixA, k_ixBs, k_ixSl, k_fadr, k_fld, k_ext, k_len, k_app, k_mn, k_mx, k_nilck, k_build, k_bsl1, k_bsl2, b_add, b_sub, b_mul, b_eql, b_neq, b_lss, b_leq, b_gtr, b_geq, Dn.setLast, Dn.getLast, evalO, mapO, Dn.get, putE, keepE_nil, keepE_cons, kp_some, kp_none, TV.one, TV.isAgg, Dn.part, k_boxR, negb, at0, at1, at2, at3, at4, dT, dF, wrapR_i64, Option.bind_some, Option.map_some, hlt, a1, s1]

theorem l66_3_all {pg : Pg} (hF : Free pg) {r c frm to : Nat} (h : Brd r c) (hfr : frm < 2 ^ (r * c)) (hto : to < 2 ^ (r * c)) {WT : TV} : ∀ (d a : Nat) (H : Heap), a + d = r * c → elI.Arr H WT (pairTo r c frm to a).1 →
    ∃ e H', den pg l66_3 [(1, .i .i64 (c : Int)), (2, .i .i64 (frm : Int)), (3, .i .i64 (to : Int)), (9, .i .i64 ((r * c : Nat) : Int)), (10, WT), (12, .i .i64 ((pairTo r c frm to a).2 : Int)), (13, .i .i64 (a : Int))] H = some ⟨.exit 2, e, H'⟩ ∧ Dn.get e 12 = some (.i .i64 (pairN r c frm to : Int))
  | 0, a, H, hd, hW => by
    obtain rfl : a = r * c := by omega
    have key : ∀ N P : Int, ∃ e, den pg l66_3 [(1, .i .i64 (c : Int)), (2, .i .i64 (frm : Int)), (3, .i .i64 (to : Int)), (9, .i .i64 N), (10, WT), (12, .i .i64 P), (13, .i .i64 N)] H = some ⟨.exit 2, e, H⟩ ∧ Dn.get e 12 = some (.i .i64 P) := fun N P => ⟨_, by
      rw [l66_3, den_loop]
      simp (disch := omega) [b66_2, go_nil, go_last, go_past, go_pastR, go_blkN, go_blkR, go_blkE, go_skip, go_exit, go_ret, go_scope, go_seq, go_reg, go_regd, go_opdN, go_opd, go_opdG, grdd_b, grdd_u, stpd_some, find_some, go_block, go_cond, cnd_b, go_opsN, go_ops, go_opsG, grd_b, grd_u, stp_some, fin_some, up_some, cont_some, k_call, k_mv, k_pick, k_bin, k_eqB, k_eqA, k_not, k_neg, k_conv, k_alloc, k_boxA, k_boxI, k_boxB, k_boxN, k_boxBs, k_ldR, k_ldA, k_ldI, k_ldB, k_stA, k_stI, k_stB, ldC_some, stC_some, k_mkfn, k_slc, k_slcA, k_ixA, k_ixBs, k_ixSl, k_fadr, k_fld, k_ext, k_len, k_app, k_mn, k_mx, k_nilck, k_build, k_bsl1, k_bsl2, b_add, b_sub, b_mul, b_eql, b_neq, b_lss, b_leq, b_gtr, b_geq, Dn.setLast, Dn.getLast, evalO, mapO, Dn.get, putE, keepE_nil, keepE_cons, kp_some, kp_none, TV.one, TV.isAgg, Dn.part, k_boxR, negb, at0, at1, at2, at3, at4, dT, dF, wrapR_i64, Option.bind_some, Option.map_some]
      rfl, rfl⟩
    obtain ⟨e, k1, k2⟩ := key ((r * c : Nat) : Int) ((pairTo r c frm to (r * c)).2 : Int)
    exact ⟨e, H, k1, k2⟩
  | d + 1, a, H, hd, hW => by
    have hn := h.n36
    have h63 := lt63 h
    have ha : a < r * c := by omega
    have hlt : decide ((a : Int) < ((r * c : Nat) : Int)) = true := dT (by omega)
    have sh0 := Dn.shr_i (k := .i64) (m := frm) (c := a) (by omega)
    have rm := tmod_nat (frm / 2 ^ a) 2
    simp only [Int.cast_ofNat_Int] at rm
    have hbit : frm.testBit a = decide (frm / 2 ^ a % 2 = 1) := Nat.testBit_eq_decide_div_mod_eq
    obtain ⟨k1, k2, k3⟩ := pairTo_ok (frm := frm) (to := to) a (Nat.le_of_lt ha)
    have hp : pairTo r c frm to (a + 1) = if frm.testBit a = true then ((aug r c to 37 (pairTo r c frm to a).1 (List.replicate (r * c) false) a).2.1, (pairTo r c frm to a).2 + if (aug r c to 37 (pairTo r c frm to a).1 (List.replicate (r * c) false) a).1 = true then 1 else 0) else pairTo r c frm to a := rfl
    have ih := l66_3_all (pg := pg) hF h hfr hto (WT := WT) d (a + 1)
    by_cases hb : frm / 2 ^ a % 2 = 1
    · rw [dT hb] at hbit
      rw [hb] at rm
      rw [if_pos hbit] at hp
      rw [hp] at ih
      have hmk := k_mksl (pg := pg) (R := den pg) [.b false] false 1 .i64 .i64 (r * c) H (by omega) (by omega)
      have harr := El.arr_mksl elB H false (r * c)
      obtain ⟨H0, hH0⟩ : ∃ H0 : Heap, H0 = H ++ [.cells (repl (elB.enc false) (r * c)) false] := ⟨_, rfl⟩
      obtain ⟨ST, hST⟩ : ∃ ST : TV, ST = .sl H.length 0 1 false (r * c) (some (r * c)) := ⟨_, rfl⟩
      have hmk' : dkc pg (den pg) (.mksl [.b false] false 1) [.i .i64 ((r * c : Nat) : Int), .i .i64 ((r * c : Nat) : Int)] H = some (ST, H0) := by rw [hST, hH0]; exact hmk
      have harr' : elB.Arr H0 ST (List.replicate (r * c) false) := by rw [hST, hH0]; exact harr
      obtain ⟨wi, w1, w2⟩ := Arr_id hW
      have hSid : ST.idOf = some H.length := by rw [hST]; rfl
      have hM : AM H0 WT ST (pairTo r c frm to a).1 (List.replicate (r * c) false) := ⟨hW.mono fun id hid => by rw [w1] at hid; cases hid; rw [hH0, List.getElem?_append_left w2], harr', by rw [w1, hSid]; intro he; have : wi = H.length := Option.some.inj he; omega⟩
      obtain ⟨H2, g1, g2, g3, g4⟩ := body94 (pg := pg) hF h hto 37 H0 WT ST _ _ a hM (aIn0 k1 k2) ha (by have := unsn_le (r * c) (List.replicate (r * c) false); omega)
      generalize pairTo r c frm to a = pt at *
      generalize aug r c to 37 pt.1 (List.replicate (r * c) false) a = oo at *
      obtain ⟨ok, W2, S2⟩ := oo
      have g1' : callRun pg (den pg) .sh [.fn 94 [] [], .i .i64 (c : Int), .i .i64 (to : Int), .i .i64 (a : Int), WT, ST] H0 = some (.b ok, H2) := by rw [sh_fn]; exact g1
      obtain ⟨e, H', e1, e2⟩ := ih H2 (by omega) g2.w
      refine ⟨e, H', Eq.trans ?_ e1, e2⟩
      obtain ⟨pW, pC⟩ := pt
      simp only at k3
      cases ok with
      | true =>
        have w1c : wrapR .i64 ((pC : Int) + 1) = .i .i64 ((pC + 1 : Nat) : Int) := by rw [show (pC : Int) + 1 = ((pC + 1 : Nat) : Int) by omega]; exact wrapR_i64 (by omega)
        simp only [if_true]
        generalize ((pC + 1 : Nat) : Int) = PC1 at *
        generalize frm / 2 ^ a = D at *
        generalize ((r * c : Nat) : Int) = N at *
        rw [l66_3, den_loop]
        simp (disch := omega) [l66_3, b66_2, go_nil, go_last, go_past, go_pastR, go_blkN, go_blkR, go_blkE, go_skip, go_exit, go_ret, go_scope, go_seq, go_reg, go_regd, go_opdN, go_opd, go_opdG, grdd_b, grdd_u, stpd_some, find_some, go_block, go_cond, cnd_b, go_opsN, go_ops, go_opsG, grd_b, grd_u, stp_some, fin_some, up_some, cont_some, k_call, k_mv, k_pick, k_bin, k_eqB, k_eqA, k_not, k_neg, k_conv, k_alloc, k_boxA, k_boxI, k_boxB, k_boxN, k_boxBs, k_ldR, k_ldA, k_ldI, k_ldB, k_stA, k_stI, k_stB, ldC_some, stC_some, k_mkfn, k_slc, k_slcA, k_ixA, k_ixBs, k_ixSl, k_fadr, k_fld, k_ext, k_len, k_app, k_mn, k_mx, k_nilck, k_build, k_bsl1, k_bsl2, b_add, b_sub, b_mul, b_eql, b_neq, b_lss, b_leq, b_gtr, b_geq, Dn.setLast, Dn.getLast, evalO, mapO, Dn.get, putE, keepE_nil, keepE_cons, kp_some, kp_none, TV.one, TV.isAgg, Dn.part, k_boxR, negb, at0, at1, at2, at3, at4, dT, dF, wrapR_i64, Option.bind_some, Option.map_some, hlt, sh0, b_rem, rm, hmk', g1', w1c]
      | false =>
        simp only [Bool.false_eq_true, if_false, Nat.add_zero]
        generalize frm / 2 ^ a = D at *
        generalize ((r * c : Nat) : Int) = N at *
        rw [l66_3, den_loop]
        simp (disch := omega) [l66_3, b66_2, go_nil, go_last, go_past, go_pastR, go_blkN, go_blkR, go_blkE, go_skip, go_exit, go_ret, go_scope, go_seq, go_reg, go_regd, go_opdN, go_opd, go_opdG, grdd_b, grdd_u, stpd_some, find_some, go_block, go_cond, cnd_b, go_opsN, go_ops, go_opsG, grd_b, grd_u, stp_some, fin_some, up_some, cont_some, k_call, k_mv, k_pick, k_bin, k_eqB, k_eqA, k_not, k_neg, k_conv, k_alloc, k_boxA, k_boxI, k_boxB, k_boxN, k_boxBs, k_ldR, k_ldA, k_ldI, k_ldB, k_stA, k_stI, k_stB, ldC_some, stC_some, k_mkfn, k_slc, k_slcA, k_ixA, k_ixBs, k_ixSl, k_fadr, k_fld, k_ext, k_len, k_app, k_mn, k_mx, k_nilck, k_build, k_bsl1, k_bsl2, b_add, b_sub, b_mul, b_eql, b_neq, b_lss, b_leq, b_gtr, b_geq, Dn.setLast, Dn.getLast, evalO, mapO, Dn.get, putE, keepE_nil, keepE_cons, kp_some, kp_none, TV.one, TV.isAgg, Dn.part, k_boxR, negb, at0, at1, at2, at3, at4, dT, dF, wrapR_i64, Option.bind_some, Option.map_some, hlt, sh0, b_rem, rm, hmk', g1']
    · have hz : frm / 2 ^ a % 2 = 0 := by have := Nat.mod_lt (frm / 2 ^ a) (show 0 < 2 by decide); omega
      rw [dF hb] at hbit
      rw [hz] at rm
      rw [hbit, if_neg (by simp)] at hp
      rw [hp] at ih
      obtain ⟨e, H', e1, e2⟩ := ih H (by omega) hW
      refine ⟨e, H', Eq.trans ?_ e1, e2⟩
      generalize frm / 2 ^ a = D at *
      generalize ((pairTo r c frm to a).2 : Int) = PC at *
      generalize ((r * c : Nat) : Int) = N at *
      rw [l66_3, den_loop]
      simp (disch := omega) [l66_3, b66_2, go_nil, go_last, go_past, go_pastR, go_blkN, go_blkR, go_blkE, go_skip, go_exit, go_ret, go_scope, go_seq, go_reg, go_regd, go_opdN, go_opd, go_opdG, grdd_b, grdd_u, stpd_some, find_some, go_block, go_cond, cnd_b, go_opsN, go_ops, go_opsG, grd_b, grd_u, stp_some, fin_some, up_some, cont_some, k_call, k_mv, k_pick, k_bin, k_eqB, k_eqA, k_not, k_neg, k_conv, k_alloc, k_boxA, k_boxI, k_boxB, k_boxN, k_boxBs, k_ldR, k_ldA, k_ldI, k_ldB, k_stA, k_stI, k_stB, ldC_some, stC_some, k_mkfn, k_slc, k_slcA, k_ixA, k_ixBs, k_ixSl, k_fadr, k_fld, k_ext, k_len, k_app, k_mn, k_mx, k_nilck, k_build, k_bsl1, k_bsl2, b_add, b_sub, b_mul, b_eql, b_neq, b_lss, b_leq, b_gtr, b_geq, Dn.setLast, Dn.getLast, evalO, mapO, Dn.get, putE, keepE_nil, keepE_cons, kp_some, kp_none, TV.one, TV.isAgg, Dn.part, k_boxR, negb, at0, at1, at2, at3, at4, dT, dF, wrapR_i64, Option.bind_some, Option.map_some, hlt, sh0, b_rem, rm]

theorem fn66 {pg : Pg} (hF : Free pg) {r c frm to : Nat} (h : Brd r c) (hfr : frm < 2 ^ (r * c)) (hto : to < 2 ^ (r * c)) : PFn pg 66 [.i .i64 (r : Int), .i .i64 (c : Int), .i .i64 (frm : Int), .i .i64 (to : Int)] (.i .i64 (pairN r c frm to : Int)) := by
  have hn := h.n36
  obtain ⟨hcast, wn⟩ := rc_facts h
  rw [← hcast] at wn
  have hmk := k_mksl (pg := pg) (R := den pg) [.i .i64 0] false 8 .i64 .i64 (r * c) [] (by omega) (by omega)
  have harr := El.arr_mksl elI [] 0 (r * c)
  obtain ⟨H0, hH0⟩ : ∃ H0 : Heap, H0 = [] ++ [.cells (repl (elI.enc 0) (r * c)) false] := ⟨_, rfl⟩
  obtain ⟨W, hW⟩ : ∃ W : TV, W = .sl 0 0 1 false (r * c) (some (r * c)) := ⟨_, rfl⟩
  have hmk' : dkc pg (den pg) (.mksl [.i .i64 0] false 8) [.i .i64 ((r * c : Nat) : Int), .i .i64 ((r * c : Nat) : Int)] [] = some (W, H0) := by rw [hW, hH0]; exact hmk
  have harr' : elI.Arr H0 W (List.replicate 0 (-1) ++ List.replicate (r * c) 0) := by
    have e0 : List.replicate 0 (-1 : Int) ++ List.replicate (r * c) 0 = List.replicate (r * c) 0 := by simp
    rw [e0, hH0, hW]; exact harr
  obtain ⟨e1, H1, p1, p2, p3, p4⟩ := l66_1_all (pg := pg) h (F := .i .i64 (frm : Int)) (T := .i .i64 (to : Int)) (r * c) 0 H0 (by omega) harr'
  simp only [Int.natCast_zero] at p1
  have g1 := keep_get p2 (s := 1) (by simp) rfl
  have g2 := keep_get p2 (s := 2) (by simp) rfl
  have g3 := keep_get p2 (s := 3) (by simp) rfl
  have g9 := keep_get p2 (s := 9) (by simp) rfl
  have g10 := keep_get p2 (s := 10) (by simp) rfl
  obtain ⟨e2, H2, q1, q2⟩ := l66_3_all (pg := pg) hF h hfr hto (WT := W) (r * c) 0 H1 (by omega) p3
  have h0 : (((pairTo r c frm to 0).2 : Nat) : Int) = 0 := rfl
  rw [h0] at q1
  simp only [Int.natCast_zero] at q1
  refine .inr ⟨hF.S _ _ (by decide), .i .i64 (pairN r c frm to : Int), H2, body_of (x := .ret) (e := [(8, .i .i64 (pairN r c frm to : Int))]) (d := d66) (by rw [hF.F]; rfl) rfl ?_ (.inl rfl) rfl, sn_i _ _ _ _⟩
  generalize (pairN r c frm to : Int) = PN at *
  have wn' : wrapR .i64 ((r : Int) * c) = .i .i64 ((r * c : Nat) : Int) := by rw [← hcast]; exact wn
  generalize ((r * c : Nat) : Int) = N at *
  simp (disch := omega) [d66, c66, zipE, go_nil, go_last, go_past, go_pastR, go_blkN, go_blkR, go_blkE, go_skip, go_exit, go_ret, go_scope, go_seq, go_reg, go_regd, go_opdN, go_opd, go_opdG, grdd_b, grdd_u, stpd_some, find_some, go_block, go_cond, cnd_b, go_opsN, go_ops, go_opsG, grd_b, grd_u, stp_some, fin_some, up_some, cont_some, k_call, k_mv, k_pick, k_bin, k_eqB, k_eqA, k_not, k_neg, k_conv, k_alloc, k_boxA, k_boxI, k_boxB, k_boxN, k_boxBs, k_ldR, k_ldA, k_ldI, k_ldB, k_stA, k_stI, k_stB, ldC_some, stC_some, k_mkfn, k_slc, k_slcA, k_ixA, k_ixBs, k_ixSl, k_fadr, k_fld, k_ext, k_len, k_app, k_mn, k_mx, k_nilck, k_build, k_bsl1, k_bsl2, b_add, b_sub, b_mul, b_eql, b_neq, b_lss, b_leq, b_gtr, b_geq, Dn.setLast, Dn.getLast, evalO, mapO, Dn.get, putE, keepE_nil, keepE_cons, kp_some, kp_none, TV.one, TV.isAgg, Dn.part, k_boxR, negb, at0, at1, at2, at3, at4, dT, dF, wrapR_i64, Option.bind_some, Option.map_some, wn', hmk', go_denK (c := l66_1) rfl, p1, g1, g2, g3, g9, g10, go_denK (c := l66_3) rfl, q1, q2]

theorem call66 {pg : Pg} (hF : Free pg) {r c frm to : Nat} (h : Brd r c) (hfr : frm < 2 ^ (r * c)) (hto : to < 2 ^ (r * c)) (H : Heap) : callRun pg (den pg) (.pu []) [.fn 66 [] [], .i .i64 (r : Int), .i .i64 (c : Int), .i .i64 (frm : Int), .i .i64 (to : Int)] H = some (.i .i64 (pairN r c frm to : Int), H) := PFn.at (fn66 hF h hfr hto) (fun H => sa_I (sa_I (sa_I (sa_I sa_0)))) H

/-! whether there is a tight set -/
def tryB (r c some_ others b : Nat) : Bool := others.testBit b && decide (pairN r c some_ (andN others (2 ^ b)) < pop 64 some_)
def tryA (r c all others a : Nat) : Bool := all.testBit a && ((decide (others = 0) && decide (andN all (2 ^ a) ≠ 0)) || (List.range (r * c)).any (tryB r c (andN all (2 ^ a)) others))
def tryC (r c all others : Nat) : Bool := (decide (all ≠ 0) && decide (pop 64 others < pop 64 all)) || (List.range (r * c)).any (tryA r c all others)
/-- the reference's answer -/
def hasT (r c : Nat) : Bool := tryC r c (colM r c 0) (colM r c 1) || tryC r c (colM r c 1) (colM r c 0)

theorem any_drop {P : Nat → Bool} {n k : Nat} (hk : k < n) : ((List.range n).drop k).any P = (P k || ((List.range n).drop (k + 1)).any P) := by
  have hdr : (List.range n).drop k = k :: (List.range n).drop (k + 1) := by
    rw [List.drop_eq_getElem_cons (by simpa using hk)]
    simp
  rw [hdr, List.any_cons]

theorem l36_1_all {pg : Pg} (hF : Free pg) {r c all others sm : Nat} (h : Brd r c) (hal : all < 2 ^ (r * c)) (hol : others < 2 ^ (r * c)) (hsm : sm < 2 ^ (r * c)) {C A : TV} {H : Heap} : ∀ (d b : Nat), b + d = r * c →
    if ((List.range (r * c)).drop b).any (tryB r c sm others) = true then den pg l36_1 [(0, .i .i64 (r : Int)), (1, .i .i64 (c : Int)), (5, C), (6, .i .i64 (all : Int)), (7, .i .i64 (others : Int)), (8, A), (9, .i .i64 (sm : Int)), (10, .i .i64 (b : Int))] H = some ⟨.ret, [(4, .b true)], H⟩
    else ∃ e, den pg l36_1 [(0, .i .i64 (r : Int)), (1, .i .i64 (c : Int)), (5, C), (6, .i .i64 (all : Int)), (7, .i .i64 (others : Int)), (8, A), (9, .i .i64 (sm : Int)), (10, .i .i64 (b : Int))] H = some ⟨.exit 4, e, H⟩ ∧
      keepE [0, 1, 5, 6, 7, 8] e = [(0, .i .i64 (r : Int)), (1, .i .i64 (c : Int)), (5, C), (6, .i .i64 (all : Int)), (7, .i .i64 (others : Int)), (8, A)]
  | 0, b, hd => by
    obtain ⟨hcast, wn⟩ := rc_facts h
    obtain rfl : b = r * c := by omega
    rw [List.drop_eq_nil_of_le (by simp)]
    exact ⟨_, by
      rw [hcast, l36_1, den_loop]
      simp (disch := omega) [b36_0, go_nil, go_last, go_past, go_pastR, go_blkN, go_blkR, go_blkE, go_skip, go_exit, go_ret, go_scope, go_seq, go_reg, go_regd, go_opdN, go_opd, go_opdG, grdd_b, grdd_u, stpd_some, find_some, go_block, go_cond, cnd_b, go_opsN, go_ops, go_opsG, grd_b, grd_u, stp_some, fin_some, up_some, cont_some, k_call, k_mv, k_pick, k_bin, k_eqB, k_eqA, k_not, k_neg, k_conv, k_alloc, k_boxA, k_boxI, k_boxB, k_boxN, k_boxBs, k_ldR, k_ldA, k_ldI, k_ldB, k_stA, k_stI, k_stB, ldC_some, stC_some, k_mkfn, k_slc, k_slcA, k_ixA, k_ixBs, k_ixSl, k_fadr, k_fld, k_ext, k_len, k_app, k_mn, k_mx, k_nilck, k_build, k_bsl1, k_bsl2, b_add, b_sub, b_mul, b_eql, b_neq, b_lss, b_leq, b_gtr, b_geq, Dn.setLast, Dn.getLast, evalO, mapO, Dn.get, putE, keepE_nil, keepE_cons, kp_some, kp_none, TV.one, TV.isAgg, Dn.part, k_boxR, negb, at0, at1, at2, at3, at4, dT, dF, wrapR_i64, Option.bind_some, Option.map_some, wn]
      rfl, rfl⟩
  | d + 1, b, hd => by
    have hn := h.n36
    have h63 := lt63 h
    obtain ⟨hcast, wn⟩ := rc_facts h
    have hb : b < r * c := by omega
    have sh0 := Dn.shr_i (k := .i64) (m := others) (c := b) (by omega)
    have rm := tmod_nat (others / 2 ^ b) 2
    simp only [Int.cast_ofNat_Int] at rm
    have hbit : others.testBit b = decide (others / 2 ^ b % 2 = 1) := Nat.testBit_eq_decide_div_mod_eq
    have ih := l36_1_all (pg := pg) hF h hal hol hsm (C := C) (A := A) (H := H) d (b + 1) (by omega)
    have hb1 : ((b + 1 : Nat) : Int) = (b : Int) + 1 := by omega
    rw [hb1] at ih
    rw [any_drop hb]
    have htb : tryB r c sm others b = (others.testBit b && decide (pairN r c sm (andN others (2 ^ b)) < pop 64 sm)) := rfl
    have hanl : andN others (2 ^ b) < 2 ^ (r * c) := Nat.lt_of_le_of_lt (andN_le _ _ (by omega)) hol
    have h2b : 2 ^ b < 2 ^ 37 := Nat.pow_lt_pow_right (by decide) (by omega)
    have sh := Dn.shl_i (k := .i64) (c := b) (by omega)
    have an := andN_ii (m := others) (k := 2 ^ b) (by omega)
    have c66 := call66 (pg := pg) hF h hsm hanl H
    have c48 := call48 (pg := pg) hF (x := sm) (by omega) H
    by_cases hq : others / 2 ^ b % 2 = 1
    · rw [dT hq] at hbit
      rw [hq] at rm
      rw [htb, hbit, Bool.true_and]
      generalize pairN r c sm (andN others (2 ^ b)) = PN at *
      generalize andN others (2 ^ b) = AN at *
      generalize pop 64 sm = PS at *
      generalize 2 ^ b = U at *
      generalize others / U = D at *
      by_cases hlt : PN < PS
      · rw [dT hlt, Bool.true_or, if_pos rfl]
        rw [l36_1, den_loop]
        simp (disch := omega) [b36_0, go_nil, go_last, go_past, go_pastR, go_blkN, go_blkR, go_blkE, go_skip, go_exit, go_ret, go_scope, go_seq, go_reg, go_regd, go_opdN, go_opd, go_opdG, grdd_b, grdd_u, stpd_some, find_some, go_block, go_cond, cnd_b, go_opsN, go_ops, go_opsG, grd_b, grd_u, stp_some, fin_some, up_some, cont_some, k_call, k_mv, k_pick, k_bin, k_eqB, k_eqA, k_not, k_neg, k_conv, k_alloc, k_boxA, k_boxI, k_boxB, k_boxN, k_boxBs, k_ldR, k_ldA, k_ldI, k_ldB, k_stA, k_stI, k_stB, ldC_some, stC_some, k_mkfn, k_slc, k_slcA, k_ixA, k_ixBs, k_ixSl, k_fadr, k_fld, k_ext, k_len, k_app, k_mn, k_mx, k_nilck, k_build, k_bsl1, k_bsl2, b_add, b_sub, b_mul, b_eql, b_neq, b_lss, b_leq, b_gtr, b_geq, Dn.setLast, Dn.getLast, evalO, mapO, Dn.get, putE, keepE_nil, keepE_cons, kp_some, kp_none, TV.one, TV.isAgg, Dn.part, k_boxR, negb, at0, at1, at2, at3, at4, dT, dF, wrapR_i64, Option.bind_some, Option.map_some, wn, sh0, b_rem, rm, sh, an, c66, c48, hlt]
      · rw [dF hlt, Bool.false_or]
        have step : den pg l36_1 [(0, .i .i64 (r : Int)), (1, .i .i64 (c : Int)), (5, C), (6, .i .i64 (all : Int)), (7, .i .i64 (others : Int)), (8, A), (9, .i .i64 (sm : Int)), (10, .i .i64 (b : Int))] H = den pg l36_1 [(0, .i .i64 (r : Int)), (1, .i .i64 (c : Int)), (5, C), (6, .i .i64 (all : Int)), (7, .i .i64 (others : Int)), (8, A), (9, .i .i64 (sm : Int)), (10, .i .i64 ((b : Int) + 1))] H := by
          rw [l36_1, den_loop]
          simp (disch := omega) [l36_1, b36_0, go_nil, go_last, go_past, go_pastR, go_blkN, go_blkR, go_blkE, go_skip, go_exit, go_ret, go_scope, go_seq, go_reg, go_regd, go_opdN, go_opd, go_opdG, grdd_b, grdd_u, stpd_some, find_some, go_block, go_cond, cnd_b, go_opsN, go_ops, go_opsG, grd_b, grd_u, stp_some, fin_some, up_some, cont_some, k_call, k_mv, k_pick, k_bin, k_eqB, k_eqA, k_not, k_neg, k_conv, k_alloc, k_boxA, k_boxI, k_boxB, k_boxN, k_boxBs, k_ldR, k_ldA, k_ldI, k_ldB, k_stA, k_stI, k_stB, ldC_some, stC_some, k_mkfn, k_slc, k_slcA, k_ixA, k_ixBs, k_ixSl, k_fadr, k_fld, k_ext, k_len, k_app, k_mn, k_mx, k_nilck, k_build, k_bsl1, k_bsl2, b_add, b_sub, b_mul, b_eql, b_neq, b_lss, b_leq, b_gtr, b_geq, Dn.setLast, Dn.getLast, evalO, mapO, Dn.get, putE, keepE_nil, keepE_cons, kp_some, kp_none, TV.one, TV.isAgg, Dn.part, k_boxR, negb, at0, at1, at2, at3, at4, dT, dF, wrapR_i64, Option.bind_some, Option.map_some, wn, sh0, b_rem, rm, sh, an, c66, c48, hlt]
        rw [step]
        exact ih
    · have hz : others / 2 ^ b % 2 = 0 := by have := Nat.mod_lt (others / 2 ^ b) (show 0 < 2 by decide); omega
      rw [dF hq] at hbit
      rw [hz] at rm
      rw [htb, hbit, Bool.false_and, Bool.false_or]
      generalize others / 2 ^ b = D at *
      have step : den pg l36_1 [(0, .i .i64 (r : Int)), (1, .i .i64 (c : Int)), (5, C), (6, .i .i64 (all : Int)), (7, .i .i64 (others : Int)), (8, A), (9, .i .i64 (sm : Int)), (10, .i .i64 (b : Int))] H = den pg l36_1 [(0, .i .i64 (r : Int)), (1, .i .i64 (c : Int)), (5, C), (6, .i .i64 (all : Int)), (7, .i .i64 (others : Int)), (8, A), (9, .i .i64 (sm : Int)), (10, .i .i64 ((b : Int) + 1))] H := by
        rw [l36_1, den_loop]
        simp (disch := omega) [l36_1, b36_0, go_nil, go_last, go_past, go_pastR, go_blkN, go_blkR, go_blkE, go_skip, go_exit, go_ret, go_scope, go_seq, go_reg, go_regd, go_opdN, go_opd, go_opdG, grdd_b, grdd_u, stpd_some, find_some, go_block, go_cond, cnd_b, go_opsN, go_ops, go_opsG, grd_b, grd_u, stp_some, fin_some, up_some, cont_some, k_call, k_mv, k_pick, k_bin, k_eqB, k_eqA, k_not, k_neg, k_conv, k_alloc, k_boxA, k_boxI, k_boxB, k_boxN, k_boxBs, k_ldR, k_ldA, k_ldI, k_ldB, k_stA, k_stI, k_stB, ldC_some, stC_some, k_mkfn, k_slc, k_slcA, k_ixA, k_ixBs, k_ixSl, k_fadr, k_fld, k_ext, k_len, k_app, k_mn, k_mx, k_nilck, k_build, k_bsl1, k_bsl2, b_add, b_sub, b_mul, b_eql, b_neq, b_lss, b_leq, b_gtr, b_geq, Dn.setLast, Dn.getLast, evalO, mapO, Dn.get, putE, keepE_nil, keepE_cons, kp_some, kp_none, TV.one, TV.isAgg, Dn.part, k_boxR, negb, at0, at1, at2, at3, at4, dT, dF, wrapR_i64, Option.bind_some, Option.map_some, wn, sh0, b_rem, rm]
      rw [step]
      exact ih

theorem l36_3_all {pg : Pg} (hF : Free pg) {r c all others : Nat} (h : Brd r c) (hal : all < 2 ^ (r * c)) (hol : others < 2 ^ (r * c)) {C : TV} {H : Heap} : ∀ (d a : Nat), a + d = r * c →
    if ((List.range (r * c)).drop a).any (tryA r c all others) = true then den pg l36_3 [(0, .i .i64 (r : Int)), (1, .i .i64 (c : Int)), (5, C), (6, .i .i64 (all : Int)), (7, .i .i64 (others : Int)), (8, .i .i64 (a : Int))] H = some ⟨.ret, [(4, .b true)], H⟩
    else ∃ e, den pg l36_3 [(0, .i .i64 (r : Int)), (1, .i .i64 (c : Int)), (5, C), (6, .i .i64 (all : Int)), (7, .i .i64 (others : Int)), (8, .i .i64 (a : Int))] H = some ⟨.exit 2, e, H⟩ ∧
      keepE [0, 1, 5] e = [(0, .i .i64 (r : Int)), (1, .i .i64 (c : Int)), (5, C)]
  | 0, a, hd => by
    obtain ⟨hcast, wn⟩ := rc_facts h
    obtain rfl : a = r * c := by omega
    rw [List.drop_eq_nil_of_le (by simp)]
    exact ⟨_, by
      rw [hcast, l36_3, den_loop]
      simp (disch := omega) [b36_2, go_nil, go_last, go_past, go_pastR, go_blkN, go_blkR, go_blkE, go_skip, go_exit, go_ret, go_scope, go_seq, go_reg, go_regd, go_opdN, go_opd, go_opdG, grdd_b, grdd_u, stpd_some, find_some, go_block, go_cond, cnd_b, go_opsN, go_ops, go_opsG, grd_b, grd_u, stp_some, fin_some, up_some, cont_some, k_call, k_mv, k_pick, k_bin, k_eqB, k_eqA, k_not, k_neg, k_conv, k_alloc, k_boxA, k_boxI, k_boxB, k_boxN, k_boxBs, k_ldR, k_ldA, k_ldI, k_ldB, k_stA, k_stI, k_stB, ldC_some, stC_some, k_mkfn, k_slc, k_slcA, k_ixA, k_ixBs, k_ixSl, k_fadr, k_fld, k_ext, k_len, k_app, k_mn, k_mx, k_nilck, k_build, k_bsl1, k_bsl2, b_add, b_sub, b_mul, b_eql, b_neq, b_lss, b_leq, b_gtr, b_geq, Dn.setLast, Dn.getLast, evalO, mapO, Dn.get, putE, keepE_nil, keepE_cons, kp_some, kp_none, TV.one, TV.isAgg, Dn.part, k_boxR, negb, at0, at1, at2, at3, at4, dT, dF, wrapR_i64, Option.bind_some, Option.map_some, wn]
      rfl, rfl⟩
  | d + 1, a, hd => by
    have hn := h.n36
    have h63 := lt63 h
    obtain ⟨hcast, wn⟩ := rc_facts h
    have ha : a < r * c := by omega
    have sh0 := Dn.shr_i (k := .i64) (m := all) (c := a) (by omega)
    have rm := tmod_nat (all / 2 ^ a) 2
    simp only [Int.cast_ofNat_Int] at rm
    have hbit : all.testBit a = decide (all / 2 ^ a % 2 = 1) := Nat.testBit_eq_decide_div_mod_eq
    have ih := l36_3_all (pg := pg) hF h hal hol (C := C) (H := H) d (a + 1) (by omega)
    have ha1 : ((a + 1 : Nat) : Int) = (a : Int) + 1 := by omega
    rw [ha1] at ih
    rw [any_drop ha]
    have hta : tryA r c all others a = (all.testBit a && ((decide (others = 0) && decide (andN all (2 ^ a) ≠ 0)) || (List.range (r * c)).any (tryB r c (andN all (2 ^ a)) others))) := rfl
    have hanl : andN all (2 ^ a) < 2 ^ (r * c) := Nat.lt_of_le_of_lt (andN_le _ _ (by omega)) hal
    have sh := Dn.shl_i (k := .i64) (c := a) (by omega)
    have an := andN_ii (m := all) (k := 2 ^ a) (by omega)
    have inner := l36_1_all (pg := pg) hF h hal hol hanl (C := C) (A := .i .i64 (a : Int)) (H := H) (r * c) 0 (by omega)
    rw [List.drop_zero] at inner
    simp only [Int.natCast_zero] at inner
    by_cases hq : all / 2 ^ a % 2 = 1
    · rw [dT hq] at hbit
      rw [hq] at rm
      rw [hta, hbit, Bool.true_and]
      generalize (List.range (r * c)).any (tryB r c (andN all (2 ^ a)) others) = AB at *
      generalize andN all (2 ^ a) = AN at *
      generalize 2 ^ a = U at *
      generalize all / U = D at *
      by_cases h1 : others = 0 ∧ AN ≠ 0
      · obtain ⟨h1, h2⟩ := h1
        subst h1
        rw [dT rfl, dT h2]
        simp only [Bool.true_and, Bool.true_or, if_true]
        have n1 : (((AN : Int) != 0) = true) := bneT (by omega)
        rw [l36_3, den_loop]
        simp (disch := omega) [b36_2, go_nil, go_last, go_past, go_pastR, go_blkN, go_blkR, go_blkE, go_skip, go_exit, go_ret, go_scope, go_seq, go_reg, go_regd, go_opdN, go_opd, go_opdG, grdd_b, grdd_u, stpd_some, find_some, go_block, go_cond, cnd_b, go_opsN, go_ops, go_opsG, grd_b, grd_u, stp_some, fin_some, up_some, cont_some, k_call, k_mv, k_pick, k_bin, k_eqB, k_eqA, k_not, k_neg, k_conv, k_alloc, k_boxA, k_boxI, k_boxB, k_boxN, k_boxBs, k_ldR, k_ldA, k_ldI, k_ldB, k_stA, k_stI, k_stB, ldC_some, stC_some, k_mkfn, k_slc, k_slcA, k_ixA, k_ixBs, k_ixSl, k_fadr, k_fld, k_ext, k_len, k_app, k_mn, k_mx, k_nilck, k_build, k_bsl1, k_bsl2, b_add, b_sub, b_mul, b_eql, b_neq, b_lss, b_leq, b_gtr, b_geq, Dn.setLast, Dn.getLast, evalO, mapO, Dn.get, putE, keepE_nil, keepE_cons, kp_some, kp_none, TV.one, TV.isAgg, Dn.part, k_boxR, negb, at0, at1, at2, at3, at4, dT, dF, wrapR_i64, Option.bind_some, Option.map_some, wn, sh0, b_rem, rm, sh, an, n1]
      · have hd0 : (decide (others = 0) && decide (AN ≠ 0)) = false := by
          by_cases h2 : others = 0
          · have h3 : AN = 0 := by
              apply Classical.byContradiction
              intro h3; exact h1 ⟨h2, h3⟩
            have h4 : decide (AN ≠ 0) = false := by simp [h3]
            rw [h4, Bool.and_false]
          · rw [dF h2, Bool.false_and]
        rw [hd0, Bool.false_or]
        have cond : (others = 0 ∧ AN = 0) ∨ others ≠ 0 := by
          by_cases h2 : others = 0
          · exact .inl ⟨h2, by apply Classical.byContradiction; intro h3; exact h1 ⟨h2, h3⟩⟩
          · exact .inr h2
        cases AB with
        | true =>
          rw [if_pos rfl] at inner
          rw [Bool.true_or, if_pos rfl]
          rcases cond with ⟨h2, h3⟩ | h2
          · subst h2 h3
            simp only [Int.natCast_zero] at inner an ⊢
            rw [l36_3, den_loop]
            simp (disch := omega) [b36_2, go_nil, go_last, go_past, go_pastR, go_blkN, go_blkR, go_blkE, go_skip, go_exit, go_ret, go_scope, go_seq, go_reg, go_regd, go_opdN, go_opd, go_opdG, grdd_b, grdd_u, stpd_some, find_some, go_block, go_cond, cnd_b, go_opsN, go_ops, go_opsG, grd_b, grd_u, stp_some, fin_some, up_some, cont_some, k_call, k_mv, k_pick, k_bin, k_eqB, k_eqA, k_not, k_neg, k_conv, k_alloc, k_boxA, k_boxI, k_boxB, k_boxN, k_boxBs, k_ldR, k_ldA, k_ldI, k_ldB, k_stA, k_stI, k_stB, ldC_some, stC_some, k_mkfn, k_slc, k_slcA, k_ixA, k_ixBs, k_ixSl, k_fadr, k_fld, k_ext, k_len, k_app, k_mn, k_mx, k_nilck, k_build, k_bsl1, k_bsl2, b_add, b_sub, b_mul, b_eql, b_neq, b_lss, b_leq, b_gtr, b_geq, Dn.setLast, Dn.getLast, evalO, mapO, Dn.get, putE, keepE_nil, keepE_cons, kp_some, kp_none, TV.one, TV.isAgg, Dn.part, k_boxR, negb, at0, at1, at2, at3, at4, dT, dF, wrapR_i64, Option.bind_some, Option.map_some, wn, sh0, b_rem, rm, sh, an, go_denK (c := l36_1) rfl, inner]
          · have n1 : (((others : Int) == 0) = false) := beqF (by omega)
            rw [l36_3, den_loop]
            simp (disch := omega) [b36_2, go_nil, go_last, go_past, go_pastR, go_blkN, go_blkR, go_blkE, go_skip, go_exit, go_ret, go_scope, go_seq, go_reg, go_regd, go_opdN, go_opd, go_opdG, grdd_b, grdd_u, stpd_some, find_some, go_block, go_cond, cnd_b, go_opsN, go_ops, go_opsG, grd_b, grd_u, stp_some, fin_some, up_some, cont_some, k_call, k_mv, k_pick, k_bin, k_eqB, k_eqA, k_not, k_neg, k_conv, k_alloc, k_boxA, k_boxI, k_boxB, k_boxN, k_boxBs, k_ldR, k_ldA, k_ldI, k_ldB, k_stA, k_stI, k_stB, ldC_some, stC_some, k_mkfn, k_slc, k_slcA, k_ixA, k_ixBs, k_ixSl, k_fadr, k_fld, k_ext, k_len, k_app, k_mn, k_mx, k_nilck, k_build, k_bsl1, k_bsl2, b_add, b_sub, b_mul, b_eql, b_neq, b_lss, b_leq, b_gtr, b_geq, Dn.setLast, Dn.getLast, evalO, mapO, Dn.get, putE, keepE_nil, keepE_cons, kp_some, kp_none, TV.one, TV.isAgg, Dn.part, k_boxR, negb, at0, at1, at2, at3, at4, dT, dF, wrapR_i64, Option.bind_some, Option.map_some, wn, sh0, b_rem, rm, sh, an, n1, h2, go_denK (c := l36_1) rfl, inner]
        | false =>
          rw [if_neg (by simp)] at inner
          obtain ⟨e1, i1, i2⟩ := inner
          rw [Bool.false_or]
          have g0 := keep_get i2 (s := 0) (by simp) rfl
          have g1 := keep_get i2 (s := 1) (by simp) rfl
          have g5 := keep_get i2 (s := 5) (by simp) rfl
          have g6 := keep_get i2 (s := 6) (by simp) rfl
          have g7 := keep_get i2 (s := 7) (by simp) rfl
          have g8 := keep_get i2 (s := 8) (by simp) rfl
          have step : den pg l36_3 [(0, .i .i64 (r : Int)), (1, .i .i64 (c : Int)), (5, C), (6, .i .i64 (all : Int)), (7, .i .i64 (others : Int)), (8, .i .i64 (a : Int))] H = den pg l36_3 [(0, .i .i64 (r : Int)), (1, .i .i64 (c : Int)), (5, C), (6, .i .i64 (all : Int)), (7, .i .i64 (others : Int)), (8, .i .i64 ((a : Int) + 1))] H := by
            rcases cond with ⟨h2, h3⟩ | h2
            · subst h2 h3
              simp only [Int.natCast_zero] at i1 g7 an ⊢
              rw [l36_3, den_loop]
              simp (disch := omega) [l36_3, b36_2, go_nil, go_last, go_past, go_pastR, go_blkN, go_blkR, go_blkE, go_skip, go_exit, go_ret, go_scope, go_seq, go_reg, go_regd, go_opdN, go_opd, go_opdG, grdd_b, grdd_u, stpd_some, find_some, go_block, go_cond, cnd_b, go_opsN, go_ops, go_opsG, grd_b, grd_u, stp_some, fin_some, up_some, cont_some, k_call, k_mv, k_pick, k_bin, k_eqB, k_eqA, k_not, k_neg, k_conv, k_alloc, k_boxA, k_boxI, k_boxB, k_boxN, k_boxBs, k_ldR, k_ldA, k_ldI, k_ldB, k_stA, k_stI, k_stB, ldC_some, stC_some, k_mkfn, k_slc, k_slcA, k_ixA, k_ixBs, k_ixSl, k_fadr, k_fld, k_ext, k_len, k_app, k_mn, k_mx, k_nilck, k_build, k_bsl1, k_bsl2, b_add, b_sub, b_mul, b_eql, b_neq, b_lss, b_leq, b_gtr, b_geq, Dn.setLast, Dn.getLast, evalO, mapO, Dn.get, putE, keepE_nil, keepE_cons, kp_some, kp_none, TV.one, TV.isAgg, Dn.part, k_boxR, negb, at0, at1, at2, at3, at4, dT, dF, wrapR_i64, Option.bind_some, Option.map_some, wn, sh0, b_rem, rm, sh, an, go_denK (c := l36_1) rfl, i1, g0, g1, g5, g6, g7, g8]
            · have n1 : (((others : Int) == 0) = false) := beqF (by omega)
              rw [l36_3, den_loop]
              simp (disch := omega) [l36_3, b36_2, go_nil, go_last, go_past, go_pastR, go_blkN, go_blkR, go_blkE, go_skip, go_exit, go_ret, go_scope, go_seq, go_reg, go_regd, go_opdN, go_opd, go_opdG, grdd_b, grdd_u, stpd_some, find_some, go_block, go_cond, cnd_b, go_opsN, go_ops, go_opsG, grd_b, grd_u, stp_some, fin_some, up_some, cont_some, k_call, k_mv, k_pick, k_bin, k_eqB, k_eqA, k_not, k_neg, k_conv, k_alloc, k_boxA, k_boxI, k_boxB, k_boxN, k_boxBs, k_ldR, k_ldA, k_ldI, k_ldB, k_stA, k_stI, k_stB, ldC_some, stC_some, k_mkfn, k_slc, k_slcA, k_ixA, k_ixBs, k_ixSl, k_fadr, k_fld, k_ext, k_len, k_app, k_mn, k_mx, k_nilck, k_build, k_bsl1, k_bsl2, b_add, b_sub, b_mul, b_eql, b_neq, b_lss, b_leq, b_gtr, b_geq, Dn.setLast, Dn.getLast, evalO, mapO, Dn.get, putE, keepE_nil, keepE_cons, kp_some, kp_none, TV.one, TV.isAgg, Dn.part, k_boxR, negb, at0, at1, at2, at3, at4, dT, dF, wrapR_i64, Option.bind_some, Option.map_some, wn, sh0, b_rem, rm, sh, an, n1, h2, go_denK (c := l36_1) rfl, i1, g0, g1, g5, g6, g7, g8]
          rw [step]
          exact ih
    · have hz : all / 2 ^ a % 2 = 0 := by have := Nat.mod_lt (all / 2 ^ a) (show 0 < 2 by decide); omega
      rw [dF hq] at hbit
      rw [hz] at rm
      rw [hta, hbit, Bool.false_and, Bool.false_or]
      generalize all / 2 ^ a = D at *
      have step : den pg l36_3 [(0, .i .i64 (r : Int)), (1, .i .i64 (c : Int)), (5, C), (6, .i .i64 (all : Int)), (7, .i .i64 (others : Int)), (8, .i .i64 (a : Int))] H = den pg l36_3 [(0, .i .i64 (r : Int)), (1, .i .i64 (c : Int)), (5, C), (6, .i .i64 (all : Int)), (7, .i .i64 (others : Int)), (8, .i .i64 ((a : Int) + 1))] H := by
        rw [l36_3, den_loop]
        simp (disch := omega) [l36_3, b36_2, go_nil, go_last, go_past, go_pastR, go_blkN, go_blkR, go_blkE, go_skip, go_exit, go_ret, go_scope, go_seq, go_reg, go_regd, go_opdN, go_opd, go_opdG, grdd_b, grdd_u, stpd_some, find_some, go_block, go_cond, cnd_b, go_opsN, go_ops, go_opsG, grd_b, grd_u, stp_some, fin_some, up_some, cont_some, k_call, k_mv, k_pick, k_bin, k_eqB, k_eqA, k_not, k_neg, k_conv, k_alloc, k_boxA, k_boxI, k_boxB, k_boxN, k_boxBs, k_ldR, k_ldA, k_ldI, k_ldB, k_stA, k_stI, k_stB, ldC_some, stC_some, k_mkfn, k_slc, k_slcA, k_ixA, k_ixBs, k_ixSl, k_fadr, k_fld, k_ext, k_len, k_app, k_mn, k_mx, k_nilck, k_build, k_bsl1, k_bsl2, b_add, b_sub, b_mul, b_eql, b_neq, b_lss, b_leq, b_gtr, b_geq, Dn.setLast, Dn.getLast, evalO, mapO, Dn.get, putE, keepE_nil, keepE_cons, kp_some, kp_none, TV.one, TV.isAgg, Dn.part, k_boxR, negb, at0, at1, at2, at3, at4, dT, dF, wrapR_i64, Option.bind_some, Option.map_some, wn, sh0, b_rem, rm]
      rw [step]
      exact ih

theorem l36_5_round {pg : Pg} (hF : Free pg) {r c col : Nat} (h : Brd r c) (hc : col < 2) {H : Heap} :
    den pg l36_5 [(0, .i .i64 (r : Int)), (1, .i .i64 (c : Int)), (5, .i .i64 (col : Int))] H = if tryC r c (colM r c col) (colM r c (1 - col)) = true then some ⟨.ret, [(4, .b true)], H⟩ else den pg l36_5 [(0, .i .i64 (r : Int)), (1, .i .i64 (c : Int)), (5, .i .i64 ((col : Int) + 1))] H := by
  have h63 := lt63 h
  have cA := call41 (pg := pg) hF (col := col) h H
  have cB := call41 (pg := pg) hF (col := 1 - col) h H
  have w1c : wrapR .i64 (1 - (col : Int)) = .i .i64 ((1 - col : Nat) : Int) := by rw [show 1 - (col : Int) = ((1 - col : Nat) : Int) by omega]; exact wrapR_i64 (by omega)
  have hwl := colM_lt r c col
  have hol := colM_lt r c (1 - col)
  have s3 := call48 (pg := pg) hF (x := colM r c (1 - col)) (by omega) H
  have s4 := call48 (pg := pg) hF (x := colM r c col) (by omega) H
  have inner := l36_3_all (pg := pg) hF h hwl hol (C := .i .i64 (col : Int)) (H := H) (r * c) 0 (by omega)
  rw [List.drop_zero] at inner
  simp only [Int.natCast_zero] at inner
  unfold tryC
  generalize (List.range (r * c)).any (tryA r c (colM r c col) (colM r c (1 - col))) = AA at *
  generalize colM r c (1 - col) = others at *
  generalize colM r c col = all at *
  generalize pop 64 others = po at *
  generalize pop 64 all = pa at *
  by_cases h1 : all ≠ 0 ∧ po < pa
  · obtain ⟨h1, h2⟩ := h1
    rw [dT h1, dT h2]
    simp only [Bool.true_and, Bool.true_or, if_true]
    have n1 : (((all : Int) != 0) = true) := bneT (by omega)
    rw [l36_5, den_loop]
    simp (disch := omega) [b36_4, go_nil, go_last, go_past, go_pastR, go_blkN, go_blkR, go_blkE, go_skip, go_exit, go_ret, go_scope, go_seq, go_reg, go_regd, go_opdN, go_opd, go_opdG, grdd_b, grdd_u, stpd_some, find_some, go_block, go_cond, cnd_b, go_opsN, go_ops, go_opsG, grd_b, grd_u, stp_some, fin_some, up_some, cont_some, k_call, k_mv, k_pick, k_bin, k_eqB, k_eqA, k_not, k_neg, k_conv, k_alloc, k_boxA, k_boxI, k_boxB, k_boxN, k_boxBs, k_ldR, k_ldA, k_ldI, k_ldB, k_stA, k_stI, k_stB, ldC_some, stC_some, k_mkfn, k_slc, k_slcA, k_ixA, k_ixBs, k_ixSl, k_fadr, k_fld, k_ext, k_len, k_app, k_mn, k_mx, k_nilck, k_build, k_bsl1, k_bsl2, b_add, b_sub, b_mul, b_eql, b_neq, b_lss, b_leq, b_gtr, b_geq, Dn.setLast, Dn.getLast, evalO, mapO, Dn.get, putE, keepE_nil, keepE_cons, kp_some, kp_none, TV.one, TV.isAgg, Dn.part, k_boxR, negb, at0, at1, at2, at3, at4, dT, dF, wrapR_i64, Option.bind_some, Option.map_some, cA, cB, w1c, n1, s3, s4, h2]
  · have hd0 : (decide (all ≠ 0) && decide (po < pa)) = false := by
      by_cases h2 : all = 0
      · rw [dF (by simpa using h2), Bool.false_and]
      · rw [dF (fun h3 => h1 ⟨h2, h3⟩), Bool.and_false]
    have cond : all = 0 ∨ (all ≠ 0 ∧ ¬ po < pa) := by
      by_cases h2 : all = 0
      · exact .inl h2
      · exact .inr ⟨h2, fun h3 => h1 ⟨h2, h3⟩⟩
    rw [hd0, Bool.false_or]
    cases AA with
    | true =>
      rw [if_pos rfl] at inner
      rw [if_pos rfl]
      rcases cond with h2 | ⟨h2, h3⟩
      · subst h2
        simp only [Int.natCast_zero] at inner cA cB
        rw [l36_5, den_loop]
        simp (disch := omega) [b36_4, go_nil, go_last, go_past, go_pastR, go_blkN, go_blkR, go_blkE, go_skip, go_exit, go_ret, go_scope, go_seq, go_reg, go_regd, go_opdN, go_opd, go_opdG, grdd_b, grdd_u, stpd_some, find_some, go_block, go_cond, cnd_b, go_opsN, go_ops, go_opsG, grd_b, grd_u, stp_some, fin_some, up_some, cont_some, k_call, k_mv, k_pick, k_bin, k_eqB, k_eqA, k_not, k_neg, k_conv, k_alloc, k_boxA, k_boxI, k_boxB, k_boxN, k_boxBs, k_ldR, k_ldA, k_ldI, k_ldB, k_stA, k_stI, k_stB, ldC_some, stC_some, k_mkfn, k_slc, k_slcA, k_ixA, k_ixBs, k_ixSl, k_fadr, k_fld, k_ext, k_len, k_app, k_mn, k_mx, k_nilck, k_build, k_bsl1, k_bsl2, b_add, b_sub, b_mul, b_eql, b_neq, b_lss, b_leq, b_gtr, b_geq, Dn.setLast, Dn.getLast, evalO, mapO, Dn.get, putE, keepE_nil, keepE_cons, kp_some, kp_none, TV.one, TV.isAgg, Dn.part, k_boxR, negb, at0, at1, at2, at3, at4, dT, dF, wrapR_i64, Option.bind_some, Option.map_some, cA, cB, w1c, go_denK (c := l36_3) rfl, inner]
      · have n1 : (((all : Int) != 0) = true) := bneT (by omega)
        rw [l36_5, den_loop]
        simp (disch := omega) [b36_4, go_nil, go_last, go_past, go_pastR, go_blkN, go_blkR, go_blkE, go_skip, go_exit, go_ret, go_scope, go_seq, go_reg, go_regd, go_opdN, go_opd, go_opdG, grdd_b, grdd_u, stpd_some, find_some, go_block, go_cond, cnd_b, go_opsN, go_ops, go_opsG, grd_b, grd_u, stp_some, fin_some, up_some, cont_some, k_call, k_mv, k_pick, k_bin, k_eqB, k_eqA, k_not, k_neg, k_conv, k_alloc, k_boxA, k_boxI, k_boxB, k_boxN, k_boxBs, k_ldR, k_ldA, k_ldI, k_ldB, k_stA, k_stI, k_stB, ldC_some, stC_some, k_mkfn, k_slc, k_slcA, k_ixA, k_ixBs, k_ixSl, k_fadr, k_fld, k_ext, k_len, k_app, k_mn, k_mx, k_nilck, k_build, k_bsl1, k_bsl2, b_add, b_sub, b_mul, b_eql, b_neq, b_lss, b_leq, b_gtr, b_geq, Dn.setLast, Dn.getLast, evalO, mapO, Dn.get, putE, keepE_nil, keepE_cons, kp_some, kp_none, TV.one, TV.isAgg, Dn.part, k_boxR, negb, at0, at1, at2, at3, at4, dT, dF, wrapR_i64, Option.bind_some, Option.map_some, cA, cB, w1c, n1, s3, s4, h2, h3, go_denK (c := l36_3) rfl, inner]
    | false =>
      rw [if_neg (by simp)] at inner
      rw [if_neg (by simp)]
      obtain ⟨e1, i1, i2⟩ := inner
      have g0 := keep_get i2 (s := 0) (by simp) rfl
      have g1 := keep_get i2 (s := 1) (by simp) rfl
      have g5 := keep_get i2 (s := 5) (by simp) rfl
      rcases cond with h2 | ⟨h2, h3⟩
      · subst h2
        simp only [Int.natCast_zero] at i1 cA cB
        rw [l36_5, den_loop]
        simp (disch := omega) [l36_5, b36_4, go_nil, go_last, go_past, go_pastR, go_blkN, go_blkR, go_blkE, go_skip, go_exit, go_ret, go_scope, go_seq, go_reg, go_regd, go_opdN, go_opd, go_opdG, grdd_b, grdd_u, stpd_some, find_some, go_block, go_cond, cnd_b, go_opsN, go_ops, go_opsG, grd_b, grd_u, stp_some, fin_some, up_some, cont_some, k_call, k_mv, k_pick, k_bin, k_eqB, k_eqA, k_not, k_neg, k_conv, k_alloc, k_boxA, k_boxI, k_boxB, k_boxN, k_boxBs, k_ldR, k_ldA, k_ldI, k_ldB, k_stA, k_stI, k_stB, ldC_some, stC_some, k_mkfn, k_slc, k_slcA, k_ixA, k_ixBs, k_ixSl, k_fadr, k_fld, k_ext, k_len, k_app, k_mn, k_mx, k_nilck, k_build, k_bsl1, k_bsl2, b_add, b_sub, b_mul, b_eql, b_neq, b_lss, b_leq, b_gtr, b_geq, Dn.setLast, Dn.getLast, evalO, mapO, Dn.get, putE, keepE_nil, keepE_cons, kp_some, kp_none, TV.one, TV.isAgg, Dn.part, k_boxR, negb, at0, at1, at2, at3, at4, dT, dF, wrapR_i64, Option.bind_some, Option.map_some, cA, cB, w1c, go_denK (c := l36_3) rfl, i1, g0, g1, g5]
      · have n1 : (((all : Int) != 0) = true) := bneT (by omega)
        rw [l36_5, den_loop]
        simp (disch := omega) [l36_5, b36_4, go_nil, go_last, go_past, go_pastR, go_blkN, go_blkR, go_blkE, go_skip, go_exit, go_ret, go_scope, go_seq, go_reg, go_regd, go_opdN, go_opd, go_opdG, grdd_b, grdd_u, stpd_some, find_some, go_block, go_cond, cnd_b, go_opsN, go_ops, go_opsG, grd_b, grd_u, stp_some, fin_some, up_some, cont_some, k_call, k_mv, k_pick, k_bin, k_eqB, k_eqA, k_not, k_neg, k_conv, k_alloc, k_boxA, k_boxI, k_boxB, k_boxN, k_boxBs, k_ldR, k_ldA, k_ldI, k_ldB, k_stA, k_stI, k_stB, ldC_some, stC_some, k_mkfn, k_slc, k_slcA, k_ixA, k_ixBs, k_ixSl, k_fadr, k_fld, k_ext, k_len, k_app, k_mn, k_mx, k_nilck, k_build, k_bsl1, k_bsl2, b_add, b_sub, b_mul, b_eql, b_neq, b_lss, b_leq, b_gtr, b_geq, Dn.setLast, Dn.getLast, evalO, mapO, Dn.get, putE, keepE_nil, keepE_cons, kp_some, kp_none, TV.one, TV.isAgg, Dn.part, k_boxR, negb, at0, at1, at2, at3, at4, dT, dF, wrapR_i64, Option.bind_some, Option.map_some, cA, cB, w1c, n1, s3, s4, h2, h3, go_denK (c := l36_3) rfl, i1, g0, g1, g5]

theorem fn36 {pg : Pg} (hF : Free pg) {r c : Nat} (h : Brd r c) : PFn pg 36 [.i .i64 (r : Int), .i .i64 (c : Int)] (.b (hasT r c)) := by
  have r0 := l36_5_round (pg := pg) hF (col := 0) h (by omega) (H := [])
  have r1 := l36_5_round (pg := pg) hF (col := 1) h (by omega) (H := [])
  have r2 : den pg l36_5 [(0, .i .i64 (r : Int)), (1, .i .i64 (c : Int)), (5, .i .i64 (1 + 1))] [] = some ⟨.exit 0, [(0, .i .i64 (r : Int)), (1, .i .i64 (c : Int)), (5, .i .i64 2), (12, .b false)], []⟩ := by
    rw [l36_5, den_loop]
    simp (disch := omega) [b36_4, go_nil, go_last, go_past, go_pastR, go_blkN, go_blkR, go_blkE, go_skip, go_exit, go_ret, go_scope, go_seq, go_reg, go_regd, go_opdN, go_opd, go_opdG, grdd_b, grdd_u, stpd_some, find_some, go_block, go_cond, cnd_b, go_opsN, go_ops, go_opsG, grd_b, grd_u, stp_some, fin_some, up_some, cont_some, k_call, k_mv, k_pick, k_bin, k_eqB, k_eqA, k_not, k_neg, k_conv, k_alloc, k_boxA, k_boxI, k_boxB, k_boxN, k_boxBs, k_ldR, k_ldA, k_ldI, k_ldB, k_stA, k_stI, k_stB, ldC_some, stC_some, k_mkfn, k_slc, k_slcA, k_ixA, k_ixBs, k_ixSl, k_fadr, k_fld, k_ext, k_len, k_app, k_mn, k_mx, k_nilck, k_build, k_bsl1, k_bsl2, b_add, b_sub, b_mul, b_eql, b_neq, b_lss, b_leq, b_gtr, b_geq, Dn.setLast, Dn.getLast, evalO, mapO, Dn.get, putE, keepE_nil, keepE_cons, kp_some, kp_none, TV.one, TV.isAgg, Dn.part, k_boxR, negb, at0, at1, at2, at3, at4, dT, dF, wrapR_i64, Option.bind_some, Option.map_some]
  simp only [Int.natCast_zero, Int.zero_add, Int.natCast_one, Nat.sub_zero, Nat.sub_self] at r0 r1
  rw [r2] at r1
  rw [r1] at r0
  have ht : hasT r c = (tryC r c (colM r c 0) (colM r c 1) || tryC r c (colM r c 1) (colM r c 0)) := rfl
  refine .inr ⟨hF.S _ _ (by decide), .b (hasT r c), [], body_of (x := .ret) (e := [(4, .b (hasT r c))]) (d := d36) (by rw [hF.F]; rfl) rfl ?_ (.inl rfl) rfl, sn_b _ _ _⟩
  rw [ht]
  generalize tryC r c (colM r c 0) (colM r c 1) = A at *
  generalize tryC r c (colM r c 1) (colM r c 0) = B at *
  cases A <;> cases B <;> simp (disch := omega) [d36, c36, zipE, go_nil, go_last, go_past, go_pastR, go_blkN, go_blkR, go_blkE, go_skip, go_exit, go_ret, go_scope, go_seq, go_reg, go_regd, go_opdN, go_opd, go_opdG, grdd_b, grdd_u, stpd_some, find_some, go_block, go_cond, cnd_b, go_opsN, go_ops, go_opsG, grd_b, grd_u, stp_some, fin_some, up_some, cont_some, k_call, k_mv, k_pick, k_bin, k_eqB, k_eqA, k_not, k_neg, k_conv, k_alloc, k_boxA, k_boxI, k_boxB, k_boxN, k_boxBs, k_ldR, k_ldA, k_ldI, k_ldB, k_stA, k_stI, k_stB, ldC_some, stC_some, k_mkfn, k_slc, k_slcA, k_ixA, k_ixBs, k_ixSl, k_fadr, k_fld, k_ext, k_len, k_app, k_mn, k_mx, k_nilck, k_build, k_bsl1, k_bsl2, b_add, b_sub, b_mul, b_eql, b_neq, b_lss, b_leq, b_gtr, b_geq, Dn.setLast, Dn.getLast, evalO, mapO, Dn.get, putE, keepE_nil, keepE_cons, kp_some, kp_none, TV.one, TV.isAgg, Dn.part, k_boxR, negb, at0, at1, at2, at3, at4, dT, dF, wrapR_i64, Option.bind_some, Option.map_some, go_denK (c := l36_5) rfl, r0]

end Go.Proofs.Tryd.Dn

