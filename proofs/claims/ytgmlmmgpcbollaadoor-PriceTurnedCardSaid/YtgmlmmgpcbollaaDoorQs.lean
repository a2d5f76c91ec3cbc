/-
  PriceTurned: the whole run answers true.
-/
import Derived.Test.YtgmlmmgpcbollaaDoorQr
set_option linter.unusedSimpArgs false
set_option linter.unusedVariables false

namespace Go.Proofs.Tryd.Dn
open Go.Dn

structure TInv (base : Nat) (H0 H : Heap) (out : TV) (X : List Obs) : Prop where
  n : NestP H out X
  old : ∀ j, j < base → H[j]? = H0[j]?
  out : ∀ id, out.idOf = some id → base ≤ id
  len : base ≤ H.length

theorem l8_7_all {pg : Pg} {X : List Obs} {g : Nat} (hm : Market X g) (b : Int) {Y S : TV} {base : Nat} {H0 : Heap} : ∀ (d i : Nat) (out : TV) (H : Heap), i + d = X.length → TInv base H0 H out ((turned b X).take i) →
    ∃ e out' H', den pg l8_7 [(2, .i .i64 b), (7, (elS false).lt false X), (8, Y), (9, S), (10, out), (12, .i .i64 (i : Int))] H = some ⟨.exit 2, e, H'⟩ ∧
      keepE [8, 9, 10] e = [(8, Y), (9, S), (10, out')] ∧ TInv base H0 H' out' (turned b X)
  | 0, i, out, H, h, ho => by
    obtain rfl : i = X.length := by omega
    have hlX := El.lt_len (E := elS false) false X
    refine ⟨[(2, .i .i64 b), (7, (elS false).lt false X), (8, Y), (9, S), (10, out), (12, .i .i64 (X.length : Int)), (63, .b false)], out, H, ?_, rfl, by rwa [List.take_of_length_le (by rw [turned_len]; exact Nat.le_refl _)] at ho⟩
    rw [l8_7, den_loop]
    simp [b8_6, go_nil, go_last, go_past, go_pastR, go_blkN, go_blkR, go_blkE, go_skip, go_exit, go_ret, go_scope, go_seq, go_reg, go_block, go_cond, cnd_b, go_opsN, go_ops, go_opsG, grd_b, grd_u, stp_some, fin_some, up_some, cont_some, k_call, k_mv, k_pick, k_bin, k_eqB, k_eqA, k_not, k_neg, k_conv, k_alloc, k_boxA, k_boxI, k_boxB, k_boxN, k_boxBs, k_ldR, k_ldA, k_ldI, k_ldB, k_stA, k_stI, k_stB, ldC_some, stC_some, k_mkfn, k_slc, k_slcA, k_ixA, k_ixBs, k_ixSl, k_fadr, k_fld, k_ext, k_len, k_app, k_mn, k_mx, k_nilck, k_build, k_bsl1, k_bsl2, b_add, b_sub, b_mul, b_eql, b_neq, b_lss, b_leq, b_gtr, b_geq, Dn.setLast, Dn.getLast, evalO, mapO, Dn.get, putE, keepE, TV.one, TV.isAgg, Dn.part, hlX]
  | d + 1, i, out, H, h, ho => by
    have hn5 := hm.n5
    have hi : i < X.length := by omega
    have e1 : ((i : Int) < (X.length : Int)) := by omega
    have e2 : wrapR .i64 ((i : Int) + 1) = .i .i64 ((i : Int) + 1) := wrapR_i64 (by omega)
    have hlX := El.lt_len (E := elS false) false X
    have hx : X[i]? = some X[i] := List.getElem?_eq_getElem hi
    obtain ⟨a1, a2, a3, a4, _⟩ := okObs_iff.1 (hm.ok X[i] (List.getElem_mem hi))
    have hg1 := hm.g1
    have hg3 := hm.g3
    have hne : X[i].1 ≠ [] := by intro he; rw [he] at a1; simp at a1; omega
    obtain ⟨t1, t2, q1, q2, q3, t3⟩ := tmO_range (b := b) hne a3
    obtain ⟨m1, m2, _⟩ := maxF_range hne a3
    obtain ⟨HA, hA⟩ : ∃ HA, HA = H ++ [.cells [.nilsl, .nilsl] true] := ⟨_, rfl⟩
    obtain ⟨bo, a, c, hix, ha, hc⟩ := (elS_RV false false X).ix (pg := pg) (R := den pg) hx HA
    obtain ⟨f1, _⟩ := k_fadrP (pg := pg) (R := den pg) bo a c ha.noagg hc.noagg HA
    have d1 := k_ldV (pg := pg) (R := den pg) bo a ha.one HA
    have la := (ha.view HA).lenK HA
    obtain ⟨E1, h1, k1⟩ := l8_3_all (pg := pg) hx (by omega) (B := .i .i64 b) (Y := Y) (S := S) (O := out) (Q := .ref H.length 0) (H := HA) X[i].1.length 0 0 (by omega)
    rw [List.drop_zero] at k1
    have hmx : X[i].1.foldl (fun m p => if p > m then p else m) 0 = maxF X[i].1 := rfl
    rw [hmx] at k1
    simp only [Int.natCast_zero] at h1
    have w2 := keep_get k1 (s := 2) (by simp) rfl
    have w7 := keep_get k1 (s := 7) (by simp) rfl
    have w8 := keep_get k1 (s := 8) (by simp) rfl
    have w9 := keep_get k1 (s := 9) (by simp) rfl
    have w10 := keep_get k1 (s := 10) (by simp) rfl
    have w12 := keep_get k1 (s := 12) (by simp) rfl
    have w13 := keep_get k1 (s := 13) (by simp) rfl
    have w14 := keep_get k1 (s := 14) (by simp) rfl
    have w15 := keep_get k1 (s := 15) (by simp) rfl
    have pi0 : PairInv H.length H HA .nilsl .nilsl (((X[i].1.map (tmO b X[i] * ·)).drop X[i].1.length).reverse) ((X[i].2.drop X[i].1.length).reverse) := by
      rw [List.drop_eq_nil_of_le (by simp), List.drop_eq_nil_of_le (by omega), hA]
      exact PairInv.init (pg := pg) (R := den pg) H
    obtain ⟨E2, a', c', H2, h2, k2, p5⟩ := l8_5_all (pg := pg) hx ⟨by omega, by omega⟩ t3 (B := .i .i64 b) (Y := Y) (S := S) (O := out) X[i].1.length .nilsl .nilsl HA (Nat.le_refl _) pi0
    have g2 := keep_get k2 (s := 2) (by simp) rfl
    have g7 := keep_get k2 (s := 7) (by simp) rfl
    have g8 := keep_get k2 (s := 8) (by simp) rfl
    have g9 := keep_get k2 (s := 9) (by simp) rfl
    have g10 := keep_get k2 (s := 10) (by simp) rfl
    have g12 := keep_get k2 (s := 12) (by simp) rfl
    have g13 := keep_get k2 (s := 13) (by simp) rfl
    obtain ⟨_, _, ld2'⟩ := p5.ld (pg := pg) (R := den pg)
    obtain ⟨o1, o2, o3⟩ := Own_one p5.pa
    obtain ⟨o4, o5, o6⟩ := Own_one p5.pc
    have kb := k_bslP (pg := pg) (R := den pg) o1 o4 H2
    have hbase := ho.len
    have hl2 : H.length < H2.length := (List.getElem?_eq_some_iff.1 p5.box).1
    obtain ⟨out', H', b1, b2, b3, b4, b5⟩ := (ho.n.mono (H' := H2) fun id hid => p5.old id hid).app (x := turnO (tmO b X[i]) X[i]) p5.pa p5.pc (fun id hid he => by
      have := ho.n.lt id he
      rcases hid with hid | hid
      · have := p5.na id hid; omega
      · have := p5.nc id hid; omega) (by simp [turned]; omega)
    have htk : (turned b X).take (i + 1) = (turned b X).take i ++ [turnO (tmO b X[i]) X[i]] := by
      rw [List.take_add_one]
      simp [turned, hi]
    rw [← htk] at b2
    obtain ⟨e, out2, H3, r1, r2, r3⟩ := l8_7_all (pg := pg) hm b (Y := Y) (S := S) (base := base) (H0 := H0) d (i + 1) out' H' (by omega) ⟨b2, fun j hj => by
      rw [b4 j (by omega) (fun he => by have := ho.out j he; omega), p5.old j (by omega)]
      exact ho.old j hj, fun id hid => by have := b5 id hid; omega, by omega⟩
    refine ⟨e, out2, H3, Eq.trans ?_ r1, r2, r3⟩
    have e3 : wrapR .u64 b = .i .u64 (IntKind.wrap .u64 b) := rfl
    have e4 : binI .quo (.i .i64 20) (.i .i64 (maxF X[i].1)) = some (.i .i64 (Int.tdiv 20 (maxF X[i].1))) := by
      have h0 : ¬ maxF X[i].1 = 0 := by omega
      simp only [binI, if_neg h0]
      rw [if_pos trivial, wrapR_i64 (by omega)]
    have e5 : wrapR .u64 (Int.tdiv 20 (maxF X[i].1)) = .i .u64 (Int.tdiv 20 (maxF X[i].1)) := by
      generalize Int.tdiv 20 (maxF X[i].1) = q at *
      unfold wrapR; simp [IntKind.wrap, IntKind.signed, IntKind.bits]; omega
    have e6 : binI .rem (.i .u64 (IntKind.wrap .u64 b)) (.i .u64 (Int.tdiv 20 (maxF X[i].1))) = some (.i .u64 ((IntKind.wrap .u64 b).tmod (Int.tdiv 20 (maxF X[i].1)))) := by rw [b_rem, if_neg (by omega)]
    have htm : tmO b X[i] = 1 + (IntKind.wrap .u64 b).tmod (Int.tdiv 20 (maxF X[i].1)) := rfl
    have e7 : wrapR .i64 ((IntKind.wrap .u64 b).tmod (Int.tdiv 20 (maxF X[i].1))) = .i .i64 ((IntKind.wrap .u64 b).tmod (Int.tdiv 20 (maxF X[i].1))) := wrapR_i64 (by omega)
    have e8 : wrapR .i64 (1 + (IntKind.wrap .u64 b).tmod (Int.tdiv 20 (maxF X[i].1))) = .i .i64 (tmO b X[i]) := by rw [← htm]; exact wrapR_i64 (by omega)
    have e9 : wrapR .i64 ((X[i].1.length : Int) - 1) = .i .i64 ((X[i].1.length : Int) - 1) := wrapR_i64 (by omega)
    clear htm t3 pi0 k1 k2
    generalize hQ : Int.tdiv 20 (maxF X[i].1) = qq at *
    generalize maxF X[i].1 = mm at *
    generalize tmO b X[i] = tt at *
    generalize hR : (IntKind.wrap .u64 b).tmod qq = rr at *
    generalize IntKind.wrap .u64 b = ww at *
    rw [l8_7, den_loop]
    simp [l8_7, b8_6, go_nil, go_last, go_past, go_pastR, go_blkN, go_blkR, go_blkE, go_skip, go_exit, go_ret, go_scope, go_seq, go_reg, go_block, go_cond, cnd_b, go_opsN, go_ops, go_opsG, grd_b, grd_u, stp_some, fin_some, up_some, cont_some, k_call, k_mv, k_pick, k_bin, k_eqB, k_eqA, k_not, k_neg, k_conv, k_alloc, k_boxA, k_boxI, k_boxB, k_boxN, k_boxBs, k_ldR, k_ldA, k_ldI, k_ldB, k_stA, k_stI, k_stB, ldC_some, stC_some, k_mkfn, k_slc, k_slcA, k_ixA, k_ixBs, k_ixSl, k_fadr, k_fld, k_ext, k_len, k_app, k_mn, k_mx, k_nilck, k_build, k_bsl1, k_bsl2, b_add, b_sub, b_mul, b_eql, b_neq, b_lss, b_leq, b_gtr, b_geq, Dn.setLast, Dn.getLast, evalO, mapO, Dn.get, putE, keepE, TV.one, TV.isAgg, Dn.part, hlX, e1, e2, ← hA, hix, f1, d1, la, go_denK (c := l8_3) rfl, h1, w2, w7, w8, w9, w10, w12, w13, w14, w15, e3, e4, e5, e6, e7, e8, e9, go_denK (c := l8_5) rfl, h2, g2, g7, g8, g9, g10, g12, g13, ld2', kb, b1]

set_option maxRecDepth 20000 in
theorem run8 {pg : Pg} (hF : Free pg) (h24 : PFn pg 24 [] (.b true)) {T : TV} {l : List Obs} (hT : Rws T l) (hl : l.length ≤ 9223372036854775807) (n b : Int) : ∃ H, bodyRun pg (den pg) 8 [T, .i .i64 n, .i .i64 b] [] = some (.b true, H) := by
  obtain ⟨X, g, hm, c17⟩ := call17 hF hT hl n
  have hn5 := hm.n5
  have hn1 := hm.n1
  have c18 := call18m hF hm
  have c24 := fun H => PFn.call h24 (args := []) (ks := []) (fs := []) (cs := []) (H := H) (by simp [snapArgs])
  have hlX := El.lt_len (E := elS false) false X
  have e9 : wrapR .i64 ((X.length : Int) - 1) = .i .i64 ((X.length : Int) - 1) := wrapR_i64 (by omega)
  have hrev0 : revL X.length X.length = [] := by unfold revL; rw [List.drop_eq_nil_of_le (by simp)]; rfl
  have hrev1 : revL X.length 0 = (List.range X.length).reverse := by unfold revL; rw [List.drop_zero]
  obtain ⟨E1, S, H1, h1, k1, hS⟩ := l8_1_all hF hm (B := .i .i64 b) (Y := (elS false).lt false X) X.length .nilsl [] (Nat.le_refl _) (by rw [hrev0]; exact .inl ⟨rfl, rfl⟩)
  rw [hrev1] at hS
  have w2 := keep_get k1 (s := 2) (by simp) rfl
  have w7 := keep_get k1 (s := 7) (by simp) rfl
  have w8 := keep_get k1 (s := 8) (by simp) rfl
  have w9 := keep_get k1 (s := 9) (by simp) rfl
  have w10 := keep_get k1 (s := 10) (by simp) rfl
  obtain ⟨E2, O, H2, h2, k2, hO⟩ := l8_7_all (pg := pg) hm b (Y := (elS false).lt false X) (S := S) (base := H1.length) (H0 := H1) X.length 0 .nilsl H1 (by omega) ⟨by rw [List.take_zero]; exact NestP.nil _, fun _ _ => rfl, fun id h => (by cases h), Nat.le_refl _⟩
  have g8 := keep_get k2 (s := 8) (by simp) rfl
  have g9 := keep_get k2 (s := 9) (by simp) rfl
  have g10 := keep_get k2 (s := 10) (by simp) rfl
  have hS2 : (elS false).Own H2 S (sub X (List.range X.length).reverse) := hS.mono fun id hid => hO.old id (hS.lt id hid)
  have hset := rev_set X
  have hLne : (List.range X.length).reverse ≠ [] := by
    intro he
    have := congrArg List.length he
    rw [List.length_reverse, List.length_range, List.length_nil] at this
    omega
  have hmS := sub_market hm hset.nodup hset.lt hLne
  have hmO := turned_market hm b
  -- rings
  obtain ⟨r, c25, r1, _, _⟩ := call25 hF hm
  obtain ⟨r', c25', r1'⟩ := call25o hF hmS hS2
  have hring : decide (r' ≠ []) = decide (r ≠ []) := by
    rw [decide_eq_decide]
    refine not_congr (r1'.trans (Iff.trans (not_congr ?_) r1.symm))
    have p1 : (∃ i k, PairT (sub X (List.range X.length).reverse).length (pref (sub X (List.range X.length).reverse) 1 1) i k) ↔ ∃ i k, Pair (sub X (List.range X.length).reverse) (2 ^ (sub X (List.range X.length).reverse).length - 1) 1 1 i k := ⟨fun ⟨i, k, h⟩ => ⟨i, k, pair_iff.2 h⟩, fun ⟨i, k, h⟩ => ⟨i, k, pair_iff.1 h⟩⟩
    have p2 : (∃ i k, PairT X.length (pref X 1 1) i k) ↔ ∃ i k, Pair X (2 ^ X.length - 1) 1 1 i k := ⟨fun ⟨i, k, h⟩ => ⟨i, k, pair_iff.2 h⟩, fun ⟨i, k, h⟩ => ⟨i, k, pair_iff.1 h⟩⟩
    rw [p1, p2]
    exact sub_ring hset
  rw [hring] at c25'
  -- shares
  have sS : Dn.snap .borrow H2 9 S = some ((elS true).lt true (sub X (List.range X.length).reverse)) := El.Own.to (m := .borrow) (f := 8) (by decide) hS2 (E' := elS true) rfl (mapO_map fun a _ => snap_pair false H2 5 a)
  have sO : Dn.snap .borrow H2 9 O = some ((elS true).lt true (turned b X)) := NestP.bor hO.n 4
  obtain ⟨s, hs, _, c19⟩ := call19 hF hm
  obtain ⟨u, hu, f19⟩ := fn19 hF hmS
  obtain ⟨v, hv, f19'⟩ := fn19 hF hmO
  obtain rfl : s = u := hs.unique hu fun t _ => sub_cyc hm hset (fun x hx => by simpa using hx) hLne t
  obtain rfl : s = v := turned_share hm b hs hv
  have c19S := PFn.call f19 (args := [S]) (ks := []) (fs := []) (cs := []) (H := H2) (by simp [snapArgs, sS])
  have c19O := PFn.call f19' (args := [O]) (ks := []) (fs := []) (cs := []) (H := H2) (by simp [snapArgs, sO])
  -- tastes
  have c38 := call38 hF hm (elS_RV false false X)
  have f38 := fn38 hF hmO (elS_RV true true (turned b X))
  rw [turned_prefs hm b 1 1] at f38
  have c38O := PFn.call f38 (args := [O]) (ks := []) (fs := []) (cs := []) (H := H2) (by simp [snapArgs, sO])
  have c36 := call36 hF (l := prefs X 1 1) (by rw [prefs_tab, tabl_len]; omega) (by
    intro x hx
    rw [prefs_tab] at hx
    obtain ⟨i, _, rfl⟩ := List.mem_map.1 hx
    simp; omega)
  simp only [Int.natCast_zero] at h2
  refine ⟨H2, body_of (x := .ret) (e := [(6, .b true)]) (d := d8) (by rw [hF.F]; rfl) rfl ?_ (.inl rfl) rfl⟩
  generalize (elR false).lt false (prefs X 1 1) = P at *
  generalize decide (r ≠ []) = rr at *
  generalize (s.1 : Int) = v1 at *
  generalize (s.2 : Int) = v2 at *
  simp [d8, c8, negb, zipE, go_nil, go_last, go_past, go_pastR, go_blkN, go_blkR, go_blkE, go_skip, go_exit, go_ret, go_scope, go_seq, go_reg, go_block, go_cond, cnd_b, go_opsN, go_ops, go_opsG, grd_b, grd_u, stp_some, fin_some, up_some, cont_some, k_call, k_mv, k_pick, k_bin, k_eqB, k_eqA, k_not, k_neg, k_conv, k_alloc, k_boxA, k_boxI, k_boxB, k_boxN, k_boxBs, k_ldR, k_ldA, k_ldI, k_ldB, k_stA, k_stI, k_stB, ldC_some, stC_some, k_mkfn, k_slc, k_slcA, k_ixA, k_ixBs, k_ixSl, k_fadr, k_fld, k_ext, k_len, k_app, k_mn, k_mx, k_nilck, k_build, k_bsl1, k_bsl2, b_add, b_sub, b_mul, b_eql, b_neq, b_lss, b_leq, b_gtr, b_geq, Dn.setLast, Dn.getLast, evalO, mapO, Dn.get, putE, keepE, TV.one, TV.isAgg, Dn.part, c17, c18, hlX, e9, go_denK (c := l8_1) rfl, h1, w2, w7, w8, w9, w10, go_denK (c := l8_7) rfl, h2, g8, g9, g10, c25, c25', c19, c19S, c19O, c38, c38O, c36, c24]

end Go.Proofs.Tryd.Dn

