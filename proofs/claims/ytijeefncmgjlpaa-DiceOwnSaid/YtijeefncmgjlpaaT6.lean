/-
  The reference's sums and results, walked.
-/
import Derived.Test.YtijeefncmgjlpaaT5
set_option linter.unusedSimpArgs false
set_option linter.unusedVariables false

set_option maxHeartbeats 1000000
namespace Go.Proofs.Try.Dn
open Go.Dn

theorem gL_at {G : Nat -> Nat} {M t : Nat} (h : t < M) : (gL G M)[t]? = some (((G t : Nat) : Int)) := by
 unfold gL; rw [List.getElem?_map, List.getElem?_range h]; rfl
theorem gL_len (G : Nat -> Nat) (M : Nat) : (gL G M).length = M := by simp [gL]

theorem sumsN_step (ls : List (List Int)) (i : Nat) : sumsN ls (i + 1) = sumsN ls i ++ (if wn ls (i : Int) = 0 then [] else [((i : Int), ((wn ls (i : Int) : Nat) : Int))]) := by
 unfold sumsN
 rw [List.range_succ, List.filterMap_append]
 congr 1
 split <;> simp [*]

theorem sumsN_len (ls : List (List Int)) (i : Nat) : (sumsN ls i).length <= i := by
 unfold sumsN
 exact Nat.le_trans (List.length_filterMap_le _ _) (by simp)

theorem sumsN_mx {ls : List (List Int)} (hl : ls.length <= 6) (hD : ∀ d ∈ ls, DieL 60 d) : sumsN ls (mxS ls) = sumsL ls := by
 rw [<- sums_of hl hD (sumsE_cm (ls := ls) (N := mxS ls) fun j hj => ?_), sumsE_ent]
 have := wn_mx hD ls.length (Nat.le_refl _) j (by rw [List.take_length]; exact hj)
 rw [List.take_length] at this
 exact this

theorem l44_1_all {pg : Pg} {ls : List (List Int)} (hM : mxS ls <= 1000) : ∀ (r i : Nat) (O : TV) (H : Heap), i + r = mxS ls -> elQ.Own H O (sumsN ls i) ->
  ∃ e O' H', den pg l44_1 [(3, elI.lt false (refW ls)), (4, O), (5, .i .i64 (i : Int))] H = some ⟨.exit 0, (3, elI.lt false (refW ls)) :: (4, O') :: e, H'⟩ /\ elQ.Own H' O' (sumsN ls (mxS ls))
 | 0, i, O, H, hi, hO => by
  obtain rfl : i = mxS ls := by omega
  have ln : ∀ K, lenK 0 (elI.lt false (refW ls)) K = some (mxS ls) := fun K => by
   have := (ltV elI false K (refW ls)).lenK
   rw [show (refW ls).length = mxS ls from gL_len _ _] at this
   exact this K
  have ln' : ∀ K, (lenK 0 (elI.lt false (refW ls)) K).map (fun (n : Nat) => TV.i .i64 (n : Int)) = some (.i .i64 (mxS ls : Int)) := fun K => by rw [ln]; rfl
  refine ⟨[(5, .i .i64 (mxS ls : Int)), (11, .b false)], O, H, ?_, hO⟩
  generalize (mxS ls : Int) = M at *
  generalize elI.lt false (refW ls) = W at *
  clear ln
  rw [l44_1, den_loop]
  simp (disch := omega) [b44_0, Z0, Z1, Z2, Z3, Z4, Z5, Z6, Z7, Z8, Z9, Za, Zb, Zc, Zd, Ze, Zf, Zg, Zh, Zi, Zj, Zk, Zl, Zm, Zn, Zo, Zp, Zq, Zr, Zs, Zt, Zu, Zv, Zw, Zx, k_mv, Zy, Zz, ZA, ZB, ZC, ZD, ZE, ZF, ZG, ZH, ZI, ZJ, ZK, ZL, ZM, ZN, ZO, ZP, ZQ, ZR, ZS, ZT, ZU, ZV, ZW, ZX, ZY, ZZ, Y0, Y1, Y2, Y3, Y4, k_mn, k_mx, Y5, Y6, Y7, Y8, Y9, Ya, Yb, Yc, Yd, Ye, Yf, Yg, Yh, Dn.setLast, Dn.getLast, evalO, mapO, Dn.get, putE, Yi, Yj, Yk, Yl, TV.one, TV.isAgg, Dn.part, Ym, negb, at0, at1, at2, at3, at4, dT, dF, Yn, Option.bind_some, Option.map_some, ln']
 | r + 1, i, O, H, hi, hO => by
  have ln : ∀ K, lenK 0 (elI.lt false (refW ls)) K = some (mxS ls) := fun K => by
   have := (ltV elI false K (refW ls)).lenK
   rw [show (refW ls).length = mxS ls from gL_len _ _] at this
   exact this K
  have ln' : ∀ K, (lenK 0 (elI.lt false (refW ls)) K).map (fun (n : Nat) => TV.i .i64 (n : Int)) = some (.i .i64 (mxS ls : Int)) := fun K => by rw [ln]; rfl
  have hx : (refW ls)[i]? = some ((wn ls (i : Int) : Nat) : Int) := gL_at (by omega)
  obtain ⟨p, p1, p2⟩ := ixI (pg := pg) (R := den pg) (ltV elI false H (refW ls)) hx
  have hst := sumsN_step ls i
  have hlen := sumsN_len ls i
  have w2 : wrapR .i64 ((i : Int) + 1) = .i .i64 ((i + 1 : Nat) : Int) := by rw [<- Int.natCast_succ]; exact Yn (by omega)
  have dd : decide ((i : Int) < (mxS ls : Int)) = true := dT (by omega)
  by_cases h0 : wn ls (i : Int) = 0
  ·rw [if_pos h0, List.append_nil] at hst
   rw [<- hst] at hO
   rw [h0] at p2
   obtain ⟨e, O', H', r1, r2⟩ := l44_1_all (pg := pg) hM r (i + 1) O H (by omega) hO
   refine ⟨e, O', H', Eq.trans ?_ r1, r2⟩
   simp only [Int.natCast_zero] at p2
   generalize ((i + 1 : Nat) : Int) = I2 at *
   generalize (i : Int) = I at *
   generalize (mxS ls : Int) = M at *
   generalize elI.lt false (refW ls) = W at *
   clear ln hst hO r1 r2
   rw [l44_1, den_loop]
   simp (disch := omega) [l44_1, b44_0, Z0, Z1, Z2, Z3, Z4, Z5, Z6, Z7, Z8, Z9, Za, Zb, Zc, Zd, Ze, Zf, Zg, Zh, Zi, Zj, Zk, Zl, Zm, Zn, Zo, Zp, Zq, Zr, Zs, Zt, Zu, Zv, Zw, Zx, k_mv, Zy, Zz, ZA, ZB, ZC, ZD, ZE, ZF, ZG, ZH, ZI, ZJ, ZK, ZL, ZM, ZN, ZO, ZP, ZQ, ZR, ZS, ZT, ZU, ZV, ZW, ZX, ZY, ZZ, Y0, Y1, Y2, Y3, Y4, k_mn, k_mx, Y5, Y6, Y7, Y8, Y9, Ya, Yb, Yc, Yd, Ye, Yf, Yg, Yh, Dn.setLast, Dn.getLast, evalO, mapO, Dn.get, putE, Yi, Yj, Yk, Yl, TV.one, TV.isAgg, Dn.part, Ym, negb, at0, at1, at2, at3, at4, dT, dF, Yn, Option.bind_some, Option.map_some, ln', dd, p1, p2, w2]
  ·rw [if_neg h0] at hst
   obtain ⟨v, hv⟩ : ∃ v : Int × Int, v = ((i : Int), ((wn ls (i : Int) : Nat) : Int)) := ⟨_, rfl⟩
   obtain ⟨H1, hH1⟩ : ∃ H1, H1 = H ++ [AObj.cells (elQ.enc v) false] := ⟨_, rfl⟩
   have hv1 := view1 elQ H v
   have hO1 : elQ.Own H1 O (sumsN ls i) := hO.mono fun id hid => by rw [hH1, List.getElem?_append_left (hO.lt id hid)]
   rw [<- hH1] at hv1
   obtain ⟨O1, H2, a1, a2, a3, a4, a5⟩ := El.app (E := elQ) (bytes := 16) hO1 hv1 (by simp; omega)
   rw [hv, <- hst] at a2
   have bl : dkc pg (den pg) (.build [.i .i64 0, .i .i64 0] [(0, 1), (1, 1)]) [.i .i64 (i : Int), .i .i64 ((wn ls (i : Int) : Nat) : Int)] H = some (.agg (elQ.enc v), H) := by
    rw [hv]
    show dk (.build [.i .i64 0, .i .i64 0] [(0, 1), (1, 1)]) [.i .i64 (i : Int), .i .i64 ((wn ls (i : Int) : Nat) : Int)] H = _
    simp [dk, fillP, TV.cells, TV.one, put2, elQ]
   have bs : dkc pg (den pg) (.bsl false [.i .i64 0, .i .i64 0] true 1 [0]) [.agg (elQ.enc v)] H = some (.sl H.length 0 2 true 1 (some 1), H1) := by
    rw [hH1]
    show dk (.bsl false [.i .i64 0, .i .i64 0] true 1 [0]) [.agg (elQ.enc v)] H = _
    simp [dk, fillP, repl, TV.cells, TV.one, put2, elQ]
   have ap : dkc pg (den pg) (.app 2 true 16) [O, .sl H.length 0 2 true 1 (some 1)] H1 = some (O1, H2) := a1
   obtain ⟨e, O', H', r1, r2⟩ := l44_1_all (pg := pg) hM r (i + 1) O1 H2 (by omega) a2
   refine ⟨e, O', H', Eq.trans ?_ r1, r2⟩
   have dp : decide (((wn ls (i : Int) : Nat) : Int) > 0) = true := dT (by omega)
   have dp' : decide (0 < ((wn ls (i : Int) : Nat) : Int)) = true := dT (by omega)
   generalize TV.agg (elQ.enc v) = V at *
   generalize (TV.sl H.length 0 2 true 1 (some 1)) = Vs at *
   clear ln hst hO r1 r2 hv hH1 hv1 hO1 a1 a2 a3 a4 a5 hx
   generalize ((wn ls (i : Int) : Nat) : Int) = w at *
   generalize ((i + 1 : Nat) : Int) = I2 at *
   generalize (i : Int) = I at *
   generalize (mxS ls : Int) = M at *
   generalize elI.lt false (refW ls) = W at *
   rw [l44_1, den_loop]
   simp (disch := omega) [l44_1, b44_0, Z0, Z1, Z2, Z3, Z4, Z5, Z6, Z7, Z8, Z9, Za, Zb, Zc, Zd, Ze, Zf, Zg, Zh, Zi, Zj, Zk, Zl, Zm, Zn, Zo, Zp, Zq, Zr, Zs, Zt, Zu, Zv, Zw, Zx, k_mv, Zy, Zz, ZA, ZB, ZC, ZD, ZE, ZF, ZG, ZH, ZI, ZJ, ZK, ZL, ZM, ZN, ZO, ZP, ZQ, ZR, ZS, ZT, ZU, ZV, ZW, ZX, ZY, ZZ, Y0, Y1, Y2, Y3, Y4, k_mn, k_mx, Y5, Y6, Y7, Y8, Y9, Ya, Yb, Yc, Yd, Ye, Yf, Yg, Yh, Dn.setLast, Dn.getLast, evalO, mapO, Dn.get, putE, Yi, Yj, Yk, Yl, TV.one, TV.isAgg, Dn.part, Ym, negb, at0, at1, at2, at3, at4, dT, dF, Yn, Option.bind_some, Option.map_some, ln', dd, dp, dp', p1, p2, w2, bl, bs, ap, -Y7]

theorem fn44 {pg : Pg} (hF : Free pg) {T : TV} {ls : List (List Int)} (hT : SSV T ls) (hl : ls.length <= 6) (hD : ∀ d ∈ ls, DieL 60 d) : PFn pg 44 [T] (elQ.lt false (sumsL ls)) := by
 obtain ⟨T', s1, hT'⟩ := snapSSV hT []
 have c46 := PFn.call (fn46 (pg := pg) hF hT' hl hD) (args := [T]) (ks := []) (fs := []) (cs := []) (H := []) (by simpa using s1)
 have hM := mxS_le hD
 obtain ⟨e, O, H, r1, r2⟩ := l44_1_all (pg := pg) (ls := ls) (by omega) (mxS ls) 0 .nilsl [] (by omega) (.inl ⟨rfl, rfl⟩)
 rw [sumsN_mx hl hD] at r2
 refine .inr ⟨hF.S _ _, O, H, body_of (x := .ret) (e := [(2, O)]) (d := d44) (by rw [hF.F]; rfl) rfl ?_ (.inl rfl) rfl, r2.fin elQ_flat⟩
 simp only [Int.natCast_zero] at r1
 generalize elI.lt false (refW ls) = W at *
 simp (disch := omega) [d44, c44, zipE, Z0, Z1, Z2, Z3, Z4, Z5, Z6, Z7, Z8, Z9, Za, Zb, Zc, Zd, Ze, Zf, Zg, Zh, Zi, Zj, Zk, Zl, Zm, Zn, Zo, Zp, Zq, Zr, Zs, Zt, Zu, Zv, Zw, Zx, k_mv, Zy, Zz, ZA, ZB, ZC, ZD, ZE, ZF, ZG, ZH, ZI, ZJ, ZK, ZL, ZM, ZN, ZO, ZP, ZQ, ZR, ZS, ZT, ZU, ZV, ZW, ZX, ZY, ZZ, Y0, Y1, Y2, Y3, Y4, k_mn, k_mx, Y5, Y6, Y7, Y8, Y9, Ya, Yb, Yc, Yd, Ye, Yf, Yg, Yh, Dn.setLast, Dn.getLast, evalO, mapO, Dn.get, putE, Yi, Yj, Yk, Yl, TV.one, TV.isAgg, Dn.part, Ym, negb, at0, at1, at2, at3, at4, dT, dF, Yn, Option.bind_some, Option.map_some, c46, go_denK (c := l44_1) rfl, r1]

end Go.Proofs.Try.Dn

