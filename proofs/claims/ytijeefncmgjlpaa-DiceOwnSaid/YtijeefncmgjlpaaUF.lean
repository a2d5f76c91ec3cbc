/-
  ring (66) whole: a ring, or a rank list.
-/
import Derived.Test.YtijeefncmgjlpaaUE
set_option linter.unusedSimpArgs false
set_option linter.unusedVariables false

set_option maxHeartbeats 4000000
set_option maxRecDepth 100000
namespace Go.Proofs.Try.Dn
open Go.Dn

theorem rep0 (n : Nat) : List.replicate n (TV.i .i64 0) = List.map (fun _ => TV.i .i64 0) (List.range n) := by
 induction n with
 | zero => rfl
 | succ N ih => rw [List.range_succ, List.map_append, List.replicate_succ', ih]; simp

theorem body66 {pg : Pg} (hF : Free pg) {n : Nat} {E : Nat -> Nat -> Bool} {TBL : TV} (hn : n <= 900) (hirr : ∀ x, E x x = false) (hasy : ∀ x y, E x y = true -> E y x = false) (hT : TabOf n E TBL) :
  (∃ (r : List Nat) (H' : Heap), bodyRun pg (den pg) 66 [TBL] [] = some (.tup [elI.lt false (ci r), .nilsl], H') /\ RingN E n r) \/
  (∃ (t : TV) (ord : List Nat) (H' : Heap), bodyRun pg (den pg) 66 [TBL] [] = some (.tup [.nilsl, t], H') /\ elI.Own H' t (ci ord.reverse) /\ ord.length = n /\ ord.Nodup /\ (∀ x ∈ ord, x < n) /\ ∀ (i k x y : Nat), k < i -> ord.reverse[i]? = some x -> ord.reverse[k]? = some y -> E x y = false) := by
 have hT' := hT
 obtain ⟨b, tab, hTB, ht1, ht2⟩ := hT'
 have ag : TBL.isAgg = false := by rw [hTB]; cases tab <;> rfl
 have one : TBL.one = true /\ TBL.cells = [TBL] := by rw [hTB]; cases tab <;> exact ⟨rfl, rfl⟩
 have lr : ∀ K, (lenK 0 TBL K).map (fun (n : Nat) => TV.i .i64 (n : Int)) = some (.i .i64 (n : Int)) := fun K => by
  have := lnB (elRw elB b) b tab K
  rw [ht1] at this
  rw [hTB]; exact this
 have h0 := hs_start TBL n []
 simp only [List.length_nil, List.nil_append] at h0
 have hq : qOf 0 = { rS := 4, sI := 3, rP := 5, rR := 1, rT := 0, rF := 6, rO := 2 } := rfl
 obtain ⟨FN, hFN⟩ : ∃ FN, FN = TV.fn 90 [] (qOf 0).caps := ⟨_, rfl⟩
 obtain ⟨SI, hSI⟩ : ∃ SI, SI = TV.sl 3 0 1 false n (some n) := ⟨_, rfl⟩
 obtain ⟨CI, hCI⟩ : ∃ CI, CI = gC (fun _ => 0) n := ⟨_, rfl⟩
 obtain ⟨G0, hG0⟩ : ∃ G0, G0 = [AObj.cells [TBL] false, .cells [.nilsl] false, .cells [.nilsl] false, .cells CI false, .cells [SI] false, .cells [.nilsl] false, .cells [FN] false] := ⟨_, rfl⟩
 have h1 : HS (qOf 0) n TBL (fun _ => 0) [] [] .nilsl .nilsl G0 := by rw [hG0, hSI, hCI, hFN]; exact h0
 have hR0 : G0[(qOf 0).rR]? = some (.cells [.nilsl] false) := by rw [hG0]; rfl
 have hd0 := Dfs.start E n
 have nd := h1.nd
 simp only [Q90.ids, List.nodup_cons, List.mem_cons, List.mem_nil_iff, or_false, not_or, not_false_eq_true, List.nodup_nil, and_true] at nd
 have rep : repl [TV.i .i64 0] n = gC (fun _ => 0) n := by
  simp only [repl, gC]
  simp
  exact rep0 n
 have mk : ∀ K : Heap, K.length = 3 -> dkc pg (den pg) (.mksl [.i .i64 0] false 8) [.i .i64 (n : Int), .i .i64 (n : Int)] K = some (SI, K ++ [.cells CI false]) := fun K hK => by
  rw [hSI, hCI, <- hK]
  show dk (.mksl [.i .i64 0] false 8) [.i .i64 (n : Int), .i .i64 (n : Int)] K = _
  simp only [dk, bound, Int.natCast_nonneg, if_true, Option.bind_some, Int.toNat_natCast]
  rw [if_pos ⟨Nat.le_refl _, by omega, by omega⟩]
  rw [rep]; rfl
 have sS := stC1 (pg := pg) (H := [AObj.cells [TBL] false, .cells [.nilsl] false, .cells [.nilsl] false, .cells CI false, .cells [.nilsl] false]) (r := 4) (t := .nilsl) (v := SI) rfl (by rw [hSI]; rfl) (by rw [hSI]; rfl)
 have sF := stC1 (pg := pg) (H := [AObj.cells [TBL] false, .cells [.nilsl] false, .cells [.nilsl] false, .cells CI false, .cells [SI] false, .cells [.nilsl] false, .cells [.nilfn] false]) (r := 6) (t := .nilfn) (v := FN) rfl (by rw [hFN]; rfl) (by rw [hFN]; rfl)
 have lT : ∀ T : Heap, dkc pg (den pg) (.ld 1 false) [.ref 0 0] (AObj.cells [TBL] false :: T) = some (TBL, AObj.cells [TBL] false :: T) := fun T => ldC1 (pg := pg) (H := AObj.cells [TBL] false :: T) (r := 0) (t := TBL) rfl ag
 have mf : ∀ K : Heap, dkc pg (den pg) (.mkfn 90 0) [.ref 4 0, .ref 5 0, .ref 1 0, .ref 0 0, .ref 6 0, .ref 2 0] K = some (FN, K) := fun K => by rw [hFN]; rfl
 simp only [List.set_cons_succ, List.set_cons_zero] at sS sF
 have bx : dkc pg (den pg) (.box false) [TBL] [] = some (.ref 0 0, [AObj.cells [TBL] false]) := by
  show dk (.box false) [TBL] [] = _
  simp [dk, one.1, one.2, ag]
 have m3 := mk [AObj.cells [TBL] false, .cells [.nilsl] false, .cells [.nilsl] false] rfl
 have pre : ∀ Q, den pg l66_1 [(2, .ref 1 0), (3, .ref 2 0), (6, .ref 6 0), (13, .i .i64 (n : Int)), (14, .i .i64 0)] G0 = some Q ->
   go pg (den pg) [.c c66] .normal [(0, TBL)] [] = cont pg (den pg) (some Q) [.blk 0, .c (.seq r66_6 (.seq r66_7 r66_8))] := by
  intro Q hQ
  rw [<- hQ, hG0]
  clear hQ h0 h1 hd0 hTB ht1 ht2 hFN hSI hCI hG0 hR0 hT hq nd one ag mk
  generalize (n : Int) = N at *
  rw [c66_parts]
  simp (disch := omega) [r66_0, r66_1, r66_2, r66_3, r66_4, r66_5, Z0, Z1, Z2, Z3, Z4, Z5, Z6, Z7, Z8, Z9, Za, Zb, Zc, Zd, Ze, Zf, Zg, Zh, Zi, Zj, Zk, Zl, Zm, Zn, Zo, Zp, Zq, Zr, Zs, Zt, Zu, Zv, Zw, Zx, k_mv, Zy, Zz, ZA, ZB, ZC, ZD, ZE, ZF, ZG, ZH, ZI, ZJ, ZK, ZL, ZM, ZN, ZO, ZP, ZQ, ZR, ZS, ZT, ZU, ZV, ZW, ZX, ZY, ZZ, Y0, Y1, Y2, Y3, Y4, k_mn, k_mx, Y5, Y6, Y7, Y8, Y9, Ya, Yb, Yc, Yd, Ye, Yf, Yg, Yh, Dn.setLast, Dn.getLast, evalO, mapO, Dn.get, putE, Yi, Yj, Yk, Yl, TV.one, TV.isAgg, Dn.part, Ym, negb, at0, at1, at2, at3, at4, dT, dF, Yn, Option.bind_some, Option.map_some, bx, lT, lr, m3, sS, mf, sF, go_denK (c := l66_1) rfl]
 rcases l66_1_all (pg := pg) hn (fun k => spec90 hF hn hirr hasy hT k) n 0 (fun _ => 0) [] .nilsl .nilsl G0 (by omega) h1 hd0 (fun x hx => by omega) hR0 with ⟨r', H', g1, g2, g3, g4⟩ | ⟨col', ord', tP', tO', H', e, g1, g2, g3, g4, g5⟩
 ·left
  have l2 := ldC1 (pg := pg) g2 (by cases ci r' <;> rfl)
  have l3 := ldC1 (pg := pg) g4 (by rfl)
  refine ⟨r', H', body_ofs (vs := [elI.lt false (ci r'), .nilsl]) (x := .ret) (e := [(2, .ref (qOf 0).rR 0), (3, .ref (qOf 0).rO 0)]) (d := d66) (by rw [hF.F]; rfl) rfl ?_ (.inl rfl) ?_, g3⟩
  ·show go pg (den pg) [.c c66] .normal _ [] = _
   exact (pre _ g1).trans (by simp [Z0, Z1, Z2, Z3, Z4, Z5, Z6, Z7, Z8, Z9, Za, Zb, Zc, Zd, Ze, Zf, Zg, Zh, Zi, Zj, Zk, Zl, Zm, Zn, Zo, Zp, Zq, Zr, Zs, Zt, Zu, Zv, Zw, Zx, k_mv, Zy, Zz, ZA, ZB, ZC, ZD, ZE, ZF, ZG, ZH, ZI, ZJ, ZK, ZL, ZM, ZN, ZO, ZP, ZQ, ZR, ZS, ZT, ZU, ZV, ZW, ZX, ZY, ZZ, Y0, Y1, Y2, Y3, Y4, k_mn, k_mx, Y5, Y6, Y7, Y8, Y9, Ya, Yb, Yc, Yd, Ye, Yf, Yg, Yh, Dn.setLast, Dn.getLast, evalO, mapO, Dn.get, putE, Yi, Yj, Yk, Yl, TV.one, TV.isAgg, Dn.part, Ym, negb, at0, at1, at2, at3, at4, dT, dF, Yn, Option.bind_some, Option.map_some])
  ·have l2' : dk (.ld 1 false) [.ref (qOf 0).rR 0] H' = some (elI.lt false (ci r'), H') := l2
   have l3' : dk (.ld 1 false) [.ref (qOf 0).rO 0] H' = some (.nilsl, H') := l3
   simp [d66, mapO, resRun, Go.Dn.get, l2', l3']
 ·right
  have ids : ∀ x, x = (qOf 0).rR \/ x = (qOf 0).rO -> x ∈ (qOf 0).ids := fun x hx => by rcases hx with rfl | rfl <;> simp [Q90.ids]
  obtain ⟨hlen, hrk⟩ := g3.rank g4
  have hle : ord'.length <= 900 := by omega
  obtain ⟨r, H2, b1, b2, b3, b4⟩ := body92 (pg := pg) hF g2.wO (by rw [ci_len]; omega)
  have o1 : tO'.one = true /\ tO'.cells = [tO'] /\ tO'.isAgg = false := by
   rcases g2.wO with ⟨rfl, _⟩ | ⟨_, id, ag, c, rfl, _⟩ <;> exact ⟨rfl, rfl, rfl⟩
  have e1 : H2[(qOf 0).rR]? = some (.cells [.nilsl] false) := by rw [b4 _ (fun he => g2.dO _ he (ids _ (.inl rfl)))]; exact g5
  have e2 : H2[(qOf 0).rO]? = some (.cells [tO'] false) := by rw [b4 _ (fun he => g2.dO _ he (ids _ (.inr rfl)))]; exact g2.hO
  have l0 := ldC1 (pg := pg) g2.hO o1.2.2
  have cl : callRun pg (den pg) .sh [.fn 92 [] [], tO'] H' = some (r, H2) := b1
  have l1 := ldC1 (pg := pg) e2 o1.2.2
  have l1d : dk (.ld 1 false) [.ref (qOf 0).rO 0] H2 = some (tO', H2) := l1
  have l2d : dk (.ld 1 false) [.ref (qOf 0).rR 0] H2 = some (.nilsl, H2) := ldC1 (pg := pg) e1 rfl
  have s1 := stC1 (pg := pg) e1 (v := .nilsl) rfl rfl
  have s2 := stC1 (pg := pg) e2 o1.1 o1.2.1
  rw [set_same e1] at s1
  rw [set_same e2] at s2
  have hsm : Go.Dn.same 9 tO' tO' = true := by
   rcases g2.wO with ⟨rfl, _⟩ | ⟨_, id, ag, c, rfl, _⟩ <;> simp [Go.Dn.same]
  refine ⟨tO', ord', H2, body_ofs (vs := [.nilsl, tO']) (x := .ret) (e := [(2, .ref (qOf 0).rR 0), (3, .ref (qOf 0).rO 0)]) (d := d66) (by rw [hF.F]; rfl) rfl ?_ (.inl rfl) ?_, by unfold ci at b2 ⊢; rw [List.map_reverse]; exact b2, hlen, g3.ond, fun x hx => ((g3.oin x).1 hx).1, hrk⟩
  ·show go pg (den pg) [.c c66] .normal _ [] = _
   refine (pre _ g1).trans ?_
   clear h0 h1 hd0 hTB hFN hSI hCI hG0 hR0 hT hq nd one ag mk pre g1 g2 g3 g4 g5 ids hrk b1 b2 b4 e1 e2
   generalize (qOf 0).rR = rR at *
   generalize (qOf 0).rO = rO at *
   simp (disch := omega) [r66_6, Z0, Z1, Z2, Z3, Z4, Z5, Z6, Z7, Z8, Z9, Za, Zb, Zc, Zd, Ze, Zf, Zg, Zh, Zi, Zj, Zk, Zl, Zm, Zn, Zo, Zp, Zq, Zr, Zs, Zt, Zu, Zv, Zw, Zx, k_mv, Zy, Zz, ZA, ZB, ZC, ZD, ZE, ZF, ZG, ZH, ZI, ZJ, ZK, ZL, ZM, ZN, ZO, ZP, ZQ, ZR, ZS, ZT, ZU, ZV, ZW, ZX, ZY, ZZ, Y0, Y1, Y2, Y3, Y4, k_mn, k_mx, Y5, Y6, Y7, Y8, Y9, Ya, Yb, Yc, Yd, Ye, Yf, Yg, Yh, Dn.setLast, Dn.getLast, evalO, mapO, Dn.get, putE, Yi, Yj, Yk, Yl, TV.one, TV.isAgg, Dn.part, Ym, negb, at0, at1, at2, at3, at4, dT, dF, Yn, Option.bind_some, Option.map_some, l0, cl]
   simp [r66_7, r66_8, Zd, Zf, Zj, Zk, Ze, evalO, mapO, Go.Dn.get, putE, Yi, Yj, Yk, Yl, l1, s1, s2, frOk, ldSame, stElse, guardRun, DK.isLd, TV.idOf', l1d, l2d, hsm, Z9, Z0]
  ·simp [d66, mapO, resRun, Go.Dn.get, l1d, l2d]

end Go.Proofs.Try.Dn

