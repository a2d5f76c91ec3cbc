/-
  Pairs of dice with given ways: all of grow.
-/
import Derived.Test.YtijeefncmgjlpaaEf
import Derived.Test.YtijeefncmgjlpaaEg
set_option linter.unusedSimpArgs false
set_option linter.unusedVariables false

set_option maxHeartbeats 1000000
namespace Go.Proofs.Try.Dn
open Go.Dn

variable {pg : Pg} {q : Cells} {n m : Nat} {c d : Int} {Y : TV} {lid : Nat} {tA tB : TV} {a b : List Int} {es : List (Int × TV)} {g : Int -> Option Nat} {H : Heap} {I : List (List Int × List Int) -> (Nat -> Prop) -> Heap -> Prop} {acc : List (List Int × List Int)} {own : Nat -> Prop}

def q87 (q : Cells) : V87 := ⟨.ref q.rA 0, .ref q.rN 0, .ref q.rB 0, .ref q.rM 0, .ref q.rY 0, .ref q.rS 0, .ref q.rT 0, .ref q.rG 0, .ref q.rV 0, .ref q.rF 0⟩

theorem start87 (h : GS q n m c d Y lid I tA tB a b es g acc own H) : go pg (den pg) [.c c87] .normal (zipE q.caps 0) H = go pg (den pg) [.c l87_2] .normal (E87 (q87 q) H.length none) (H ++ [.iter lid es.length]) := by
 have l0 : ldC H[q.rL]? 1 false 0 H = some (.mp lid, H) := ldC_of pg h.gr.lft.box rfl
 have r0 : dkc pg (den pg) .rngS [.mp lid] H = some (.ref H.length 0, H ++ [.iter lid es.length]) := by
  rw [k_rngS, h.gr.lft.obj]; rfl
 simp (disch := omega) [c87, zipE, Cells.caps, q87, E87, go_seqr, Z0, Z1, Z2, Z3, Z4, Z5, Z6, Z7, Z8, Z9, Za, Zb, Zc, Zd, Ze, Zf, Zg, Zh, Zi, Zj, Zk, Zl, Zm, Zn, Zo, Zp, Zq, Zr, Zs, Zt, Zu, Zv, Zw, Zx, k_mv, Zy, Zz, ZA, ZB, ZC, ZD, ZE, ZF, ZG, ZH, ZI, ZJ, ZK, ZL, ZM, ZN, ZO, ZP, ZQ, ZR, ZS, ZT, ZU, ZV, ZW, ZX, ZY, ZZ, Y0, Y1, Y2, Y3, Y4, k_mn, k_mx, Y5, Y6, Y7, Y8, Y9, Ya, Yb, Yc, Yd, Ye, Yf, Yg, Yh, Dn.setLast, Dn.getLast, evalO, mapO, Dn.get, putE, Yi, Yj, Yk, Yl, TV.one, TV.isAgg, Dn.part, Ym, negb, at0, at1, at2, at3, at4, dT, dF, Yn, Option.bind_some, Option.map_some, l0, r0]

theorem some87 {l : Int} (it : Nat) (K : List Fr) (H : Heap) : go pg (den pg) (.c n87 :: K) .normal (E87 (q87 q) it (some l)) H =
  go pg (den pg) K .normal ((1, .ref q.rA 0) :: (2, .ref q.rN 0) :: (3, .ref q.rB 0) :: (4, .ref q.rM 0) :: (5, .ref q.rY 0) :: (6, .ref q.rS 0) :: (7, .ref q.rT 0) :: (8, .ref q.rG 0) :: (9, .ref q.rV 0) :: (10, .ref q.rF 0) :: (12, .i .i64 l) :: [(40, .b false)]) H := by
 simp (disch := omega) [n87, q87, E87, Z0, Z1, Z2, Z3, Z4, Z5, Z6, Z7, Z8, Z9, Za, Zb, Zc, Zd, Ze, Zf, Zg, Zh, Zi, Zj, Zk, Zl, Zm, Zn, Zo, Zp, Zq, Zr, Zs, Zt, Zu, Zv, Zw, Zx, k_mv, Zy, Zz, ZA, ZB, ZC, ZD, ZE, ZF, ZG, ZH, ZI, ZJ, ZK, ZL, ZM, ZN, ZO, ZP, ZQ, ZR, ZS, ZT, ZU, ZV, ZW, ZX, ZY, ZZ, Y0, Y1, Y2, Y3, Y4, k_mn, k_mx, Y5, Y6, Y7, Y8, Y9, Ya, Yb, Yc, Yd, Ye, Yf, Yg, Yh, Dn.setLast, Dn.getLast, evalO, mapO, Dn.get, putE, Yi, Yj, Yk, Yl, TV.one, TV.isAgg, Dn.part, Ym, negb, at0, at1, at2, at3, at4, dT, dF, Yn, Option.bind_some, Option.map_some]

theorem same_sl (id off sz l : Nat) (ag : Bool) (c : Option Nat) : Go.Dn.same 9 (.sl id off sz ag l c) (.sl id off sz ag l c) = true := by simp [Go.Dn.same]

theorem Wy.same {H : Heap} {t : TV} {l : List Int} (h : Wy H t l) (hl : l ≠ []) : Go.Dn.same 9 t t = true := by
 rcases h with (⟨_, h⟩ | ⟨_, id, ag, c, rfl, _⟩) | ⟨id, v, rfl, _, _⟩
 ·exact absurd h hl
 ·exact same_sl ..
 ·exact same_sl ..

def o87 : List DOper := l87

theorem rg87 (ks : List Nat) (fr : List (Nat × Nat)) (K : List Fr) (e : Env) (H : Heap) : go pg (den pg) (.c (.regd l87 ks fr) :: K) .normal e H = go pg (den pg) (.opd l87 o87 ks fr [] :: K) .normal e H := Zd ..

theorem ldSame_skip {o : DOper} {e : Env} {K : Option Heap} {s : Nat} (hg : o.g = some (s, false)) (h : get e s = some (.b true)) : ldSame pg o e K = true := by
 simp [ldSame, guardRun, hg, h]

theorem ldSame_ld {o : DOper} {e : Env} {K K' : Heap} {s : Nat} {vs : List TV} {v : TV} (hg : o.g = some (s, false)) (h : get e s = some (.b false)) (hv : mapO (evalO pg e) o.a = some vs) (hd : o.d.bind (get e) = some v) (hk : dk o.k vs K = some (v, K')) (hs : Go.Dn.same 9 v v = true) : ldSame pg o e (some K) = true := by
 simp [ldSame, guardRun, hg, h, hv, hd, hk, hs]

theorem fr87_skip {e : Env} {hs : List Heap} (h : get e 51 = some (.b true)) : frOk pg o87 e hs [(13, 11), (13, 14), (15, 11)] = true := by
 have a1 : ∀ K, ldSame pg (oP 52 (.ld 1 false) [.t 5] 51 false) e K = true := fun K => ldSame_skip rfl h
 have a2 : ∀ K, ldSame pg (oP 55 (.ld 1 false) [.t 3] 51 false) e K = true := fun K => ldSame_skip rfl h
 simp only [frOk, o87, l87, List.all_cons, List.all_nil, List.getElem?_cons_succ, List.getElem?_cons_zero, DK.isLd, if_true, a1, a2, Bool.and_self]

theorem fr87_ld {e : Env} {hs : List Heap} {rY rB : Nat} {Y tB : TV} {K0 K1 K2 K3 : Heap} (h : get e 51 = some (.b false)) (g5 : get e 5 = some (.ref rY 0)) (g3 : get e 3 = some (.ref rB 0)) (g52 : get e 52 = some Y) (g55 : get e 55 = some tB)
  (h13 : hs[13]? = some K0) (h14 : hs[14]? = some K1) (h15 : hs[15]? = some K2) (h16 : hs[16]? = some K3) (y0 : dk (.ld 1 false) [.ref rY 0] K0 = some (Y, K0)) (y1 : dk (.ld 1 false) [.ref rY 0] K1 = some (Y, K1)) (y2 : dk (.ld 1 false) [.ref rY 0] K2 = some (Y, K2)) (y3 : dk (.ld 1 false) [.ref rY 0] K3 = some (Y, K3)) (b0 : dk (.ld 1 false) [.ref rB 0] K0 = some (tB, K0)) (b1 : dk (.ld 1 false) [.ref rB 0] K1 = some (tB, K1)) (sY : Go.Dn.same 9 Y Y = true) (sB : Go.Dn.same 9 tB tB = true) :
  frOk pg o87 e hs [(13, 11), (13, 14), (15, 11)] = true := by
 have e5 : mapO (evalO pg e) [.t 5] = some [.ref rY 0] := by simp [mapO, evalO, g5]
 have e3 : mapO (evalO pg e) [.t 3] = some [.ref rB 0] := by simp [mapO, evalO, g3]
 have a1 : ∀ K K', dk (.ld 1 false) [.ref rY 0] K = some (Y, K') -> ldSame pg (oP 52 (.ld 1 false) [.t 5] 51 false) e (some K) = true := fun K K' hk => ldSame_ld rfl h e5 g52 hk sY
 have a2 : ∀ K K', dk (.ld 1 false) [.ref rB 0] K = some (tB, K') -> ldSame pg (oP 55 (.ld 1 false) [.t 3] 51 false) e (some K) = true := fun K K' hk => ldSame_ld rfl h e3 g55 hk sB
 simp only [frOk, o87, l87, List.all_cons, List.all_nil, List.getElem?_cons_succ, List.getElem?_cons_zero, DK.isLd, if_true, h13, h14, h15, h16, a1 _ _ y0, a1 _ _ y1, a1 _ _ y2, a1 _ _ y3, a2 _ _ b0, a2 _ _ b1, Bool.and_self]

theorem none87 (hF : Free pg) (hC : Con pg Y I) (h : GS q n m c d Y lid I tA tB a b es g acc own H) (ha : FcL a) (hb : FcL b) (hcap : acc.length + 1 <= 1048576) (it : Nat) (K : List Fr) :
  ∃ own' H', go pg (den pg) (.c n87 :: K) .normal (E87 (q87 q) it none) H = go pg (den pg) K .ret [(11, .b true)] H' /\ GS q n m c d Y lid I tA tB a b es g (acc ++ (if a.length < n \/ b.length < m then [] else [(a, b)])) own' H' := by
 obtain ⟨ldA, ldB, ldN, ldM, ldY, ldS, ldF, ldT, ldV, ldG, lnA, lnB⟩ := h.lds pg hC.ag
 obtain ⟨N, hN⟩ : ∃ N, N = a.length := ⟨_, rfl⟩
 obtain ⟨M, hM⟩ : ∃ M, M = b.length := ⟨_, rfl⟩
 rw [<- hN] at lnA
 rw [<- hM] at lnB
 by_cases c1 : a.length < n
 ·have d1 : decide ((N : Int) < (n : Int)) = true := dT (by omega)
  refine ⟨own, H, ?_, by rw [if_pos (.inl c1), List.append_nil]; exact h⟩
  simp (disch := omega) [n87, q87, E87, Z0, Z1, Z2, Z3, Z4, Z5, Z6, Z7, Z8, Z9, Za, Zb, Zc, Zd, Ze, Zf, Zg, Zh, Zi, Zj, Zk, Zl, Zm, Zn, Zo, Zp, Zq, Zr, Zs, Zt, Zu, Zv, Zw, Zx, k_mv, Zy, Zz, ZA, ZB, ZC, ZD, ZE, ZF, ZG, ZH, ZI, ZJ, ZK, ZL, ZM, ZN, ZO, ZP, ZQ, ZR, ZS, ZT, ZU, ZV, ZW, ZX, ZY, ZZ, Y0, Y1, Y2, Y3, Y4, k_mn, k_mx, Y5, Y6, Y7, Y8, Y9, Ya, Yb, Yc, Yd, Ye, Yf, Yg, Yh, Dn.setLast, Dn.getLast, evalO, mapO, Dn.get, putE, Yi, Yj, Yk, Yl, TV.one, TV.isAgg, Dn.part, Ym, negb, at0, at1, at2, at3, at4, dT, dF, Yn, Option.bind_some, Option.map_some, -Zd, rg87]
  simp (disch := omega) [l87, Z0, Z1, Z2, Z3, Z4, Z5, Z6, Z7, Z8, Z9, Za, Zb, Zc, Zd, Ze, Zf, Zg, Zh, Zi, Zj, Zk, Zl, Zm, Zn, Zo, Zp, Zq, Zr, Zs, Zt, Zu, Zv, Zw, Zx, k_mv, Zy, Zz, ZA, ZB, ZC, ZD, ZE, ZF, ZG, ZH, ZI, ZJ, ZK, ZL, ZM, ZN, ZO, ZP, ZQ, ZR, ZS, ZT, ZU, ZV, ZW, ZX, ZY, ZZ, Y0, Y1, Y2, Y3, Y4, k_mn, k_mx, Y5, Y6, Y7, Y8, Y9, Ya, Yb, Yc, Yd, Ye, Yf, Yg, Yh, Dn.setLast, Dn.getLast, evalO, mapO, Dn.get, putE, Yi, Yj, Yk, Yl, TV.one, TV.isAgg, Dn.part, Ym, negb, at0, at1, at2, at3, at4, dT, dF, Yn, Option.bind_some, Option.map_some, ldA, ldB, ldN, ldM, ldY, lnA, lnB, d1]
  intro hh
  rw [fr87_skip (pg := pg) rfl] at hh
  cases hh
 ·have d1 : decide ((N : Int) < (n : Int)) = false := dF (by omega)
  by_cases c2 : b.length < m
  ·have d2 : decide ((M : Int) < (m : Int)) = true := dT (by omega)
   refine ⟨own, H, ?_, by rw [if_pos (.inr c2), List.append_nil]; exact h⟩
   simp (disch := omega) [n87, q87, E87, Z0, Z1, Z2, Z3, Z4, Z5, Z6, Z7, Z8, Z9, Za, Zb, Zc, Zd, Ze, Zf, Zg, Zh, Zi, Zj, Zk, Zl, Zm, Zn, Zo, Zp, Zq, Zr, Zs, Zt, Zu, Zv, Zw, Zx, k_mv, Zy, Zz, ZA, ZB, ZC, ZD, ZE, ZF, ZG, ZH, ZI, ZJ, ZK, ZL, ZM, ZN, ZO, ZP, ZQ, ZR, ZS, ZT, ZU, ZV, ZW, ZX, ZY, ZZ, Y0, Y1, Y2, Y3, Y4, k_mn, k_mx, Y5, Y6, Y7, Y8, Y9, Ya, Yb, Yc, Yd, Ye, Yf, Yg, Yh, Dn.setLast, Dn.getLast, evalO, mapO, Dn.get, putE, Yi, Yj, Yk, Yl, TV.one, TV.isAgg, Dn.part, Ym, negb, at0, at1, at2, at3, at4, dT, dF, Yn, Option.bind_some, Option.map_some, -Zd, rg87]
   simp (disch := omega) [l87, Z0, Z1, Z2, Z3, Z4, Z5, Z6, Z7, Z8, Z9, Za, Zb, Zc, Zd, Ze, Zf, Zg, Zh, Zi, Zj, Zk, Zl, Zm, Zn, Zo, Zp, Zq, Zr, Zs, Zt, Zu, Zv, Zw, Zx, k_mv, Zy, Zz, ZA, ZB, ZC, ZD, ZE, ZF, ZG, ZH, ZI, ZJ, ZK, ZL, ZM, ZN, ZO, ZP, ZQ, ZR, ZS, ZT, ZU, ZV, ZW, ZX, ZY, ZZ, Y0, Y1, Y2, Y3, Y4, k_mn, k_mx, Y5, Y6, Y7, Y8, Y9, Ya, Yb, Yc, Yd, Ye, Yf, Yg, Yh, Dn.setLast, Dn.getLast, evalO, mapO, Dn.get, putE, Yi, Yj, Yk, Yl, TV.one, TV.isAgg, Dn.part, Ym, negb, at0, at1, at2, at3, at4, dT, dF, Yn, Option.bind_some, Option.map_some, ldA, ldB, ldN, ldM, ldY, lnA, lnB, d1, d2]
   intro hh
   rw [fr87_skip (pg := pg) rfl] at hh
   cases hh
  ·have d2 : decide ((M : Int) < (m : Int)) = false := dF (by omega)
   have hlt := h.gr.lt
   have hAl := h.gr.wA.lt
   have hBl := h.gr.wB.lt
   obtain ⟨k1, o1⟩ := body88 (pg := pg) hF ha.2.1 (by have := ha.1; omega) h.gr.wA.view (h.gr.wA.nn ha.2.1)
   obtain ⟨H1, hH1⟩ : ∃ H1, H1 = H ++ [AObj.cells [] false, .cells (elI.flat a) false] := ⟨_, rfl⟩
   rw [<- hH1] at k1 o1
   have l1 : H1.length = H.length + 2 := by rw [hH1]; simp
   have f1 : ∀ j, j < H.length -> H1[j]? = H[j]? := fun j hj => by rw [hH1]; exact List.getElem?_append_left hj
   have h1 := h.mono hC f1
   obtain ⟨k2, o2⟩ := body88 (pg := pg) hF hb.2.1 (by have := hb.1; omega) h1.gr.wB.view (h1.gr.wB.nn hb.2.1)
   obtain ⟨H2, hH2⟩ : ∃ H2, H2 = H1 ++ [AObj.cells [] false, .cells (elI.flat b) false] := ⟨_, rfl⟩
   rw [<- hH2] at k2 o2
   have l2 : H2.length = H1.length + 2 := by rw [hH2]; simp
   have f2 : ∀ j, j < H1.length -> H2[j]? = H1[j]? := fun j hj => by rw [hH2]; exact List.getElem?_append_left hj
   have h2 := h1.mono hC f2
   have ga : H2[H.length + 1]? = some (.cells (elI.flat a) false) := by rw [f2 _ (by omega), hH1]; simp
   have gb : H2[H1.length + 1]? = some (.cells (elI.flat b) false) := by rw [hH2]; simp
   have no : ∀ j, own j -> j < H.length := fun j hj => hC.lt _ _ _ h.con j hj
   obtain ⟨own', H', r1, r2, r3, r4, r5⟩ := hC.step acc own H2 (H.length + 1) (H1.length + 1) a b h2.con (by omega) ha.2.1 hb.2.1 ga gb (by omega) (fun e => by have := no _ e; omega) (fun e => by have := no _ e; omega)
   have hid : ∀ j ∈ q.ids, H'[j]? = H2[j]? := fun j hj => r3 j (by have := hlt j hj; omega) fun ho => (h.dj j ho).1 hj
   refine ⟨own', H', ?_, ?_⟩
   ·obtain ⟨ldA1, ldB1, ldN1, ldM1, ldY1, ldS1, ldF1, ldT1, ldV1, ldG1, lnA1, lnB1⟩ := h1.lds pg hC.ag
    obtain ⟨ldA2, ldB2, ldN2, ldM2, ldY2, ldS2, ldF2, ldT2, ldV2, ldG2, lnA2, lnB2⟩ := h2.lds pg hC.ag
    have dB : dk (.ld 1 false) [.ref q.rB 0] H = some (tB, H) := ld_box (pg := pg) (R := den pg) h.gr.hB h.gr.wB.one.1
    have dB1 : dk (.ld 1 false) [.ref q.rB 0] H1 = some (tB, H1) := ld_box (pg := pg) (R := den pg) h1.gr.hB h1.gr.wB.one.1
    have dY : dk (.ld 1 false) [.ref q.rY 0] H = some (Y, H) := ld_box (pg := pg) (R := den pg) h.gr.hY hC.ag
    have dY1 : dk (.ld 1 false) [.ref q.rY 0] H1 = some (Y, H1) := ld_box (pg := pg) (R := den pg) h1.gr.hY hC.ag
    have dY2 : dk (.ld 1 false) [.ref q.rY 0] H2 = some (Y, H2) := ld_box (pg := pg) (R := den pg) h2.gr.hY hC.ag
    have sY := hC.sm
    have sB := h.gr.wB.same hb.2.1
    have k1' : callRun pg (den pg) .sh [.fn 88 [] [], tA] H = some (.sl (H.length + 1) 0 1 false a.length none, H1) := k1
    have k2' : callRun pg (den pg) .sh [.fn 88 [] [], tB] H1 = some (.sl (H1.length + 1) 0 1 false b.length none, H2) := k2
    generalize (TV.sl (H.length + 1) 0 1 false a.length none) = va at *
    generalize (TV.sl (H1.length + 1) 0 1 false b.length none) = vb at *
    clear h h1 h2 r2 r3 r4 r5 hid ga gb o1 o2 f1 f2 hC
    simp (disch := omega) [n87, q87, E87, Z0, Z1, Z2, Z3, Z4, Z5, Z6, Z7, Z8, Z9, Za, Zb, Zc, Zd, Ze, Zf, Zg, Zh, Zi, Zj, Zk, Zl, Zm, Zn, Zo, Zp, Zq, Zr, Zs, Zt, Zu, Zv, Zw, Zx, k_mv, Zy, Zz, ZA, ZB, ZC, ZD, ZE, ZF, ZG, ZH, ZI, ZJ, ZK, ZL, ZM, ZN, ZO, ZP, ZQ, ZR, ZS, ZT, ZU, ZV, ZW, ZX, ZY, ZZ, Y0, Y1, Y2, Y3, Y4, k_mn, k_mx, Y5, Y6, Y7, Y8, Y9, Ya, Yb, Yc, Yd, Ye, Yf, Yg, Yh, Dn.setLast, Dn.getLast, evalO, mapO, Dn.get, putE, Yi, Yj, Yk, Yl, TV.one, TV.isAgg, Dn.part, Ym, negb, at0, at1, at2, at3, at4, dT, dF, Yn, Option.bind_some, Option.map_some, -Zd, rg87]
    simp (disch := omega) [l87, Z0, Z1, Z2, Z3, Z4, Z5, Z6, Z7, Z8, Z9, Za, Zb, Zc, Zd, Ze, Zf, Zg, Zh, Zi, Zj, Zk, Zl, Zm, Zn, Zo, Zp, Zq, Zr, Zs, Zt, Zu, Zv, Zw, Zx, k_mv, Zy, Zz, ZA, ZB, ZC, ZD, ZE, ZF, ZG, ZH, ZI, ZJ, ZK, ZL, ZM, ZN, ZO, ZP, ZQ, ZR, ZS, ZT, ZU, ZV, ZW, ZX, ZY, ZZ, Y0, Y1, Y2, Y3, Y4, k_mn, k_mx, Y5, Y6, Y7, Y8, Y9, Ya, Yb, Yc, Yd, Ye, Yf, Yg, Yh, Dn.setLast, Dn.getLast, evalO, mapO, Dn.get, putE, Yi, Yj, Yk, Yl, TV.one, TV.isAgg, Dn.part, Ym, negb, at0, at1, at2, at3, at4, dT, dF, Yn, Option.bind_some, Option.map_some, ldA, ldB, ldN, ldM, ldY, lnA, lnB, d1, d2, k1', ldB1, k2', r1]
    intro hh
    rw [fr87_ld (pg := pg) (rY := q.rY) (rB := q.rB) (Y := Y) (tB := tB) rfl rfl rfl rfl rfl (K0 := H) (K1 := H1) (K2 := H1) (K3 := H2) rfl rfl rfl rfl dY dY1 dY1 dY2 dB dB1 sY sB] at hh
    cases hh
   ·rw [if_neg (by omega)]
    have hll := (List.getElem?_eq_some_iff.1 h.gr.lft.obj).1
    have kA : ∀ id, tA.idOf = some id -> H'[id]? = H2[id]? := fun id hi => r3 id (by have := hAl id hi; omega) fun ho => (h.dj id ho).2.2.1 hi
    have kB : ∀ id, tB.idOf = some id -> H'[id]? = H2[id]? := fun id hi => r3 id (by have := hBl id hi; omega) fun ho => (h.dj id ho).2.2.2 hi
    have e := hid
    simp only [Cells.ids, List.mem_cons, List.mem_nil_iff, or_false, forall_eq_or_imp, forall_eq] at e
    obtain ⟨e1, e2, e3, e4, e5, e6, e7, e8, e9, e10, e11⟩ := e
    have x := h2.gr
    refine ⟨{ lft := ⟨by rw [e1]; exact x.lft.box, by rw [r3 lid (by omega) fun ho => (h.dj lid ho).2.1 rfl]; exact x.lft.obj, x.lft.cm⟩, hA := by rw [e2]; exact x.hA, wA := x.wA.mono kA, hB := by rw [e4]; exact x.hB, wB := x.wB.mono kB, hN := by rw [e3]; exact x.hN, hM := by rw [e5]; exact x.hM, hY := by rw [e6]; exact x.hY, hS := by rw [e7]; exact x.hS, hT := by rw [e8]; exact x.hT, hG := by rw [e9]; exact x.hG, hV := by rw [e10]; exact x.hV, hF := by rw [e11]; exact x.hF, dA := x.dA, dB := x.dB, nd := x.nd }, r2, fun j hj => ?_⟩
    have hc : own j \/ H.length <= j := by
     rcases r5 j hj with ho | ho | ho | ho
     ·exact .inl ho
     ·exact .inr (by omega)
     ·exact .inr (by omega)
     ·exact .inr (by omega)
    rcases hc with ho | ho
    ·exact h.dj j ho
    ·exact ⟨fun hm => by have := hlt j hm; omega, by omega, fun e => by have := hAl j e; omega, fun e => by have := hBl j e; omega⟩

theorem body87 (hF : Free pg) (hC : Con pg Y I) (hn8 : n <= 8) (hm8 : m <= 8) (hc0 : 0 <= c /\ c <= 60) (hd0 : 0 <= d /\ d <= 60) : ∀ k, Rec87 pg q n m c d Y lid I k
 | 0 => fun _ _ _ _ _ _ _ _ _ _ _ _ _ _ hk => absurd hk (Nat.not_lt_zero _)
 | k + 1 => by
  intro tA tB a b es g acc own H h ha hb han hbm hk hm hg hcap
  have ih := body87 hF hC hn8 hm8 hc0 hd0 k
  have hd87 : pg.F 87 = some d87 := by rw [hF.F]; rfl
  have h1 := h.mono hC (H' := H ++ [.dead]) fun j hj => List.getElem?_append_left hj
  have e1 := start87 (pg := pg) h
  rw [mr87 (q87 q) h.gr.lft.obj h.gr.lft.cm, leastF_es h.gr.lft.cm, z87_parts, Zb] at e1
  have hp1 : 0 < 2 ^ ((n - a.length) + (m - b.length)) := Nat.two_pow_pos _
  cases hl : leastF g with
  | none =>
   rw [hl] at e1
   obtain ⟨own', H', r1, r2⟩ := none87 hF hC h1 ha hb (by omega) H.length [.c (.seq a87 (.seq bb87 f87))]
   rw [r1] at e1
   have hgr : growP n m c d (k + 1) a b g = if a.length < n \/ b.length < m then [] else [(a, b)] := by
    unfold growP; rw [hl]
   rw [hgr]
   exact ⟨tA, tB, own', H', body_of (x := .ret) (e := [(11, .b true)]) hd87 rfl (by rw [show d87.body = c87 from rfl, e1]; rfl) (.inl rfl) rfl, r2⟩
  | some l =>
   rw [hl, some87, Zb] at e1
   have hlb := hg l (leastF_some.1 hl).1
   obtain ⟨tl, tA1, tB1, own1, H1, r1, h2⟩ := a87_run hF hC ih h1 ha hb han hbm hn8 hm8 hc0 hd0 (by omega) hm hg hlb (fun hlt => by
    refine Nat.le_trans ?_ hcap
    exact Nat.add_le_add_left (Nat.pow_le_pow_right (by omega) (by omega)) _) [(40, .b false)] [.c (.seq bb87 f87)]
   rw [r1, Zb] at e1
   obtain ⟨tl', tA2, tB2, own2, H2, r2, h3⟩ := bb87_run hF hC ih h2 ha hb han hbm hn8 hm8 hc0 hd0 (by omega) hm hg hlb (fun hlt => by
    have h4 := partA_len n m c d k a b (l - d) (takes g (l - d) b) hbm
    rw [show (n - a.length) + (m - b.length) = ((n - a.length) + (m - (b.length + 1))) + 1 by omega, Nat.pow_succ] at hcap h4
    have e2 : ∀ X Z W : Nat, X * 2 <= Z * 2 -> W + Z * 2 <= 1048576 -> W + X + Z <= 1048576 := fun X Z W _ _ => by omega
    rw [List.length_append]
    exact e2 _ _ _ h4 hcap) tl [.c f87]
   rw [r2] at e1
   have e3 : go pg (den pg) [.c f87] .normal tl' H2 = some ⟨.ret, [(11, .b true)], H2⟩ := by
    simp (disch := omega) [f87, Z0, Z1, Z2, Z3, Z4, Z5, Z6, Z7, Z8, Z9, Za, Zb, Zc, Zd, Ze, Zf, Zg, Zh, Zi, Zj, Zk, Zl, Zm, Zn, Zo, Zp, Zq, Zr, Zs, Zt, Zu, Zv, Zw, Zx, k_mv, Zy, Zz, ZA, ZB, ZC, ZD, ZE, ZF, ZG, ZH, ZI, ZJ, ZK, ZL, ZM, ZN, ZO, ZP, ZQ, ZR, ZS, ZT, ZU, ZV, ZW, ZX, ZY, ZZ, Y0, Y1, Y2, Y3, Y4, k_mn, k_mx, Y5, Y6, Y7, Y8, Y9, Ya, Yb, Yc, Yd, Ye, Yf, Yg, Yh, Dn.setLast, Dn.getLast, evalO, mapO, Dn.get, putE, Yi, Yj, Yk, Yl, TV.one, TV.isAgg, Dn.part, Ym, negb, at0, at1, at2, at3, at4, dT, dF, Yn, Option.bind_some, Option.map_some]
   rw [e3] at e1
   have hgr : growP n m c d (k + 1) a b g = (if fits n a (l - d) = true then match takes g (l - d) b with | some g' => growP n m c d k (a ++ [l - d]) b g' | none => [] else []) ++ (if fits m b (l - c) = true then match takes g (l - c) a with | some g' => growP n m c d k a (b ++ [l - c]) g' | none => [] else []) := by
    conv => lhs; unfold growP
    rw [hl]
    rfl
   rw [hgr, <- List.append_assoc]
   exact ⟨tA2, tB2, own2, H2, body_of (x := .ret) (e := [(11, .b true)]) hd87 rfl (by rw [show d87.body = c87 from rfl, e1]) (.inl rfl) rfl, h3⟩

end Go.Proofs.Try.Dn

/-
 Pairs of dice with given ways: the ways copied.
-/

set_option maxHeartbeats 1000000
namespace Go.Proofs.Try.Dn
open Go.Dn

def layM (g : Int -> Option Nat) (p : List (Int × TV)) : Int -> Option Nat := p.foldl (fun g q => updM g q.1 q.2.num) g

theorem layM_spec : ∀ (p : List (Int × TV)) (g : Int -> Option Nat), (p.map (·.1)).Nodup -> (∀ q ∈ p, ∃ n : Nat, q.2 = .i .i64 (n : Int)) -> ∀ k, (∃ n : Nat, (k, TV.i .i64 (n : Int)) ∈ p /\ layM g p k = some n) \/ (k ∉ p.map (·.1) /\ layM g p k = g k)
 | [], g, _, _, k => .inr ⟨by simp, rfl⟩
 | (x, v) :: p, g, hn, hq, k => by
  rw [List.map_cons, List.nodup_cons] at hn
  obtain ⟨n, hv⟩ := hq (x, v) (List.mem_cons_self ..)
  have hv : v = .i .i64 (n : Int) := hv
  subst hv
  have e : layM g ((x, .i .i64 (n : Int)) :: p) = layM (updM g x n) p := by
   unfold layM; rw [List.foldl_cons]; simp only [TV.num, Int.toNat_natCast]
  rw [e]
  rcases layM_spec p (updM g x n) hn.2 (fun q h => hq q (List.mem_cons_of_mem _ h)) k with ⟨w, h1, h2⟩ | ⟨h1, h2⟩
  ·exact .inl ⟨w, List.mem_cons_of_mem _ h1, h2⟩
  ·by_cases hk : k = x
   ·subst hk
    exact .inl ⟨n, List.mem_cons_self .., by rw [h2]; unfold updM; rw [if_pos rfl]⟩
   ·refine .inr ⟨by simp [hk]; simpa using h1, ?_⟩
    rw [h2]; unfold updM; rw [if_neg hk]

theorem layM_perm {es p : List (Int × TV)} {g : Int -> Option Nat} (h : CM es g) (hp : p.Perm es) : layM (fun _ => none) p = g := by
 funext k
 have hnd : (p.map (·.1)).Nodup := by
  rw [(hp.map _).nodup_iff]
  have h1 := h.1
  unfold Rise at h1
  rw [List.nodup_iff_pairwise_ne, List.pairwise_map]
  exact h1.imp fun {a b} hab => by omega
 rcases layM_spec p (fun _ => none) hnd (fun q hq => by obtain ⟨n, _, h2⟩ := cm_ent h (hp.mem_iff.1 hq); exact ⟨n, h2⟩) k with ⟨n, h1, h2⟩ | ⟨h1, h2⟩
 ·rw [h2]
  obtain ⟨w, e1, e2⟩ := cm_ent h (hp.mem_iff.1 h1)
  simp only [TV.i.injEq] at e2
  rw [e1]
  congr 1
  omega
 ·rw [h2]
  cases hg : g k with
  | none => rfl
  | some n =>
   exfalso
   exact h1 (List.mem_map.2 ⟨_, hp.mem_iff.2 (cm_has h hg), rfl⟩)

abbrev ops84 : List DOper := [oM 20 20, oO 21 (.ext 0) [.t 20], oO 22 (.ext 1) [.t 20], oM 8 21, oM 9 22]

def E84 (rF rS rN rM L it : Nat) : Env := [(2, .ref rF 0), (3, .ref rS 0), (4, .ref rN 0), (5, .ref rM 0), (6, .ref L 0), (7, .ref (L + 2) 0), (17, .ref it 0)]

theorem mf84 {pg : Pg} {rF rS rN rM L it lid : Nat} : ∀ (p : List (Int × TV)), (∀ q ∈ p, ∃ n : Nat, q.2 = .i .i64 (n : Int)) -> ∀ (es : List (Int × TV)) (g : Int -> Option Nat) (K : Heap), K[L + 2]? = some (.cells [.mp lid] false) -> K[lid]? = some (.mapS es es.length) -> CM es g ->
  ∃ es', CM es' (layM g p) /\ mf pg (den pg) 17 it 1 20 ops84 [2, 3, 4, 5, 6, 7, 8, 9, 17] b84_0 [2, 3, 4, 5, 6, 7, 17] p (E84 rF rS rN rM L it) K = some (E84 rF rS rN rM L it, K.set lid (.mapS es' es'.length))
 | [], _, es, g, K, h1, h2, h3 => ⟨es, h3, by rw [set_same h2]; exact mf_nil _ _⟩
 | (s, w) :: p, hp, es, g, K, h1, h2, h3 => by
  obtain ⟨n, hn⟩ := hp (s, w) (List.mem_cons_self ..)
  have hn : w = .i .i64 (n : Int) := hn
  subst hn
  have hne : lid ≠ L + 2 := by
   rintro rfl; rw [h1] at h2; cases h2
  have hlt := (List.getElem?_eq_some_iff.1 h2).1
  have st := h3.set (pg := pg) (R := den pg) h2 s n
  obtain ⟨es1, he1⟩ : ∃ es1, es1 = insS s (.i .i64 (n : Int)) es := ⟨_, rfl⟩
  have hc := h3.ins s n
  rw [<- he1] at st hc
  obtain ⟨es', hc', hr⟩ := mf84 (pg := pg) (rF := rF) (rS := rS) (rN := rN) (rM := rM) (L := L) (it := it) (lid := lid) p (fun q hq => hp q (List.mem_cons_of_mem _ hq)) es1 (updM g s n) (K.set lid (.mapS es1 es1.length)) (by rw [List.getElem?_set_ne hne]; exact h1) (by simp [hlt]) hc
  have e : layM g ((s, .i .i64 (n : Int)) :: p) = layM (updM g s n) p := by
   unfold layM; rw [List.foldl_cons]; simp only [TV.num, Int.toNat_natCast]
  rw [e]
  rw [List.set_set] at hr
  refine ⟨es', hc', Eq.trans (mf_cons (e1 := E84 rF rS rN rM L it) (H1 := K.set lid (.mapS es1 es1.length)) ?_ rfl) hr⟩
  have ld : ldC K[L + 2]? 1 false 0 K = some (.mp lid, K) := ldC_of pg h1 rfl
  generalize (n : Int) = nn at *
  generalize K.set lid (.mapS es1 es1.length) = K1 at *
  simp (disch := omega) [b84_0, E84, Z0, Z1, Z2, Z3, Z4, Z5, Z6, Z7, Z8, Z9, Za, Zb, Zc, Zd, Ze, Zf, Zg, Zh, Zi, Zj, Zk, Zl, Zm, Zn, Zo, Zp, Zq, Zr, Zs, Zt, Zu, Zv, Zw, Zx, k_mv, Zy, Zz, ZA, ZB, ZC, ZD, ZE, ZF, ZG, ZH, ZI, ZJ, ZK, ZL, ZM, ZN, ZO, ZP, ZQ, ZR, ZS, ZT, ZU, ZV, ZW, ZX, ZY, ZZ, Y0, Y1, Y2, Y3, Y4, k_mn, k_mx, Y5, Y6, Y7, Y8, Y9, Ya, Yb, Yc, Yd, Ye, Yf, Yg, Yh, Dn.setLast, Dn.getLast, evalO, mapO, Dn.get, putE, Yi, Yj, Yk, Yl, TV.one, TV.isAgg, Dn.part, Ym, negb, at0, at1, at2, at3, at4, dT, dF, Yn, Option.bind_some, Option.map_some, ld, st]

end Go.Proofs.Try.Dn

/-
 Pairs of dice with given ways: all of pairs, as a function that hands them to whoever asks.
-/

set_option maxHeartbeats 1000000
namespace Go.Proofs.Try.Dn
open Go.Dn

variable {pg : Pg} {H : Heap} {I : List (List Int × List Int) -> (Nat -> Prop) -> Heap -> Prop} {own : Nat -> Prop}

theorem at_app (H : Heap) (T : List AObj) (k : Nat) : (H ++ T)[H.length + k]? = T[k]? := by
 rw [List.getElem?_append_right (by omega)]; congr 1; omega

structure Gv (H : Heap) (rW rF rS rN rM wid : Nat) (c d : Int) (n m : Nat) (es : List (Int × TV)) (g : Int -> Option Nat) : Prop where
 hW : H[rW]? = some (.cells [.mp wid] false)
 hw : H[wid]? = some (.mapS es es.length)
 cm : CM es g
 hF : H[rF]? = some (.cells [.i .i64 c] false)
 hS : H[rS]? = some (.cells [.i .i64 d] false)
 hN : H[rN]? = some (.cells [.i .i64 (n : Int)] false)
 hM : H[rM]? = some (.cells [.i .i64 (m : Int)] false)
 nd : [rF, rS, rN, rM].Nodup

theorem start84 {rW rF rS rN rM wid y : Nat} {c d : Int} {n m : Nat} {es : List (Int × TV)} {g : Int -> Option Nat} (h : Gv H rW rF rS rN rM wid c d n m es g) :
  go pg (den pg) [.c c84] .normal (zipE [.yl y, .ref rW 0, .ref rF 0, .ref rS 0, .ref rN 0, .ref rM 0] 0) H =
   go pg (den pg) [.c l84_2] .normal (E84 rF rS rN rM H.length (H.length + 3)) (H ++ [.cells [.yl y] false, .mapS [] 0, .cells [.mp (H.length + 1)] false, .iter wid es.length]) := by
 have hlt := fun {j o} (e : H[j]? = some o) => (List.getElem?_eq_some_iff.1 e).1
 have f0 : dkc pg (den pg) (.box false) [.yl y] H = some (.ref H.length 0, H ++ [.cells [.yl y] false]) := rfl
 have f1 : dkc pg (den pg) .mkS [] (H ++ [.cells [.yl y] false]) = some (.mp (H.length + 1), H ++ [.cells [.yl y] false, .mapS [] 0]) := by simp [dkc, dk]
 have f3 : dkc pg (den pg) (.st 1) [.ref (H.length + 2) 0, .mp (H.length + 1)] (H ++ [.cells [.yl y] false, .mapS [] 0, .cells [.nilmap] false]) = some (.undef, H ++ [.cells [.yl y] false, .mapS [] 0, .cells [.mp (H.length + 1)] false]) := by
  have := st_box (pg := pg) (R := den pg) (H := H ++ [.cells [.yl y] false, .mapS [] 0, .cells [.nilmap] false]) (id := H.length + 2) (u := .nilmap) (v := .mp (H.length + 1)) (ag := false) (by rw [at_app]; rfl) rfl
  rw [this]; simp [List.set_append]
 have f4 : ∀ T : List AObj, ldC (H ++ T)[rW]? 1 false 0 (H ++ T) = some (.mp wid, H ++ T) := fun T => ldC_of pg (by rw [List.getElem?_append_left (hlt h.hW)]; exact h.hW) rfl
 have f5 : dkc pg (den pg) .rngS [.mp wid] (H ++ [.cells [.yl y] false, .mapS [] 0, .cells [.mp (H.length + 1)] false]) = some (.ref (H.length + 3) 0, H ++ [.cells [.yl y] false, .mapS [] 0, .cells [.mp (H.length + 1)] false, .iter wid es.length]) := by
  rw [k_rngS, List.getElem?_append_left (hlt h.hw), h.hw]; simp [rgC]
 simp (disch := omega) [c84, zipE, E84, go_seqr, Z0, Z1, Z2, Z3, Z4, Z5, Z6, Z7, Z8, Z9, Za, Zb, Zc, Zd, Ze, Zf, Zg, Zh, Zi, Zj, Zk, Zl, Zm, Zn, Zo, Zp, Zq, Zr, Zs, Zt, Zu, Zv, Zw, Zx, k_mv, Zy, Zz, ZA, ZB, ZC, ZD, ZE, ZF, ZG, ZH, ZI, ZJ, ZK, ZL, ZM, ZN, ZO, ZP, ZQ, ZR, ZS, ZT, ZU, ZV, ZW, ZX, ZY, ZZ, Y0, Y1, Y2, Y3, Y4, k_mn, k_mx, Y5, Y6, Y7, Y8, Y9, Ya, Yb, Yc, Yd, Ye, Yf, Yg, Yh, Dn.setLast, Dn.getLast, evalO, mapO, Dn.get, putE, Yi, Yj, Yk, Yl, TV.one, TV.isAgg, Dn.part, Ym, negb, at0, at1, at2, at3, at4, dT, dF, Yn, Option.bind_some, Option.map_some, List.length_append, List.append_assoc, f0, f1, f3, f4, f5]

theorem copy84 {rW rF rS rN rM wid y : Nat} {c d : Int} {n m : Nat} {es : List (Int × TV)} {g : Int -> Option Nat} (h : Gv H rW rF rS rN rM wid c d n m es g) :
  go pg (den pg) [.c l84_2] .normal (E84 rF rS rN rM H.length (H.length + 3)) (H ++ [.cells [.yl y] false, .mapS [] 0, .cells [.mp (H.length + 1)] false, .iter wid es.length]) =
   go pg (den pg) [.c z84_1] .normal (E84 rF rS rN rM H.length (H.length + 3)) (H ++ [.cells [.yl y] false, .mapS es es.length, .cells [.mp (H.length + 1)] false, .dead]) := by
 have hlt := (List.getElem?_eq_some_iff.1 h.hw).1
 have e0 : ∀ o1 o2 : AObj, ((H ++ [o1, .mapS [] 0, o2, .iter wid es.length]).set (H.length + 3) .dead).set wid .dead = H.set wid .dead ++ [o1, .mapS [] 0, o2, .dead] := by
  intro o1 o2
  rw [List.set_append_right _ _ (by omega), show H.length + 3 - H.length = 3 by omega, List.set_append_left _ _ hlt]
  rfl
 unfold l84_2
 rw [go_mrange (id := H.length + 3) (mid := wid) (ck := es.length) (es := es) (e' := E84 rF rS rN rM H.length (H.length + 3)) (H' := H.set wid .dead ++ [.cells [.yl y] false, .mapS es es.length, .cells [.mp (H.length + 1)] false, .dead]) rfl (by rw [at_app]; rfl) (by rw [List.getElem?_append_left hlt]; exact h.hw) fun p hp => ?_]
 ·rw [List.set_append_left _ _ (by simpa using hlt), List.set_set, set_same h.hw]
 ·rw [e0]
  have hl : (H.set wid .dead).length = H.length := by simp
  obtain ⟨es', hc, hr⟩ := mf84 (pg := pg) (rF := rF) (rS := rS) (rN := rN) (rM := rM) (L := H.length) (it := H.length + 3) (lid := H.length + 1) p (fun q hq => by obtain ⟨n, _, h2⟩ := cm_ent h.cm (hp.mem_iff.1 hq); exact ⟨n, h2⟩) [] (fun _ => none)
   (H.set wid .dead ++ [.cells [.yl y] false, .mapS [] 0, .cells [.mp (H.length + 1)] false, .dead]) (by rw [<- hl, at_app]; rfl) (by rw [<- hl, at_app]; rfl) CM.nil
  rw [layM_perm h.cm hp] at hc
  obtain rfl := hc.uniq h.cm
  refine hr.trans ?_
  rw [List.set_append_right _ _ (by simp), hl, show H.length + 1 - H.length = 1 by omega]
  rfl

def qP (L rF rS rN rM : Nat) : Cells := { rL := L + 2, rA := L + 8, rN := rN, rB := L + 9, rM := rM, rY := L, rS := rS, rT := L + 4, rG := L + 10, rV := L + 5, rF := rF }
def hP (H : Heap) (y rF rS rN rM : Nat) (c d : Int) (es : List (Int × TV)) (G : TV) : Heap :=
 H ++ [.cells [.yl y] false, .mapS es es.length, .cells [.mp (H.length + 1)] false, .dead, .cells [.fn 85 [] [.ref (H.length + 2) 0]] false, .cells [.fn 86 [] [.ref (H.length + 2) 0]] false, .cells [.i .i64 c] false, .cells [.i .i64 d] false, .cells [.sl (H.length + 6) 0 1 false 1 (some 1)] false, .cells [.sl (H.length + 7) 0 1 false 1 (some 1)] false, .cells [G] false]

theorem gs_start {y : Nat} (hC : Con pg (.yl y) I) {rW rF rS rN rM wid : Nat} {c d : Int} {n m : Nat} {es : List (Int × TV)} {g : Int -> Option Nat} (h : Gv H rW rF rS rN rM wid c d n m es g) {acc : List (List Int × List Int)} (hI : I acc own H) (hd : ∀ j, own j -> j ∉ [rF, rS, rN, rM]) :
  GS (qP H.length rF rS rN rM) n m c d (.yl y) (H.length + 1) I (.sl (H.length + 6) 0 1 false 1 (some 1)) (.sl (H.length + 7) 0 1 false 1 (some 1)) [c] [d] es g acc own (hP H y rF rS rN rM c d es (.fn 87 [] (qP H.length rF rS rN rM).caps)) := by
 have hlt := fun {j o} (e : H[j]? = some o) => (List.getElem?_eq_some_iff.1 e).1
 have old : ∀ {j : Nat} {o : AObj}, H[j]? = some o -> ∀ T, (H ++ T)[j]? = some o := fun e T => by rw [List.getElem?_append_left (hlt e)]; exact e
 have l1 := hlt h.hF; have l2 := hlt h.hS; have l3 := hlt h.hN; have l4 := hlt h.hM
 have hnd := h.nd
 simp only [List.nodup_cons, List.mem_cons, List.mem_nil_iff, or_false, not_or, not_false_eq_true, List.nodup_nil, and_true] at hnd
 obtain ⟨⟨n1, n2, n3⟩, ⟨n4, n5⟩, n6⟩ := hnd
 refine ⟨{ lft := ⟨by unfold hP; exact at_app _ _ 2, by unfold hP; exact at_app _ _ 1, h.cm⟩, hA := by unfold hP; exact at_app _ _ 8, wA := .inr ⟨_, _, rfl, rfl, by unfold hP; exact at_app _ _ 6⟩, hB := by unfold hP; exact at_app _ _ 9, wB := .inr ⟨_, _, rfl, rfl, by unfold hP; exact at_app _ _ 7⟩, hN := old h.hN _, hM := old h.hM _, hY := by unfold hP; exact at_app _ _ 0, hS := old h.hS _, hF := old h.hF _, hT := by unfold hP; exact at_app _ _ 4, hV := by unfold hP; exact at_app _ _ 5, hG := by unfold hP; exact at_app _ _ 10, dA := ?_, dB := ?_, nd := ?_ },
  hC.still _ _ _ _ hI fun j hj => by unfold hP; exact List.getElem?_append_left (hC.lt _ _ _ hI j hj), fun j hj => ?_⟩
 ·intro id hid
  obtain rfl : H.length + 6 = id := Option.some.inj hid
  refine ⟨?_, fun e => ?_⟩
  ·simp only [Cells.ids, qP, List.mem_cons, List.mem_nil_iff, or_false, not_or]; omega
  ·have : H.length + 7 = H.length + 6 := Option.some.inj e; omega
 ·intro id hid
  obtain rfl : H.length + 7 = id := Option.some.inj hid
  simp only [Cells.ids, qP, List.mem_cons, List.mem_nil_iff, or_false, not_or]; omega
 ·simp only [Cells.ids, qP, List.nodup_cons, List.mem_cons, List.mem_nil_iff, or_false, not_or, not_false_eq_true, List.nodup_nil, and_true]; omega
 ·have hj' := hC.lt _ _ _ hI j hj
  have hd' := hd j hj
  simp only [List.mem_cons, List.mem_nil_iff, or_false, not_or] at hd'
  refine ⟨?_, by omega, fun e => ?_, fun e => ?_⟩
  ·simp only [Cells.ids, qP, List.mem_cons, List.mem_nil_iff, or_false, not_or]; omega
  ·have : H.length + 6 = j := Option.some.inj e; omega
  ·have : H.length + 7 = j := Option.some.inj e; omega

end Go.Proofs.Try.Dn

