/-
  Pairs of dice with given ways: all that pairs hands on.
-/
import Derived.Test.YtijeefncmgjlpaaEh
set_option linter.unusedSimpArgs false
set_option linter.unusedVariables false

set_option maxHeartbeats 2000000
namespace Go.Proofs.Try.Dn
open Go.Dn

variable {pg : Pg} {H : Heap} {I : List (List Int × List Int) -> (Nat -> Prop) -> Heap -> Prop} {own : Nat -> Prop}

def r84_0 : DC :=
 (.reg [oO 26 (.mkfn 85 0) [.t 7],
  (oO 10 (.alloc [.nilfn] false) []),
  ⟨none, (.st 1), [.t 10, .t 26], none⟩] [2, 3, 4, 5, 6, 7, 10])
def r84_1 : DC :=
 (.reg [oO 27 (.mkfn 86 0) [.t 7],
  (oO 11 (.alloc [.nilfn] false) []),
  ⟨none, (.st 1), [.t 11, .t 27], none⟩] [2, 3, 4, 5, 6, 7, 10, 11])
def r84_2 : DC :=
 (.regd [oO 28 (.ld 1 false) [.t 2],
  (oO 29 (.bsl false [(.i .i64 0)] false 1 [0]) [.t 28]),
  (oO 30 (.ld 1 false) [.t 3]),
  (oO 31 (.bsl false [(.i .i64 0)] false 1 [0]) [.t 30]),
  (oO 12 (.alloc [.nilsl] false) []),
  (oO 13 (.alloc [.nilsl] false) []),
  ⟨none, (.st 1), [.t 12, .t 29], none⟩,
  ⟨none, (.st 1), [.t 13, .t 31], none⟩] [2, 3, 4, 5, 6, 7, 10, 11, 12, 13] [(6, 2), (6, 3)])
def r84_3 : DC :=
 (.seq (.reg [oO 32 (.ld 1 false) [.t 10],
  (oO 33 (.ld 1 false) [.t 2]),
  (oO 34 (.ld 1 false) [.t 13]),
  (oO 35 (.call .sh) [.t 32, .t 33, .t 34]),
  (oO 36 .notB [.t 35])] [2, 3, 4, 5, 6, 7, 10, 11, 12, 13, 36])
 (.cond (.t 36)
 .ret
 .skip))
def r84_4 : DC :=
 (.reg [oO 14 (.alloc [.nilfn] false) []] [2, 3, 4, 5, 6, 7, 10, 11, 12, 13, 14])
def r84_5 : DC :=
 (.reg [oO 37 (.mkfn 87 0) [.t 7, .t 12, .t 4, .t 13, .t 5, .t 6, .t 3, .t 10, .t 14, .t 11, .t 2],
  ⟨none, (.st 1), [.t 14, .t 37], none⟩] [14])
def r84_6 : DC :=
 (.reg [oO 38 (.ld 1 false) [.t 14],
  (oO 39 (.call .sh) [.t 38])] [])

theorem z84_parts : z84_1 = .seq r84_0 (.seq r84_1 (.seq r84_2 (.seq r84_3 (.seq r84_4 (.seq r84_5 r84_6))))) := rfl

theorem same_i (k : IntKind) (p : Int) : Go.Dn.same 9 (.i k p) (.i k p) = true := by simp [Go.Dn.same]

theorem st_app (H : Heap) (T : List AObj) (k : Nat) (u v : TV) (ag : Bool) (h : T[k]? = some (.cells [u] ag)) (hv : v.one = true) : dkc pg (den pg) (.st 1) [.ref (H.length + k) 0, v] (H ++ T) = some (.undef, H ++ T.set k (.cells [v] ag)) := by
 rw [st_box (by rw [at_app]; exact h) hv, List.set_append_right _ _ (by omega), show H.length + k - H.length = k by omega]

theorem ld_app (pg : Pg) (H : Heap) (T : List AObj) (k : Nat) (v : TV) (h : T[k]? = some (.cells [v] false)) (hv : v.isAgg = false) : ldC (H ++ T)[H.length + k]? 1 false 0 (H ++ T) = some (v, H ++ T) :=
 ldC_of pg (by rw [at_app]; exact h) hv

noncomputable def pairsP (n m : Nat) (c d : Int) (g : Int -> Option Nat) : List (List Int × List Int) := growP n m c d 1001 [c] [d] (subM g (c + d))

theorem body84 (hF : Free pg) {y : Nat} (hC : Con pg (.yl y) I) {rW rF rS rN rM wid : Nat} {c d : Int} {n m : Nat} {es : List (Int × TV)} {g : Int -> Option Nat} (h : Gv H rW rF rS rN rM wid c d n m es g) (hI : I [] own H) (hd : ∀ j, own j -> j ∉ [rF, rS, rN, rM])
  (hn : 1 <= n /\ n <= 8) (hm : 1 <= m /\ m <= 8) (hc0 : 0 <= c /\ c <= 60) (hd0 : 0 <= d /\ d <= 60) (hmass : mass es <= 1000) (hg : ∀ s, (g s).getD 0 ≠ 0 -> 0 <= s /\ s <= 1000) (h1 : (g (c + d)).getD 0 ≠ 0) :
  ∃ own' H', bodyRun pg (den pg) 84 [.yl y, .ref rW 0, .ref rF 0, .ref rS 0, .ref rN 0, .ref rM 0] H = some (.tup [], H') /\ I (pairsP n m c d g) own' H' := by
 have hlt := fun {j o} (e : H[j]? = some o) => (List.getElem?_eq_some_iff.1 e).1
 have old : ∀ {j : Nat} {o : AObj}, H[j]? = some o -> ∀ T, (H ++ T)[j]? = some o := fun e T => by rw [List.getElem?_append_left (hlt e)]; exact e
 have e1 := start84 (pg := pg) (y := y) h
 rw [copy84 h] at e1
 obtain ⟨L, hL⟩ : ∃ L, L = H.length := ⟨_, rfl⟩
 -- the cells one after another
 have s4 := st_app (pg := pg) H [.cells [.yl y] false, .mapS es es.length, .cells [.mp (H.length + 1)] false, .dead, .cells [.nilfn] false] 4 .nilfn (.fn 85 [] [.ref (H.length + 2) 0]) false rfl rfl
 have s5 := st_app (pg := pg) H [.cells [.yl y] false, .mapS es es.length, .cells [.mp (H.length + 1)] false, .dead, .cells [.fn 85 [] [.ref (H.length + 2) 0]] false, .cells [.nilfn] false] 5 .nilfn (.fn 86 [] [.ref (H.length + 2) 0]) false rfl rfl
 have lF : ∀ T, ldC (H ++ T)[rF]? 1 false 0 (H ++ T) = some (.i .i64 c, H ++ T) := fun T => ldC_of pg (old h.hF T) rfl
 have lS : ∀ T, ldC (H ++ T)[rS]? 1 false 0 (H ++ T) = some (.i .i64 d, H ++ T) := fun T => ldC_of pg (old h.hS T) rfl
 have kF : ∀ T, dk (.ld 1 false) [.ref rF 0] (H ++ T) = some (.i .i64 c, H ++ T) := fun T => ld_box (pg := pg) (R := den pg) (old h.hF T) rfl
 have kS : ∀ T, dk (.ld 1 false) [.ref rS 0] (H ++ T) = some (.i .i64 d, H ++ T) := fun T => ld_box (pg := pg) (R := den pg) (old h.hS T) rfl
 have s8 := st_app (pg := pg) H [.cells [.yl y] false, .mapS es es.length, .cells [.mp (H.length + 1)] false, .dead, .cells [.fn 85 [] [.ref (H.length + 2) 0]] false, .cells [.fn 86 [] [.ref (H.length + 2) 0]] false, .cells [.i .i64 c] false, .cells [.i .i64 d] false, .cells [.nilsl] false, .cells [.nilsl] false] 8 .nilsl (.sl (H.length + 6) 0 1 false 1 (some 1)) false rfl rfl
 have s9 := st_app (pg := pg) H [.cells [.yl y] false, .mapS es es.length, .cells [.mp (H.length + 1)] false, .dead, .cells [.fn 85 [] [.ref (H.length + 2) 0]] false, .cells [.fn 86 [] [.ref (H.length + 2) 0]] false, .cells [.i .i64 c] false, .cells [.i .i64 d] false, .cells [.sl (H.length + 6) 0 1 false 1 (some 1)] false, .cells [.nilsl] false] 9 .nilsl (.sl (H.length + 7) 0 1 false 1 (some 1)) false rfl rfl
 simp only [List.set_cons_succ, List.set_cons_zero] at s4 s5 s8 s9
 obtain ⟨T9, hT9⟩ : ∃ T9, T9 = [AObj.cells [.yl y] false, .mapS es es.length, .cells [.mp (H.length + 1)] false, .dead, .cells [.fn 85 [] [.ref (H.length + 2) 0]] false, .cells [.fn 86 [] [.ref (H.length + 2) 0]] false, .cells [.i .i64 c] false, .cells [.i .i64 d] false, .cells [.sl (H.length + 6) 0 1 false 1 (some 1)] false, .cells [.sl (H.length + 7) 0 1 false 1 (some 1)] false] := ⟨_, rfl⟩
 have l10 := ld_app pg H T9 4 (.fn 85 [] [.ref (H.length + 2) 0]) (by rw [hT9]; rfl) rfl
 have l13 := ld_app pg H T9 9 (.sl (H.length + 7) 0 1 false 1 (some 1)) (by rw [hT9]; rfl) rfl
 have hft : Lft (H ++ T9) (H.length + 2) (H.length + 1) es g := ⟨by rw [at_app, hT9]; rfl, by rw [at_app, hT9]; rfl, h.cm⟩
 have wT : Wy (H ++ T9) (.sl (H.length + 7) 0 1 false 1 (some 1)) [d] := .inr ⟨_, _, rfl, rfl, by rw [at_app, hT9]; rfl⟩
 have htk : takes g c [d] = some (subM g (c + d)) := by
  unfold takes; rw [if_neg h1]; rfl
 rcases body85 hF (d := [d]) (by simp) (fun f hf => by rw [List.mem_singleton.1 hf]; omega) (s := c) (by omega) wT.view hft (by omega) with ⟨es1, g1, t1, t2, t3, t4⟩ | ⟨t1, _⟩
 ·rw [htk] at t1
  obtain rfl := Option.some.inj t1
  have t4' : callRun pg (den pg) .sh [.fn 85 [] [.ref (H.length + 2) 0], .i .i64 c, .sl (H.length + 7) 0 1 false 1 (some 1)] (H ++ T9) = some (.b true, H ++ T9.set 1 (.mapS es1 es1.length)) := by
   rw [sh_fn]
   refine t4.trans ?_
   rw [List.set_append_right _ _ (by omega), show H.length + 1 - H.length = 1 by omega]
  have hgs := gs_start (hC := hC) (y := y) (n := n) (m := m) { h with hw := h.hw } hI hd
  obtain ⟨G, hG⟩ : ∃ G, G = TV.fn 87 [] (qP H.length rF rS rN rM).caps := ⟨_, rfl⟩
  rw [<- hG] at hgs
  have hgs2 := hgs.left hC t2
  have e2 : (hP H y rF rS rN rM c d es G).set (H.length + 1) (.mapS es1 es1.length) = H ++ (T9.set 1 (.mapS es1 es1.length) ++ [.cells [G] false]) := by
   unfold hP
   rw [List.set_append_right _ _ (by omega), show H.length + 1 - H.length = 1 by omega, hT9]; rfl
  rw [e2] at hgs2
  obtain ⟨tA', tB', own', H', r1, r2⟩ := body87 hF hC hn.2 hm.2 hc0 hd0 1001 _ _ _ _ _ _ _ _ _ hgs2 ⟨by simp, by simp, fun x hx => by rw [List.mem_singleton.1 hx]; exact hc0⟩ ⟨by simp, by simp, fun x hx => by rw [List.mem_singleton.1 hx]; exact hd0⟩ (by simpa using hn.1) (by simpa using hm.1)
   (by simp at t3; omega) (by simp at t3; omega) (fun s hs => hg s (takes_keys c [d] htk s hs)) (by
    simp only [List.length_nil, List.length_singleton, Nat.zero_add]
    exact Nat.le_trans (Nat.pow_le_pow_right (by omega) (show (n - 1) + (m - 1) <= 20 by omega)) (by decide))
  refine ⟨own', H', ?_, by simpa [pairsP] using r2.con⟩
  obtain ⟨T10, hT10⟩ : ∃ T10, T10 = T9.set 1 (.mapS es1 es1.length) := ⟨_, rfl⟩
  rw [<- hT10] at t4' r1
  have hTl : T10.length = 10 := by rw [hT10, hT9]; rfl
  have s10 : dkc pg (den pg) (.st 1) [.ref (H.length + 10) 0, G] (H ++ (T10 ++ [.cells [.nilfn] false])) = some (.undef, H ++ (T10 ++ [.cells [G] false])) := by
   have := st_app (pg := pg) H (T10 ++ [.cells [.nilfn] false]) 10 .nilfn G false (by rw [List.getElem?_append_right (by omega), hTl]; rfl) (by rw [hG]; rfl)
   rw [this, List.set_append_right _ _ (by omega), hTl]; rfl
  have l14 := ld_app pg H (T10 ++ [.cells [G] false]) 10 G (by rw [List.getElem?_append_right (by omega), hTl]; rfl) (by rw [hG]; rfl)
  have r1' : callRun pg (den pg) .sh [G] (H ++ (T10 ++ [.cells [G] false])) = some (.b true, H') := by subst hG; exact r1
  refine bodyRun_of (vs := []) (o := ⟨.normal, [], H'⟩) (d := d84) (show pg.F 84 = some d84 by rw [hF.F]; rfl) rfl ?_ (by simp) rfl
  rw [runC_go, show d84.body = c84 from rfl, e1]
  have hmk : dkc pg (den pg) (.mkfn 87 0) [.ref (H.length + 2) 0, .ref (H.length + 8) 0, .ref rN 0, .ref (H.length + 9) 0, .ref rM 0, .ref H.length 0, .ref rS 0, .ref (H.length + 4) 0, .ref (H.length + 10) 0, .ref (H.length + 5) 0, .ref rF 0] (H ++ (T10 ++ [.cells [.nilfn] false])) = some (G, H ++ (T10 ++ [.cells [.nilfn] false])) := by rw [hG]; rfl
  rw [<- hT9] at s9
  have a0 : ∀ K, go pg (den pg) (.c r84_0 :: K) .normal (E84 rF rS rN rM H.length (H.length + 3)) (H ++ [.cells [.yl y] false, .mapS es es.length, .cells [.mp (H.length + 1)] false, .dead]) =
    go pg (den pg) K .normal [(2, .ref rF 0), (3, .ref rS 0), (4, .ref rN 0), (5, .ref rM 0), (6, .ref H.length 0), (7, .ref (H.length + 2) 0), (10, .ref (H.length + 4) 0)] (H ++ [.cells [.yl y] false, .mapS es es.length, .cells [.mp (H.length + 1)] false, .dead, .cells [.fn 85 [] [.ref (H.length + 2) 0]] false]) := fun K => by
   simp (disch := omega) [r84_0, E84, Z0, Z1, Z2, Z3, Z4, Z5, Z6, Z7, Z8, Z9, Za, Zb, Zc, Zd, Ze, Zf, Zg, Zh, Zi, Zj, Zk, Zl, Zm, Zn, Zo, Zp, Zq, Zr, Zs, Zt, Zu, Zv, Zw, Zx, k_mv, Zy, Zz, ZA, ZB, ZC, ZD, ZE, ZF, ZG, ZH, ZI, ZJ, ZK, ZL, ZM, ZN, ZO, ZP, ZQ, ZR, ZS, ZT, ZU, ZV, ZW, ZX, ZY, ZZ, Y0, Y1, Y2, Y3, Y4, k_mn, k_mx, Y5, Y6, Y7, Y8, Y9, Ya, Yb, Yc, Yd, Ye, Yf, Yg, Yh, Dn.setLast, Dn.getLast, evalO, mapO, Dn.get, putE, Yi, Yj, Yk, Yl, TV.one, TV.isAgg, Dn.part, Ym, negb, at0, at1, at2, at3, at4, dT, dF, Yn, Option.bind_some, Option.map_some, List.length_append, List.append_assoc, s4]
  have a1 : ∀ K, go pg (den pg) (.c r84_1 :: K) .normal [(2, .ref rF 0), (3, .ref rS 0), (4, .ref rN 0), (5, .ref rM 0), (6, .ref H.length 0), (7, .ref (H.length + 2) 0), (10, .ref (H.length + 4) 0)] (H ++ [.cells [.yl y] false, .mapS es es.length, .cells [.mp (H.length + 1)] false, .dead, .cells [.fn 85 [] [.ref (H.length + 2) 0]] false]) =
    go pg (den pg) K .normal [(2, .ref rF 0), (3, .ref rS 0), (4, .ref rN 0), (5, .ref rM 0), (6, .ref H.length 0), (7, .ref (H.length + 2) 0), (10, .ref (H.length + 4) 0), (11, .ref (H.length + 5) 0)] (H ++ [.cells [.yl y] false, .mapS es es.length, .cells [.mp (H.length + 1)] false, .dead, .cells [.fn 85 [] [.ref (H.length + 2) 0]] false, .cells [.fn 86 [] [.ref (H.length + 2) 0]] false]) := fun K => by
   simp (disch := omega) [r84_1, E84, Z0, Z1, Z2, Z3, Z4, Z5, Z6, Z7, Z8, Z9, Za, Zb, Zc, Zd, Ze, Zf, Zg, Zh, Zi, Zj, Zk, Zl, Zm, Zn, Zo, Zp, Zq, Zr, Zs, Zt, Zu, Zv, Zw, Zx, k_mv, Zy, Zz, ZA, ZB, ZC, ZD, ZE, ZF, ZG, ZH, ZI, ZJ, ZK, ZL, ZM, ZN, ZO, ZP, ZQ, ZR, ZS, ZT, ZU, ZV, ZW, ZX, ZY, ZZ, Y0, Y1, Y2, Y3, Y4, k_mn, k_mx, Y5, Y6, Y7, Y8, Y9, Ya, Yb, Yc, Yd, Ye, Yf, Yg, Yh, Dn.setLast, Dn.getLast, evalO, mapO, Dn.get, putE, Yi, Yj, Yk, Yl, TV.one, TV.isAgg, Dn.part, Ym, negb, at0, at1, at2, at3, at4, dT, dF, Yn, Option.bind_some, Option.map_some, List.length_append, List.append_assoc, s5]
  have a2 : ∀ K, go pg (den pg) (.c r84_2 :: K) .normal [(2, .ref rF 0), (3, .ref rS 0), (4, .ref rN 0), (5, .ref rM 0), (6, .ref H.length 0), (7, .ref (H.length + 2) 0), (10, .ref (H.length + 4) 0), (11, .ref (H.length + 5) 0)] (H ++ [.cells [.yl y] false, .mapS es es.length, .cells [.mp (H.length + 1)] false, .dead, .cells [.fn 85 [] [.ref (H.length + 2) 0]] false, .cells [.fn 86 [] [.ref (H.length + 2) 0]] false]) =
    go pg (den pg) K .normal [(2, .ref rF 0), (3, .ref rS 0), (4, .ref rN 0), (5, .ref rM 0), (6, .ref H.length 0), (7, .ref (H.length + 2) 0), (10, .ref (H.length + 4) 0), (11, .ref (H.length + 5) 0), (12, .ref (H.length + 8) 0), (13, .ref (H.length + 9) 0)] (H ++ T9) := fun K => by
   obtain ⟨K0, h0⟩ : ∃ K0, K0 = H ++ [.cells [.yl y] false, .mapS es es.length, .cells [.mp (H.length + 1)] false, .dead, .cells [.fn 85 [] [.ref (H.length + 2) 0]] false, .cells [.fn 86 [] [.ref (H.length + 2) 0]] false] := ⟨_, rfl⟩
   obtain ⟨K1, h1⟩ : ∃ K1, K1 = H ++ [.cells [.yl y] false, .mapS es es.length, .cells [.mp (H.length + 1)] false, .dead, .cells [.fn 85 [] [.ref (H.length + 2) 0]] false, .cells [.fn 86 [] [.ref (H.length + 2) 0]] false, .cells [.i .i64 c] false] := ⟨_, rfl⟩
   obtain ⟨K2, h2⟩ : ∃ K2, K2 = H ++ [.cells [.yl y] false, .mapS es es.length, .cells [.mp (H.length + 1)] false, .dead, .cells [.fn 85 [] [.ref (H.length + 2) 0]] false, .cells [.fn 86 [] [.ref (H.length + 2) 0]] false, .cells [.i .i64 c] false, .cells [.i .i64 d] false] := ⟨_, rfl⟩
   obtain ⟨K3, h3⟩ : ∃ K3, K3 = H ++ [.cells [.yl y] false, .mapS es es.length, .cells [.mp (H.length + 1)] false, .dead, .cells [.fn 85 [] [.ref (H.length + 2) 0]] false, .cells [.fn 86 [] [.ref (H.length + 2) 0]] false, .cells [.i .i64 c] false, .cells [.i .i64 d] false, .cells [.nilsl] false] := ⟨_, rfl⟩
   obtain ⟨K4, h4⟩ : ∃ K4, K4 = H ++ [.cells [.yl y] false, .mapS es es.length, .cells [.mp (H.length + 1)] false, .dead, .cells [.fn 85 [] [.ref (H.length + 2) 0]] false, .cells [.fn 86 [] [.ref (H.length + 2) 0]] false, .cells [.i .i64 c] false, .cells [.i .i64 d] false, .cells [.nilsl] false, .cells [.nilsl] false] := ⟨_, rfl⟩
   obtain ⟨K5, h5⟩ : ∃ K5, K5 = H ++ [.cells [.yl y] false, .mapS es es.length, .cells [.mp (H.length + 1)] false, .dead, .cells [.fn 85 [] [.ref (H.length + 2) 0]] false, .cells [.fn 86 [] [.ref (H.length + 2) 0]] false, .cells [.i .i64 c] false, .cells [.i .i64 d] false, .cells [.sl (H.length + 6) 0 1 false 1 (some 1)] false, .cells [.nilsl] false] := ⟨_, rfl⟩
   have b0 : dkc pg (den pg) (.ld 1 false) [.ref rF 0] K0 = some (.i .i64 c, K0) := by rw [h0]; exact kF _
   have b1 : dkc pg (den pg) (.bsl false [.i .i64 0] false 1 [0]) [.i .i64 c] K0 = some (.sl (H.length + 6) 0 1 false 1 (some 1), K1) := by rw [Y7, h0, h1]; simp
   have b2 : dkc pg (den pg) (.ld 1 false) [.ref rS 0] K1 = some (.i .i64 d, K1) := by rw [h1]; exact kS _
   have b3 : dkc pg (den pg) (.bsl false [.i .i64 0] false 1 [0]) [.i .i64 d] K1 = some (.sl (H.length + 7) 0 1 false 1 (some 1), K2) := by rw [Y7, h1, h2]; simp
   have b4 : dkc pg (den pg) (.alloc [.nilsl] false) [] K2 = some (.ref (H.length + 8) 0, K3) := by rw [ZF, h2, h3]; simp
   have b5 : dkc pg (den pg) (.alloc [.nilsl] false) [] K3 = some (.ref (H.length + 9) 0, K4) := by rw [ZF, h3, h4]; simp
   have b6 : dkc pg (den pg) (.st 1) [.ref (H.length + 8) 0, .sl (H.length + 6) 0 1 false 1 (some 1)] K4 = some (.undef, K5) := by rw [h4, h5]; exact s8
   have b7 : dkc pg (den pg) (.st 1) [.ref (H.length + 9) 0, .sl (H.length + 7) 0 1 false 1 (some 1)] K5 = some (.undef, H ++ T9) := by rw [h5]; exact s9
   have c4 : dk (.ld 1 false) [.ref rS 0] K4 = some (.i .i64 d, K4) := by rw [h4]; exact kS _
   have c5 : dk (.ld 1 false) [.ref rS 0] K5 = some (.i .i64 d, K5) := by rw [h5]; exact kS _
   rw [<- h0]
   clear hG s4 s5 s8 s9 l10 l13 t4' r1 r1' hgs hgs2 e2 e1 hT9 hT10 h0 h1 h2 h3 h4 h5
   generalize H ++ T9 = K6 at *
   simp [r84_2, Zd, Zf, Zj, Zk, Ze, evalO, mapO, Go.Dn.get, putE, Yi, Yj, Yk, Yl, b0, b1, b2, b3, b4, b5, b6, b7, frOk, ldSame, stElse, same_i, guardRun, DK.isLd, TV.idOf', c4, c5]
  have a3 : ∀ K, go pg (den pg) (.c r84_3 :: K) .normal [(2, .ref rF 0), (3, .ref rS 0), (4, .ref rN 0), (5, .ref rM 0), (6, .ref H.length 0), (7, .ref (H.length + 2) 0), (10, .ref (H.length + 4) 0), (11, .ref (H.length + 5) 0), (12, .ref (H.length + 8) 0), (13, .ref (H.length + 9) 0)] (H ++ T9) =
    go pg (den pg) K .normal [(2, .ref rF 0), (3, .ref rS 0), (4, .ref rN 0), (5, .ref rM 0), (6, .ref H.length 0), (7, .ref (H.length + 2) 0), (10, .ref (H.length + 4) 0), (11, .ref (H.length + 5) 0), (12, .ref (H.length + 8) 0), (13, .ref (H.length + 9) 0), (36, .b false)] (H ++ T10) := fun K => by
   simp (disch := omega) [r84_3, Z0, Z1, Z2, Z3, Z4, Z5, Z6, Z7, Z8, Z9, Za, Zb, Zc, Zd, Ze, Zf, Zg, Zh, Zi, Zj, Zk, Zl, Zm, Zn, Zo, Zp, Zq, Zr, Zs, Zt, Zu, Zv, Zw, Zx, k_mv, Zy, Zz, ZA, ZB, ZC, ZD, ZE, ZF, ZG, ZH, ZI, ZJ, ZK, ZL, ZM, ZN, ZO, ZP, ZQ, ZR, ZS, ZT, ZU, ZV, ZW, ZX, ZY, ZZ, Y0, Y1, Y2, Y3, Y4, k_mn, k_mx, Y5, Y6, Y7, Y8, Y9, Ya, Yb, Yc, Yd, Ye, Yf, Yg, Yh, Dn.setLast, Dn.getLast, evalO, mapO, Dn.get, putE, Yi, Yj, Yk, Yl, TV.one, TV.isAgg, Dn.part, Ym, negb, at0, at1, at2, at3, at4, dT, dF, Yn, Option.bind_some, Option.map_some, lF, l10, l13, t4']
  have hl10 : (H ++ T10).length = H.length + 10 := by rw [List.length_append, hTl]
  have a4 : ∀ K, go pg (den pg) (.c r84_4 :: K) .normal [(2, .ref rF 0), (3, .ref rS 0), (4, .ref rN 0), (5, .ref rM 0), (6, .ref H.length 0), (7, .ref (H.length + 2) 0), (10, .ref (H.length + 4) 0), (11, .ref (H.length + 5) 0), (12, .ref (H.length + 8) 0), (13, .ref (H.length + 9) 0), (36, .b false)] (H ++ T10) =
    go pg (den pg) K .normal [(2, .ref rF 0), (3, .ref rS 0), (4, .ref rN 0), (5, .ref rM 0), (6, .ref H.length 0), (7, .ref (H.length + 2) 0), (10, .ref (H.length + 4) 0), (11, .ref (H.length + 5) 0), (12, .ref (H.length + 8) 0), (13, .ref (H.length + 9) 0), (14, .ref (H.length + 10) 0)] (H ++ (T10 ++ [.cells [.nilfn] false])) := fun K => by
   simp (disch := omega) [r84_4, Z0, Z1, Z2, Z3, Z4, Z5, Z6, Z7, Z8, Z9, Za, Zb, Zc, Zd, Ze, Zf, Zg, Zh, Zi, Zj, Zk, Zl, Zm, Zn, Zo, Zp, Zq, Zr, Zs, Zt, Zu, Zv, Zw, Zx, k_mv, Zy, Zz, ZA, ZB, ZC, ZD, ZE, ZF, ZG, ZH, ZI, ZJ, ZK, ZL, ZM, ZN, ZO, ZP, ZQ, ZR, ZS, ZT, ZU, ZV, ZW, ZX, ZY, ZZ, Y0, Y1, Y2, Y3, Y4, k_mn, k_mx, Y5, Y6, Y7, Y8, Y9, Ya, Yb, Yc, Yd, Ye, Yf, Yg, Yh, Dn.setLast, Dn.getLast, evalO, mapO, Dn.get, putE, Yi, Yj, Yk, Yl, TV.one, TV.isAgg, Dn.part, Ym, negb, at0, at1, at2, at3, at4, dT, dF, Yn, Option.bind_some, Option.map_some, hl10, List.append_assoc]
  have a5 : ∀ K, go pg (den pg) (.c r84_5 :: K) .normal [(2, .ref rF 0), (3, .ref rS 0), (4, .ref rN 0), (5, .ref rM 0), (6, .ref H.length 0), (7, .ref (H.length + 2) 0), (10, .ref (H.length + 4) 0), (11, .ref (H.length + 5) 0), (12, .ref (H.length + 8) 0), (13, .ref (H.length + 9) 0), (14, .ref (H.length + 10) 0)] (H ++ (T10 ++ [.cells [.nilfn] false])) =
    go pg (den pg) K .normal [(14, .ref (H.length + 10) 0)] (H ++ (T10 ++ [.cells [G] false])) := fun K => by
   clear hG
   simp (disch := omega) [r84_5, Z0, Z1, Z2, Z3, Z4, Z5, Z6, Z7, Z8, Z9, Za, Zb, Zc, Zd, Ze, Zf, Zg, Zh, Zi, Zj, Zk, Zl, Zm, Zn, Zo, Zp, Zq, Zr, Zs, Zt, Zu, Zv, Zw, Zx, k_mv, Zy, Zz, ZA, ZB, ZC, ZD, ZE, ZF, ZG, ZH, ZI, ZJ, ZK, ZL, ZM, ZN, ZO, ZP, ZQ, ZR, ZS, ZT, ZU, ZV, ZW, ZX, ZY, ZZ, Y0, Y1, Y2, Y3, Y4, k_mn, k_mx, Y5, Y6, Y7, Y8, Y9, Ya, Yb, Yc, Yd, Ye, Yf, Yg, Yh, Dn.setLast, Dn.getLast, evalO, mapO, Dn.get, putE, Yi, Yj, Yk, Yl, TV.one, TV.isAgg, Dn.part, Ym, negb, at0, at1, at2, at3, at4, dT, dF, Yn, Option.bind_some, Option.map_some, hmk, s10]
  have a6 : go pg (den pg) [.c r84_6] .normal [(14, .ref (H.length + 10) 0)] (H ++ (T10 ++ [.cells [G] false])) = some ⟨.normal, [], H'⟩ := by
   clear hG
   simp (disch := omega) [r84_6, Z0, Z1, Z2, Z3, Z4, Z5, Z6, Z7, Z8, Z9, Za, Zb, Zc, Zd, Ze, Zf, Zg, Zh, Zi, Zj, Zk, Zl, Zm, Zn, Zo, Zp, Zq, Zr, Zs, Zt, Zu, Zv, Zw, Zx, k_mv, Zy, Zz, ZA, ZB, ZC, ZD, ZE, ZF, ZG, ZH, ZI, ZJ, ZK, ZL, ZM, ZN, ZO, ZP, ZQ, ZR, ZS, ZT, ZU, ZV, ZW, ZX, ZY, ZZ, Y0, Y1, Y2, Y3, Y4, k_mn, k_mx, Y5, Y6, Y7, Y8, Y9, Ya, Yb, Yc, Yd, Ye, Yf, Yg, Yh, Dn.setLast, Dn.getLast, evalO, mapO, Dn.get, putE, Yi, Yj, Yk, Yl, TV.one, TV.isAgg, Dn.part, Ym, negb, at0, at1, at2, at3, at4, dT, dF, Yn, Option.bind_some, Option.map_some, l14, r1']
  rw [z84_parts, Zb, a0, Zb, a1, Zb, a2, Zb, a3, Zb, a4, Zb, a5, a6]
 ·rw [htk] at t1; cases t1

end Go.Proofs.Try.Dn

