/-
  The search for a ring, walked: where a node is met again, or done.
-/
import Derived.Test.YtijeefncmgjlpaaU8
import Derived.Test.YtijeefncmgjlpaaT8
import Derived.Test.YtijeefncmgjlpaaEd
set_option linter.unusedSimpArgs false
set_option linter.unusedVariables false

set_option maxHeartbeats 4000000
set_option maxRecDepth 100000
namespace Go.Proofs.Try.Dn
open Go.Dn

def whites (n : Nat) (col : Nat -> Nat) : Nat := (List.range n).countP fun x => decide (col x = 0)

def TabOf (n : Nat) (E : Nat -> Nat -> Bool) (TBL : TV) : Prop := ∃ (b : Bool) (tab : List (List Bool)), TBL = (elRw elB b).lt b tab /\ tab.length = n /\ ∀ i, i < n -> ∃ row, tab[i]? = some row /\ row.length = n /\ ∀ j, j < n -> row[j]? = some (E i j)

def Spec90 (pg : Pg) (q : Q90) (n : Nat) (E : Nat -> Nat -> Bool) (TBL : TV) (k : Nat) : Prop := ∀ (i : Nat) (col : Nat -> Nat) (path ord : List Nat) (tP tO : TV) (H : Heap), i < n -> HS q n TBL col path ord tP tO H -> Dfs E n col path ord -> (∀ x, path.getLast? = some x -> E x i = true) -> whites n col <= k ->
 (∃ r H', bodyRun pg (den pg) 90 (.i .i64 (i : Int) :: q.caps) H = some (.b false, H') /\ H'[q.rR]? = some (.cells [elI.lt false (ci r)] false) /\ RingN E n r /\ ∃ t, H'[q.rO]? = some (.cells [t] false)) \/
 (∃ col' ord' tP' tO' H', bodyRun pg (den pg) 90 (.i .i64 (i : Int) :: q.caps) H = some (.b true, H') /\ HS q n TBL col' path ord' tP' tO' H' /\ Dfs E n col' path ord' /\ col' i = 2 /\ (∀ x, col x = 2 -> col' x = 2) /\ whites n col' <= whites n col /\ H'[q.rR]? = H[q.rR]?)

theorem ci_at {l : List Nat} {k x : Nat} (h : l[k]? = some x) : (ci l)[k]? = some (x : Int) := by unfold ci; rw [List.getElem?_map, h]; rfl
theorem ci_len (l : List Nat) : (ci l).length = l.length := by simp [ci]
theorem ci_drop (l : List Nat) (k : Nat) : (ci l).drop k = ci (l.drop k) := by unfold ci; rw [List.map_drop]
theorem ci_ne {l : List Nat} (h : l ≠ []) : ci l ≠ [] := by unfold ci; simpa using h
theorem ci_snoc (l : List Nat) (x : Nat) : ci (l ++ [x]) = ci l ++ [(x : Int)] := by unfold ci; simp

theorem PW.bor {H : Heap} {t : TV} {l : List Int} (h : PW H t l) (hl : l ≠ []) : snap .borrow H 9 t = some (elI.lt true l) := by
 rcases h with ⟨_, h⟩ | h
 ·exact absurd h hl
 ·rw [h.view.snap elI_flat (by obtain ⟨id, off, cap, c, ag, rfl, _⟩ := h; intro e; cases e), El.lt_ne hl]

theorem ldC1 {pg : Pg} {H : Heap} {r : Nat} {t : TV} (h : H[r]? = some (.cells [t] false)) (ht : t.isAgg = false) : dkc pg (den pg) (.ld 1 false) [.ref r 0] H = some (t, H) := by
 show dk (.ld 1 false) [.ref r 0] H = _
 simp [dk, h, Dn.part, ht]
theorem stC1 {pg : Pg} {H : Heap} {r : Nat} {t v : TV} (h : H[r]? = some (.cells [t] false)) (hv : v.one = true) (hc : v.cells = [v]) : dkc pg (den pg) (.st 1) [.ref r 0, v] H = some (.undef, H.set r (.cells [v] false)) := by
 show dk (.st 1) [.ref r 0, v] H = _
 simp [dk, h, hv, hc, put2]

def r90_0 : DC :=
 (.reg [oO 8 .mv [.c (.b false)]] [0, 1, 2, 3, 4, 5, 6])

def r90_1 : DC :=
 (.seq (.reg [oO 11 (.ld 1 false) [.t 1],
  (oM 12 0),
  (oO 13 (.ixS 1 false) [.t 11, .t 12]),
  (oO 14 (.ld 1 false) [.t 13]),
  (oO 15 (.binI .eql) [.t 14, .c (.i .i64 1)])] [0, 1, 2, 3, 4, 5, 6, 15])
 (.cond (.t 15)
 (.seq (.reg [oO 16 (.ld 1 false) [.t 2],
  (oO 17 (.ld 1 false) [.t 2]),
  (oM 18 0),
  ⟨(some 19), (.call (.pu [])), [.c (.fn 91 [] []), .t 17, .t 18], none⟩,
  (oO 20 (.slc true false false 1 false) [.t 16, .t 19]),
  ⟨(some 21), (.call (.pu [])), [.c (.fn 88 [] []), .t 20], none⟩,
  ⟨none, (.st 1), [.t 3, .t 21], none⟩] [])
 (.seq (.reg [oO 8 .mv [.c (.b false)]] [8])
 .ret))
 .skip))

def r90_2 : DC :=
 (.seq (.reg [oO 22 (.ld 1 false) [.t 1],
  (oM 23 0),
  (oO 24 (.ixS 1 false) [.t 22, .t 23]),
  (oO 25 (.ld 1 false) [.t 24]),
  (oO 26 (.binI .eql) [.t 25, .c (.i .i64 2)])] [0, 1, 2, 4, 5, 6, 26])
 (.cond (.t 26)
 (.seq (.reg [oO 8 .mv [.c (.b true)]] [8])
 .ret)
 .skip))

def r90_3 : DC :=
 (.reg [oO 27 (.ld 1 false) [.t 1],
  (oM 28 0),
  (oO 29 (.ixS 1 false) [.t 27, .t 28]),
  ⟨none, (.st 1), [.t 29, .c (.i .i64 1)], none⟩] [0, 1, 2, 4, 5, 6])

def r90_4 : DC :=
 (.reg [oO 30 (.ld 1 false) [.t 2],
  (oM 31 0),
  (oO 32 (.bsl false [(.i .i64 0)] false 1 [0]) [.t 31]),
  (oO 33 (.app 1 false 8) [.t 30, .t 32]),
  ⟨none, (.st 1), [.t 2, .t 33], none⟩] [0, 1, 2, 4, 5, 6])

def r90_5 : DC :=
 (.seq (.reg [oO 34 (.ld 1 false) [.t 4],
  (oM 35 0),
  (oO 36 (.ixS 1 false) [.t 34, .t 35]),
  (oO 37 (.ld 1 false) [.t 36]),
  (oO 38 (.len 0) [.t 37]),
  (oO 39 .mv [.c (.i .i64 0)])] [0, 1, 2, 5, 6, 37, 38, 39])
 (.block 0
 l90_1))

def r90_6 : DC :=
 (.reg [oO 52 (.ld 1 false) [.t 2],
  (oO 53 (.ld 1 false) [.t 2]),
  (oO 54 (.len 0) [.t 53]),
  (oO 55 (.binI .sub) [.t 54, .c (.i .i64 1)]),
  (oO 56 (.slc false true false 1 false) [.t 52, .t 55]),
  ⟨none, (.st 1), [.t 2, .t 56], none⟩] [0, 1, 6])

def r90_7 : DC :=
 (.reg [oO 57 (.ld 1 false) [.t 1],
  (oM 58 0),
  (oO 59 (.ixS 1 false) [.t 57, .t 58]),
  ⟨none, (.st 1), [.t 59, .c (.i .i64 2)], none⟩] [0, 6])

def r90_8 : DC :=
 (.reg [oO 60 (.ld 1 false) [.t 6],
  (oM 61 0),
  (oO 62 (.bsl false [(.i .i64 0)] false 1 [0]) [.t 61]),
  (oO 63 (.app 1 false 8) [.t 60, .t 62]),
  ⟨none, (.st 1), [.t 6, .t 63], none⟩] [])

def r90_9 : DC :=
 (.reg [oO 8 .mv [.c (.b true)]] [8])

def r90_10 : DC :=
 .ret

theorem c90_parts : c90 = (.seq r90_0 (.seq r90_1 (.seq r90_2 (.seq r90_3 (.seq r90_4 (.seq r90_5 (.seq r90_6 (.seq r90_7 (.seq r90_8 (.seq r90_9 r90_10)))))))))) := rfl


theorem rowLd {pg : Pg} {H : Heap} {id n i : Nat} {col : Nat -> Nat} (h : Go.Proofs.Try.Dn.RowG H id n col) (hi : i < n) : dkc pg (den pg) (.ld 1 false) [.ref id i] H = some (.i .i64 (col i : Int), H) := by
 show dk (.ld 1 false) [.ref id i] H = _
 simp [dk, h.at_, Dn.part, gC_at hi, TV.isAgg]

theorem body90_two {pg : Pg} (hF : Free pg) {q : Q90} {n i : Nat} {TBL : TV} {col : Nat -> Nat} {path ord : List Nat} {tP tO : TV} {H : Heap} (h : HS q n TBL col path ord tP tO H) (hi : i < n) (hc : col i = 2) : bodyRun pg (den pg) 90 (.i .i64 (i : Int) :: q.caps) H = some (.b true, H) := by
 have a1 := ldC1 (pg := pg) h.hS rfl
 have a2 := Go.Proofs.Try.Dn.RowG.ix (pg := pg) H q.sI (M := n) (t := i) hi
 have a3 := rowLd (pg := pg) h.hI hi
 rw [hc] at a3
 refine body_of (x := .ret) (e := [(8, .b true)]) (d := d90) (by rw [hF.F]; rfl) rfl ?_ (.inl rfl) rfl
 show go pg (den pg) [.c c90] .normal [(0, .i .i64 (i : Int)), (1, .ref q.rS 0), (2, .ref q.rP 0), (3, .ref q.rR 0), (4, .ref q.rT 0), (5, .ref q.rF 0), (6, .ref q.rO 0)] H = _
 rw [c90_parts]
 have e2 : ((2 : Nat) : Int) = 2 := rfl
 rw [e2] at a3
 clear h hc
 generalize TV.ref q.sI i = RI at *
 generalize (TV.sl q.sI 0 1 false n (some n)) = S at *
 generalize (i : Int) = I at *
 generalize TV.ref q.rS 0 = R1 at *
 generalize TV.ref q.rP 0 = R2 at *
 generalize TV.ref q.rR 0 = R3 at *
 generalize TV.ref q.rT 0 = R4 at *
 generalize TV.ref q.rF 0 = R5 at *
 generalize TV.ref q.rO 0 = R6 at *
 simp (disch := omega) [r90_0, r90_1, r90_2, Z0, Z1, Z2, Z3, Z4, Z5, Z6, Z7, Z8, Z9, Za, Zb, Zc, Zd, Ze, Zf, Zg, Zh, Zi, Zj, Zk, Zl, Zm, Zn, Zo, Zp, Zq, Zr, Zs, Zt, Zu, Zv, Zw, Zx, k_mv, Zy, Zz, ZA, ZB, ZC, ZD, ZE, ZF, ZG, ZH, ZI, ZJ, ZK, ZL, ZM, ZN, ZO, ZP, ZQ, ZR, ZS, ZT, ZU, ZV, ZW, ZX, ZY, ZZ, Y0, Y1, Y2, Y3, Y4, k_mn, k_mx, Y5, Y6, Y7, Y8, Y9, Ya, Yb, Yc, Yd, Ye, Yf, Yg, Yh, Dn.setLast, Dn.getLast, evalO, mapO, Dn.get, putE, Yi, Yj, Yk, Yl, TV.one, TV.isAgg, Dn.part, Ym, negb, at0, at1, at2, at3, at4, dT, dF, Yn, Option.bind_some, Option.map_some, a1, a2, a3]

theorem body90_one {pg : Pg} (hF : Free pg) {q : Q90} {n i k : Nat} {TBL : TV} {col : Nat -> Nat} {path ord : List Nat} {tP tO : TV} {H : Heap} (h : HS q n TBL col path ord tP tO H) (hi : i < n) (hc : col i = 1) (hk : path[k]? = some i) (hnd : path.Nodup) (hp : path.length <= 1000) :
  bodyRun pg (den pg) 90 (.i .i64 (i : Int) :: q.caps) H = some (.b false, H.set q.rR (.cells [elI.lt false (ci (path.drop k))] false)) := by
 have hlt := (List.getElem?_eq_some_iff.1 hk).1
 have hpne : path ≠ [] := by intro e; rw [e] at hlt; simp at hlt
 have hdne : path.drop k ≠ [] := by intro e; have := congrArg List.length e; simp at this; omega
 have a1 := ldC1 (pg := pg) h.hS rfl
 have a2 := Go.Proofs.Try.Dn.RowG.ix (pg := pg) H q.sI (M := n) (t := i) hi
 have a3 := rowLd (pg := pg) h.hI hi
 rw [hc] at a3
 have a4 := ldC1 (pg := pg) h.hP h.wP.one.2
 have f91 := fn91 (pg := pg) hF (l := ci path) (x := (i : Int)) (k := k) (ci_at hk) (fun j y hj hy he => by
  obtain ⟨z, hz⟩ : ∃ z, path[j]? = some z := ⟨_, List.getElem?_eq_getElem (by omega)⟩
  rw [ci_at hz] at hy
  have h1 := Option.some.inj hy
  obtain ⟨e1, e2⟩ := List.getElem?_eq_some_iff.1 hz
  obtain ⟨e3, e4⟩ := List.getElem?_eq_some_iff.1 hk
  have := (List.pairwise_iff_getElem.1 hnd) j k e1 e3 hj
  exact this (by rw [e2, e4]; omega)) (by rw [ci_len]; omega)
 have c91 := PFn.call f91 (args := [tP, .i .i64 (i : Int)]) (ks := []) (fs := []) (cs := []) (H := H) (by simp [snapArgs, sn_i, h.wP.bor (ci_ne hpne)])
 obtain ⟨v, s1, s2⟩ := slcFrom h.wP.view (k := k) (by rw [ci_len]; omega)
 rw [ci_drop] at s2
 have hvn : v ≠ .nilsl := by
  intro e
  rw [e] at s2
  rcases s2 with ⟨_, h0⟩ | ⟨b, h0⟩ | ⟨_, _, _, _, _, h0, _⟩
  ·exact ci_ne hdne h0
  ·cases h0
  ·cases h0
 have sv : snap .borrow H 9 v = some (elI.lt true (ci (path.drop k))) := by rw [s2.snap elI_flat hvn, El.lt_ne (ci_ne hdne)]
 have c88 := PFn.call (fn88 (pg := pg) hF (SV.lt true (ci (path.drop k))) (ci_ne hdne) (by rw [ci_len]; simp; omega)) (args := [v]) (ks := []) (fs := []) (cs := []) (H := H) (by simp [snapArgs, sv])
 obtain ⟨t, hR⟩ := h.hR
 have st := stC1 (pg := pg) hR (El.lt_one elI false (ci (path.drop k))) (by cases ci (path.drop k) <;> rfl)
 refine body_of (x := .ret) (e := [(8, .b false)]) (d := d90) (by rw [hF.F]; rfl) rfl ?_ (.inl rfl) rfl
 show go pg (den pg) [.c c90] .normal [(0, .i .i64 (i : Int)), (1, .ref q.rS 0), (2, .ref q.rP 0), (3, .ref q.rR 0), (4, .ref q.rT 0), (5, .ref q.rF 0), (6, .ref q.rO 0)] H = _
 rw [c90_parts]
 have e2 : ((1 : Nat) : Int) = 1 := rfl
 rw [e2] at a3
 clear h hc f91 s2 sv hR hnd hk hp hlt
 generalize (H.set q.rR (.cells [elI.lt false (ci (path.drop k))] false)) = H1 at *
 generalize elI.lt false (ci (path.drop k)) = RV at *
 generalize TV.ref q.sI i = RI at *
 generalize (TV.sl q.sI 0 1 false n (some n)) = S at *
 generalize (i : Int) = I at *
 generalize (k : Int) = K at *
 generalize TV.ref q.rS 0 = R1 at *
 generalize TV.ref q.rP 0 = R2 at *
 generalize TV.ref q.rR 0 = R3 at *
 generalize TV.ref q.rT 0 = R4 at *
 generalize TV.ref q.rF 0 = R5 at *
 generalize TV.ref q.rO 0 = R6 at *
 simp (disch := omega) [r90_0, r90_1, Z0, Z1, Z2, Z3, Z4, Z5, Z6, Z7, Z8, Z9, Za, Zb, Zc, Zd, Ze, Zf, Zg, Zh, Zi, Zj, Zk, Zl, Zm, Zn, Zo, Zp, Zq, Zr, Zs, Zt, Zu, Zv, Zw, Zx, k_mv, Zy, Zz, ZA, ZB, ZC, ZD, ZE, ZF, ZG, ZH, ZI, ZJ, ZK, ZL, ZM, ZN, ZO, ZP, ZQ, ZR, ZS, ZT, ZU, ZV, ZW, ZX, ZY, ZZ, Y0, Y1, Y2, Y3, Y4, k_mn, k_mx, Y5, Y6, Y7, Y8, Y9, Ya, Yb, Yc, Yd, Ye, Yf, Yg, Yh, Dn.setLast, Dn.getLast, evalO, mapO, Dn.get, putE, Yi, Yj, Yk, Yl, TV.one, TV.isAgg, Dn.part, Ym, negb, at0, at1, at2, at3, at4, dT, dF, Yn, Option.bind_some, Option.map_some, a1, a2, a3, a4, c91, s1, c88, st]

end Go.Proofs.Try.Dn

