/-
  Dice: awake out of its calls.
-/
import Derived.Test.YtijeefncmgjlpaaEm
set_option linter.unusedSimpArgs false
set_option linter.unusedVariables false

set_option maxHeartbeats 4000000
set_option maxRecDepth 100000
namespace Go.Proofs.Try.Dn
open Go.Dn

abbrev w1 (n : Int) : TV := .i .i64 n
def vS6 : TV := .bs true 1 [w1 1, w1 2, w1 3, w1 4, w1 5, w1 6]
def vS66 : TV := .bs true 1 [vS6, vS6]
def vR3 : TV := .bs true 1 [.bs true 1 [w1 2, w1 4, w1 9], .bs true 1 [w1 1, w1 6, w1 8], .bs true 1 [w1 3, w1 5, w1 7]]
def vO2 : TV := .bs true 1 [.bs true 1 [w1 0], .bs true 1 [w1 1]]

def hA1 : Heap := [.cells [w1 1, w1 2, w1 3, w1 4, w1 5, w1 6] false]
def hA2 : Heap := hA1 ++ [.cells [.sl 0 0 1 false 6 (some 6), .sl 0 0 1 false 6 (some 6)] false]
def hA3 : Heap := hA2 ++ [.cells [.sl 0 0 1 false 6 (some 6), .sl 0 0 1 false 6 (some 6)] false]
def hA4 : Heap := hA3 ++ [.cells [w1 2, w1 4, w1 9] false]
def hA5 : Heap := hA4 ++ [.cells [w1 1, w1 6, w1 8] false]
def hA6 : Heap := hA5 ++ [.cells [w1 3, w1 5, w1 7] false]
def hA7 : Heap := hA6 ++ [.cells [.sl 3 0 1 false 3 (some 3), .sl 4 0 1 false 3 (some 3), .sl 5 0 1 false 3 (some 3)] false]
def hA8 : Heap := hA7 ++ [.cells [w1 0] false]
def hA9 : Heap := hA8 ++ [.cells [w1 1] false]
def hA10 : Heap := hA9 ++ [.cells [.sl 7 0 1 false 1 (some 1), .sl 8 0 1 false 1 (some 1)] false]

theorem aw {pg : Pg} (hF : Free pg) {P Q : TV} (hP : ∀ K, lenK 0 P K = some 3) (hQ : ∀ K, lenK 0 Q K = some 2) (h42 : PFn pg 42 [vS66] (.tup [w1 36, w1 0])) (h47 : PFn pg 47 [vS66, w1 7] (.tup [w1 6, w1 0])) (h20 : PFn pg 20 [vS6, vS6] (.tup [P, w1 0]))
  (h35 : PFn pg 35 [vR3] (.tup [.bs false 1 [w1 0, w1 1, w1 2], .b true, w1 0])) (h24 : PFn pg 24 [w1 2, w1 2] (.tup [Q, w1 0])) (h25 : PFn pg 25 [w1 2, w1 2] (.tup [w1 2, w1 0])) (h41 : PFn pg 41 [vO2] (.tup [.bs false 1 [w1 1, w1 0], w1 0])) (h55 : PFn pg 55 [.nilsl] (w1 10)) :
  PFn pg 23 [] (.b true) := by
 have k1 : dkc pg (den pg) (.bsl false [.i .i64 0] false 6 [0, 1, 2, 3, 4, 5]) [.i .i64 1, .i .i64 2, .i .i64 3, .i .i64 4, .i .i64 5, .i .i64 6] [] = some (.sl 0 0 1 false 6 (some 6), hA1) := rfl
 have k2 : dkc pg (den pg) (.bsl false [.nilsl] false 2 [0, 1]) [.sl 0 0 1 false 6 (some 6), .sl 0 0 1 false 6 (some 6)] hA1 = some (.sl 1 0 1 false 2 (some 2), hA2) := rfl
 have k3 : dkc pg (den pg) (.bsl false [.nilsl] false 2 [0, 1]) [.sl 0 0 1 false 6 (some 6), .sl 0 0 1 false 6 (some 6)] hA2 = some (.sl 2 0 1 false 2 (some 2), hA3) := rfl
 have k4 : dkc pg (den pg) (.bsl false [.i .i64 0] false 3 [0, 1, 2]) [.i .i64 2, .i .i64 4, .i .i64 9] hA3 = some (.sl 3 0 1 false 3 (some 3), hA4) := rfl
 have k5 : dkc pg (den pg) (.bsl false [.i .i64 0] false 3 [0, 1, 2]) [.i .i64 1, .i .i64 6, .i .i64 8] hA4 = some (.sl 4 0 1 false 3 (some 3), hA5) := rfl
 have k6 : dkc pg (den pg) (.bsl false [.i .i64 0] false 3 [0, 1, 2]) [.i .i64 3, .i .i64 5, .i .i64 7] hA5 = some (.sl 5 0 1 false 3 (some 3), hA6) := rfl
 have k7 : dkc pg (den pg) (.bsl false [.nilsl] false 3 [0, 1, 2]) [.sl 3 0 1 false 3 (some 3), .sl 4 0 1 false 3 (some 3), .sl 5 0 1 false 3 (some 3)] hA6 = some (.sl 6 0 1 false 3 (some 3), hA7) := rfl
 have k8 : dkc pg (den pg) (.bsl false [.i .i64 0] false 1 [0]) [.i .i64 0] hA7 = some (.sl 7 0 1 false 1 (some 1), hA8) := rfl
 have k9 : dkc pg (den pg) (.bsl false [.i .i64 0] false 1 [0]) [.i .i64 1] hA8 = some (.sl 8 0 1 false 1 (some 1), hA9) := rfl
 have k10 : dkc pg (den pg) (.bsl false [.nilsl] false 2 [0, 1]) [.sl 7 0 1 false 1 (some 1), .sl 8 0 1 false 1 (some 1)] hA9 = some (.sl 9 0 1 false 2 (some 2), hA10) := rfl
 have c42 : callRun pg (den pg) (.pu []) [.fn 42 [] [], .sl 1 0 1 false 2 (some 2)] hA2 = some (.tup [w1 36, w1 0], hA2) := PFn.call h42 (args := [.sl 1 0 1 false 2 (some 2)]) (ks := []) (fs := []) (cs := []) rfl
 have c47 : callRun pg (den pg) (.pu []) [.fn 47 [] [], .sl 2 0 1 false 2 (some 2), w1 7] hA3 = some (.tup [w1 6, w1 0], hA3) := PFn.call h47 (args := [.sl 2 0 1 false 2 (some 2), w1 7]) (ks := []) (fs := []) (cs := []) rfl
 have c20 : callRun pg (den pg) (.pu []) [.fn 20 [] [], .sl 0 0 1 false 6 (some 6), .sl 0 0 1 false 6 (some 6)] hA3 = some (.tup [P, w1 0], hA3) := PFn.call h20 (args := [.sl 0 0 1 false 6 (some 6), .sl 0 0 1 false 6 (some 6)]) (ks := []) (fs := []) (cs := []) rfl
 have c35 : callRun pg (den pg) (.pu []) [.fn 35 [] [], .sl 6 0 1 false 3 (some 3)] hA7 = some (.tup [.bs false 1 [w1 0, w1 1, w1 2], .b true, w1 0], hA7) := PFn.call h35 (args := [.sl 6 0 1 false 3 (some 3)]) (ks := []) (fs := []) (cs := []) rfl
 have c24 : callRun pg (den pg) (.pu []) [.fn 24 [] [], w1 2, w1 2] hA7 = some (.tup [Q, w1 0], hA7) := PFn.call h24 (args := [w1 2, w1 2]) (ks := []) (fs := []) (cs := []) rfl
 have c25 : callRun pg (den pg) (.pu []) [.fn 25 [] [], w1 2, w1 2] hA7 = some (.tup [w1 2, w1 0], hA7) := PFn.call h25 (args := [w1 2, w1 2]) (ks := []) (fs := []) (cs := []) rfl
 have c41 : callRun pg (den pg) (.pu []) [.fn 41 [] [], .sl 9 0 1 false 2 (some 2)] hA10 = some (.tup [.bs false 1 [w1 1, w1 0], w1 0], hA10) := PFn.call h41 (args := [.sl 9 0 1 false 2 (some 2)]) (ks := []) (fs := []) (cs := []) rfl
 have c55 : callRun pg (den pg) (.pu []) [.fn 55 [] [], .nilsl] hA10 = some (w1 10, hA10) := PFn.call h55 (args := [.nilsl]) (ks := []) (fs := []) (cs := []) rfl
 refine .of1 (x := .ret) (e := [(0, .b true)]) (H' := hA10) (hF.S _ _) (d := d23) (by rw [hF.F]; rfl) rfl ?_ (.inl rfl) rfl (by simp [sn_i, sn_b, Yo, Yp, Yq, Yr, Ys, Yt, Yu, Yv, Yw, Yx, Yy, Yz, mapO, elems])
 show go pg (den pg) [.c c23] .normal [] [] = _
 have ix : dkc pg (den pg) (.ixS 1 false) [.bs false 1 [w1 1, w1 0], .i .i64 0] hA10 = some (.bp false (w1 1), hA10) := rfl
 have ld : dkc pg (den pg) (.ld 1 false) [.bp false (w1 1)] hA10 = some (w1 1, hA10) := rfl
 have l3 : ∀ K, lenK 0 (.bs false 1 [w1 0, w1 1, w1 2]) K = some 3 := fun K => rfl
 have l2 : ∀ K, lenK 0 (.bs false 1 [w1 1, w1 0]) K = some 2 := fun K => rfl
 obtain ⟨R3, hR3⟩ : ∃ R3, R3 = TV.bs false 1 [w1 0, w1 1, w1 2] := ⟨_, rfl⟩
 obtain ⟨R2, hR2⟩ : ∃ R2, R2 = TV.bs false 1 [w1 1, w1 0] := ⟨_, rfl⟩
 obtain ⟨R1, hR1⟩ : ∃ R1, R1 = TV.bp false (w1 1) := ⟨_, rfl⟩
 rw [<- hR3] at c35 l3
 rw [<- hR2] at c41 l2 ix
 rw [<- hR1] at ix ld
 clear hR1 hR2 hR3 h42 h47 h20 h35 h24 h25 h41 h55
 generalize hA1 = K1 at *
 generalize hA2 = K2 at *
 generalize hA3 = K3 at *
 generalize hA4 = K4 at *
 generalize hA5 = K5 at *
 generalize hA6 = K6 at *
 generalize hA7 = K7 at *
 generalize hA8 = K8 at *
 generalize hA9 = K9 at *
 generalize hA10 = K10 at *
 unfold w1 at *
 simp (maxSteps := 1000000) (disch := omega) [c23, Z0, Z1, Z2, Z3, Z4, Z5, Z6, Z7, Z8, Z9, Za, Zb, Zc, Zd, Ze, Zf, Zg, Zh, Zi, Zj, Zk, Zl, Zm, Zn, Zo, Zp, Zq, Zr, Zs, Zt, Zu, Zv, Zw, Zx, k_mv, Zy, Zz, ZA, ZB, ZC, ZD, ZE, ZF, ZG, ZH, ZI, ZJ, ZK, ZL, ZM, ZN, ZO, ZP, ZQ, ZR, ZS, ZT, ZU, ZV, ZW, ZX, ZY, ZZ, Y0, Y1, Y2, Y3, Y4, k_mn, k_mx, Y5, Y6, Y7, Y8, Y9, Ya, Yb, Yc, Yd, Ye, Yf, Yg, Yh, Dn.setLast, Dn.getLast, evalO, mapO, Dn.get, putE, Yi, Yj, Yk, Yl, TV.one, TV.isAgg, Dn.part, Ym, negb, at0, at1, at2, at3, at4, dT, dF, Yn, Option.bind_some, Option.map_some, k1, k2, k3, k4, k5, k6, k7, k8, k9, k10, c42, c47, c20, c35, c24, c25, c41, c55, ix, ld, l2, l3, hP, hQ, -Y7]

end Go.Proofs.Try.Dn

