/-
  The reference's own check of dice; a die copied.
-/
import Derived.Test.YtijeefncmgjlpaaEb
set_option linter.unusedSimpArgs false
set_option linter.unusedVariables false

set_option maxHeartbeats 1000000
namespace Go.Proofs.Try.Dn
open Go.Dn

theorem lnM {A : TV} {l : List Int} (hA : SV A l) (K : Heap) : (lenK 0 A K).map (fun (n : Nat) => TV.i .i64 (n : Int)) = some (.i .i64 (l.length : Int)) := by rw [(hA.view K).lenK K]; rfl

end Go.Proofs.Try.Dn

/-
 The reference's own check of rows of dice; a die copied.
-/

set_option maxHeartbeats 1000000
namespace Go.Proofs.Try.Dn
open Go.Dn

theorem lnS {T : TV} {ls : List (List Int)} (hT : SSV T ls) (K : Heap) : (lenK 0 T K).map (fun (n : Nat) => TV.i .i64 (n : Int)) = some (.i .i64 (ls.length : Int)) := by rw [hT.len K]; rfl

theorem fn31 {pg : Pg} (hF : Free pg) {A : TV} {l : List Int} (hA : SV A l) (hl : l.length <= 9223372036854775807) : PFn pg 31 [A] (elI.lt false (l.take 9)) := by
 have ln := lnM hA
 obtain ⟨v, s1, s2⟩ := slcTo (hA.view []) (k := min l.length 9) (Nat.min_le_left _ _)
 have hmn : (if (9 : Int) < (l.length : Int) then (9 : Int) else (l.length : Int)) = ((min l.length 9 : Nat) : Int) := by split <;> omega
 have htk : l.take (min l.length 9) = l.take 9 := by
  rcases Nat.lt_or_ge l.length 9 with h | h
  ·rw [show min l.length 9 = l.length by omega, List.take_length, List.take_of_length_le (by omega)]
  ·rw [show min l.length 9 = 9 by omega]
 rw [htk] at s2
 obtain ⟨t', H', a1, a2, -, -, -⟩ := appI (H := []) (t := .nilsl) (l := []) (.inl ⟨rfl, rfl⟩) s2 (by simp; omega)
 refine .inr ⟨hF.S _ _, t', H', ?_, by have := a2.fin elI_flat; simpa using this⟩
 refine body_of (x := .ret) (e := [(2, t')]) (d := d31) (by rw [hF.F]; rfl) rfl ?_ (.inl rfl) rfl
 have w9 : dkc pg (den pg) .mnI [.i .i64 (l.length : Int), .i .i64 9] [] = some (.i .i64 ((min l.length 9 : Nat) : Int), []) := by rw [k_mn, hmn]
 generalize ((min l.length 9 : Nat) : Int) = K at *
 generalize (l.length : Int) = M at *
 simp (disch := omega) [d31, c31, zipE, Z0, Z1, Z2, Z3, Z4, Z5, Z6, Z7, Z8, Z9, Za, Zb, Zc, Zd, Ze, Zf, Zg, Zh, Zi, Zj, Zk, Zl, Zm, Zn, Zo, Zp, Zq, Zr, Zs, Zt, Zu, Zv, Zw, Zx, k_mv, Zy, Zz, ZA, ZB, ZC, ZD, ZE, ZF, ZG, ZH, ZI, ZJ, ZK, ZL, ZM, ZN, ZO, ZP, ZQ, ZR, ZS, ZT, ZU, ZV, ZW, ZX, ZY, ZZ, Y0, Y1, Y2, Y3, Y4, k_mn, k_mx, Y5, Y6, Y7, Y8, Y9, Ya, Yb, Yc, Yd, Ye, Yf, Yg, Yh, Dn.setLast, Dn.getLast, evalO, mapO, Dn.get, putE, Yi, Yj, Yk, Yl, TV.one, TV.isAgg, Dn.part, Ym, negb, at0, at1, at2, at3, at4, dT, dF, Yn, Option.bind_some, Option.map_some, ln, w9, s1, a1, -k_mn]

end Go.Proofs.Try.Dn

