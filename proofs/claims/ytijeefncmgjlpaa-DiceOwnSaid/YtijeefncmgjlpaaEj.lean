/-
  Lists of pairs in a row: equal neighbours let off (slices.CompactFunc).
-/
import Derived.Test.YtijeefncmgjlpaaEa
import Derived.Test.YtijeefncmgjlpaaEc
import Derived.Test.YtijeefncmgjlpaaDd
set_option linter.unusedSimpArgs false
set_option linter.unusedVariables false

set_option maxHeartbeats 1000000
namespace Go.Proofs.Try.Dn
open Go.Dn

abbrev PL := List Int × List Int

def elP : El PL where
 sz := 2
 ag := true
 enc p := [elI.lt false p.1, elI.lt false p.2]
 pos := by decide
 len _ := rfl
 one p := by
  obtain ⟨a, b⟩ := p
  cases a <;> cases b <;> rfl
 sc := .inl rfl

structure RP where
 ia : Nat
 ib : Nat
 v : PL

def elRP : El RP where
 sz := 2
 ag := true
 enc x := [.sl x.ia 0 1 false x.v.1.length none, .sl x.ib 0 1 false x.v.2.length none]
 pos := by decide
 len _ := rfl
 one _ := rfl
 sc := .inl rfl

structure Gd (K : Heap) (x : RP) : Prop where
 ha : K[x.ia]? = some (.cells (elI.flat x.v.1) false)
 hb : K[x.ib]? = some (.cells (elI.flat x.v.2) false)
 na : x.v.1 ≠ []
 nb : x.v.2 ≠ []

theorem Gd.mono {K K' : Heap} {x : RP} (h : Gd K x) (fa : K'[x.ia]? = K[x.ia]?) (fb : K'[x.ib]? = K[x.ib]?) : Gd K' x := ⟨fa.trans h.ha, fb.trans h.hb, h.na, h.nb⟩

theorem Gd.lt {K : Heap} {x : RP} (h : Gd K x) : x.ia < K.length /\ x.ib < K.length := ⟨(List.getElem?_eq_some_iff.1 h.ha).1, (List.getElem?_eq_some_iff.1 h.hb).1⟩

theorem row_own {K : Heap} {i : Nat} {l : List Int} (h : K[i]? = some (.cells (elI.flat l) false)) (hn : l ≠ []) : elI.Own K (.sl i 0 1 false l.length none) l :=
 .inr ⟨hn, i, false, _, rfl, h, by rw [elI.flat_len]; exact Nat.le_refl _, by rw [<- elI.flat_len]; exact List.take_length⟩

theorem call80R {pg : Pg} (hF : Free pg) {A B : TV} {a b : List Int} {H : Heap} (hA : elI.Own H A a) (hB : elI.Own H B b) (ha : a.length <= 1000000) (hb : b.length <= 1000000) : callRun pg (den pg) (.pu []) [.fn 80 [] [], A, B] H = some (.i .i64 (cmpL a b), H) :=
 PFn.call (fn80 (pg := pg) hF (SV.lt true a) (SV.lt true b) ha hb) (args := [A, B]) (ks := []) (fs := []) (cs := []) (by simp [snapArgs, hA.snap elI_flat, hB.snap elI_flat])

theorem body79R {pg : Pg} (hF : Free pg) {x y : RP} {H : Heap} (hx : Gd H x) (hy : Gd H y) (lx : x.v.1.length <= 1000000 /\ x.v.2.length <= 1000000) (ly : y.v.1.length <= 1000000 /\ y.v.2.length <= 1000000) :
  ∃ H', bodyRun pg (den pg) 79 [elRP.val x, elRP.val y] H = some (.i .i64 (cmpP x.v y.v), H') /\ ∀ j, j < H.length -> H'[j]? = H[j]? := by
 obtain ⟨ia, ib, a, b⟩ := x
 obtain ⟨ic, id, c, d⟩ := y
 obtain ⟨A, hA⟩ : ∃ A, A = TV.sl ia 0 1 false a.length none := ⟨_, rfl⟩
 obtain ⟨B, hB⟩ : ∃ B, B = TV.sl ib 0 1 false b.length none := ⟨_, rfl⟩
 obtain ⟨C, hC⟩ : ∃ C, C = TV.sl ic 0 1 false c.length none := ⟨_, rfl⟩
 obtain ⟨D, hD⟩ : ∃ D, D = TV.sl id 0 1 false d.length none := ⟨_, rfl⟩
 have oA : A.one = true /\ A.isAgg = false := by subst hA; exact ⟨rfl, rfl⟩
 have oB : B.one = true /\ B.isAgg = false := by subst hB; exact ⟨rfl, rfl⟩
 have oC : C.one = true /\ C.isAgg = false := by subst hC; exact ⟨rfl, rfl⟩
 have oD : D.one = true /\ D.isAgg = false := by subst hD; exact ⟨rfl, rfl⟩
 have ex : elRP.val ⟨ia, ib, a, b⟩ = .agg [A, B] := by subst hA hB; rfl
 have ey : elRP.val ⟨ic, id, c, d⟩ = .agg [C, D] := by subst hC hD; rfl
 rw [ex, ey]
 have b1 := ZG (pg := pg) (R := den pg) [A, B] H (by simp [oA.1, oB.1])
 obtain ⟨H1, hH1⟩ : ∃ H1, H1 = H ++ [AObj.cells [A, B] true] := ⟨_, rfl⟩
 rw [<- hH1] at b1
 have b2 := ZG (pg := pg) (R := den pg) [C, D] H1 (by simp [oC.1, oD.1])
 obtain ⟨H2, hH2⟩ : ∃ H2, H2 = H1 ++ [AObj.cells [C, D] true] := ⟨_, rfl⟩
 rw [<- hH2] at b2
 have g1 : H1[H.length]? = some (.cells [A, B] true) := by rw [hH1]; exact getLast _ _
 have l1 : H1.length = H.length + 1 := by rw [hH1]; simp
 have g2 : H2[H.length]? = some (.cells [A, B] true) := by rw [hH2, List.getElem?_append_left (by omega)]; exact g1
 have g3 : H2[H1.length]? = some (.cells [C, D] true) := by rw [hH2]; exact getLast _ _
 have fr : ∀ j, j < H.length -> H2[j]? = H[j]? := fun j hj => by rw [hH2, List.getElem?_append_left (by omega), hH1, List.getElem?_append_left hj]
 have hx2 := hx.mono (fr _ hx.lt.1) (fr _ hx.lt.2)
 have hy2 := hy.mono (fr _ hy.lt.1) (fr _ hy.lt.2)
 have c1 := call80R hF (row_own hx2.ha hx2.na) (row_own hy2.ha hy2.na) lx.1 ly.1
 have c2 := call80R hF (row_own hx2.hb hx2.nb) (row_own hy2.hb hy2.nb) lx.2 ly.2
 simp only at c1 c2
 rw [<- hA, <- hC] at c1
 rw [<- hB, <- hD] at c2
 have ldA : ∀ o : Nat, ∀ (x y : TV), x.isAgg = false -> y.isAgg = false -> ldC (some (.cells [x, y] true)) 1 false 0 H2 = some (x, H2) /\ ldC (some (.cells [x, y] true)) 1 false 1 H2 = some (y, H2) := fun o x y hx hy => by
  constructor <;> simp [ldC, Dn.part, up, hx, hy]
 obtain ⟨p1, p2⟩ := ldA 0 A B oA.2 oB.2
 obtain ⟨p3, p4⟩ := ldA 0 C D oC.2 oD.2
 have ix : ∀ (id i : Nat), i < 2 -> dkc pg (den pg) (.ixA 2 1 false) [.ref id 0, .i .i64 (i : Int)] H2 = some (.ref id i, H2) := fun id i hi => by simp [dkc, dk, bound, hi]
 have i1 := ix H.length 0 (by omega)
 have i2 := ix H.length 1 (by omega)
 have i3 := ix H1.length 0 (by omega)
 have i4 := ix H1.length 1 (by omega)
 simp only [Int.natCast_zero, Int.natCast_one] at i1 i2 i3 i4
 have hdd : pg.F 79 = some d79 := by rw [hF.F]; rfl
 refine ⟨H2, body_of (x := .ret) (e := [(4, .i .i64 (cmpP (a, b) (c, d)))]) hdd rfl ?_ (.inl rfl) rfl, fr⟩
 unfold cmpP
 simp only
 clear l1 fr hH1 hH2 ix g1 hx hy hx2 hy2 lx ly hA hB hC hD ex ey
 generalize cmpL a c = X at *
 generalize cmpL b d = Z at *
 by_cases h0 : X = 0
 ·subst h0
  rw [if_neg (by decide)]
  simp (disch := omega) [d79, c79, zipE, Z0, Z1, Z2, Z3, Z4, Z5, Z6, Z7, Z8, Z9, Za, Zb, Zc, Zd, Ze, Zf, Zg, Zh, Zi, Zj, Zk, Zl, Zm, Zn, Zo, Zp, Zq, Zr, Zs, Zt, Zu, Zv, Zw, Zx, k_mv, Zy, Zz, ZA, ZB, ZC, ZD, ZE, ZF, ZG, ZH, ZI, ZJ, ZK, ZL, ZM, ZN, ZO, ZP, ZQ, ZR, ZS, ZT, ZU, ZV, ZW, ZX, ZY, ZZ, Y0, Y1, Y2, Y3, Y4, k_mn, k_mx, Y5, Y6, Y7, Y8, Y9, Ya, Yb, Yc, Yd, Ye, Yf, Yg, Yh, Dn.setLast, Dn.getLast, evalO, mapO, Dn.get, putE, Yi, Yj, Yk, Yl, TV.one, TV.isAgg, Dn.part, Ym, negb, at0, at1, at2, at3, at4, dT, dF, Yn, Option.bind_some, Option.map_some, b1, b2, i1, i2, i3, i4, g2, g3, p1, p2, p3, p4, c1, c2]
 ·rw [if_pos h0]
  simp (disch := omega) [d79, c79, zipE, Z0, Z1, Z2, Z3, Z4, Z5, Z6, Z7, Z8, Z9, Za, Zb, Zc, Zd, Ze, Zf, Zg, Zh, Zi, Zj, Zk, Zl, Zm, Zn, Zo, Zp, Zq, Zr, Zs, Zt, Zu, Zv, Zw, Zx, k_mv, Zy, Zz, ZA, ZB, ZC, ZD, ZE, ZF, ZG, ZH, ZI, ZJ, ZK, ZL, ZM, ZN, ZO, ZP, ZQ, ZR, ZS, ZT, ZU, ZV, ZW, ZX, ZY, ZZ, Y0, Y1, Y2, Y3, Y4, k_mn, k_mx, Y5, Y6, Y7, Y8, Y9, Ya, Yb, Yc, Yd, Ye, Yf, Yg, Yh, Dn.setLast, Dn.getLast, evalO, mapO, Dn.get, putE, Yi, Yj, Yk, Yl, TV.one, TV.isAgg, Dn.part, Ym, negb, at0, at1, at2, at3, at4, dT, dF, Yn, Option.bind_some, Option.map_some, b1, b2, i1, i2, i3, i4, g2, g3, p1, p2, p3, p4, c1, c2, h0]

theorem flat_set {α : Type} (E : El α) : ∀ (l : List α) (k : Nat) (x : α), k < l.length -> E.flat (l.set k x) = put2 (E.flat l) (k * E.sz) (E.enc x)
 | [], k, x, h => by simp at h
 | a :: l, 0, x, h => by
  simp only [List.set_cons_zero, El.flat_cons, put2, Nat.zero_mul, List.take_zero, List.nil_append, Nat.zero_add, E.len]
  rw [List.drop_left' (E.len a)]
 | a :: l, k + 1, x, h => by
  have ih := flat_set E l k x (by simpa using h)
  simp only [List.set_cons_succ, El.flat_cons, ih, put2]
  rw [show (k + 1) * E.sz = (E.enc a).length + k * E.sz by rw [E.len, Nat.add_mul]; omega, List.take_length_add_append, Nat.add_assoc, List.drop_length_add_append]
  simp

def RowP (K : Heap) (r : Nat) (cur : List RP) : Prop := ∃ ag tail, K[r]? = some (.cells (elRP.flat cur ++ tail) ag)

theorem RowP.mono {K K' : Heap} {r : Nat} {cur : List RP} (h : RowP K r cur) (hf : K'[r]? = K[r]?) : RowP K' r cur := by
 obtain ⟨ag, tail, h⟩ := h
 exact ⟨ag, tail, hf.trans h⟩

theorem RowP.lt {K : Heap} {r : Nat} {cur : List RP} (h : RowP K r cur) : r < K.length := by
 obtain ⟨ag, tail, h⟩ := h
 exact (List.getElem?_eq_some_iff.1 h).1

theorem RowP.view {K : Heap} {r : Nat} {cur : List RP} (h : RowP K r cur) {k : Nat} (hk : k <= cur.length) : elRP.View K (.sl r (k * 2) 2 true (cur.length - k) none) (cur.drop k) := by
 obtain ⟨ag, tail, h⟩ := h
 have hl := elRP.flat_len cur
 have hs : elRP.sz = 2 := rfl
 rw [hs] at hl
 refine .inr (.inr ⟨r, k * 2, none, _, ag, by rw [List.length_drop]; rfl, by simp, h, ?_, ?_⟩)
 ·rw [List.length_append, hl, List.length_drop, hs]; omega
 ·rw [hs, List.length_drop, List.drop_append_of_le_length (by omega)]
  have := elRP.flat_drop cur k
  rw [hs] at this
  rw [this]
  have hl2 := elRP.flat_len (cur.drop k)
  rw [hs, List.length_drop] at hl2
  rw [List.take_left' hl2]

theorem RowP.set {pg : Pg} {K : Heap} {r : Nat} {cur : List RP} (h : RowP K r cur) {k : Nat} (hk : k < cur.length) (x : RP) :
  ∃ K', dkc pg (den pg) (.st 2) [.ref r (k * 2), elRP.val x] K = some (.undef, K') /\ RowP K' r (cur.set k x) /\ (∀ j, j ≠ r -> K'[j]? = K[j]?) /\ K'.length = K.length := by
 obtain ⟨ag, tail, h⟩ := h
 have hl := elRP.flat_len cur
 have hs : elRP.sz = 2 := rfl
 rw [hs] at hl
 have hlt := (List.getElem?_eq_some_iff.1 h).1
 refine ⟨K.set r (.cells (put2 (elRP.flat cur ++ tail) (k * 2) (elRP.enc x)) ag), ?_, ⟨ag, tail, ?_⟩, fun j hj => List.getElem?_set_ne (Ne.symm hj), by simp⟩
 ·show dk (.st 2) [.ref r (k * 2), .agg (elRP.enc x)] K = _
  simp only [dk, h]
  rw [if_pos ⟨elRP.len x, elRP.one x, by rw [List.length_append, hl]; omega⟩]
  rfl
 ·rw [List.getElem?_set_self hlt, flat_set _ _ _ _ hk, hs]
  congr 2
  unfold put2
  have he := elRP.len x
  rw [hs] at he
  rw [he, List.take_append_of_le_length (by omega), List.drop_append_of_le_length (by omega), List.append_assoc, List.append_assoc, List.append_assoc]

def eqP (x y : PL) : Bool := decide (cmpP x y = 0)

def kpP (p : PL) : List PL -> List PL
 | [] => []
 | x :: l => if eqP x p then kpP x l else x :: kpP x l
def ddP : List PL -> List PL
 | [] => []
 | x :: l => x :: kpP x l

def Short (l : List PL) : Prop := ∀ p ∈ l, p.1.length <= 1000000 /\ p.2.length <= 1000000

def eqR (x y : RP) : Bool := eqP x.v y.v
def kpR (p : RP) : List RP -> List RP
 | [] => []
 | x :: l => if eqR x p then kpR x l else x :: kpR x l
def ddR : List RP -> List RP
 | [] => []
 | x :: l => x :: kpR x l
def ShR (l : List RP) : Prop := ∀ p ∈ l, p.v.1.length <= 1000000 /\ p.v.2.length <= 1000000

theorem kpR_v : ∀ (l : List RP) (p : RP), (kpR p l).map (·.v) = kpP p.v (l.map (·.v))
 | [], p => rfl
 | x :: l, p => by
  rw [List.map_cons, kpR, kpP]
  unfold eqR
  split
  ·exact kpR_v l x
  ·rw [List.map_cons, kpR_v l x]
theorem ddR_v : ∀ l : List RP, (ddR l).map (·.v) = ddP (l.map (·.v))
 | [] => rfl
 | x :: l => by rw [List.map_cons, ddR, ddP, List.map_cons, kpR_v]

theorem kpR_mem : ∀ (l : List RP) (p : RP), ∀ z ∈ kpR p l, z ∈ l
 | [], p, z, h => by simp [kpR] at h
 | x :: l, p, z, h => by
  rw [kpR] at h
  split at h
  ·exact List.mem_cons_of_mem _ (kpR_mem l x z h)
  ·rcases List.mem_cons.1 h with rfl | h
   ·exact List.mem_cons_self ..
   ·exact List.mem_cons_of_mem _ (kpR_mem l x z h)
theorem ddR_mem : ∀ (l : List RP), ∀ z ∈ ddR l, z ∈ l
 | [], z, h => h
 | x :: l, z, h => by
  rcases List.mem_cons.1 h with rfl | h
  ·exact List.mem_cons_self ..
  ·exact List.mem_cons_of_mem _ (kpR_mem l x z h)

theorem kpR_len : ∀ (l : List RP) (p : RP), (kpR p l).length <= l.length
 | [], p => Nat.le_refl _
 | x :: l, p => by
  have := kpR_len l x
  rw [kpR]
  split <;> simp <;> omega
theorem ddR_len : ∀ (l : List RP), (ddR l).length <= l.length
 | [] => Nat.le_refl _
 | x :: l => by
  have := kpR_len l x
  rw [ddR]; simp; omega

theorem eq_run {pg : Pg} (hF : Free pg) {r6 : Nat} {K : Heap} (h6 : K[r6]? = some (.cells [.fn 79 [] []] false)) (x y : RP) (gx : Gd K x) (gy : Gd K y) (hx : x.v.1.length <= 1000000 /\ x.v.2.length <= 1000000) (hy : y.v.1.length <= 1000000 /\ y.v.2.length <= 1000000) :
  ∃ K', callRun pg (den pg) .sh [.fn 83 [] [.ref r6 0], elRP.val x, elRP.val y] K = some (.b (eqR x y), K') /\ ∀ j, j < K.length -> K'[j]? = K[j]? := by
 have lt6 := (List.getElem?_eq_some_iff.1 h6).1
 have hbx : ∀ (p : RP) (H : Heap), dkc pg (den pg) (.box true) [elRP.val p] H = some (.ref H.length 0, H ++ [.cells (elRP.enc p) true]) := fun p H => by
  have h1 := elRP.one p
  show dk (.box true) [.agg (elRP.enc p)] H = _
  simp only [dk]
  rw [if_pos ⟨h1, rfl⟩]; rfl
 have b1 := hbx x K
 obtain ⟨K1, hK1⟩ : ∃ K1, K1 = K ++ [AObj.cells (elRP.enc x) true] := ⟨_, rfl⟩
 rw [<- hK1] at b1
 have b2 := hbx y K1
 obtain ⟨K2, hK2⟩ : ∃ K2, K2 = K1 ++ [AObj.cells (elRP.enc y) true] := ⟨_, rfl⟩
 rw [<- hK2] at b2
 have l1 : K1.length = K.length + 1 := by rw [hK1]; simp
 have g1 : K2[K.length]? = some (.cells (elRP.enc x) true) := by rw [hK2, List.getElem?_append_left (by omega), hK1]; exact getLast _ _
 have g2 : K2[K1.length]? = some (.cells (elRP.enc y) true) := by rw [hK2]; exact getLast _ _
 have fr : ∀ j, j < K.length -> K2[j]? = K[j]? := fun j hj => by rw [hK2, List.getElem?_append_left (by omega), hK1, List.getElem?_append_left hj]
 have ld6 : ldC K2[r6]? 1 false 0 K2 = some (.fn 79 [] [], K2) := by
  have := ld_box (pg := pg) (R := den pg) (H := K2) (id := r6) (t := .fn 79 [] []) (by rw [fr _ lt6]; exact h6) rfl
  rwa [ZL] at this
 have ldx : ldC K2[K.length]? 2 true 0 K2 = some (elRP.val x, K2) := by rw [g1]; rfl
 have ldy : ldC K2[K1.length]? 2 true 0 K2 = some (elRP.val y, K2) := by rw [g2]; rfl
 obtain ⟨K3, r1, r2⟩ := body79R hF (gx.mono (fr _ gx.lt.1) (fr _ gx.lt.2)) (gy.mono (fr _ gy.lt.1) (fr _ gy.lt.2)) hx hy
 have r1' : callRun pg (den pg) .sh [.fn 79 [] [], elRP.val x, elRP.val y] K2 = some (.i .i64 (cmpP x.v y.v), K3) := r1
 refine ⟨K3, ?_, fun j hj => (r2 j (by rw [hK2, List.length_append]; omega)).trans (fr j hj)⟩
 rw [sh_fn]
 refine body_of (x := .ret) (e := [(5, .b (eqR x y))]) (d := d83) (by rw [hF.F]; rfl) rfl ?_ (.inl rfl) rfl
 unfold eqR eqP
 generalize cmpP x.v y.v = z at *
 generalize elRP.val x = u at *
 generalize elRP.val y = v at *
 simp (disch := omega) [d83, c83, zipE, Z0, Z1, Z2, Z3, Z4, Z5, Z6, Z7, Z8, Z9, Za, Zb, Zc, Zd, Ze, Zf, Zg, Zh, Zi, Zj, Zk, Zl, Zm, Zn, Zo, Zp, Zq, Zr, Zs, Zt, Zu, Zv, Zw, Zx, k_mv, Zy, Zz, ZA, ZB, ZC, ZD, ZE, ZF, ZG, ZH, ZI, ZJ, ZK, ZL, ZM, ZN, ZO, ZP, ZQ, ZR, ZS, ZT, ZU, ZV, ZW, ZX, ZY, ZZ, Y0, Y1, Y2, Y3, Y4, k_mn, k_mx, Y5, Y6, Y7, Y8, Y9, Ya, Yb, Yc, Yd, Ye, Yf, Yg, Yh, Dn.setLast, Dn.getLast, evalO, mapO, Dn.get, putE, Yi, Yj, Yk, Yl, TV.one, TV.isAgg, Dn.part, Ym, negb, at0, at1, at2, at3, at4, dT, dF, Yn, Option.bind_some, Option.map_some, b1, b2, ld6, ldx, ldy, r1']
 rfl

end Go.Proofs.Try.Dn

/-
 Lists of pairs in a row: equal neighbours let off, the loops.
-/

set_option maxHeartbeats 1000000
namespace Go.Proofs.Try.Dn
open Go.Dn

theorem ix_row {pg : Pg} {K : Heap} {r : Nat} {cur : List RP} (h : RowP K r cur) {k i : Nat} (hk : k <= cur.length) {x : RP} (hx : (cur.drop k)[i]? = some x) :
  ∃ p, dkc pg (den pg) (.ixS 2 true) [.sl r (k * 2) 2 true (cur.length - k) none, .i .i64 (i : Int)] K = some (p, K) /\ dkc pg (den pg) (.ld 2 true) [p] K = some (elRP.val x, K) := by
 obtain ⟨p, h1, h2, _⟩ := (h.view hk).ix (pg := pg) (R := den pg) hx .i64
 exact ⟨p, h1, h2.ld⟩

theorem kpR_snoc (p : RP) : ∀ (l : List RP) (x : RP), kpR p (l ++ [x]) = kpR p l ++ (if eqR x ((p :: l).getLast (by simp)) then [] else [x])
 | [], x => rfl
 | y :: l, x => by
  rw [List.cons_append, kpR, kpR]
  have e : (p :: y :: l).getLast (by simp) = (y :: l).getLast (by simp) := by simp
  rw [e]
  split <;> simp [kpR_snoc y l x]

theorem ddR_take {l : List RP} {i : Nat} {x y : RP} (hy : l[i]? = some y) (hx : l[i + 1]? = some x) : ddR (l.take (i + 2)) = ddR (l.take (i + 1)) ++ (if eqR x y then [] else [x]) := by
 cases l with
 | nil => simp at hy
 | cons p l =>
  have hx' : l[i]? = some x := by simpa using hx
  have e1 : l.take (i + 1) = l.take i ++ [x] := by rw [List.take_add_one, hx']; rfl
  have e2 : (p :: l).take (i + 2) = p :: (l.take i ++ [x]) := by rw [List.take_succ_cons, e1]
  rw [e2, List.take_succ_cons]
  show p :: kpR p (l.take i ++ [x]) = p :: kpR p (l.take i) ++ _
  rw [kpR_snoc]
  have e3 : (p :: l.take i).getLast (by simp) = y := by
   have hlen : i < l.length := (List.getElem?_eq_some_iff.1 hx').1
   rw [List.getLast_eq_getElem]
   have : (p :: l.take i)[i]? = some y := by
    cases i with
    | zero => simpa using hy
    | succ i =>
     simp only [List.getElem?_cons_succ] at hy ⊢
     rw [List.getElem?_take, if_pos (by omega)]; exact hy
   have h2 := List.getElem?_eq_some_iff.1 this
   obtain ⟨h3, h4⟩ := h2
   rw [<- h4]
   congr 1
   simp; omega
  rw [e3]; rfl

structure S82 (K : Heap) (r r6 : Nat) (l cur : List RP) (k i : Nat) : Prop where
 row : RowP K r cur
 len : cur.length = l.length
 h6 : K[r6]? = some (.cells [.fn 79 [] []] false)
 ne : r6 ≠ r
 tk : cur.take k = ddR (l.take i)
 dr : cur.drop (i - 1) = l.drop (i - 1)
 k0 : 0 < k
 ki : k <= i
 il : i <= l.length
 gd : ∀ x ∈ l, Gd K x /\ x.ia ≠ r /\ x.ib ≠ r

theorem l82_1_all {pg : Pg} (hF : Free pg) {r r6 : Nat} {l : List RP} (hs : ShR l) (hl : l.length <= 1000000) {k0 : Nat} (hk0 : 1 <= k0) (hkl : k0 < l.length) :
  ∀ (q i k : Nat) (K : Heap) (cur : List RP), i + q = l.length -> k0 + 1 <= i -> k < i -> S82 K r r6 l cur k i ->
  ∃ (v : TV) (K' : Heap) (cur' : List RP) (k' : Nat), den pg l82_1 [(0, .sl r 0 2 true l.length none), (1, .fn 83 [] [.ref r6 0]), (5, .i .i64 (k : Int)), (6, .sl r (k0 * 2) 2 true (l.length - k0) none), (7, .i .i64 ((i - k0 : Nat) : Int))] K =
   some ⟨.exit 2, [(0, .sl r 0 2 true l.length none), (1, .fn 83 [] [.ref r6 0]), (5, .i .i64 (k' : Int)), (6, .sl r (k0 * 2) 2 true (l.length - k0) none), (7, .i .i64 ((l.length - k0 : Nat) : Int)), (35, v)], K'⟩ /\ S82 K' r r6 l cur' k' l.length /\ ∀ j, j < K.length -> j ≠ r -> K'[j]? = K[j]?
 | 0, i, k, K, cur, hi, hik, hki, h => by
  obtain rfl : i = l.length := by omega
  refine ⟨.b false, K, cur, k, ?_, h, fun _ _ _ => rfl⟩
  have ln : ∀ K, lenK 0 (.sl r (k0 * 2) 2 true (l.length - k0) none) K = some (l.length - k0) := fun K => rfl
  obtain ⟨M, hM⟩ : ∃ M, M = l.length - k0 := ⟨_, rfl⟩
  rw [<- hM] at ln ⊢
  rw [l82_1, den_loop]
  simp (disch := omega) [b82_0, Z0, Z1, Z2, Z3, Z4, Z5, Z6, Z7, Z8, Z9, Za, Zb, Zc, Zd, Ze, Zf, Zg, Zh, Zi, Zj, Zk, Zl, Zm, Zn, Zo, Zp, Zq, Zr, Zs, Zt, Zu, Zv, Zw, Zx, k_mv, Zy, Zz, ZA, ZB, ZC, ZD, ZE, ZF, ZG, ZH, ZI, ZJ, ZK, ZL, ZM, ZN, ZO, ZP, ZQ, ZR, ZS, ZT, ZU, ZV, ZW, ZX, ZY, ZZ, Y0, Y1, Y2, Y3, Y4, k_mn, k_mx, Y5, Y6, Y7, Y8, Y9, Ya, Yb, Yc, Yd, Ye, Yf, Yg, Yh, Dn.setLast, Dn.getLast, evalO, mapO, Dn.get, putE, Yi, Yj, Yk, Yl, TV.one, TV.isAgg, Dn.part, Ym, negb, at0, at1, at2, at3, at4, dT, dF, Yn, Option.bind_some, Option.map_some, ln]
 | q + 1, i, k, K, cur, hi, hik, hki, h => by
  obtain ⟨x, hx⟩ : ∃ x, l[i]? = some x := ⟨_, List.getElem?_eq_getElem (by omega)⟩
  obtain ⟨y, hy⟩ : ∃ y, l[i - 1]? = some y := ⟨_, List.getElem?_eq_getElem (by omega)⟩
  have hcx : cur[i]? = some x := by
   have := congrArg (fun z => z[1]?) h.dr
   simp only [List.getElem?_drop] at this
   rw [show i - 1 + 1 = i by omega] at this
   rw [this]; exact hx
  have hcy : cur[i - 1]? = some y := by
   have := congrArg (fun z => z[0]?) h.dr
   simp only [List.getElem?_drop, Nat.add_zero] at this
   rw [this]; exact hy
  have hlen := h.len
  obtain ⟨p1, a1, a2⟩ := ix_row (pg := pg) h.row (k := k0) (i := i - k0) (by omega) (x := x) (by rw [List.getElem?_drop, show k0 + (i - k0) = i by omega]; exact hcx)
  obtain ⟨p2, a3, a4⟩ := ix_row (pg := pg) h.row (k := k0) (i := i - k0 - 1) (by omega) (x := y) (by rw [List.getElem?_drop, show k0 + (i - k0 - 1) = i - 1 by omega]; exact hcy)
  rw [hlen] at a1 a3
  have sx := hs x (List.mem_of_getElem? hx)
  have sy := hs y (List.mem_of_getElem? hy)
  have gx := h.gd x (List.mem_of_getElem? hx)
  have gy := h.gd y (List.mem_of_getElem? hy)
  obtain ⟨K1, e1, e2⟩ := eq_run hF h.h6 x y gx.1 gy.1 sx sy
  have gd1 : ∀ x ∈ l, Gd K1 x /\ x.ia ≠ r /\ x.ib ≠ r := fun z hz => ⟨(h.gd z hz).1.mono (e2 _ (h.gd z hz).1.lt.1) (e2 _ (h.gd z hz).1.lt.2), (h.gd z hz).2⟩
  have row1 : RowP K1 r cur := h.row.mono (e2 r h.row.lt)
  have h61 : K1[r6]? = some (.cells [.fn 79 [] []] false) := by rw [e2 r6 (List.getElem?_eq_some_iff.1 h.h6).1]; exact h.h6
  have hl1 : K.length <= K1.length := by
   rcases Nat.lt_or_ge K1.length K.length with hh | hh
   ·have := e2 (K.length - 1) (by omega)
    rw [List.getElem?_eq_none (by omega), List.getElem?_eq_getElem (by omega)] at this
    cases this
   ·exact hh
  have hdt := ddR_take (l := l) (i := i - 1) hy (by rw [show i - 1 + 1 = i by omega]; exact hx)
  rw [show i - 1 + 2 = i + 1 by omega, show i - 1 + 1 = i by omega] at hdt
  have ln : ∀ K, lenK 0 (.sl r (k0 * 2) 2 true (l.length - k0) none) K = some (l.length - k0) := fun K => rfl
  have w1 : wrapR .i64 (((i - k0 : Nat) : Int) - 1) = .i .i64 ((i - k0 - 1 : Nat) : Int) := by rw [show ((i - k0 : Nat) : Int) - 1 = ((i - k0 - 1 : Nat) : Int) by omega]; exact Yn (by omega)
  have w2 : wrapR .i64 (((i - k0 : Nat) : Int) + 1) = .i .i64 ((i + 1 - k0 : Nat) : Int) := by rw [show ((i - k0 : Nat) : Int) + 1 = ((i + 1 - k0 : Nat) : Int) by omega]; exact Yn (by omega)
  have dd : decide (((i - k0 : Nat) : Int) < ((l.length - k0 : Nat) : Int)) = true := dT (by omega)
  by_cases he : eqR x y = true
  ·rw [he] at e1 hdt
   rw [if_pos rfl, List.append_nil] at hdt
   have hn : S82 K1 r r6 l cur k (i + 1) := ⟨row1, hlen, h61, h.ne, by rw [hdt]; exact h.tk, by
    have := congrArg (List.drop 1) h.dr
    rw [List.drop_drop, List.drop_drop, show i - 1 + 1 = i by omega] at this
    rw [show i + 1 - 1 = i by omega]; exact this, h.k0, by omega, by omega, gd1⟩
   obtain ⟨v, K', cur', k', r1, r2, r3⟩ := l82_1_all hF hs hl hk0 hkl q (i + 1) k K1 cur (by omega) (by omega) (by omega) hn
   refine ⟨v, K', cur', k', ?_, r2, fun j hj hne => (r3 j (by omega) hne).trans (e2 j hj)⟩
   rw [<- r1]
   obtain ⟨A, hA⟩ : ∃ A : Int, A = ((i - k0 : Nat) : Int) := ⟨_, rfl⟩
   obtain ⟨A1, hA1⟩ : ∃ A : Int, A = ((i - k0 - 1 : Nat) : Int) := ⟨_, rfl⟩
   obtain ⟨A2, hA2⟩ : ∃ A : Int, A = ((i + 1 - k0 : Nat) : Int) := ⟨_, rfl⟩
   obtain ⟨M, hM⟩ : ∃ M, M = l.length - k0 := ⟨_, rfl⟩
   obtain ⟨N, hN⟩ : ∃ N, N = l.length := ⟨_, rfl⟩
   rw [<- hM] at a1 a3
   rw [<- hM] at ln dd
   rw [<- hA] at a1 w1 w2 dd
   rw [<- hA1] at a3 w1
   rw [<- hA2] at w2
   rw [<- hM, <- hA, <- hA2, <- hN]
   generalize elRP.val x = u at *
   generalize elRP.val y = w at *
   clear gx gy gd1 hn r1 r2 r3 e2 row1 h61 hl1 hdt h hcx hcy hi hik hki hlen
   rw [l82_1, den_loop]
   simp (disch := omega) [l82_1, b82_0, Z0, Z1, Z2, Z3, Z4, Z5, Z6, Z7, Z8, Z9, Za, Zb, Zc, Zd, Ze, Zf, Zg, Zh, Zi, Zj, Zk, Zl, Zm, Zn, Zo, Zp, Zq, Zr, Zs, Zt, Zu, Zv, Zw, Zx, k_mv, Zy, Zz, ZA, ZB, ZC, ZD, ZE, ZF, ZG, ZH, ZI, ZJ, ZK, ZL, ZM, ZN, ZO, ZP, ZQ, ZR, ZS, ZT, ZU, ZV, ZW, ZX, ZY, ZZ, Y0, Y1, Y2, Y3, Y4, k_mn, k_mx, Y5, Y6, Y7, Y8, Y9, Ya, Yb, Yc, Yd, Ye, Yf, Yg, Yh, Dn.setLast, Dn.getLast, evalO, mapO, Dn.get, putE, Yi, Yj, Yk, Yl, TV.one, TV.isAgg, Dn.part, Ym, negb, at0, at1, at2, at3, at4, dT, dF, Yn, Option.bind_some, Option.map_some, ln, a1, a2, a3, a4, w1, w2, dd, e1]
  ·have he' : eqR x y = false := by cases h9 : eqR x y with
    | true => exact absurd h9 he
    | false => rfl
   rw [he'] at e1 hdt
   rw [if_neg (by simp)] at hdt
   obtain ⟨K2, s1, s2, s3, s4⟩ := row1.set (pg := pg) (k := k) (by omega) x
   have hn : S82 K2 r r6 l (cur.set k x) (k + 1) (i + 1) := ⟨s2, by simp [hlen], by rw [s3 r6 h.ne]; exact h61, h.ne, by
    rw [hdt, <- h.tk, List.take_add_one, List.take_set_of_le (Nat.le_refl k)]
    congr 1
    rw [List.getElem?_set_self (by omega)]; rfl, by
    have := congrArg (List.drop 1) h.dr
    rw [List.drop_drop, List.drop_drop, show i - 1 + 1 = i by omega] at this
    rw [show i + 1 - 1 = i by omega, List.drop_set_of_lt (by omega)]; exact this, by omega, by omega, by omega, fun z hz => ⟨(gd1 z hz).1.mono (s3 _ (gd1 z hz).2.1) (s3 _ (gd1 z hz).2.2), (gd1 z hz).2⟩⟩
   obtain ⟨v, K', cur', k', r1, r2, r3⟩ := l82_1_all hF hs hl hk0 hkl q (i + 1) (k + 1) K2 (cur.set k x) (by omega) (by omega) (by omega) hn
   refine ⟨v, K', cur', k', ?_, r2, fun j hj hne => (r3 j (by omega) hne).trans ((s3 j hne).trans (e2 j hj))⟩
   rw [<- r1]
   have ixk : dkc pg (den pg) (.ixS 2 true) [.sl r 0 2 true l.length none, .i .i64 (k : Int)] K1 = some (.ref r (k * 2), K1) := by
    have hk2 : k < l.length := by omega
    simp [dkc, dk, bound, hk2]
   have w3 : wrapR .i64 ((k : Int) + 1) = .i .i64 ((k + 1 : Nat) : Int) := by rw [<- Int.natCast_succ]; exact Yn (by omega)
   have b1 := (row1.view (k := k0) (by omega)).ix (pg := pg) (R := den pg) (i := i - k0) (x := x) (by rw [List.getElem?_drop, show k0 + (i - k0) = i by omega]; exact hcx) .i64
   obtain ⟨p3, b1, b2, _⟩ := b1
   have b2 := b2.ld (pg := pg) (R := den pg)
   have es : elRP.sz = 2 := rfl
   have ea : elRP.ag = true := rfl
   rw [es, ea] at b1 b2
   rw [hlen] at b1
   obtain ⟨A, hA⟩ : ∃ A : Int, A = ((i - k0 : Nat) : Int) := ⟨_, rfl⟩
   obtain ⟨A1, hA1⟩ : ∃ A : Int, A = ((i - k0 - 1 : Nat) : Int) := ⟨_, rfl⟩
   obtain ⟨A2, hA2⟩ : ∃ A : Int, A = ((i + 1 - k0 : Nat) : Int) := ⟨_, rfl⟩
   obtain ⟨A3, hA3⟩ : ∃ A : Int, A = ((k + 1 : Nat) : Int) := ⟨_, rfl⟩
   obtain ⟨A4, hA4⟩ : ∃ A : Int, A = (k : Int) := ⟨_, rfl⟩
   obtain ⟨M, hM⟩ : ∃ M, M = l.length - k0 := ⟨_, rfl⟩
   obtain ⟨N, hN⟩ : ∃ N, N = l.length := ⟨_, rfl⟩
   rw [<- hM] at a1 a3 b1
   rw [<- hM] at ln dd
   rw [<- hA] at a1 w1 w2 dd b1
   rw [<- hA1] at a3 w1
   rw [<- hA2] at w2
   rw [<- hA4, <- hN] at ixk
   rw [<- hA3, <- hA4] at w3
   rw [<- hM, <- hA, <- hA2, <- hA3, <- hA4, <- hN]
   generalize elRP.val x = u at *
   generalize elRP.val y = w at *
   clear gx gy gd1 hn r1 r2 r3 e2 row1 h61 hl1 hdt h hcx hcy hi hik hki hlen s2 s3 s4
   rw [l82_1, den_loop]
   simp (disch := omega) [l82_1, b82_0, Z0, Z1, Z2, Z3, Z4, Z5, Z6, Z7, Z8, Z9, Za, Zb, Zc, Zd, Ze, Zf, Zg, Zh, Zi, Zj, Zk, Zl, Zm, Zn, Zo, Zp, Zq, Zr, Zs, Zt, Zu, Zv, Zw, Zx, k_mv, Zy, Zz, ZA, ZB, ZC, ZD, ZE, ZF, ZG, ZH, ZI, ZJ, ZK, ZL, ZM, ZN, ZO, ZP, ZQ, ZR, ZS, ZT, ZU, ZV, ZW, ZX, ZY, ZZ, Y0, Y1, Y2, Y3, Y4, k_mn, k_mx, Y5, Y6, Y7, Y8, Y9, Ya, Yb, Yc, Yd, Ye, Yf, Yg, Yh, Dn.setLast, Dn.getLast, evalO, mapO, Dn.get, putE, Yi, Yj, Yk, Yl, TV.one, TV.isAgg, Dn.part, Ym, negb, at0, at1, at2, at3, at4, dT, dF, Yn, Option.bind_some, Option.map_some, ln, a1, a2, a3, a4, w1, w2, w3, dd, e1, b1, b2, ixk, s1]

end Go.Proofs.Try.Dn

