/-
  The search for a ring, walked: a node met for the first time.
-/
import Derived.Test.YtijeefncmgjlpaaU9
set_option linter.unusedSimpArgs false
set_option linter.unusedVariables false

set_option maxHeartbeats 4000000
set_option maxRecDepth 100000
namespace Go.Proofs.Try.Dn
open Go.Dn

theorem white_pre {pg : Pg} (hF : Free pg) {q : Q90} {n i : Nat} {TBL : TV} {col : Nat -> Nat} {path ord : List Nat} {tP tO : TV} {H : Heap} (h : HS q n TBL col path ord tP tO H) (hi : i < n) (hc : col i = 0) (hp : path.length <= 1000) :
  ∃ tP' H', go pg (den pg) [.c c90] .normal [(0, .i .i64 (i : Int)), (1, .ref q.rS 0), (2, .ref q.rP 0), (3, .ref q.rR 0), (4, .ref q.rT 0), (5, .ref q.rF 0), (6, .ref q.rO 0)] H =
   go pg (den pg) [.c (.seq r90_5 (.seq r90_6 (.seq r90_7 (.seq r90_8 (.seq r90_9 r90_10)))))] .normal [(0, .i .i64 (i : Int)), (1, .ref q.rS 0), (2, .ref q.rP 0), (4, .ref q.rT 0), (5, .ref q.rF 0), (6, .ref q.rO 0)] H' /\
   HS q n TBL (colU col i 1) (path ++ [i]) ord tP' tO H' /\ H'[q.rR]? = H[q.rR]? := by
 have a1 := ldC1 (pg := pg) h.hS rfl
 have a2 := Go.Proofs.Try.Dn.RowG.ix (pg := pg) H q.sI (M := n) (t := i) hi
 have a3 := rowLd (pg := pg) h.hI hi
 rw [hc] at a3
 obtain ⟨H1, s1, s2, s3, s4⟩ := h.hI.st (pg := pg) hi 1
 have h1 : HS q n TBL (colU col i 1) path ord tP tO H1 := h.setI s2 s3
 have b1 := ldC1 (pg := pg) h1.hP h1.wP.one.2
 obtain ⟨tP', H2, t1, t2, t3, t4, t5⟩ := h1.wP.app (x := (i : Int)) (by rw [ci_len]; omega)
 rw [<- ci_snoc] at t2
 obtain ⟨H1', hH1'⟩ : ∃ H1', H1' = H1 ++ [AObj.cells [.i .i64 (i : Int)] false] := ⟨_, rfl⟩
 have bs : dkc pg (den pg) (.bsl false [.i .i64 0] false 1 [0]) [.i .i64 (i : Int)] H1 = some (.sl H1.length 0 1 false 1 (some 1), H1') := by rw [hH1']; rfl
 rw [<- hH1'] at t1
 have h2 := h1.setP t2 t4 t5 t3
 have hPa : H2[q.rP]? = some (.cells [tP] false) := by
  rw [t4 _ (h1.lt q.rP (by simp [Q90.ids])) (fun e => (h1.dP _ e).1 (by simp [Q90.ids]))]
  exact h1.hP
 have o1 := t2.one
 have hcl : tP'.cells = [tP'] := by
  rcases t2 with ⟨rfl, _⟩ | ⟨id, off, cap, c, ag, rfl, _⟩ <;> rfl
 have st := stC1 (pg := pg) hPa o1.1 hcl
 refine ⟨tP', _, ?_, h2, ?_⟩
 ·rw [c90_parts]
  simp only [Int.natCast_zero, Int.natCast_one] at a3 s1
  clear h h1 h2 s2 s3 t2 t4 t5 hPa hcl hH1' hc
  generalize (H2.set q.rP (.cells [tP'] false)) = H3 at *
  generalize (TV.sl H1.length 0 1 false 1 (some 1)) = W at *
  generalize TV.ref q.sI i = RI at *
  generalize (TV.sl q.sI 0 1 false n (some n)) = S at *
  generalize (i : Int) = I at *
  generalize TV.ref q.rS 0 = R1 at *
  generalize TV.ref q.rP 0 = R2 at *
  generalize TV.ref q.rR 0 = R3 at *
  generalize TV.ref q.rT 0 = R4 at *
  generalize TV.ref q.rF 0 = R5 at *
  generalize TV.ref q.rO 0 = R6 at *
  simp (disch := omega) [r90_0, r90_1, r90_2, r90_3, r90_4, Z0, Z1, Z2, Z3, Z4, Z5, Z6, Z7, Z8, Z9, Za, Zb, Zc, Zd, Ze, Zf, Zg, Zh, Zi, Zj, Zk, Zl, Zm, Zn, Zo, Zp, Zq, Zr, Zs, Zt, Zu, Zv, Zw, Zx, k_mv, Zy, Zz, ZA, ZB, ZC, ZD, ZE, ZF, ZG, ZH, ZI, ZJ, ZK, ZL, ZM, ZN, ZO, ZP, ZQ, ZR, ZS, ZT, ZU, ZV, ZW, ZX, ZY, ZZ, Y0, Y1, Y2, Y3, Y4, k_mn, k_mx, Y5, Y6, Y7, Y8, Y9, Ya, Yb, Yc, Yd, Ye, Yf, Yg, Yh, Dn.setLast, Dn.getLast, evalO, mapO, Dn.get, putE, Yi, Yj, Yk, Yl, TV.one, TV.isAgg, Dn.part, Ym, negb, at0, at1, at2, at3, at4, dT, dF, Yn, Option.bind_some, Option.map_some, a1, a2, a3, s1, b1, bs, t1, st, -Y7]
 ·have nd := h.nd
  simp only [Q90.ids, List.nodup_cons, List.mem_cons, List.mem_nil_iff, or_false, not_or, not_false_eq_true, List.nodup_nil, and_true] at nd
  rw [List.getElem?_set_ne (by omega), t4 _ (h1.lt q.rR (by simp [Q90.ids])) (fun e => (h1.dP _ e).1 (by simp [Q90.ids])), s3 _ (by omega)]

theorem white_post {pg : Pg} (hF : Free pg) {q : Q90} {n i : Nat} {TBL : TV} {col : Nat -> Nat} {path ord : List Nat} {tP tO : TV} {H : Heap} (h : HS q n TBL col (path ++ [i]) ord tP tO H) (hi : i < n) (hp : path.length <= 1000) (ho : ord.length <= 1000) (e : Env) :
  ∃ tP' tO' H', go pg (den pg) [.c (.seq r90_6 (.seq r90_7 (.seq r90_8 (.seq r90_9 r90_10))))] .normal ((0, .i .i64 (i : Int)) :: (1, .ref q.rS 0) :: (2, .ref q.rP 0) :: (5, .ref q.rF 0) :: (6, .ref q.rO 0) :: e) H = some ⟨.ret, [(8, .b true)], H'⟩ /\
   HS q n TBL (colU col i 2) path (ord ++ [i]) tP' tO' H' /\ H'[q.rR]? = H[q.rR]? := by
 have b1 := ldC1 (pg := pg) h.hP h.wP.one.2
 have ln : ∀ K, (lenK 0 tP K).map (fun (n : Nat) => TV.i .i64 (n : Int)) = some (.i .i64 ((path.length + 1 : Nat) : Int)) := fun K => by rw [h.wP.view.lenK, ci_len]; simp
 have wl : wrapR .i64 (((path.length + 1 : Nat) : Int) - 1) = .i .i64 (path.length : Int) := by rw [show (((path.length + 1 : Nat) : Int) - 1) = (path.length : Int) by omega]; exact Yn (by omega)
 have hw := h.wP
 rw [ci_snoc] at hw
 obtain ⟨tP', c1, c2, c3⟩ := hw.cut
 rw [ci_len] at c1
 have hcl : tP'.cells = [tP'] := by
  rcases c2 with ⟨rfl, _⟩ | ⟨id, off, cap, c, ag, rfl, _⟩ <;> rfl
 have st1 := stC1 (pg := pg) h.hP c2.one.1 hcl
 have h1 := h.setP c2 (fun _ _ _ => rfl) (.inl c3) (Nat.le_refl _)
 obtain ⟨H1, hH1⟩ : ∃ H1, H1 = H.set q.rP (.cells [tP'] false) := ⟨_, rfl⟩
 rw [<- hH1] at st1 h1
 have a1 := ldC1 (pg := pg) h1.hS rfl
 have a2 := Go.Proofs.Try.Dn.RowG.ix (pg := pg) H1 q.sI (M := n) (t := i) hi
 obtain ⟨H2, s1, s2, s3, s4⟩ := h1.hI.st (pg := pg) hi 2
 have h2 : HS q n TBL (colU col i 2) path ord tP' tO H2 := h1.setI s2 s3
 have d1 := ldC1 (pg := pg) h2.hO (by rcases h2.wO with ⟨rfl, _⟩ | ⟨_, id, ag, c, rfl, _⟩ <;> rfl)
 have lO := h2.wO.lt
 obtain ⟨H2', hH2'⟩ : ∃ H2', H2' = H2 ++ [AObj.cells [.i .i64 (i : Int)] false] := ⟨_, rfl⟩
 have bs : dkc pg (den pg) (.bsl false [.i .i64 0] false 1 [0]) [.i .i64 (i : Int)] H2 = some (.sl H2.length 0 1 false 1 (some 1), H2') := by rw [hH2']; rfl
 have ov := one_view H2 (i : Int)
 rw [<- hH2'] at ov
 have l2' : H2'.length = H2.length + 1 := by rw [hH2']; simp
 have f2' : ∀ j, j < H2.length -> H2'[j]? = H2[j]? := fun j hj => by rw [hH2', List.getElem?_append_left hj]
 obtain ⟨tO', H3, t1, t2, t3, t4, t5⟩ := appI (h2.wO.mono (H' := H2') fun id hid => f2' id (lO id hid)) ov (by rw [ci_len]; simp; omega)
 rw [<- ci_snoc] at t2
 have f3 : ∀ j, j < H2.length -> tO.idOf ≠ some j -> H3[j]? = H2[j]? := fun j hj hne => by rw [t4 j (by omega) hne, f2' j hj]
 have h3 := h2.setO t2 f3 (by
  rcases t5 with rfl | t5
  ·exact .inl rfl
  ·exact .inr fun id hid => by have := t5 id hid; omega) (by omega)
 have hOa : H3[q.rO]? = some (.cells [tO] false) := by
  rw [f3 _ (h2.lt q.rO (by simp [Q90.ids])) (fun e => h2.dO _ e (by simp [Q90.ids]))]
  exact h2.hO
 have o3 : tO'.one = true /\ tO'.cells = [tO'] := by
  rcases t2 with ⟨rfl, _⟩ | ⟨_, id, ag, c, rfl, _⟩ <;> exact ⟨rfl, rfl⟩
 have st3 := stC1 (pg := pg) hOa o3.1 o3.2
 refine ⟨tP', tO', _, ?_, h3, ?_⟩
 ·simp only [Int.cast_ofNat_Int] at s1
  clear h h1 h2 h3 s2 s3 t2 t4 t5 f3 hOa o3 hw c2 c3 hcl hH1 hH2' ov f2' lO
  generalize (H3.set q.rO (.cells [tO'] false)) = H4 at *
  generalize (TV.sl H2.length 0 1 false 1 (some 1)) = W at *
  generalize TV.ref q.sI i = RI at *
  generalize (TV.sl q.sI 0 1 false n (some n)) = S at *
  generalize ((path.length + 1 : Nat) : Int) = L1 at *
  generalize (path.length : Int) = L0 at *
  generalize (i : Int) = I at *
  generalize TV.ref q.rS 0 = R1 at *
  generalize TV.ref q.rP 0 = R2 at *
  generalize TV.ref q.rF 0 = R5 at *
  generalize TV.ref q.rO 0 = R6 at *
  simp (disch := omega) [r90_6, r90_7, r90_8, r90_9, r90_10, Z0, Z1, Z2, Z3, Z4, Z5, Z6, Z7, Z8, Z9, Za, Zb, Zc, Zd, Ze, Zf, Zg, Zh, Zi, Zj, Zk, Zl, Zm, Zn, Zo, Zp, Zq, Zr, Zs, Zt, Zu, Zv, Zw, Zx, k_mv, Zy, Zz, ZA, ZB, ZC, ZD, ZE, ZF, ZG, ZH, ZI, ZJ, ZK, ZL, ZM, ZN, ZO, ZP, ZQ, ZR, ZS, ZT, ZU, ZV, ZW, ZX, ZY, ZZ, Y0, Y1, Y2, Y3, Y4, k_mn, k_mx, Y5, Y6, Y7, Y8, Y9, Ya, Yb, Yc, Yd, Ye, Yf, Yg, Yh, Dn.setLast, Dn.getLast, evalO, mapO, Dn.get, putE, Yi, Yj, Yk, Yl, TV.one, TV.isAgg, Dn.part, Ym, negb, at0, at1, at2, at3, at4, dT, dF, Yn, Option.bind_some, Option.map_some, b1, ln, wl, c1, st1, a1, a2, s1, d1, bs, t1, st3, -Y7]
 ·have nd := h.nd
  simp only [Q90.ids, List.nodup_cons, List.mem_cons, List.mem_nil_iff, or_false, not_or, not_false_eq_true, List.nodup_nil, and_true] at nd
  rw [List.getElem?_set_ne (by omega), f3 _ (h2.lt q.rR (by simp [Q90.ids])) (fun e => h2.dO _ e (by simp [Q90.ids])), s3 _ (by omega), hH1, List.getElem?_set_ne (by omega)]

end Go.Proofs.Try.Dn

