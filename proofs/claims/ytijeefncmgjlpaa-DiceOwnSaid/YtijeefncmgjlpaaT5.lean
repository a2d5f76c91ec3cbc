/-
  The reference's ways of all sums, walked.
-/
import Derived.Test.YtijeefncmgjlpaaT3
set_option linter.unusedSimpArgs false
set_option linter.unusedVariables false

set_option maxHeartbeats 1000000
namespace Go.Proofs.Try.Dn
open Go.Dn

theorem l46_1_all {pg : Pg} {T : TV} {ls : List (List Int)} (hT : SSV T ls) {i : Nat} {d : List Int} (hd : ls[i]? = some d) (hD : DieL 60 d) {W : Int -> Nat} (hWb : ∀ j, W j <= 262144) (hWd : ∀ j, wnF W d j <= 262144) {oid nid M M2 s : Nat} (hs : s < M) (hM : M <= 1000) (hM2 : ∀ f ∈ d, s + f.toNat < M2) (hne : oid ≠ nid) :
  ∀ (r k : Nat) (H : Heap), k + r = d.length -> RowG H oid M (fun t => W (t : Int)) -> RowG H nid M2 (fS W d s k) ->
  ∃ e H', den pg l46_1 [(0, T), (3, .sl oid 0 1 false M (some M)), (4, .i .i64 (i : Int)), (5, .sl nid 0 1 false M2 (some M2)), (6, .i .i64 (s : Int)), (7, .i .i64 (k : Int))] H =
   some ⟨.exit 4, (0, T) :: (3, .sl oid 0 1 false M (some M)) :: (4, .i .i64 (i : Int)) :: (5, .sl nid 0 1 false M2 (some M2)) :: (6, .i .i64 (s : Int)) :: e, H'⟩ /\ RowG H' oid M (fun t => W (t : Int)) /\ RowG H' nid M2 (fS W d s d.length) /\ H'.length = H.length /\ ∀ j, j ≠ nid -> H'[j]? = H[j]?
 | 0, k, H, hk, ho, hn => by
  obtain rfl : k = d.length := by omega
  obtain ⟨p, L, p1, p2, hL⟩ := hT.ix (pg := pg) (R := den pg) hd H
  have ln := lnM hL
  refine ⟨[(7, .i .i64 (d.length : Int)), (43, .b false)], H, ?_, ho, hn, rfl, fun _ _ => rfl⟩
  generalize (d.length : Int) = K at *
  generalize (i : Int) = I at *
  generalize (s : Int) = S at *
  generalize (TV.sl oid 0 1 false M (some M)) = O at *
  generalize (TV.sl nid 0 1 false M2 (some M2)) = N at *
  rw [l46_1, den_loop]
  simp (disch := omega) [b46_0, Z0, Z1, Z2, Z3, Z4, Z5, Z6, Z7, Z8, Z9, Za, Zb, Zc, Zd, Ze, Zf, Zg, Zh, Zi, Zj, Zk, Zl, Zm, Zn, Zo, Zp, Zq, Zr, Zs, Zt, Zu, Zv, Zw, Zx, k_mv, Zy, Zz, ZA, ZB, ZC, ZD, ZE, ZF, ZG, ZH, ZI, ZJ, ZK, ZL, ZM, ZN, ZO, ZP, ZQ, ZR, ZS, ZT, ZU, ZV, ZW, ZX, ZY, ZZ, Y0, Y1, Y2, Y3, Y4, k_mn, k_mx, Y5, Y6, Y7, Y8, Y9, Ya, Yb, Yc, Yd, Ye, Yf, Yg, Yh, Dn.setLast, Dn.getLast, evalO, mapO, Dn.get, putE, Yi, Yj, Yk, Yl, TV.one, TV.isAgg, Dn.part, Ym, negb, at0, at1, at2, at3, at4, dT, dF, Yn, Option.bind_some, Option.map_some, p1, p2, ln]
 | r + 1, k, H, hk, ho, hn => by
  obtain ⟨p, L, p1, p2, hL⟩ := hT.ix (pg := pg) (R := den pg) hd H
  have ln := lnM hL
  obtain ⟨f, hf⟩ : ∃ f, d[k]? = some f := ⟨_, List.getElem?_eq_getElem (by omega)⟩
  have hfb := hD.ok f (List.mem_of_getElem? hf)
  obtain ⟨q, q1, q2⟩ := ixI (pg := pg) (R := den pg) (hL.view H) hf
  obtain ⟨j, hj⟩ : ∃ j, j = s + f.toNat := ⟨_, rfl⟩
  have hjM : j < M2 := by rw [hj]; exact hM2 f (List.mem_of_getElem? hf)
  have wj : wrapR .i64 ((s : Int) + f) = .i .i64 (j : Int) := by rw [show (s : Int) + f = (j : Int) by omega]; exact Yn (by have := hM2 f (List.mem_of_getElem? hf); omega)
  have xN := RowG.ix (pg := pg) H nid hjM
  have xO := RowG.ix (pg := pg) H oid hs
  have lN := hn.ld hjM
  have lO := ho.ld hs
  obtain ⟨H', st, s1, s2, s3⟩ := hn.st (pg := pg) hjM (fS W d s k j + W (s : Int))
  have hG : (fun u => if u = j then fS W d s k j + W (s : Int) else fS W d s k u) = fS W d s (k + 1) := by
   funext u
   rw [fS_step hf]
   by_cases hu : u = j
   ·subst hu; rw [if_pos rfl, if_pos (by omega)]
   ·rw [if_neg hu, if_neg (by omega)]; rfl
  rw [hG] at s1
  have b1 := fS_le W d s k j
  have b2 := hWd (j : Int)
  have b3 := hWb (s : Int)
  have wa : wrapR .i64 (((fS W d s k j : Nat) : Int) + ((W (s : Int) : Nat) : Int)) = .i .i64 ((fS W d s k j + W (s : Int) : Nat) : Int) := by rw [<- Int.natCast_add]; exact Yn (by omega)
  have d8 := hD.le
  have w2 : wrapR .i64 ((k : Int) + 1) = .i .i64 ((k + 1 : Nat) : Int) := by rw [<- Int.natCast_succ]; exact Yn (by omega)
  have dd : decide ((k : Int) < (d.length : Int)) = true := dT (by omega)
  obtain ⟨e, H2, r1, r2, r3, r4, r5⟩ := l46_1_all (pg := pg) hT hd hD hWb hWd hs hM hM2 hne r (k + 1) H' (by omega) ⟨by rw [s2 oid hne]; exact ho.at_⟩ s1
  refine ⟨e, H2, Eq.trans ?_ r1, r2, r3, by rw [r4, s3], fun j hj => (r5 j hj).trans (s2 j hj)⟩
  generalize ((fS W d s k j + W (s : Int) : Nat) : Int) = z at *
  generalize ((fS W d s k j : Nat) : Int) = x at *
  generalize ((W (s : Int) : Nat) : Int) = y at *
  generalize ((k + 1 : Nat) : Int) = K2 at *
  generalize (k : Int) = K at *
  generalize (d.length : Int) = DL at *
  generalize (j : Int) = J at *
  generalize (s : Int) = S at *
  generalize (i : Int) = I at *
  generalize (TV.sl oid 0 1 false M (some M)) = O at *
  generalize (TV.sl nid 0 1 false M2 (some M2)) = N at *
  clear hk hM2 hj hjM b1 b2 b3 s1 s2 s3 r1 r2 r3 r4 r5 hG ho hn d8 hWb hWd hfb
  rw [l46_1, den_loop]
  simp (disch := omega) [l46_1, b46_0, Z0, Z1, Z2, Z3, Z4, Z5, Z6, Z7, Z8, Z9, Za, Zb, Zc, Zd, Ze, Zf, Zg, Zh, Zi, Zj, Zk, Zl, Zm, Zn, Zo, Zp, Zq, Zr, Zs, Zt, Zu, Zv, Zw, Zx, k_mv, Zy, Zz, ZA, ZB, ZC, ZD, ZE, ZF, ZG, ZH, ZI, ZJ, ZK, ZL, ZM, ZN, ZO, ZP, ZQ, ZR, ZS, ZT, ZU, ZV, ZW, ZX, ZY, ZZ, Y0, Y1, Y2, Y3, Y4, k_mn, k_mx, Y5, Y6, Y7, Y8, Y9, Ya, Yb, Yc, Yd, Ye, Yf, Yg, Yh, Dn.setLast, Dn.getLast, evalO, mapO, Dn.get, putE, Yi, Yj, Yk, Yl, TV.one, TV.isAgg, Dn.part, Ym, negb, at0, at1, at2, at3, at4, dT, dF, Yn, Option.bind_some, Option.map_some, p1, p2, ln, dd, q1, q2, wj, xN, xO, lN, lO, wa, st, w2]

theorem l46_3_all {pg : Pg} {T : TV} {ls : List (List Int)} (hT : SSV T ls) {i : Nat} {d : List Int} (hd : ls[i]? = some d) (hD : DieL 60 d) {W : Int -> Nat} (hWb : ∀ j, W j <= 262144) (hWd : ∀ j, wnF W d j <= 262144) {oid nid M M2 : Nat} (hM : M <= 1000) (hM2 : ∀ s, s < M -> ∀ f ∈ d, s + f.toNat < M2) (hne : oid ≠ nid) :
  ∀ (r s : Nat) (H : Heap), s + r = M -> RowG H oid M (fun t => W (t : Int)) -> RowG H nid M2 (fS W d s 0) ->
  ∃ e H', den pg l46_3 [(0, T), (3, .sl oid 0 1 false M (some M)), (4, .i .i64 (i : Int)), (5, .sl nid 0 1 false M2 (some M2)), (6, .i .i64 (s : Int))] H =
   some ⟨.exit 2, (0, T) :: (3, .sl oid 0 1 false M (some M)) :: (4, .i .i64 (i : Int)) :: (5, .sl nid 0 1 false M2 (some M2)) :: e, H'⟩ /\ RowG H' nid M2 (fS W d M 0) /\ H'.length = H.length /\ ∀ j, j ≠ nid -> H'[j]? = H[j]?
 | 0, s, H, hs, ho, hn => by
  obtain rfl : s = M := by omega
  refine ⟨[(6, .i .i64 (s : Int)), (34, .b false)], H, ?_, hn, rfl, fun _ _ => rfl⟩
  have lo : ∀ K, (lenK 0 (.sl oid 0 1 false s (some s)) K).map (fun (n : Nat) => TV.i .i64 (n : Int)) = some (.i .i64 (s : Int)) := fun K => rfl
  generalize (s : Int) = S at *
  generalize (i : Int) = I at *
  generalize (TV.sl oid 0 1 false s (some s)) = O at *
  generalize (TV.sl nid 0 1 false M2 (some M2)) = N at *
  rw [l46_3, den_loop]
  simp (disch := omega) [b46_2, Z0, Z1, Z2, Z3, Z4, Z5, Z6, Z7, Z8, Z9, Za, Zb, Zc, Zd, Ze, Zf, Zg, Zh, Zi, Zj, Zk, Zl, Zm, Zn, Zo, Zp, Zq, Zr, Zs, Zt, Zu, Zv, Zw, Zx, k_mv, Zy, Zz, ZA, ZB, ZC, ZD, ZE, ZF, ZG, ZH, ZI, ZJ, ZK, ZL, ZM, ZN, ZO, ZP, ZQ, ZR, ZS, ZT, ZU, ZV, ZW, ZX, ZY, ZZ, Y0, Y1, Y2, Y3, Y4, k_mn, k_mx, Y5, Y6, Y7, Y8, Y9, Ya, Yb, Yc, Yd, Ye, Yf, Yg, Yh, Dn.setLast, Dn.getLast, evalO, mapO, Dn.get, putE, Yi, Yj, Yk, Yl, TV.one, TV.isAgg, Dn.part, Ym, negb, at0, at1, at2, at3, at4, dT, dF, Yn, Option.bind_some, Option.map_some, lo]
 | r + 1, s, H, hs, ho, hn => by
  obtain ⟨e1, H1, a1, a2, a3, a4, a5⟩ := l46_1_all (pg := pg) hT hd hD hWb hWd (show s < M by omega) hM (hM2 s (by omega)) hne d.length 0 H (by omega) ho hn
  have hnx : fS W d s d.length = fS W d (s + 1) 0 := by funext t; exact fS_next W d s t
  rw [hnx] at a3
  obtain ⟨e, H2, r1, r2, r3, r4⟩ := l46_3_all (pg := pg) hT hd hD hWb hWd hM hM2 hne r (s + 1) H1 (by omega) a2 a3
  refine ⟨e, H2, Eq.trans ?_ r1, r2, by rw [r3, a4], fun j hj => (r4 j hj).trans (a5 j hj)⟩
  have lo : ∀ K, (lenK 0 (.sl oid 0 1 false M (some M)) K).map (fun (n : Nat) => TV.i .i64 (n : Int)) = some (.i .i64 (M : Int)) := fun K => rfl
  have w2 : wrapR .i64 ((s : Int) + 1) = .i .i64 ((s + 1 : Nat) : Int) := by rw [<- Int.natCast_succ]; exact Yn (by omega)
  have dd : decide ((s : Int) < (M : Int)) = true := dT (by omega)
  simp only [Int.natCast_zero] at a1
  generalize ((s + 1 : Nat) : Int) = S2 at *
  generalize (s : Int) = S at *
  generalize (M : Int) = Mi at *
  generalize (i : Int) = I at *
  generalize (TV.sl oid 0 1 false M (some M)) = O at *
  generalize (TV.sl nid 0 1 false M2 (some M2)) = N at *
  clear hs hM2 a2 a3 a4 a5 r1 r2 r3 r4 ho hn hnx hWb hWd
  rw [l46_3, den_loop]
  simp (disch := omega) [l46_3, b46_2, Z0, Z1, Z2, Z3, Z4, Z5, Z6, Z7, Z8, Z9, Za, Zb, Zc, Zd, Ze, Zf, Zg, Zh, Zi, Zj, Zk, Zl, Zm, Zn, Zo, Zp, Zq, Zr, Zs, Zt, Zu, Zv, Zw, Zx, k_mv, Zy, Zz, ZA, ZB, ZC, ZD, ZE, ZF, ZG, ZH, ZI, ZJ, ZK, ZL, ZM, ZN, ZO, ZP, ZQ, ZR, ZS, ZT, ZU, ZV, ZW, ZX, ZY, ZZ, Y0, Y1, Y2, Y3, Y4, k_mn, k_mx, Y5, Y6, Y7, Y8, Y9, Ya, Yb, Yc, Yd, Ye, Yf, Yg, Yh, Dn.setLast, Dn.getLast, evalO, mapO, Dn.get, putE, Yi, Yj, Yk, Yl, TV.one, TV.isAgg, Dn.part, Ym, negb, at0, at1, at2, at3, at4, dT, dF, Yn, Option.bind_some, Option.map_some, lo, dd, go_denK (c := l46_1) rfl, a1, w2]

def mxS (ls : List (List Int)) : Nat := 1 + (ls.map fun d => (d.getLastD 0).toNat).sum

theorem mxS_snoc (ls : List (List Int)) (d : List Int) : mxS (ls ++ [d]) = mxS ls + (d.getLastD 0).toNat := by
 unfold mxS; rw [List.map_append, List.sum_append]; simp; omega

theorem die_last {d : List Int} (hD : DieL 60 d) : ∃ z, d[d.length - 1]? = some z /\ d.getLastD 0 = z /\ 0 <= z /\ z <= 60 /\ ∀ f ∈ d, f <= z := by
 have hp := hD.pos
 obtain ⟨z, hz⟩ : ∃ z, d[d.length - 1]? = some z := ⟨_, List.getElem?_eq_getElem (by omega)⟩
 have hb := hD.ok z (List.mem_of_getElem? hz)
 refine ⟨z, hz, getLastD_at hz, hb.1, hb.2, fun f hf => ?_⟩
 obtain ⟨j, hj, rfl⟩ := List.getElem_of_mem hf
 exact srt_at hD.srt (show j <= d.length - 1 by omega) (List.getElem?_eq_getElem hj) hz

theorem wn_mx {ls : List (List Int)} (hD : ∀ d ∈ ls, DieL 60 d) : ∀ i, i <= ls.length -> ∀ j, wn (ls.take i) j ≠ 0 -> 0 <= j /\ j < (mxS (ls.take i) : Int) := by
 intro i
 induction i with
 | zero =>
  intro _ j hj
  rw [List.take_zero] at hj ⊢
  have : wn0 j ≠ 0 := hj
  unfold wn0 at this
  split at this
  ·simp [mxS]; omega
  ·exact absurd rfl this
 | succ i ih =>
  intro hi j hj
  have e : ls.take (i + 1) = ls.take i ++ [ls[i]] := by rw [List.take_add_one, List.getElem?_eq_getElem (by omega)]; rfl
  rw [e] at hj ⊢
  rw [wn_snoc] at hj
  rw [mxS_snoc]
  obtain ⟨f, hf, h0⟩ := wnF_ne.1 hj
  have h1 := ih (by omega) _ h0
  have hDi := hD ls[i] (List.getElem_mem (by omega))
  obtain ⟨z, _, h3, h4, _, h5⟩ := die_last hDi
  rw [h3]
  have h6 := h5 f hf
  have h7 := (hDi.ok f hf).1
  omega

theorem mxS_le {ls : List (List Int)} (hD : ∀ d ∈ ls, DieL 60 d) : mxS ls <= 1 + 60 * ls.length := by
 unfold mxS
 have := sum_bound (l := ls) (f := fun d => (d.getLastD 0).toNat) (B := 60) fun d hd => by
  obtain ⟨z, _, h3, _, h5, _⟩ := die_last (hD d hd)
  rw [h3]; omega
 omega

theorem l46_5_all {pg : Pg} {T : TV} {ls : List (List Int)} (hT : SSV T ls) (hl : ls.length <= 6) (hD : ∀ d ∈ ls, DieL 60 d) : ∀ (r i oid M : Nat) (H : Heap), i + r = ls.length -> M = mxS (ls.take i) -> RowG H oid M (fun t => wn (ls.take i) (t : Int)) ->
  ∃ e oid' H', den pg l46_5 [(0, T), (3, .sl oid 0 1 false M (some M)), (4, .i .i64 (i : Int))] H = some ⟨.exit 0, (0, T) :: (3, .sl oid' 0 1 false (mxS ls) (some (mxS ls))) :: e, H'⟩ /\ RowG H' oid' (mxS ls) (fun t => wn ls (t : Int))
 | 0, i, oid, M, H, hi, hM, ho => by
  obtain rfl : i = ls.length := by omega
  rw [List.take_length] at ho hM
  subst hM
  refine ⟨[(4, .i .i64 (ls.length : Int)), (12, .b false)], oid, H, ?_, ho⟩
  have ln := lnS hT
  generalize (ls.length : Int) = N at *
  generalize (TV.sl oid 0 1 false (mxS ls) (some (mxS ls))) = O at *
  rw [l46_5, den_loop]
  simp (disch := omega) [b46_4, Z0, Z1, Z2, Z3, Z4, Z5, Z6, Z7, Z8, Z9, Za, Zb, Zc, Zd, Ze, Zf, Zg, Zh, Zi, Zj, Zk, Zl, Zm, Zn, Zo, Zp, Zq, Zr, Zs, Zt, Zu, Zv, Zw, Zx, k_mv, Zy, Zz, ZA, ZB, ZC, ZD, ZE, ZF, ZG, ZH, ZI, ZJ, ZK, ZL, ZM, ZN, ZO, ZP, ZQ, ZR, ZS, ZT, ZU, ZV, ZW, ZX, ZY, ZZ, Y0, Y1, Y2, Y3, Y4, k_mn, k_mx, Y5, Y6, Y7, Y8, Y9, Ya, Yb, Yc, Yd, Ye, Yf, Yg, Yh, Dn.setLast, Dn.getLast, evalO, mapO, Dn.get, putE, Yi, Yj, Yk, Yl, TV.one, TV.isAgg, Dn.part, Ym, negb, at0, at1, at2, at3, at4, dT, dF, Yn, Option.bind_some, Option.map_some, ln]
 | r + 1, i, oid, M, H, hi, hM, ho => by
  obtain ⟨d, hd⟩ : ∃ d, ls[i]? = some d := ⟨_, List.getElem?_eq_getElem (by omega)⟩
  have hDd := hD d (List.mem_of_getElem? hd)
  have etk : ls.take (i + 1) = ls.take i ++ [d] := by rw [List.take_add_one, hd]; rfl
  obtain ⟨z, hz, hz1, hz2, hz3, hz4⟩ := die_last hDd
  obtain ⟨M2, hM2⟩ : ∃ M2, M2 = M + z.toNat := ⟨_, rfl⟩
  have hMb : M <= 361 := by
   rw [hM]
   have := mxS_le (ls := ls.take i) fun x hx => hD x (List.mem_of_mem_take hx)
   rw [List.length_take] at this
   omega
  have hoid := (List.getElem?_eq_some_iff.1 ho.at_).1
  have hW := wn_mx hD i (by omega)
  rw [<- hM] at hW
  have h8 : ∀ d ∈ ls, d.length <= 8 := fun d hd => (hD d hd).le
  obtain ⟨H1, hH1⟩ : ∃ H1, H1 = H ++ [AObj.cells (gC (fun _ => 0) M2) false] := ⟨_, rfl⟩
  have ho1 : RowG H1 oid M (fun t => wn (ls.take i) (t : Int)) := ⟨by rw [hH1, List.getElem?_append_left hoid]; exact ho.at_⟩
  have hn1 : RowG H1 H.length M2 (fS (wn (ls.take i)) d 0 0) := ⟨by
   rw [hH1, show fS (wn (ls.take i)) d 0 0 = fun _ => 0 from funext fun t => fS_zero (fun j hj => Classical.byContradiction fun h => by have := hW j h; omega) d t]
   exact getLast _ _⟩
  obtain ⟨e1, H2, a1, a2, a3, a4⟩ := l46_3_all (pg := pg) hT hd hDd (fun j => wn_small hl h8 i (by omega) j) (fun j => by
   have := wn_small hl h8 (i + 1) (by omega) j
   rw [etk, wn_snoc] at this
   exact this) (oid := oid) (nid := H.length) (M := M) (M2 := M2) (by omega) (fun s hs f hf => by
   have h1 := hz4 f hf
   have h2 := (hDd.ok f hf).1
   omega) (by omega) M 0 H1 (by omega) ho1 hn1
  have hfin : fS (wn (ls.take i)) d M 0 = fun t : Nat => wn (ls.take (i + 1)) (t : Int) := by
   funext t
   rw [etk, wn_snoc]
   exact fS_full (fun j hj => Classical.byContradiction fun h => by have := hW j h; omega) d t
  rw [hfin] at a2
  obtain ⟨e, oid', H', r1, r2⟩ := l46_5_all (pg := pg) hT hl hD r (i + 1) H.length M2 H2 (by omega) (by rw [etk, mxS_snoc, hz1, hM2, hM]) a2
  refine ⟨e, oid', H', Eq.trans ?_ r1, r2⟩
  obtain ⟨p, L, p1, p2, hL⟩ := hT.ix (pg := pg) (R := den pg) hd H
  have ln := lnS hT
  have lx := lnM hL
  obtain ⟨q, q1, q2⟩ := ixI (pg := pg) (R := den pg) (hL.view H) hz
  have hdp := hDd.pos
  have hd8 := hDd.le
  have wl : wrapR .i64 ((d.length : Int) - 1) = .i .i64 ((d.length - 1 : Nat) : Int) := by rw [show (d.length : Int) - 1 = ((d.length - 1 : Nat) : Int) by omega]; exact Yn (by omega)
  have wm : wrapR .i64 ((M : Int) + z) = .i .i64 (M2 : Int) := by rw [show (M : Int) + z = (M2 : Int) by omega]; exact Yn (by omega)
  have lo : ∀ K, (lenK 0 (.sl oid 0 1 false M (some M)) K).map (fun (n : Nat) => TV.i .i64 (n : Int)) = some (.i .i64 (M : Int)) := fun K => rfl
  have mk : dkc pg (den pg) (.mksl [.i .i64 0] false 8) [.i .i64 (M2 : Int), .i .i64 (M2 : Int)] H = some (.sl H.length 0 1 false M2 (some M2), H1) := by
   show dk (.mksl [.i .i64 0] false 8) [.i .i64 (M2 : Int), .i .i64 (M2 : Int)] H = _
   simp only [dk, bound, Int.natCast_nonneg, if_true, Option.bind_some, Int.toNat_natCast]
   rw [if_pos ⟨Nat.le_refl _, by omega, by omega⟩, hH1]
   congr 4
   simp only [repl, gC, Int.toNat_natCast, List.map_const', List.length_range]; rfl
  have w2 : wrapR .i64 ((i : Int) + 1) = .i .i64 ((i + 1 : Nat) : Int) := by rw [<- Int.natCast_succ]; exact Yn (by omega)
  have dd : decide ((i : Int) < (ls.length : Int)) = true := dT (by omega)
  simp only [Int.natCast_zero] at a1
  generalize ((d.length - 1 : Nat) : Int) = D1 at *
  generalize (d.length : Int) = DL at *
  generalize ((i + 1 : Nat) : Int) = I2 at *
  generalize (i : Int) = I at *
  generalize (ls.length : Int) = N at *
  generalize (M : Int) = Mi at *
  generalize (M2 : Int) = Mj at *
  generalize (TV.sl oid 0 1 false M (some M)) = O at *
  generalize (TV.sl H.length 0 1 false M2 (some M2)) = Nx at *
  clear hi a2 a3 a4 r1 r2 hfin hn1 ho1 hH1 ho hoid hM hMb hW hM2 hz1 hz2 hz3 hz4 hdp hd8
  rw [l46_5, den_loop]
  simp (disch := omega) [l46_5, b46_4, Z0, Z1, Z2, Z3, Z4, Z5, Z6, Z7, Z8, Z9, Za, Zb, Zc, Zd, Ze, Zf, Zg, Zh, Zi, Zj, Zk, Zl, Zm, Zn, Zo, Zp, Zq, Zr, Zs, Zt, Zu, Zv, Zw, Zx, k_mv, Zy, Zz, ZA, ZB, ZC, ZD, ZE, ZF, ZG, ZH, ZI, ZJ, ZK, ZL, ZM, ZN, ZO, ZP, ZQ, ZR, ZS, ZT, ZU, ZV, ZW, ZX, ZY, ZZ, Y0, Y1, Y2, Y3, Y4, k_mn, k_mx, Y5, Y6, Y7, Y8, Y9, Ya, Yb, Yc, Yd, Ye, Yf, Yg, Yh, Dn.setLast, Dn.getLast, evalO, mapO, Dn.get, putE, Yi, Yj, Yk, Yl, TV.one, TV.isAgg, Dn.part, Ym, negb, at0, at1, at2, at3, at4, dT, dF, Yn, Option.bind_some, Option.map_some, ln, dd, p1, p2, lx, wl, q1, q2, lo, wm, mk, go_denK (c := l46_3) rfl, a1, w2]

def refW (ls : List (List Int)) : List Int := gL (fun t => wn ls (t : Int)) (mxS ls)

theorem fn46 {pg : Pg} (hF : Free pg) {T : TV} {ls : List (List Int)} (hT : SSV T ls) (hl : ls.length <= 6) (hD : ∀ d ∈ ls, DieL 60 d) : PFn pg 46 [T] (elI.lt false (refW ls)) := by
 have h0 : RowG [.cells [.i .i64 1] false] 0 1 (fun t => wn (ls.take 0) (t : Int)) := ⟨rfl⟩
 obtain ⟨e, oid, H, r1, r2⟩ := l46_5_all (pg := pg) hT hl hD ls.length 0 0 1 _ (by omega) rfl h0
 have hm : refW ls ≠ [] := by
  intro e
  have := congrArg List.length e
  simp [refW, gL, mxS] at this
 refine .inr ⟨hF.S _ _, .sl oid 0 1 false (mxS ls) (some (mxS ls)), H, ?_, ?_⟩
 ·refine body_of (x := .ret) (e := [(2, .sl oid 0 1 false (mxS ls) (some (mxS ls)))]) (d := d46) (by rw [hF.F]; rfl) rfl ?_ (.inl rfl) rfl
  have bs : dkc pg (den pg) (.bsl false [.i .i64 0] false 1 [0]) [.i .i64 1] [] = some (.sl 0 0 1 false 1 (some 1), [.cells [.i .i64 1] false]) := rfl
  simp only [Int.natCast_zero] at r1
  generalize ([.cells [.i .i64 1] false] : Heap) = H0 at *
  generalize (TV.sl 0 0 1 false 1 (some 1)) = O0 at *
  generalize (TV.sl oid 0 1 false (mxS ls) (some (mxS ls))) = O at *
  simp (disch := omega) [d46, c46, zipE, Z0, Z1, Z2, Z3, Z4, Z5, Z6, Z7, Z8, Z9, Za, Zb, Zc, Zd, Ze, Zf, Zg, Zh, Zi, Zj, Zk, Zl, Zm, Zn, Zo, Zp, Zq, Zr, Zs, Zt, Zu, Zv, Zw, Zx, k_mv, Zy, Zz, ZA, ZB, ZC, ZD, ZE, ZF, ZG, ZH, ZI, ZJ, ZK, ZL, ZM, ZN, ZO, ZP, ZQ, ZR, ZS, ZT, ZU, ZV, ZW, ZX, ZY, ZZ, Y0, Y1, Y2, Y3, Y4, k_mn, k_mx, Y5, Y6, Y7, Y8, Y9, Ya, Yb, Yc, Yd, Ye, Yf, Yg, Yh, Dn.setLast, Dn.getLast, evalO, mapO, Dn.get, putE, Yi, Yj, Yk, Yl, TV.one, TV.isAgg, Dn.part, Ym, negb, at0, at1, at2, at3, at4, dT, dF, Yn, Option.bind_some, Option.map_some, bs, go_denK (c := l46_5) rfl, r1, -Y7]
 ·rw [El.lt_ne hm, snap]
  simp only [reduceCtorEq, if_false, r2.at_]
  rw [if_pos ⟨by rw [gC_len]; omega, .inr trivial⟩, List.drop_zero]
  have hv : gC (fun t => wn ls (t : Int)) (mxS ls) = (refW ls).map elI.val := by
   unfold gC refW gL; rw [List.map_map]; rfl
  rw [Nat.mul_one, List.take_of_length_le (by rw [gC_len]; exact Nat.le_refl _), hv]
  show (mapO (snap .fin H 8) ((refW ls).map elI.val)).map _ = _
  rw [elI_flat.mapO .fin H 6]
  rfl

end Go.Proofs.Try.Dn

