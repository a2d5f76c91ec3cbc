/-
  Dice: results whose rows become the caller's own, and are written over.
-/
import Derived.Test.YtijeefncmgjlpaaT3
import Derived.Test.YtijeefncmgjlpaaDd
set_option linter.unusedSimpArgs false
set_option linter.unusedVariables false

namespace Go.Proofs.Try.Dn
open Go.Dn

theorem call_graft {pg : Pg} {f : Nat} {args bs : List TV} {H H1 : Heap} {r r' : TV} (ha : snapArgs H [] args = some bs) (hb : bodyRun pg (den pg) f bs [] = some (r, H1)) (hr : grR H.length r = some r') :
  callRun pg (den pg) .gr (.fn f [] [] :: args) H = some (r', H ++ H1.map grO) := by
 simp [callRun, ha, hb, hr]

theorem graft_at {H H1 : Heap} {id : Nat} {c : List TV} {ag : Bool} (h : H1[id]? = some (.cells c ag)) : (H ++ H1.map grO)[H.length + id]? = some (.cells (c.takeWhile TV.scal) ag) := by
 rw [List.getElem?_append_right (by omega), Nat.add_sub_cancel_left, List.getElem?_map, h]
 rfl

theorem take_scal {c f : List TV} {n : Nat} (h : c.take n = f) (hn : n <= c.length) (hf : f.all TV.scal = true) : n <= (c.takeWhile TV.scal).length /\ (c.takeWhile TV.scal).take n = f := by
 have e : c = f ++ c.drop n := by rw [<- h]; exact (List.take_append_drop n c).symm
 have hl : f.length = n := by rw [<- h, List.length_take]; omega
 rw [e, List.takeWhile_append_of_pos (fun x hx => List.all_eq_true.1 hf x hx)]
 refine ⟨by rw [List.length_append]; omega, ?_⟩
 rw [List.take_append, List.take_of_length_le (by omega), hl, Nat.sub_self, List.take_zero, List.append_nil]

theorem own_graft {α : Type} {E : El α} (hE : ∀ a, (E.enc a).all TV.scal = true) {H H1 : Heap} {t : TV} {l : List α} (h : E.Own H1 t l) : ∃ t', grV H.length t = some t' /\ E.Own (H ++ H1.map grO) t' l /\ ∀ id, t'.idOf = some id -> H.length <= id := by
 rcases h with ⟨rfl, rfl⟩ | ⟨hl, id, ag, c, rfl, h1, h2, h3⟩
 ·exact ⟨.nilsl, rfl, .inl ⟨rfl, rfl⟩, fun id hid => by cases hid⟩
 ·have hf : (E.flat l).all TV.scal = true := by
   refine List.all_eq_true.2 fun x hx => ?_
   unfold El.flat at hx
   obtain ⟨a, _, ha⟩ := List.mem_flatMap.1 hx
   exact List.all_eq_true.1 (hE a) x ha
  obtain ⟨g1, g2⟩ := take_scal h3 h2 hf
  exact ⟨.sl (H.length + id) 0 E.sz E.ag l.length none, rfl, .inr ⟨hl, H.length + id, ag, _, rfl, graft_at h1, g1, g2⟩, fun j hj => by cases hj; omega⟩

theorem elI_scal (a : Int) : (elI.enc a).all TV.scal = true := rfl
theorem elQ_scal (a : Int × Int) : (elQ.enc a).all TV.scal = true := rfl

def Blk (sz : Nat) (H : Heap) (t : TV) (n : Nat) : Prop := (t = .nilsl /\ n = 0) \/ ∃ id ag cap c ag', t = .sl id 0 sz ag n cap /\ H[id]? = some (.cells c ag') /\ n * sz <= c.length

theorem Blk.own {α : Type} {E : El α} {H : Heap} {t : TV} {l : List α} (h : E.Own H t l) : Blk E.sz H t l.length := by
 rcases h with ⟨rfl, rfl⟩ | ⟨_, id, ag, c, rfl, h1, h2, _⟩
 ·exact .inl ⟨rfl, rfl⟩
 ·exact .inr ⟨id, E.ag, none, c, ag, rfl, h1, h2⟩
theorem Blk.mono {sz : Nat} {H H' : Heap} {t : TV} {n : Nat} (h : Blk sz H t n) (hf : ∀ id, t.idOf = some id -> H'[id]? = H[id]?) : Blk sz H' t n := by
 rcases h with h | ⟨id, ag, cap, c, ag', rfl, h1, h2⟩
 ·exact .inl h
 ·exact .inr ⟨id, ag, cap, c, ag', rfl, by rw [hf id rfl]; exact h1, h2⟩
theorem Blk.len {sz : Nat} {H : Heap} {t : TV} {n : Nat} (h : Blk sz H t n) (K : Heap) : lenK 0 t K = some n := by
 rcases h with ⟨rfl, rfl⟩ | ⟨id, ag, cap, c, ag', rfl, h1, h2⟩ <;> rfl

theorem Blk.put {pg : Pg} {R : Rec} {sz : Nat} {ag0 : Bool} {H : Heap} {t v : TV} {n : Nat} (h : Blk sz H t n) {i : Nat} (hi : i < n) (hv : v.cells.length = sz) (ho : v.cells.all TV.one = true) :
  ∃ p H', dkc pg R (.ixS sz ag0) [t, .i .i64 (i : Int)] H = some (p, H) /\ dkc pg R (.st sz) [p, v] H = some (.undef, H') /\ Blk sz H' t n /\ H'.length = H.length /\ ∀ j, t.idOf ≠ some j -> H'[j]? = H[j]? := by
 rcases h with ⟨rfl, rfl⟩ | ⟨id, ag, cap, c, ag', rfl, h1, h2⟩
 ·omega
 ·have hlt := (List.getElem?_eq_some_iff.1 h1).1
  have hr : i * sz + sz <= c.length := by
   have : (i + 1) * sz <= n * sz := Nat.mul_le_mul_right _ (by omega)
   rw [Nat.succ_mul] at this; omega
  refine ⟨.ref id (0 + i * sz), H.set id (.cells (put2 c (0 + i * sz) v.cells) ag'), ?_, ?_, .inr ⟨id, ag, cap, _, ag', rfl, List.getElem?_set_self hlt, ?_⟩, by simp, fun j hj => ?_⟩
  ·simp [dkc, dk, bound, hi]
  ·simp only [dkc, dk, h1]
   rw [if_pos ⟨hv, ho, by omega⟩]
  ·simp only [put2, List.length_append, List.length_take, List.length_drop]
   omega
  ·rw [List.getElem?_set_ne (fun he => hj (by rw [<- he]; rfl))]

end Go.Proofs.Try.Dn

/-
 Dice: the table of which die beats which, in the caller's memory.
-/

set_option maxHeartbeats 1000000
namespace Go.Proofs.Try.Dn
open Go.Dn

theorem l63_3_on {pg : Pg} (hF : Free pg) {T : TV} {ls : List (List Int)} (hT : SSV T ls) (hl : ls.length <= 100) (hL : ∀ x ∈ ls, x.length <= 100) {H0 : Heap} :
  ∀ (n i : Nat) (O : TV) (ts : List {t : TV // t.one = true}) (H : Heap), i + n = ls.length -> NestD elB H O ts ((ls.take i).map fun a => ls.map (bt a)) -> (∀ j, j < H0.length -> H[j]? = H0[j]?) -> H0.length <= H.length -> (∀ id, O.idOf = some id -> H0.length <= id) -> (∀ t ∈ ts, ∀ id, t.1.idOf = some id -> H0.length <= id) ->
  ∃ O' ts' H' v, den pg l63_3 [(0, T), (3, O), (11, T), (12, .i .i64 (ls.length : Int)), (13, .i .i64 (i : Int))] H =
   some ⟨.exit 0, [(0, T), (3, O'), (11, T), (12, .i .i64 (ls.length : Int)), (13, .i .i64 (ls.length : Int)), (14, v)], H'⟩ /\ NestD elB H' O' ts' (tbl ls) /\ (∀ j, j < H0.length -> H'[j]? = H0[j]?) /\ H0.length <= H'.length /\ (∀ id, O'.idOf = some id -> H0.length <= id) /\ (∀ t ∈ ts', ∀ id, t.1.idOf = some id -> H0.length <= id)
 | 0, i, O, ts, H, hi, hO, h1, h2, h3, h4 => by
  obtain rfl : i = ls.length := by omega
  rw [List.take_length] at hO
  refine ⟨O, ts, H, .b false, ?_, hO, h1, h2, h3, h4⟩
  rw [l63_3, den_loop]
  simp (disch := omega) [b63_2, Z0, Z1, Z2, Z3, Z4, Z5, Z6, Z7, Z8, Z9, Za, Zb, Zc, Zd, Ze, Zf, Zg, Zh, Zi, Zj, Zk, Zl, Zm, Zn, Zo, Zp, Zq, Zr, Zs, Zt, Zu, Zv, Zw, Zx, k_mv, Zy, Zz, ZA, ZB, ZC, ZD, ZE, ZF, ZG, ZH, ZI, ZJ, ZK, ZL, ZM, ZN, ZO, ZP, ZQ, ZR, ZS, ZT, ZU, ZV, ZW, ZX, ZY, ZZ, Y0, Y1, Y2, Y3, Y4, k_mn, k_mx, Y5, Y6, Y7, Y8, Y9, Ya, Yb, Yc, Yd, Ye, Yf, Yg, Yh, Dn.setLast, Dn.getLast, evalO, mapO, Dn.get, putE, Yi, Yj, Yk, Yl, TV.one, TV.isAgg, Dn.part, Ym, negb, at0, at1, at2, at3, at4, dT, dF, Yn, Option.bind_some, Option.map_some]
 | n + 1, i, O, ts, H, hi, hO, h1, h2, h3, h4 => by
  obtain ⟨a, ha⟩ : ∃ a, ls[i]? = some a := ⟨_, List.getElem?_eq_getElem (by omega)⟩
  obtain ⟨p, A, p1, p2, hA⟩ := hT.ix (pg := pg) (R := den pg) ha H
  have ln := hT.len H
  obtain ⟨N, hN⟩ : ∃ N, N = ls.length := ⟨_, rfl⟩
  obtain ⟨R, H1, v, r1, r2⟩ := l63_1_all (pg := pg) hF (V3 := O) (V11 := T) (V12 := .i .i64 (N : Int)) (V13 := .i .i64 (i : Int)) hT hA (hL a (List.mem_of_getElem? ha)) hl hL (base := H.length) (H0 := H) ls.length 0 .nilsl H (by omega) (RowG.nil H)
  simp only [Int.natCast_zero] at r1
  have hO1 : NestD elB H1 O ts ((ls.take i).map fun a => ls.map (bt a)) := hO.mono r2.old
  have bs := k_bslC (pg := pg) (R := den pg) (Own_one r2.own).1 (Own_one r2.own).2.2 H1
  obtain ⟨O2, H2, r, c1, c2, c3, c4, c5, c6⟩ := hO1.app2 r2.own (fun id hid he => by have := r2.new id hid; have := hO.own.lt id he; omega) (fun j u id hu hid he => by have := r2.new id hid; have := hO.lt hu he; omega) (by simp; omega)
  have htk : (ls.take i).map (fun a => ls.map (bt a)) ++ [ls.map (bt a)] = (ls.take (i + 1)).map fun a => ls.map (bt a) := by
   rw [List.take_add_one, ha, List.map_append]; rfl
  rw [htk] at c2
  have hlen := r2.len
  obtain ⟨O', ts', H', v', q1, q2⟩ := l63_3_on hF hT hl hL (H0 := H0) n (i + 1) O2 _ H2 (by omega) c2 (fun j hj => by rw [c4 j (by omega) (fun e => by have := h3 j e; omega), r2.old j (by omega), h1 j hj]) (by omega) (fun id hid => by have := c5 id hid; omega) (fun t ht id hid => by
   rcases List.mem_append.1 ht with ht | ht
   ·exact h4 t ht id hid
   ·rw [List.mem_singleton.1 ht, c6] at hid
    have := r2.new id hid; omega)
  refine ⟨O', ts', H', v', Eq.trans ?_ q1, q2⟩
  rw [<- hN] at hi r1 ln ⊢
  have di : decide ((i : Int) < (N : Int)) = true := dT (by omega)
  rw [l63_3, den_loop]
  simp (disch := omega) [l63_3, b63_2, Z0, Z1, Z2, Z3, Z4, Z5, Z6, Z7, Z8, Z9, Za, Zb, Zc, Zd, Ze, Zf, Zg, Zh, Zi, Zj, Zk, Zl, Zm, Zn, Zo, Zp, Zq, Zr, Zs, Zt, Zu, Zv, Zw, Zx, k_mv, Zy, Zz, ZA, ZB, ZC, ZD, ZE, ZF, ZG, ZH, ZI, ZJ, ZK, ZL, ZM, ZN, ZO, ZP, ZQ, ZR, ZS, ZT, ZU, ZV, ZW, ZX, ZY, ZZ, Y0, Y1, Y2, Y3, Y4, k_mn, k_mx, Y5, Y6, Y7, Y8, Y9, Ya, Yb, Yc, Yd, Ye, Yf, Yg, Yh, Dn.setLast, Dn.getLast, evalO, mapO, Dn.get, putE, Yi, Yj, Yk, Yl, TV.one, TV.isAgg, Dn.part, Ym, negb, at0, at1, at2, at3, at4, dT, dF, Yn, Option.bind_some, Option.map_some, ln, di, p1, p2, go_denK (c := l63_1) rfl, r1, bs, c1]

theorem body29_on {pg : Pg} (hF : Free pg) {T : TV} {ls : List (List Int)} (hT : SSV T ls) (h0 : chkD ls = 0) (H : Heap) : ∃ O' ts' H', bodyRun pg (den pg) 29 [T] H = some (.tup [O', .i .i64 0], H') /\ NestD elB H' O' ts' (tbl ls) /\ (∀ j, j < H.length -> H'[j]? = H[j]?) /\ H.length <= H'.length /\ (∀ id, O'.idOf = some id -> H.length <= id) /\ (∀ t ∈ ts', ∀ id, t.1.idOf = some id -> H.length <= id) := by
 have hr := row_chk h0
 have hl := hr.le
 have hL : ∀ x ∈ ls, x.length <= 100 := fun x hx => by have := (hr.all x hx).le; omega
 have c55 := call55 (pg := pg) hF hT (by omega) (fun x hx => by have := hL x hx; omega) H
 rw [h0] at c55
 have ln := hT.len H
 obtain ⟨O', ts', H', v', q1, q2⟩ := l63_3_on (pg := pg) hF hT (by omega) hL (H0 := H) ls.length 0 .nilsl [] H (by omega) (NestD.nil H) (fun _ _ => rfl) (Nat.le_refl _) (fun id h => by cases h) (fun t h => by simp at h)
 simp only [Int.natCast_zero] at q1
 obtain ⟨N, hN⟩ : ∃ N, N = ls.length := ⟨_, rfl⟩
 rw [<- hN] at q1 ln
 have b63 : callRun pg (den pg) .sh [.fn 63 [] [], T] H = some (O', H') := by
  rw [sh_fn]
  refine body_of (x := .ret) (e := [(2, O')]) (d := d63) (by rw [hF.F]; rfl) rfl ?_ (.inl rfl) rfl
  simp (disch := omega) [d63, c63, zipE, Z0, Z1, Z2, Z3, Z4, Z5, Z6, Z7, Z8, Z9, Za, Zb, Zc, Zd, Ze, Zf, Zg, Zh, Zi, Zj, Zk, Zl, Zm, Zn, Zo, Zp, Zq, Zr, Zs, Zt, Zu, Zv, Zw, Zx, k_mv, Zy, Zz, ZA, ZB, ZC, ZD, ZE, ZF, ZG, ZH, ZI, ZJ, ZK, ZL, ZM, ZN, ZO, ZP, ZQ, ZR, ZS, ZT, ZU, ZV, ZW, ZX, ZY, ZZ, Y0, Y1, Y2, Y3, Y4, k_mn, k_mx, Y5, Y6, Y7, Y8, Y9, Ya, Yb, Yc, Yd, Ye, Yf, Yg, Yh, Dn.setLast, Dn.getLast, evalO, mapO, Dn.get, putE, Yi, Yj, Yk, Yl, TV.one, TV.isAgg, Dn.part, Ym, negb, at0, at1, at2, at3, at4, dT, dF, Yn, Option.bind_some, Option.map_some, ln, go_denK (c := l63_3) rfl, q1]
 refine ⟨O', ts', H', ?_, q2⟩
 refine body_ofs (vs := [O', .i .i64 0]) (x := .ret) (e := [(2, O'), (3, .i .i64 0)]) (d := d29) (by rw [hF.F]; rfl) rfl ?_ (.inl rfl) rfl
 clear q2 q1 ln
 simp (disch := omega) [d29, c29, zipE, Z0, Z1, Z2, Z3, Z4, Z5, Z6, Z7, Z8, Z9, Za, Zb, Zc, Zd, Ze, Zf, Zg, Zh, Zi, Zj, Zk, Zl, Zm, Zn, Zo, Zp, Zq, Zr, Zs, Zt, Zu, Zv, Zw, Zx, k_mv, Zy, Zz, ZA, ZB, ZC, ZD, ZE, ZF, ZG, ZH, ZI, ZJ, ZK, ZL, ZM, ZN, ZO, ZP, ZQ, ZR, ZS, ZT, ZU, ZV, ZW, ZX, ZY, ZZ, Y0, Y1, Y2, Y3, Y4, k_mn, k_mx, Y5, Y6, Y7, Y8, Y9, Ya, Yb, Yc, Yd, Ye, Yf, Yg, Yh, Dn.setLast, Dn.getLast, evalO, mapO, Dn.get, putE, Yi, Yj, Yk, Yl, TV.one, TV.isAgg, Dn.part, Ym, negb, at0, at1, at2, at3, at4, dT, dF, Yn, Option.bind_some, Option.map_some, c55, b63]

end Go.Proofs.Try.Dn

