/-
  Peg: results whose rows become the caller's own, and are written over.
-/
import Derived.Test.YtegihfgibonhpaaPj
import Derived.Test.YtegihfgibonhpaaPi
import Derived.Test.YtegihfgibonhpaaPg2
set_option linter.unusedSimpArgs false
set_option linter.unusedVariables false

namespace Go.Proofs.Try.Dn
open Go.Dn

theorem call_graft {pg : Pg} {f : Nat} {args bs : List TV} {H H1 : Heap} {r r' : TV} (ha : snapArgs H [] args = some bs) (hb : bodyRun pg (den pg) f bs [] = some (r, H1)) (hr : grR H.length r = some r') :
    callRun pg (den pg) .gr (.fn f [] [] :: args) H = some (r', H ++ H1.map grO) := by
  simp [callRun, ha, hb, hr]

theorem graft_at {H H1 : Heap} {id : Nat} {c : List TV} {ag : Bool} (h : H1[id]? = some (.cells c ag)) : (H ++ H1.map grO)[H.length + id]? = some (.cells (c.takeWhile TV.scal) ag) := by
  rw [List.getElem?_append_right (by omega), Nat.add_sub_cancel_left, List.getElem?_map, h]
  rfl

theorem take_scal {c f : List TV} {n : Nat} (h : c.take n = f) (hn : n ≤ c.length) (hf : f.all TV.scal = true) : n ≤ (c.takeWhile TV.scal).length ∧ (c.takeWhile TV.scal).take n = f := by
  have e : c = f ++ c.drop n := by rw [← h]; exact (List.take_append_drop n c).symm
  have hl : f.length = n := by rw [← h, List.length_take]; omega
  rw [e, List.takeWhile_append_of_pos (fun x hx => List.all_eq_true.1 hf x hx)]
  refine ⟨by rw [List.length_append]; omega, ?_⟩
  rw [List.take_append, List.take_of_length_le (by omega), hl, Nat.sub_self, List.take_zero, List.append_nil]

theorem own_graft {α : Type} {E : El α} (hE : ∀ a, (E.enc a).all TV.scal = true) {H H1 : Heap} {t : TV} {l : List α} (h : E.Own H1 t l) : ∃ t', grV H.length t = some t' ∧ E.Own (H ++ H1.map grO) t' l ∧ ∀ id, t'.idOf = some id → H.length ≤ id := by
  rcases h with ⟨rfl, rfl⟩ | ⟨hl, id, ag, c, rfl, h1, h2, h3⟩
  · exact ⟨.nilsl, rfl, .inl ⟨rfl, rfl⟩, fun id hid => by cases hid⟩
  · have hf : (E.flat l).all TV.scal = true := by
      refine List.all_eq_true.2 fun x hx => ?_
      unfold El.flat at hx
      obtain ⟨a, _, ha⟩ := List.mem_flatMap.1 hx
      exact List.all_eq_true.1 (hE a) x ha
    obtain ⟨g1, g2⟩ := take_scal h3 h2 hf
    exact ⟨.sl (H.length + id) 0 E.sz E.ag l.length none, rfl, .inr ⟨hl, H.length + id, ag, _, rfl, graft_at h1, g1, g2⟩, fun j hj => by cases hj; omega⟩

theorem elI_scal (a : Int) : (elI.enc a).all TV.scal = true := rfl
theorem elL_scal (a : Line) : (elL.enc a).all TV.scal = true := rfl

def Blk (sz : Nat) (H : Heap) (t : TV) (n : Nat) : Prop := (t = .nilsl ∧ n = 0) ∨ ∃ id ag cap c ag', t = .sl id 0 sz ag n cap ∧ H[id]? = some (.cells c ag') ∧ n * sz ≤ c.length

theorem Blk.own {α : Type} {E : El α} {H : Heap} {t : TV} {l : List α} (h : E.Own H t l) : Blk E.sz H t l.length := by
  rcases h with ⟨rfl, rfl⟩ | ⟨_, id, ag, c, rfl, h1, h2, _⟩
  · exact .inl ⟨rfl, rfl⟩
  · exact .inr ⟨id, E.ag, none, c, ag, rfl, h1, h2⟩
theorem Blk.mono {sz : Nat} {H H' : Heap} {t : TV} {n : Nat} (h : Blk sz H t n) (hf : ∀ id, t.idOf = some id → H'[id]? = H[id]?) : Blk sz H' t n := by
  rcases h with h | ⟨id, ag, cap, c, ag', rfl, h1, h2⟩
  · exact .inl h
  · exact .inr ⟨id, ag, cap, c, ag', rfl, by rw [hf id rfl]; exact h1, h2⟩
theorem Blk.len {sz : Nat} {H : Heap} {t : TV} {n : Nat} (h : Blk sz H t n) (K : Heap) : lenK 0 t K = some n := by
  rcases h with ⟨rfl, rfl⟩ | ⟨id, ag, cap, c, ag', rfl, h1, h2⟩ <;> rfl

theorem Blk.put {pg : Pg} {R : Rec} {sz : Nat} {ag0 : Bool} {H : Heap} {t v : TV} {n : Nat} (h : Blk sz H t n) {i : Nat} (hi : i < n) (hv : v.cells.length = sz) (ho : v.cells.all TV.one = true) :
    ∃ p H', dkc pg R (.ixS sz ag0) [t, .i .i64 (i : Int)] H = some (p, H) ∧ dkc pg R (.st sz) [p, v] H = some (.undef, H') ∧ Blk sz H' t n ∧ H'.length = H.length ∧ ∀ j, t.idOf ≠ some j → H'[j]? = H[j]? := by
  rcases h with ⟨rfl, rfl⟩ | ⟨id, ag, cap, c, ag', rfl, h1, h2⟩
  · omega
  · have hlt := (List.getElem?_eq_some_iff.1 h1).1
    have hr : i * sz + sz ≤ c.length := by
      have : (i + 1) * sz ≤ n * sz := Nat.mul_le_mul_right _ (by omega)
      rw [Nat.succ_mul] at this; omega
    refine ⟨.ref id (0 + i * sz), H.set id (.cells (put2 c (0 + i * sz) v.cells) ag'), ?_, ?_, .inr ⟨id, ag, cap, _, ag', rfl, List.getElem?_set_self hlt, ?_⟩, by simp, fun j hj => ?_⟩
    · simp [dkc, dk, bound, hi]
    · simp only [dkc, dk, h1]
      rw [if_pos ⟨hv, ho, by omega⟩]
    · simp only [put2, List.length_append, List.length_take, List.length_drop]
      omega
    · rw [List.getElem?_set_ne (fun he => hj (by rw [← he]; rfl))]

end Go.Proofs.Try.Dn

/-
  Peg: results are new memory, and no function changes its arguments: the law run.
-/

set_option maxHeartbeats 4000000
set_option maxRecDepth 100000
namespace Go.Proofs.Try.Dn
open Go.Dn

theorem k_bld3 {pg : Pg} {R : Rec} (a b c : Int) (H : Heap) : dkc pg R (.build [.i .i64 0, .i .i64 0, .i .i64 0] [(0, 1), (1, 1), (2, 1)]) [.i .i64 a, .i .i64 b, .i .i64 c] H = some (.agg [.i .i64 a, .i .i64 b, .i .i64 c], H) := by
  show dk (.build [.i .i64 0, .i .i64 0, .i .i64 0] [(0, 1), (1, 1), (2, 1)]) [.i .i64 a, .i .i64 b, .i .i64 c] H = _
  simp [dk, fillP, put2, TV.cells, TV.one]

theorem l14_1_all {pg : Pg} {V0 V7 V8 T V10 V11 V12 V13 V14 : TV} {n : Nat} (hn : n ≤ 100000) : ∀ (d i : Nat) (H : Heap), i + d = n → Blk 3 H T n →
    ∃ H', den pg l14_1 [(0, V0), (7, V7), (8, V8), (9, T), (10, V10), (11, V11), (12, V12), (13, V13), (14, V14), (15, .i .i64 (i : Int))] H =
      some ⟨.exit 0, [(0, V0), (7, V7), (8, V8), (9, T), (10, V10), (11, V11), (12, V12), (13, V13), (14, V14), (15, .i .i64 (n : Int)), (59, .b false)], H'⟩ ∧ H'.length = H.length ∧ ∀ j, T.idOf ≠ some j → H'[j]? = H[j]?
  | 0, i, H, hd, hT => by
    obtain rfl : i = n := by omega
    have ln := hT.len H
    refine ⟨H, ?_, rfl, fun _ _ => rfl⟩
    rw [l14_1, den_loop]
    simp [b14_0, gX0, gX1, gX2, gX3, gX4, gX5, gX6, gX7, gX8, gX9, gXa, gXb, gXc, gXd, gXe, gXf, gXg, gXh, gXi, gXj, gXk, gXl, gXm, gXn, gXo, gXp, gXq, gXr, gXs, gXt, gXu, gXv, gXw, gXx, k_mv, gXy, gXz, gX01, gX11, gX21, gX31, gX41, gX51, gX61, gX71, gX81, gX91, gXa1, gXb1, gXc1, gXd1, gXe1, gXf1, gXg1, gXh1, gXi1, gXj1, gXk1, gXl1, gXm1, gXn1, gXo1, gXp1, gXq1, gXr1, gXs1, gXt1, gXu1, k_mn, k_mx, gXv1, gXw1, gXx1, gXy1, gXz1, gX02, gX12, gX22, gX32, gX42, gX52, gX62, gX72, Dn.setLast, Dn.getLast, evalO, mapO, Dn.get, putE, keepE, TV.one, TV.isAgg, Dn.part, ln]
  | d + 1, i, H, hd, hT => by
    have ln := hT.len H
    obtain ⟨p, H1, p1, p2, p3, p4, p5⟩ := hT.put (pg := pg) (R := den pg) (ag0 := true) (i := i) (by omega) (v := .agg [.i .i64 (-1), .i .i64 (-1), .i .i64 (-1)]) rfl rfl
    obtain ⟨H2, q1, q2, q3⟩ := l14_1_all (pg := pg) (V0 := V0) (V7 := V7) (V8 := V8) (V10 := V10) (V11 := V11) (V12 := V12) (V13 := V13) (V14 := V14) hn d (i + 1) H1 (by omega) p3
    refine ⟨H2, Eq.trans ?_ q1, by omega, fun j hj => by rw [q3 j hj, p5 j hj]⟩
    have e1 : (i : Int) < (n : Int) := by omega
    have e2 : wrapR .i64 ((i : Int) + 1) = .i .i64 ((i : Int) + 1) := gX82 (by omega)
    have bld := fun K => k_bld3 (pg := pg) (R := den pg) (-1) (-1) (-1) K
    rw [l14_1, den_loop]
    simp [l14_1, b14_0, gX0, gX1, gX2, gX3, gX4, gX5, gX6, gX7, gX8, gX9, gXa, gXb, gXc, gXd, gXe, gXf, gXg, gXh, gXi, gXj, gXk, gXl, gXm, gXn, gXo, gXp, gXq, gXr, gXs, gXt, gXu, gXv, gXw, gXx, k_mv, gXy, gXz, gX01, gX11, gX21, gX31, gX41, gX51, gX61, gX71, gX81, gX91, gXa1, gXb1, gXc1, gXd1, gXe1, gXf1, gXg1, gXh1, gXi1, gXj1, gXk1, gXl1, gXm1, gXn1, gXo1, gXp1, gXq1, gXr1, gXs1, gXt1, gXu1, k_mn, k_mx, gXv1, gXw1, gXx1, gXy1, gXz1, gX02, gX12, gX22, gX32, gX42, gX52, gX62, gX72, Dn.setLast, Dn.getLast, evalO, mapO, Dn.get, putE, keepE, TV.one, TV.isAgg, Dn.part, ln, e1, e2, bld, p1, p2]

theorem l14_3_all {pg : Pg} {V0 V7 V8 V10 V12 V14 A T : TV} {i : Nat} {p0 : TV} {n : Nat} (hn : n ≤ 100000) {id : Nat} (hne : T.idOf ≠ some id)
    (hix : ∀ K, dkc pg (den pg) (.ixS 1 false) [A, .i .i64 (i : Int)] K = some (p0, K)) : ∀ (d k : Nat) (H : Heap), k + d = n → Blk 1 H T n → (∀ K : Heap, K[id]? = H[id]? → dkc pg (den pg) (.ld 1 false) [p0] K = some (T, K)) →
    ∃ H', den pg l14_3 [(0, V0), (7, V7), (8, V8), (10, V10), (12, V12), (14, V14), (16, A), (17, .i .i64 (i : Int)), (18, .i .i64 (k : Int))] H =
      some ⟨.exit 4, [(0, V0), (7, V7), (8, V8), (10, V10), (12, V12), (14, V14), (16, A), (17, .i .i64 (i : Int)), (18, .i .i64 (n : Int)), (79, .b false)], H'⟩ ∧ H'.length = H.length ∧ ∀ j, T.idOf ≠ some j → H'[j]? = H[j]?
  | 0, k, H, hd, hT, hl => by
    obtain rfl : k = n := by omega
    have ln := hT.len H
    have l0 := hl H rfl
    have h0 := hix H
    refine ⟨H, ?_, rfl, fun _ _ => rfl⟩
    clear hl hix hT
    rw [l14_3, den_loop]
    simp [b14_2, gX0, gX1, gX2, gX3, gX4, gX5, gX6, gX7, gX8, gX9, gXa, gXb, gXc, gXd, gXe, gXf, gXg, gXh, gXi, gXj, gXk, gXl, gXm, gXn, gXo, gXp, gXq, gXr, gXs, gXt, gXu, gXv, gXw, gXx, k_mv, gXy, gXz, gX01, gX11, gX21, gX31, gX41, gX51, gX61, gX71, gX81, gX91, gXa1, gXb1, gXc1, gXd1, gXe1, gXf1, gXg1, gXh1, gXi1, gXj1, gXk1, gXl1, gXm1, gXn1, gXo1, gXp1, gXq1, gXr1, gXs1, gXt1, gXu1, k_mn, k_mx, gXv1, gXw1, gXx1, gXy1, gXz1, gX02, gX12, gX22, gX32, gX42, gX52, gX62, gX72, Dn.setLast, Dn.getLast, evalO, mapO, Dn.get, putE, keepE, TV.one, TV.isAgg, Dn.part, h0, l0, ln]
  | d + 1, k, H, hd, hT, hl => by
    have ln := hT.len H
    have l0 := hl H rfl
    have h0 := hix H
    obtain ⟨p, H1, p1, p2, p3, p4, p5⟩ := hT.put (pg := pg) (R := den pg) (ag0 := false) (i := k) (by omega) (v := .i .i64 (-1)) rfl rfl
    obtain ⟨H2, q1, q2, q3⟩ := l14_3_all (pg := pg) (V0 := V0) (V7 := V7) (V8 := V8) (V10 := V10) (V12 := V12) (V14 := V14) hn hne hix d (k + 1) H1 (by omega) p3 (fun K hK => hl K (by rw [hK, p5 id hne]))
    refine ⟨H2, Eq.trans ?_ q1, by omega, fun j hj => by rw [q3 j hj, p5 j hj]⟩
    have e1 : (k : Int) < (n : Int) := by omega
    have e2 : wrapR .i64 ((k : Int) + 1) = .i .i64 ((k : Int) + 1) := gX82 (by omega)
    have p2' : dkc pg (den pg) (.st 1) [p, .i .i64 (-1)] H = some (.undef, H1) := p2
    clear hl hix hT q1 q3 p3 p5
    rw [l14_3, den_loop]
    simp [l14_3, b14_2, gX0, gX1, gX2, gX3, gX4, gX5, gX6, gX7, gX8, gX9, gXa, gXb, gXc, gXd, gXe, gXf, gXg, gXh, gXi, gXj, gXk, gXl, gXm, gXn, gXo, gXp, gXq, gXr, gXs, gXt, gXu, gXv, gXw, gXx, k_mv, gXy, gXz, gX01, gX11, gX21, gX31, gX41, gX51, gX61, gX71, gX81, gX91, gXa1, gXb1, gXc1, gXd1, gXe1, gXf1, gXg1, gXh1, gXi1, gXj1, gXk1, gXl1, gXm1, gXn1, gXo1, gXp1, gXq1, gXr1, gXs1, gXt1, gXu1, k_mn, k_mx, gXv1, gXw1, gXx1, gXy1, gXz1, gX02, gX12, gX22, gX32, gX42, gX52, gX62, gX72, Dn.setLast, Dn.getLast, evalO, mapO, Dn.get, putE, keepE, TV.one, TV.isAgg, Dn.part, h0, l0, ln, e1, e2, p1, p2']

theorem l14_5_round {pg : Pg} {V0 V7 V8 V10 V12 V14 A T p0 : TV} {i : Nat} (hi : i < 2) {n : Nat} (hn : n ≤ 100000) {id : Nat} (hne : T.idOf ≠ some id) (hix : ∀ K, dkc pg (den pg) (.ixS 1 false) [A, .i .i64 (i : Int)] K = some (p0, K)) {H : Heap} (hT : Blk 1 H T n) (hl : ∀ K : Heap, K[id]? = H[id]? → dkc pg (den pg) (.ld 1 false) [p0] K = some (T, K)) :
    ∃ H', den pg l14_5 [(0, V0), (7, V7), (8, V8), (10, V10), (12, V12), (14, V14), (16, A), (17, .i .i64 (i : Int))] H = den pg l14_5 [(0, V0), (7, V7), (8, V8), (10, V10), (12, V12), (14, V14), (16, A), (17, .i .i64 ((i + 1 : Nat) : Int))] H' ∧ H'.length = H.length ∧ ∀ j, T.idOf ≠ some j → H'[j]? = H[j]? := by
  obtain ⟨H', q1, q2, q3⟩ := l14_3_all (pg := pg) (V0 := V0) (V7 := V7) (V8 := V8) (V10 := V10) (V12 := V12) (V14 := V14) hn hne hix n 0 H (by omega) hT hl
  refine ⟨H', ?_, q2, q3⟩
  have e1 : (i : Int) < 2 := by omega
  have e2 : wrapR .i64 ((i : Int) + 1) = .i .i64 ((i : Int) + 1) := gX82 (by omega)
  simp only [Int.natCast_zero] at q1
  clear hl hix hT q3
  rw [l14_5, den_loop]
  simp [l14_5, b14_4, gX0, gX1, gX2, gX3, gX4, gX5, gX6, gX7, gX8, gX9, gXa, gXb, gXc, gXd, gXe, gXf, gXg, gXh, gXi, gXj, gXk, gXl, gXm, gXn, gXo, gXp, gXq, gXr, gXs, gXt, gXu, gXv, gXw, gXx, k_mv, gXy, gXz, gX01, gX11, gX21, gX31, gX41, gX51, gX61, gX71, gX81, gX91, gXa1, gXb1, gXc1, gXd1, gXe1, gXf1, gXg1, gXh1, gXi1, gXj1, gXk1, gXl1, gXm1, gXn1, gXo1, gXp1, gXq1, gXr1, gXs1, gXt1, gXu1, k_mn, k_mx, gXv1, gXw1, gXx1, gXy1, gXz1, gX02, gX12, gX22, gX32, gX42, gX52, gX62, gX72, Dn.setLast, Dn.getLast, evalO, mapO, Dn.get, putE, keepE, TV.one, TV.isAgg, Dn.part, e1, e2, go_denK (c := l14_3) rfl, q1]

theorem l14_7_all {pg : Pg} {J : List Line} (hJ : J.length ≤ 1000) {H : Heap} : ∀ (r k : Nat), k + r = J.length →
    ∃ e, den pg l14_7 [(7, LT false J), (8, LT false J), (21, .i .i64 (k : Int))] H = some ⟨.exit 6, e, H⟩
  | 0, k, hk => by
    obtain rfl : k = J.length := by omega
    have ln := LT_len false J
    refine ⟨[(7, LT false J), (8, LT false J), (21, .i .i64 (J.length : Int)), (126, .b false)], ?_⟩
    rw [l14_7, den_loop]
    simp [b14_6, gX0, gX1, gX2, gX3, gX4, gX5, gX6, gX7, gX8, gX9, gXa, gXb, gXc, gXd, gXe, gXf, gXg, gXh, gXi, gXj, gXk, gXl, gXm, gXn, gXo, gXp, gXq, gXr, gXs, gXt, gXu, gXv, gXw, gXx, k_mv, gXy, gXz, gX01, gX11, gX21, gX31, gX41, gX51, gX61, gX71, gX81, gX91, gXa1, gXb1, gXc1, gXd1, gXe1, gXf1, gXg1, gXh1, gXi1, gXj1, gXk1, gXl1, gXm1, gXn1, gXo1, gXp1, gXq1, gXr1, gXs1, gXt1, gXu1, k_mn, k_mx, gXv1, gXw1, gXx1, gXy1, gXz1, gX02, gX12, gX22, gX32, gX42, gX52, gX62, gX72, Dn.setLast, Dn.getLast, evalO, mapO, Dn.get, putE, keepE, TV.one, TV.isAgg, Dn.part, ln]
  | r + 1, k, hk => by
    obtain ⟨x, hx⟩ : ∃ x, J[k]? = some x := ⟨_, List.getElem?_eq_getElem (by omega)⟩
    have ln := LT_len false J
    obtain ⟨q, hq, hat, _⟩ := ixL (pg := pg) (R := den pg) (LT_view false J H) hx
    have hld := ldL (pg := pg) (R := den pg) hat
    have e1 : ((k : Int) < (J.length : Int)) := by omega
    have e2 : wrapR .i64 ((k : Int) + 1) = .i .i64 ((k : Int) + 1) := gX82 (by omega)
    have eq := eqA3L (pg := pg) (R := den pg) x H
    obtain ⟨e, ih⟩ := l14_7_all (pg := pg) hJ (H := H) r (k + 1) (by omega)
    refine ⟨e, Eq.trans ?_ ih⟩
    generalize lineTV x = XT at *
    clear ih hat
    generalize LT false J = L at *
    rw [l14_7, den_loop]
    simp [l14_7, b14_6, gX0, gX1, gX2, gX3, gX4, gX5, gX6, gX7, gX8, gX9, gXa, gXb, gXc, gXd, gXe, gXf, gXg, gXh, gXi, gXj, gXk, gXl, gXm, gXn, gXo, gXp, gXq, gXr, gXs, gXt, gXu, gXv, gXw, gXx, k_mv, gXy, gXz, gX01, gX11, gX21, gX31, gX41, gX51, gX61, gX71, gX81, gX91, gXa1, gXb1, gXc1, gXd1, gXe1, gXf1, gXg1, gXh1, gXi1, gXj1, gXk1, gXl1, gXm1, gXn1, gXo1, gXp1, gXq1, gXr1, gXs1, gXt1, gXu1, k_mn, k_mx, gXv1, gXw1, gXx1, gXy1, gXz1, gX02, gX12, gX22, gX32, gX42, gX52, gX62, gX72, Dn.setLast, Dn.getLast, evalO, mapO, Dn.get, putE, keepE, TV.one, TV.isAgg, Dn.part, ln, e1, e2, hq, hld, eq]

theorem ownI_one {H : Heap} {t : TV} {l : List Int} (h : elI.Own H t l) : t.one = true ∧ t.isAgg = false ∧ t.cells = [t] := by
  rcases h with ⟨rfl, _⟩ | ⟨_, id, ag, c, rfl, _⟩ <;> exact ⟨rfl, rfl, rfl⟩

theorem grR_two {n : Nat} {t t' : TV} (h : grV n t = some t') (k : IntKind) (x : Int) : grR n (.tup [t, .i k x]) = some (.tup [t', .i k x]) := by
  show (mapO (grV n) [t, .i k x]).map TV.tup = _
  have hi : grV n (.i k x) = some (.i k x) := rfl
  simp only [mapO, h, hi, Option.bind_some, Option.map_some]

theorem exJ {n : Int} {l : List Line} (hc : chk n l = 0) (p : Nat) : ∃ J : List Line, (∀ z, z ∈ J ↔ z ∈ js l ∧ can p z = true) ∧ J.length ≤ 80 ∧ Sor J := by
  obtain ⟨hn1, hn2, hl, hf⟩ := chk_ok hc
  have hnd := (chk_sor hc).filter (fun z => can p z)
  refine ⟨((js l).filter fun z => can p z).mergeSort (fun a b => decide (a = b) || lt3 a b), fun z => ?_, ?_, ?_⟩
  · rw [List.mem_mergeSort, List.mem_filter]
  · rw [List.length_mergeSort]
    have h1 := List.length_filter_le (fun z => can p z) (js l)
    have h2 := js_len l
    omega
  · have hp := List.pairwise_mergeSort (le := fun a b => decide (a = b) || lt3 a b) (fun a b c h1 h2 => by
      simp only [Bool.or_eq_true, decide_eq_true_eq] at h1 h2 ⊢
      rcases h1 with rfl | h1
      · exact h2
      · rcases h2 with rfl | h2
        · exact .inr h1
        · exact .inr (sr3_trans h1 h2)) (fun a b => by
      simp only [Bool.or_eq_true, decide_eq_true_eq]
      by_cases e : a = b
      · exact .inl (.inl e)
      · cases h : lt3 a b with
        | true => exact .inl (.inr rfl)
        | false => exact .inr (.inr (sr3_total h e))) ((js l).filter fun z => can p z)
    have hn : (((js l).filter fun z => can p z).mergeSort (fun a b => decide (a = b) || lt3 a b)).Nodup := (List.mergeSort_perm _ _).nodup_iff.2 hnd
    unfold Sor
    refine (hp.and hn).imp ?_
    intro a b ⟨h1, h2⟩
    simp only [Bool.or_eq_true, decide_eq_true_eq] at h1
    exact h1.resolve_left h2

theorem run14 {pg : Pg} (hF : Free pg) (hQ : pg.Q 68 = some 3) (h22 : Fn pg 22 [] (.b true)) (n : Int) (t : TV) (l : List Line) (P : Int) (ht : IsLines t l) :
    ∃ H, bodyRun pg (den pg) 14 [.i .i64 n, t, .i .i64 P] [] = some (.b true, H) := by
  obtain ⟨N, m, hN1, hN2, hm, hc, h18⟩ := call18 hF (n := n) (most := 10) (many := 12) (by omega) ht (by omega)
  simp only [Int.cast_ofNat_Int] at h18
  obtain ⟨k, rfl⟩ : ∃ k : Nat, N = (k : Int) := ⟨N.toNat, by omega⟩
  have hk : k ≤ 16 := by omega
  have e3 : ∀ v, wrapR .u64 v = .i .u64 (IntKind.wrap .u64 v) := fun _ => rfl
  have hrange := posOf_range hk P
  have h2 : ¬ (2 : Int) ^ k = 0 := by omega
  have hpos := posOf_i64 hk P
  have hsh := b_shlu hk
  have hpw : (2 : Int) ^ k ≤ 65536 := by
    have : ∀ k : Nat, k ≤ 16 → (2 : Int) ^ k ≤ 65536 := by decide
    exact this k hk
  obtain ⟨p, hp⟩ : ∃ p : Nat, posOf k P = (p : Int) := ⟨(posOf k P).toNat, by omega⟩
  rw [hp] at hrange hpos
  have hout : outOf (k : Int) (p : Int) = false := by
    simp only [outOf, Int.toNat_natCast]
    simp
    omega
  obtain ⟨J, hJ, hJl, hS⟩ := exJ hc p
  -- the copy
  have f44 : Fn pg 44 [LT true m] (LT false m) := by
    have := fn44 hF (t := LT true m) (l := m) (by
      rcases LT_cases true m with ⟨h, h2⟩ | ⟨h, h2⟩
      · exact .inl ⟨h2, h⟩
      · exact .inr ⟨true, h2⟩)
    rwa [List.take_of_length_le (by omega)] at this
  have c44 := fun H => Fn.call f44 (args := [LT false m]) (ks := []) (fs := []) (cs := []) (H := H) (by simp [snapArgs, LW_snap0])
  -- the three results
  obtain ⟨ta, Ha, ra, oa⟩ := body43 hF hQ hc (p := p) (by omega) hout hJ hS
  obtain ⟨tb, Hb, rb, ob⟩ := body27 hF (n := k) hc
  obtain ⟨S, _, tc, Hc, rc, oc⟩ := body24 (pg := pg) hF hc (p := p) (by omega) hout
  obtain ⟨a1, a2, a3, a4⟩ := own_graft (H := ([] : Heap)) elL_scal oa
  obtain ⟨G1, hG1⟩ : ∃ G1, G1 = ([] : Heap) ++ Ha.map grO := ⟨_, rfl⟩
  rw [← hG1] at a3
  obtain ⟨b1, b2, b3, b4⟩ := own_graft (H := G1) elI_scal ob
  obtain ⟨G2, hG2⟩ : ∃ G2, G2 = G1 ++ Hb.map grO := ⟨_, rfl⟩
  rw [← hG2] at b3
  obtain ⟨c1, c2, c3, c4⟩ := own_graft (H := G2) elI_scal oc
  obtain ⟨G3, hG3⟩ : ∃ G3, G3 = G2 ++ Hc.map grO := ⟨_, rfl⟩
  rw [← hG3] at c3
  have g12 : ∀ j, j < G1.length → G2[j]? = G1[j]? := fun j hj => by rw [hG2, List.getElem?_append_left hj]
  have g23 : ∀ j, j < G2.length → G3[j]? = G2[j]? := fun j hj => by rw [hG3, List.getElem?_append_left hj]
  have l12 : G1.length ≤ G2.length := by rw [hG2, List.length_append]; omega
  have l23 : G2.length ≤ G3.length := by rw [hG3, List.length_append]; omega
  have al := a3.lt; have bl := b3.lt; have cl := c3.lt
  have d43 : callRun pg (den pg) .gr [.fn 43 [] [], .i .i64 (k : Int), LT false m, .i .i64 (p : Int)] [] = some (.tup [a1, .i .i64 0], G1) := by
    rw [hG1]
    exact call_graft (args := [.i .i64 (k : Int), LT false m, .i .i64 (p : Int)]) (by simp [snapArgs, sn_i, LW_snap0]) ra (grR_two a2 _ _)
  have d27 : callRun pg (den pg) .gr [.fn 27 [] [], .i .i64 (k : Int), LT false m] G1 = some (.tup [b1, .i .i64 0], G2) := by
    rw [hG2]
    exact call_graft (args := [.i .i64 (k : Int), LT false m]) (by simp [snapArgs, sn_i, LW_snap0]) rb (grR_two b2 _ _)
  have d24 : callRun pg (den pg) .gr [.fn 24 [] [], .i .i64 (k : Int), LT false m, .i .i64 (p : Int)] G2 = some (.tup [c1, .i .i64 0], G3) := by
    rw [hG3]
    exact call_graft (args := [.i .i64 (k : Int), LT false m, .i .i64 (p : Int)]) (by simp [snapArgs, sn_i, LW_snap0]) rc (grR_two c2 _ _)
  -- the jumps are written over
  have hba : Blk 3 G3 a1 J.length := (Blk.own a3).mono fun id hid => by have := al id hid; rw [g23 _ (by omega), g12 _ this]
  obtain ⟨G4, w1, w2, w3⟩ := l14_1_all (pg := pg) (V0 := .i .i64 (k : Int)) (V7 := LT false m) (V8 := LT false m) (V10 := .i .i64 0) (V11 := b1) (V12 := .i .i64 0) (V13 := c1) (V14 := .i .i64 0) (T := a1) (n := J.length) (by omega) J.length 0 G3 (by omega) hba
  obtain ⟨G5, hG5⟩ : ∃ G5, G5 = G4 ++ [AObj.cells [b1, c1] false] := ⟨_, rfl⟩
  have ob1 := ownI_one b3
  have oc1 := ownI_one c3
  have bs : dkc pg (den pg) (.bsl false [.nilsl] false 2 [0, 1]) [b1, c1] G4 = some (.sl G4.length 0 1 false 2 (some 2), G5) := by
    show dk (.bsl false [.nilsl] false 2 [0, 1]) [b1, c1] G4 = _
    simp [dk, fillP, repl, put2, ob1.1, ob1.2.2, oc1.1, oc1.2.2, hG5, List.replicate]
  have l5 : G5.length = G4.length + 1 := by rw [hG5]; simp
  have g45 : ∀ j, j < G4.length → G5[j]? = G4[j]? := fun j hj => by rw [hG5, List.getElem?_append_left hj]
  have at5 : G5[G4.length]? = some (.cells [b1, c1] false) := by rw [hG5]; exact getLast _ _
  have bl5 : Blk 1 G5 b1 (nI (rulesP k (rowsOf m))).length := (Blk.own b3).mono fun id hid => by
    have h1 := bl id hid
    rw [g45 _ (by omega), w3 id (fun e => by have := al id e; have := b4 id hid; omega), g23 _ h1]
  have cl5 : Blk 1 G5 c1 (posList S).length := (Blk.own c3).mono fun id hid => by
    have h1 := cl id hid
    rw [g45 _ (by omega), w3 id (fun e => by have := al id e; have := c4 id hid; omega)]
  have hrl := (rulesP_len : (rulesP k (rowsOf m)).length ≤ k)
  have hpl : (posList S).length ≤ 65536 := by
    unfold posList
    rw [List.length_map]
    have := List.length_filter_le S (List.range 65536)
    rw [List.length_range] at this
    exact this
  obtain ⟨G6, x1, x2, x3⟩ := l14_5_round (pg := pg) (V0 := .i .i64 (k : Int)) (V7 := LT false m) (V8 := LT false m) (V10 := .i .i64 0) (V12 := .i .i64 0) (V14 := .i .i64 0) (A := .sl G4.length 0 1 false 2 (some 2)) (T := b1) (p0 := .ref G4.length 0) (i := 0) (by omega) (n := (nI (rulesP k (rowsOf m))).length) (by rw [nI_len]; omega) (id := G4.length) (fun e => by have := bl _ e; omega) (fun K => by simp [dkc, dk, bound]) (H := G5) bl5 (fun K hK => by rw [at5] at hK; simp [dkc, dk, hK, Dn.part, ob1.2.1])
  have cl6 : Blk 1 G6 c1 (posList S).length := cl5.mono fun id hid => x3 id fun e => by have := bl id e; have := c4 id hid; omega
  have at6 : G6[G4.length]? = some (.cells [b1, c1] false) := by rw [x3 _ (fun e => by have := bl _ e; omega)]; exact at5
  obtain ⟨G7, y1, y2, y3⟩ := l14_5_round (pg := pg) (V0 := .i .i64 (k : Int)) (V7 := LT false m) (V8 := LT false m) (V10 := .i .i64 0) (V12 := .i .i64 0) (V14 := .i .i64 0) (A := .sl G4.length 0 1 false 2 (some 2)) (T := c1) (p0 := .ref G4.length 1) (i := 1) (by omega) (n := (posList S).length) (by omega) (id := G4.length) (fun e => by have := cl _ e; omega) (fun K => by simp [dkc, dk, bound]) (H := G6) cl6 (fun K hK => by rw [at6] at hK; simp [dkc, dk, hK, Dn.part, oc1.2.1])
  have z1 : den pg l14_5 [(0, .i .i64 (k : Int)), (7, LT false m), (8, LT false m), (10, .i .i64 0), (12, .i .i64 0), (14, .i .i64 0), (16, .sl G4.length 0 1 false 2 (some 2)), (17, .i .i64 2)] G7 = some ⟨.exit 2, [(0, .i .i64 (k : Int)), (7, LT false m), (8, LT false m), (10, .i .i64 0), (12, .i .i64 0), (14, .i .i64 0), (16, .sl G4.length 0 1 false 2 (some 2)), (17, .i .i64 2), (70, .b false)], G7⟩ := by
    rw [l14_5, den_loop]
    simp [b14_4, gX0, gX1, gX2, gX3, gX4, gX5, gX6, gX7, gX8, gX9, gXa, gXb, gXc, gXd, gXe, gXf, gXg, gXh, gXi, gXj, gXk, gXl, gXm, gXn, gXo, gXp, gXq, gXr, gXs, gXt, gXu, gXv, gXw, gXx, k_mv, gXy, gXz, gX01, gX11, gX21, gX31, gX41, gX51, gX61, gX71, gX81, gX91, gXa1, gXb1, gXc1, gXd1, gXe1, gXf1, gXg1, gXh1, gXi1, gXj1, gXk1, gXl1, gXm1, gXn1, gXo1, gXp1, gXq1, gXr1, gXs1, gXt1, gXu1, k_mn, k_mx, gXv1, gXw1, gXx1, gXy1, gXz1, gX02, gX12, gX22, gX32, gX42, gX52, gX62, gX72, Dn.setLast, Dn.getLast, evalO, mapO, Dn.get, putE, keepE, TV.one, TV.isAgg, Dn.part]
  have r5 := x1.trans (y1.trans z1)
  -- the rules once more
  obtain ⟨u1, u2, u3, u4⟩ := own_graft (H := G7) elI_scal ob
  obtain ⟨G8, hG8⟩ : ∃ G8, G8 = G7 ++ Hb.map grO := ⟨_, rfl⟩
  rw [← hG8] at u3
  have d27b : callRun pg (den pg) .gr [.fn 27 [] [], .i .i64 (k : Int), LT false m] G7 = some (.tup [u1, .i .i64 0], G8) := by
    rw [hG8]
    exact call_graft (args := [.i .i64 (k : Int), LT false m]) (by simp [snapArgs, sn_i, LW_snap0]) rb (grR_two u2 _ _)
  have c29 := fun H => Fn.call (fn29 hF (n := k) hc) (args := [.i .i64 (k : Int), LT false m]) (ks := []) (fs := []) (cs := []) (H := H) (by simp [snapArgs, sn_i, LW_snap0])
  have c26 := Fn.call (fn26 (pg := pg) hF (A := elI.lt true (nI (rulesP k (rowsOf m)))) (B := elI.lt true (nI (rulesP k (rowsOf m)))) (l := nI (rulesP k (rowsOf m))) (fun H => El.lt_view _ _ _) (fun H => El.lt_view _ _ _) (by rw [nI_len]; omega)) (args := [u1, elI.lt false (nI (rulesP k (rowsOf m)))]) (ks := []) (fs := []) (cs := []) (H := G8) (by simp [snapArgs, u3.snap elI_flat, El.lt_snap elI_flat])
  obtain ⟨e7, q7⟩ := l14_7_all (pg := pg) (J := m) (by omega) (H := G8) m.length 0 (by omega)
  have c22 := Fn.call h22 (args := []) (ks := []) (fs := []) (cs := []) (H := G8) (by simp [snapArgs])
  have ln := LT_len false m
  simp only [Int.natCast_zero] at w1 r5 q7
  refine ⟨G8, bodyRun_of (o := ⟨.ret, [(6, .b true)], G8⟩) (vs := [.b true]) (d := Try.Dn.d14) (by rw [hF.F]; rfl) rfl ?_ (by simp) rfl⟩
  rw [runC_go]
  show go pg (den pg) [.c c14] .normal [(0, .i .i64 n), (1, t), (2, .i .i64 P)] [] = _
  clear hS hJ f44 ra rb rc oa ob oc a2 a3 a4 b2 b3 b4 c2 c3 c4 hG1 hG2 hG3 g12 g23 l12 l23 al bl cl hba w2 w3 hG5 ob1 oc1 l5 g45 at5 bl5 cl5 hrl hpl x1 x2 x3 cl6 at6 y1 y2 y3 z1 u2 u3 u4 hG8
  generalize elI.lt false (nI (rulesP k (rowsOf m))) = RV at *
  generalize (TV.sl G4.length 0 1 false 2 (some 2)) = A at *
  generalize LT false m = M at *
  simp [c14, gX0, gX1, gX2, gX3, gX4, gX5, gX6, gX7, gX8, gX9, gXa, gXb, gXc, gXd, gXe, gXf, gXg, gXh, gXi, gXj, gXk, gXl, gXm, gXn, gXo, gXp, gXq, gXr, gXs, gXt, gXu, gXv, gXw, gXx, k_mv, gXy, gXz, gX01, gX11, gX21, gX31, gX41, gX51, gX61, gX71, gX81, gX91, gXa1, gXb1, gXc1, gXd1, gXe1, gXf1, gXg1, gXh1, gXi1, gXj1, gXk1, gXl1, gXm1, gXn1, gXo1, gXp1, gXq1, gXr1, gXs1, gXt1, gXu1, k_mn, k_mx, gXv1, gXw1, gXx1, gXy1, gXz1, gX02, gX12, gX22, gX32, gX42, gX52, gX62, gX72, Dn.setLast, Dn.getLast, evalO, mapO, Dn.get, putE, keepE, TV.one, TV.isAgg, Dn.part, h18, c44, e3, hsh, b_rem, h2, hpos, d43, d27, d24, go_denK (c := l14_1) rfl, w1, bs, go_denK (c := l14_5) rfl, r5, d27b, c29, c26, ln, go_denK (c := l14_7) rfl, q7, c22]

end Go.Proofs.Try.Dn

