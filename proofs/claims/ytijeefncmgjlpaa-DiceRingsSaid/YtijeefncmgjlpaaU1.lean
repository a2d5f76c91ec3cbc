/-
  The reference's rings and rank lists, where they are right.
-/
import Derived.Test.YtijeefncmgjlpaaT8
import Derived.Test.YtijeefncmgjlpaaTH
set_option linter.unusedSimpArgs false
set_option linter.unusedVariables false

set_option maxHeartbeats 4000000
set_option maxRecDepth 100000
namespace Go.Proofs.Try.Dn
open Go.Dn

/-! rows of truth values in memory -/
def gH (G : Nat → Bool) (M : Nat) : List TV := (List.range M).map fun t => .b (G t)
theorem gH_len (G : Nat → Bool) (M : Nat) : (gH G M).length = M := by simp [gH]
theorem gH_at {G : Nat → Bool} {M t : Nat} (h : t < M) : (gH G M)[t]? = some (.b (G t)) := by
  unfold gH; rw [List.getElem?_map, List.getElem?_range h]; rfl
theorem gH_put {G : Nat → Bool} {M t : Nat} (h : t < M) (v : Bool) : put2 (gH G M) t [.b v] = gH (fun u => if u = t then v else G u) M := by
  apply List.ext_getElem?
  intro i
  unfold put2
  have hl := gH_len G M
  by_cases hi : i < M
  · rw [gH_at hi]
    rcases Nat.lt_trichotomy i t with h1 | rfl | h1
    · rw [List.append_assoc, List.getElem?_append_left (by simp; omega), List.getElem?_take, if_pos h1, gH_at hi, if_neg (by omega)]
    · rw [List.append_assoc, List.getElem?_append_right (by simp; omega)]
      simp; rw [show min i (gH G M).length = i by omega]; simp
    · rw [List.getElem?_append_right (by simp; omega)]
      simp only [List.length_append, List.length_take, List.length_singleton, List.getElem?_drop]
      rw [show t + 1 + (i - (min t (gH G M).length + 1)) = i by omega, gH_at hi, if_neg (by omega)]
  · rw [List.getElem?_eq_none (by simp; omega), List.getElem?_eq_none (by rw [gH_len]; omega)]

structure RowH (H : Heap) (id M : Nat) (G : Nat → Bool) : Prop where
  at_ : H[id]? = some (.cells (gH G M) false)

theorem RowH.ix {pg : Pg} (H : Heap) (id : Nat) {M : Nat} {x : Int} (h0 : 0 ≤ x) (hx : x < (M : Int)) : dkc pg (den pg) (.ixS 1 false) [.sl id 0 1 false M (some M), .i .i64 x] H = some (.ref id x.toNat, H) := by
  have h1 : x.toNat < M := by omega
  simp [dkc, dk, bound, h0, h1]
theorem RowH.ld {pg : Pg} {H : Heap} {id M t : Nat} {G : Nat → Bool} (h : RowH H id M G) (ht : t < M) : dkc pg (den pg) (.ld 1 false) [.ref id t] H = some (.b (G t), H) := by
  show dk (.ld 1 false) [.ref id t] H = _
  simp [dk, h.at_, Dn.part, gH_at ht, TV.isAgg]
theorem RowH.st {pg : Pg} {H : Heap} {id M t : Nat} {G : Nat → Bool} (h : RowH H id M G) (ht : t < M) (v : Bool) : ∃ H', dkc pg (den pg) (.st 1) [.ref id t, .b v] H = some (.undef, H') ∧ RowH H' id M (fun u => if u = t then v else G u) ∧ (∀ j, j ≠ id → H'[j]? = H[j]?) ∧ H'.length = H.length := by
  have hlt := (List.getElem?_eq_some_iff.1 h.at_).1
  refine ⟨H.set id (.cells (gH (fun u => if u = t then v else G u) M) false), ?_, ⟨by simp [hlt]⟩, fun j hj => List.getElem?_set_ne (Ne.symm hj), by simp⟩
  show dk (.st 1) [.ref id t, .b v] H = _
  simp only [dk, h.at_, TV.cells, List.length_singleton]
  rw [if_pos ⟨trivial, rfl, by rw [gH_len]; omega⟩, gH_put ht]
theorem RowH.alloc {pg : Pg} (H : Heap) {M : Nat} (hM : M ≤ 1000000) : ∃ H', dkc pg (den pg) (.mksl [.b false] false 1) [.i .i64 (M : Int), .i .i64 (M : Int)] H = some (.sl H.length 0 1 false M (some M), H') ∧ RowH H' H.length M (fun _ => false) ∧ ∀ j, j < H.length → H'[j]? = H[j]? := by
  refine ⟨H ++ [.cells (gH (fun _ => false) M) false], ?_, ⟨getLast _ _⟩, fun j hj => List.getElem?_append_left hj⟩
  show dk (.mksl [.b false] false 1) [.i .i64 (M : Int), .i .i64 (M : Int)] H = _
  simp only [dk, bound, Int.natCast_nonneg, if_true, Option.bind_some, Int.toNat_natCast]
  rw [if_pos ⟨Nat.le_refl _, by omega, by omega⟩]
  congr 4
  simp only [repl, gH, List.map_const', List.length_range]

def Idx (n : Nat) (l : List Int) : Prop := l.Nodup ∧ ∀ x ∈ l, 0 ≤ x ∧ x < (n : Int)

theorem ixIn {pg : Pg} {l : List Int} {i : Nat} {x : Int} (hx : l[i]? = some x) (H : Heap) : ∃ p, dkc pg (den pg) (.ixS 1 false) [elI.lt true l, .i .i64 (i : Int)] H = some (p, H) ∧ dkc pg (den pg) (.ld 1 false) [p] H = some (.i .i64 x, H) :=
  ixI (pg := pg) (R := den pg) (ltV elI true H l) hx

theorem l67_1_all {pg : Pg} {n : Nat} {l : List Int} (hI : Idx n l) (hl : l.length ≤ 1000000) : ∀ (r k : Nat) (H : Heap), k + r = l.length → RowH H 0 n (fun t => decide ((t : Int) ∈ l.take k)) →
    ∃ e H', den pg l67_1 [(0, elI.lt true l), (1, .i .i64 (n : Int)), (5, .sl 0 0 1 false n (some n)), (6, .i .i64 (k : Int))] H = some ⟨.exit 0, e, H'⟩
  | 0, k, H, hk, h => by
    obtain rfl : k = l.length := by omega
    have ln := lnB elI true l
    refine ⟨[(0, elI.lt true l), (1, .i .i64 (n : Int)), (5, .sl 0 0 1 false n (some n)), (6, .i .i64 (l.length : Int)), (12, .b false)], H, ?_⟩
    clear h
    generalize elI.lt true l = L at *
    generalize (l.length : Int) = M at *
    generalize (n : Int) = N at *
    generalize (TV.sl 0 0 1 false n (some n)) = O at *
    rw [l67_1, den_loop]
    simp (disch := omega) [b67_0, gX0, gX1, gX2, gX3, gX4, gX5, gX6, gX7, gX8, gX9, gXa, gXb, gXc, gXd, gXe, gXf, gXg, gXh, gXi, gXj, gXk, gXl, gXm, gXn, gXo, gXp, gXq, gXr, gXs, gXt, gXu, gXv, gXw, gXx, k_mv, gXy, gXz, gX01, gX11, gX21, gX31, gX41, gX51, gX61, gX71, gX81, gX91, gXa1, gXb1, gXc1, gXd1, gXe1, gXf1, gXg1, gXh1, gXi1, gXj1, gXk1, gXl1, gXm1, gXn1, gXo1, gXp1, gXq1, gXr1, gXs1, gXt1, gXu1, k_mn, k_mx, gXv1, gXw1, gXx1, gXy1, gXz1, gX02, gX12, gX22, gX32, gX42, gX52, gX62, gX72, Dn.setLast, Dn.getLast, evalO, mapO, Dn.get, putE, gX82, gX92, gXa2, gXb2, TV.one, TV.isAgg, Dn.part, gXc2, negb, at0, at1, at2, at3, at4, dT, dF, gXd2, Option.bind_some, Option.map_some, ln]
  | r + 1, k, H, hk, h => by
    have ln := lnB elI true l
    obtain ⟨x, hx⟩ : ∃ x, l[k]? = some x := ⟨_, List.getElem?_eq_getElem (by omega)⟩
    have hxb := hI.2 x (List.mem_of_getElem? hx)
    obtain ⟨p, p1, p2⟩ := ixIn (pg := pg) hx H
    have ix := RowH.ix (pg := pg) H 0 (M := n) hxb.1 hxb.2
    have ld := h.ld (pg := pg) (t := x.toNat) (by omega)
    have hex : ((x.toNat : Nat) : Int) = x := by omega
    have hnot : decide (((x.toNat : Nat) : Int) ∈ l.take k) = false := by
      rw [hex]
      refine decide_eq_false fun hm => ?_
      obtain ⟨i, hi, e⟩ := List.getElem_of_mem hm
      rw [List.length_take] at hi
      rw [List.getElem_take] at e
      have h2 := (List.pairwise_iff_getElem.1 hI.1) i k (by omega) (by omega) (by omega)
      have h3 := List.getElem?_eq_getElem (l := l) (i := k) (by omega)
      rw [hx] at h3
      exact h2 (e.trans (Option.some.inj h3))
    rw [hnot] at ld
    obtain ⟨H1, s1, s2, -, -⟩ := h.st (pg := pg) (t := x.toNat) (by omega) true
    have hG : (fun u => if u = x.toNat then true else decide ((u : Int) ∈ l.take k)) = fun u : Nat => decide ((u : Int) ∈ l.take (k + 1)) := by
      funext u
      rw [List.take_add_one, hx, Option.toList_some]
      by_cases hu : u = x.toNat
      · subst hu
        rw [if_pos rfl, hex]; simp
      · rw [if_neg hu]
        have : ¬ (u : Int) = x := by omega
        simp [this]
    rw [hG] at s2
    obtain ⟨e, H', q⟩ := l67_1_all (pg := pg) hI hl r (k + 1) H1 (by omega) s2
    refine ⟨e, H', Eq.trans ?_ q⟩
    have w2 : wrapR .i64 ((k : Int) + 1) = .i .i64 ((k + 1 : Nat) : Int) := by rw [← Int.natCast_succ]; exact gXd2 (by omega)
    have dd : decide ((k : Int) < (l.length : Int)) = true := dT (by omega)
    have d1 : decide (x < 0) = false := dF (by omega)
    have d2 : decide (x ≥ (n : Int)) = false := dF (by omega)
    clear h s2 hG q hnot hI hx hex hk
    generalize elI.lt true l = L at *
    generalize (l.length : Int) = M at *
    generalize (n : Int) = N at *
    generalize (TV.sl 0 0 1 false n (some n)) = O at *
    generalize TV.ref 0 x.toNat = RR at *
    generalize ((k + 1 : Nat) : Int) = K2 at *
    generalize (k : Int) = K at *
    rw [l67_1, den_loop]
    simp (disch := omega) [l67_1, b67_0, gX0, gX1, gX2, gX3, gX4, gX5, gX6, gX7, gX8, gX9, gXa, gXb, gXc, gXd, gXe, gXf, gXg, gXh, gXi, gXj, gXk, gXl, gXm, gXn, gXo, gXp, gXq, gXr, gXs, gXt, gXu, gXv, gXw, gXx, k_mv, gXy, gXz, gX01, gX11, gX21, gX31, gX41, gX51, gX61, gX71, gX81, gX91, gXa1, gXb1, gXc1, gXd1, gXe1, gXf1, gXg1, gXh1, gXi1, gXj1, gXk1, gXl1, gXm1, gXn1, gXo1, gXp1, gXq1, gXr1, gXs1, gXt1, gXu1, k_mn, k_mx, gXv1, gXw1, gXx1, gXy1, gXz1, gX02, gX12, gX22, gX32, gX42, gX52, gX62, gX72, Dn.setLast, Dn.getLast, evalO, mapO, Dn.get, putE, gX82, gX92, gXa2, gXb2, TV.one, TV.isAgg, Dn.part, gXc2, negb, at0, at1, at2, at3, at4, dT, dF, gXd2, Option.bind_some, Option.map_some, ln, dd, p1, p2, d1, d2, ix, ld, s1, w2]

theorem fn67 {pg : Pg} (hF : Free pg) {n : Nat} (hn : n ≤ 1000000) {l : List Int} (hI : Idx n l) (hl : l.length ≤ 1000000) : PFn pg 67 [elI.lt true l, .i .i64 (n : Int)] (.b true) := by
  obtain ⟨H1, m1, m2, -⟩ := RowH.alloc (pg := pg) [] hn
  have h0 : RowH H1 0 n (fun t => decide ((t : Int) ∈ l.take 0)) := by
    have e : (fun t : Nat => decide ((t : Int) ∈ l.take 0)) = fun _ => false := by funext t; simp
    rw [e]; exact m2
  obtain ⟨e, H', q⟩ := l67_1_all (pg := pg) hI hl l.length 0 H1 (by omega) h0
  refine .of1 (x := .ret) (e := [(4, .b true)]) (H' := H') (hF.S _ _) (d := d67) (by rw [hF.F]; rfl) rfl ?_ (.inl rfl) rfl (by simp [sn_i, sn_b, gXe2, gXf2, gXg2, gXh2, gXi2, gXj2, gXk2, gXl2, gXm2, gXn2, gXo2, gXp2, mapO, elems])
  simp only [Int.natCast_zero, List.length_nil] at q m1
  clear h0 m2
  generalize elI.lt true l = L at *
  generalize (TV.sl 0 0 1 false n (some n)) = O at *
  generalize (n : Int) = N at *
  simp (disch := omega) [d67, c67, zipE, gX0, gX1, gX2, gX3, gX4, gX5, gX6, gX7, gX8, gX9, gXa, gXb, gXc, gXd, gXe, gXf, gXg, gXh, gXi, gXj, gXk, gXl, gXm, gXn, gXo, gXp, gXq, gXr, gXs, gXt, gXu, gXv, gXw, gXx, k_mv, gXy, gXz, gX01, gX11, gX21, gX31, gX41, gX51, gX61, gX71, gX81, gX91, gXa1, gXb1, gXc1, gXd1, gXe1, gXf1, gXg1, gXh1, gXi1, gXj1, gXk1, gXl1, gXm1, gXn1, gXo1, gXp1, gXq1, gXr1, gXs1, gXt1, gXu1, k_mn, k_mx, gXv1, gXw1, gXx1, gXy1, gXz1, gX02, gX12, gX22, gX32, gX42, gX52, gX62, gX72, Dn.setLast, Dn.getLast, evalO, mapO, Dn.get, putE, gX82, gX92, gXa2, gXb2, TV.one, TV.isAgg, Dn.part, gXc2, negb, at0, at1, at2, at3, at4, dT, dF, gXd2, Option.bind_some, Option.map_some, m1, go_denK (c := l67_1) rfl, q]

theorem call67 {pg : Pg} (hF : Free pg) {n : Nat} (hn : n ≤ 1000000) {l : List Int} (hI : Idx n l) (hl : l.length ≤ 1000000) (H : Heap) : callRun pg (den pg) (.pu []) [.fn 67 [] [], elI.lt true l, .i .i64 (n : Int)] H = some (.b true, H) :=
  PFn.call (fn67 hF hn hI hl) (args := [elI.lt true l, .i .i64 (n : Int)]) (ks := []) (fs := []) (cs := []) (by simp [snapArgs, sn_i, El.lt_snap elI_flat])

def ed (ls : List (List Int)) (x y : Int) : Bool := bt (ls.getD x.toNat []) (ls.getD y.toNat [])

theorem rowAt {pg : Pg} {T : TV} {ls : List (List Int)} (hT : SSV T ls) {x : Int} (h0 : 0 ≤ x) (hx : x < (ls.length : Int)) (H : Heap) : ∃ p a, dkc pg (den pg) (.ixS 1 false) [T, .i .i64 x] H = some (p, H) ∧ dkc pg (den pg) (.ld 1 false) [p] H = some (a, H) ∧ SV a (ls.getD x.toNat []) ∧ ls.getD x.toNat [] ∈ ls := by
  have hlt : x.toNat < ls.length := by omega
  have hd : ls[x.toNat]? = some (ls.getD x.toNat []) := by rw [List.getD_eq_getElem?_getD, List.getElem?_eq_getElem hlt]; rfl
  obtain ⟨p, a, p1, p2, p3⟩ := hT.ix (pg := pg) (R := den pg) hd H
  rw [show ((x.toNat : Nat) : Int) = x by omega] at p1
  exact ⟨p, a, p1, p2, p3, List.mem_of_getElem? hd⟩

def RingL (ls : List (List Int)) (l : List Int) : Prop := 3 ≤ l.length ∧ Idx ls.length l ∧ ∀ (i : Nat) (x y : Int), l[i]? = some x → l[(i + 1) % l.length]? = some y → ed ls x y = true
def RankL (ls : List (List Int)) (l : List Int) : Prop := l.length = ls.length ∧ Idx ls.length l ∧ ∀ (i k : Nat) (x y : Int), k < i → l[i]? = some x → l[k]? = some y → ed ls x y = false

theorem l38_1_all {pg : Pg} (hF : Free pg) {T : TV} {ls : List (List Int)} (hT : SSV T ls) (hn : ls.length ≤ 100) (hL : ∀ d ∈ ls, d.length ≤ 100) {l : List Int} (hr : RingL ls l) (hl : l.length ≤ 1000) : ∀ (r k : Nat), k + r = l.length →
    ∃ e, den pg l38_1 [(0, T), (1, elI.lt true l), (5, .i .i64 (k : Int))] [] = some ⟨.exit 0, e, []⟩
  | 0, k, hk => by
    obtain rfl : k = l.length := by omega
    have ln := lnB elI true l
    refine ⟨[(0, T), (1, elI.lt true l), (5, .i .i64 (l.length : Int)), (19, .b false)], ?_⟩
    generalize elI.lt true l = L at *
    generalize (l.length : Int) = M at *
    rw [l38_1, den_loop]
    simp (disch := omega) [b38_0, gX0, gX1, gX2, gX3, gX4, gX5, gX6, gX7, gX8, gX9, gXa, gXb, gXc, gXd, gXe, gXf, gXg, gXh, gXi, gXj, gXk, gXl, gXm, gXn, gXo, gXp, gXq, gXr, gXs, gXt, gXu, gXv, gXw, gXx, k_mv, gXy, gXz, gX01, gX11, gX21, gX31, gX41, gX51, gX61, gX71, gX81, gX91, gXa1, gXb1, gXc1, gXd1, gXe1, gXf1, gXg1, gXh1, gXi1, gXj1, gXk1, gXl1, gXm1, gXn1, gXo1, gXp1, gXq1, gXr1, gXs1, gXt1, gXu1, k_mn, k_mx, gXv1, gXw1, gXx1, gXy1, gXz1, gX02, gX12, gX22, gX32, gX42, gX52, gX62, gX72, Dn.setLast, Dn.getLast, evalO, mapO, Dn.get, putE, gX82, gX92, gXa2, gXb2, TV.one, TV.isAgg, Dn.part, gXc2, negb, at0, at1, at2, at3, at4, dT, dF, gXd2, Option.bind_some, Option.map_some, ln]
  | r + 1, k, hk => by
    have ln := lnB elI true l
    have hpos : 1 ≤ l.length := by omega
    have hm : (k + 1) % l.length < l.length := Nat.mod_lt _ hpos
    obtain ⟨x, hx⟩ : ∃ x, l[k]? = some x := ⟨_, List.getElem?_eq_getElem (by omega)⟩
    obtain ⟨y, hy⟩ : ∃ y, l[(k + 1) % l.length]? = some y := ⟨_, List.getElem?_eq_getElem hm⟩
    have hxb := hr.2.1.2 x (List.mem_of_getElem? hx)
    have hyb := hr.2.1.2 y (List.mem_of_getElem? hy)
    obtain ⟨p, p1, p2⟩ := ixIn (pg := pg) hx []
    obtain ⟨q, q1, q2⟩ := ixIn (pg := pg) hy []
    obtain ⟨u, a, u1, u2, u3, u4⟩ := rowAt (pg := pg) hT hxb.1 hxb.2 []
    obtain ⟨v, b, v1, v2, v3, v4⟩ := rowAt (pg := pg) hT hyb.1 hyb.2 []
    have c30 := call30 (pg := pg) hF u3 v3 (hL _ u4) (hL _ v4) []
    have he : bt (ls.getD x.toNat []) (ls.getD y.toNat []) = true := hr.2.2 k x y hx hy
    rw [he] at c30
    have w2 : wrapR .i64 ((k : Int) + 1) = .i .i64 ((k + 1 : Nat) : Int) := by rw [← Int.natCast_succ]; exact gXd2 (by omega)
    have rm := b_remN (a := k + 1) (x := l.length) hpos
    have dd : decide ((k : Int) < (l.length : Int)) = true := dT (by omega)
    obtain ⟨e, g⟩ := l38_1_all (pg := pg) hF hT hn hL hr hl r (k + 1) (by omega)
    refine ⟨e, Eq.trans ?_ g⟩
    clear hr g he hx hy u3 u4 v3 v4 hk hT
    generalize elI.lt true l = L at *
    generalize (((k + 1) % l.length : Nat) : Int) = K3 at *
    generalize ((k + 1 : Nat) : Int) = K2 at *
    generalize (k : Int) = K at *
    generalize (l.length : Int) = M at *
    rw [l38_1, den_loop]
    simp (disch := omega) [l38_1, b38_0, gX0, gX1, gX2, gX3, gX4, gX5, gX6, gX7, gX8, gX9, gXa, gXb, gXc, gXd, gXe, gXf, gXg, gXh, gXi, gXj, gXk, gXl, gXm, gXn, gXo, gXp, gXq, gXr, gXs, gXt, gXu, gXv, gXw, gXx, k_mv, gXy, gXz, gX01, gX11, gX21, gX31, gX41, gX51, gX61, gX71, gX81, gX91, gXa1, gXb1, gXc1, gXd1, gXe1, gXf1, gXg1, gXh1, gXi1, gXj1, gXk1, gXl1, gXm1, gXn1, gXo1, gXp1, gXq1, gXr1, gXs1, gXt1, gXu1, k_mn, k_mx, gXv1, gXw1, gXx1, gXy1, gXz1, gX02, gX12, gX22, gX32, gX42, gX52, gX62, gX72, Dn.setLast, Dn.getLast, evalO, mapO, Dn.get, putE, gX82, gX92, gXa2, gXb2, TV.one, TV.isAgg, Dn.part, gXc2, negb, at0, at1, at2, at3, at4, dT, dF, gXd2, Option.bind_some, Option.map_some, ln, dd, p1, p2, q1, q2, u1, u2, v1, v2, rm, c30, w2]

theorem fn38 {pg : Pg} (hF : Free pg) {T : TV} {ls : List (List Int)} (hT : SSV T ls) (hn : ls.length ≤ 100) (hL : ∀ d ∈ ls, d.length ≤ 100) {l : List Int} (hr : RingL ls l) (hl : l.length ≤ 1000) : PFn pg 38 [T, elI.lt true l] (.b true) := by
  obtain ⟨e, q⟩ := l38_1_all (pg := pg) hF hT hn hL hr hl l.length 0 (by omega)
  have c67 := call67 (pg := pg) hF (by omega) hr.2.1 (by omega) []
  have ln := lnB elI true l
  have lt := lnS hT
  have d3 : decide ((l.length : Int) < 3) = false := dF (by have := hr.1; omega)
  refine .of1 (x := .ret) (e := [(4, .b true)]) (H' := []) (hF.S _ _) (d := d38) (by rw [hF.F]; rfl) rfl ?_ (.inl rfl) rfl (by simp [sn_i, sn_b, gXe2, gXf2, gXg2, gXh2, gXi2, gXj2, gXk2, gXl2, gXm2, gXn2, gXo2, gXp2, mapO, elems])
  simp only [Int.natCast_zero] at q
  clear hr hT
  generalize elI.lt true l = L at *
  generalize (l.length : Int) = M at *
  generalize (ls.length : Int) = N at *
  simp (disch := omega) [d38, c38, zipE, gX0, gX1, gX2, gX3, gX4, gX5, gX6, gX7, gX8, gX9, gXa, gXb, gXc, gXd, gXe, gXf, gXg, gXh, gXi, gXj, gXk, gXl, gXm, gXn, gXo, gXp, gXq, gXr, gXs, gXt, gXu, gXv, gXw, gXx, k_mv, gXy, gXz, gX01, gX11, gX21, gX31, gX41, gX51, gX61, gX71, gX81, gX91, gXa1, gXb1, gXc1, gXd1, gXe1, gXf1, gXg1, gXh1, gXi1, gXj1, gXk1, gXl1, gXm1, gXn1, gXo1, gXp1, gXq1, gXr1, gXs1, gXt1, gXu1, k_mn, k_mx, gXv1, gXw1, gXx1, gXy1, gXz1, gX02, gX12, gX22, gX32, gX42, gX52, gX62, gX72, Dn.setLast, Dn.getLast, evalO, mapO, Dn.get, putE, gX82, gX92, gXa2, gXb2, TV.one, TV.isAgg, Dn.part, gXc2, negb, at0, at1, at2, at3, at4, dT, dF, gXd2, Option.bind_some, Option.map_some, ln, lt, d3, c67, go_denK (c := l38_1) rfl, q]

theorem l39_1_all {pg : Pg} (hF : Free pg) {T : TV} {ls : List (List Int)} (hT : SSV T ls) (hL : ∀ d ∈ ls, d.length ≤ 100) {l : List Int} (hr : RankL ls l) (hl : l.length ≤ 1000) {i : Nat} {x : Int} (hx : l[i]? = some x) : ∀ (r k : Nat), k + r = i →
    ∃ e, den pg l39_1 [(0, T), (1, elI.lt true l), (5, .i .i64 (i : Int)), (6, .i .i64 (k : Int))] [] = some ⟨.exit 2, (0, T) :: (1, elI.lt true l) :: (5, .i .i64 (i : Int)) :: e, []⟩
  | 0, k, hk => by
    obtain rfl : k = i := by omega
    refine ⟨[(6, .i .i64 (k : Int)), (27, .b false)], ?_⟩
    generalize elI.lt true l = L at *
    generalize (k : Int) = K at *
    rw [l39_1, den_loop]
    simp (disch := omega) [b39_0, gX0, gX1, gX2, gX3, gX4, gX5, gX6, gX7, gX8, gX9, gXa, gXb, gXc, gXd, gXe, gXf, gXg, gXh, gXi, gXj, gXk, gXl, gXm, gXn, gXo, gXp, gXq, gXr, gXs, gXt, gXu, gXv, gXw, gXx, k_mv, gXy, gXz, gX01, gX11, gX21, gX31, gX41, gX51, gX61, gX71, gX81, gX91, gXa1, gXb1, gXc1, gXd1, gXe1, gXf1, gXg1, gXh1, gXi1, gXj1, gXk1, gXl1, gXm1, gXn1, gXo1, gXp1, gXq1, gXr1, gXs1, gXt1, gXu1, k_mn, k_mx, gXv1, gXw1, gXx1, gXy1, gXz1, gX02, gX12, gX22, gX32, gX42, gX52, gX62, gX72, Dn.setLast, Dn.getLast, evalO, mapO, Dn.get, putE, gX82, gX92, gXa2, gXb2, TV.one, TV.isAgg, Dn.part, gXc2, negb, at0, at1, at2, at3, at4, dT, dF, gXd2, Option.bind_some, Option.map_some]
  | r + 1, k, hk => by
    have hi := (List.getElem?_eq_some_iff.1 hx).1
    obtain ⟨y, hy⟩ : ∃ y, l[k]? = some y := ⟨_, List.getElem?_eq_getElem (by omega)⟩
    have hxb := hr.2.1.2 x (List.mem_of_getElem? hx)
    have hyb := hr.2.1.2 y (List.mem_of_getElem? hy)
    obtain ⟨p, p1, p2⟩ := ixIn (pg := pg) hx []
    obtain ⟨q, q1, q2⟩ := ixIn (pg := pg) hy []
    obtain ⟨u, a, u1, u2, u3, u4⟩ := rowAt (pg := pg) hT hxb.1 hxb.2 []
    obtain ⟨v, b, v1, v2, v3, v4⟩ := rowAt (pg := pg) hT hyb.1 hyb.2 []
    have c30 := call30 (pg := pg) hF u3 v3 (hL _ u4) (hL _ v4) []
    have he : bt (ls.getD x.toNat []) (ls.getD y.toNat []) = false := hr.2.2 i k x y (by omega) hx hy
    rw [he] at c30
    have w2 : wrapR .i64 ((k : Int) + 1) = .i .i64 ((k + 1 : Nat) : Int) := by rw [← Int.natCast_succ]; exact gXd2 (by omega)
    have dd : decide ((k : Int) < (i : Int)) = true := dT (by omega)
    obtain ⟨e, g⟩ := l39_1_all (pg := pg) hF hT hL hr hl hx r (k + 1) (by omega)
    refine ⟨e, Eq.trans ?_ g⟩
    clear hr g he hx hy u3 u4 v3 v4 hk hT
    generalize elI.lt true l = L at *
    generalize ((k + 1 : Nat) : Int) = K2 at *
    generalize (k : Int) = K at *
    generalize (i : Int) = I at *
    rw [l39_1, den_loop]
    simp (disch := omega) [l39_1, b39_0, gX0, gX1, gX2, gX3, gX4, gX5, gX6, gX7, gX8, gX9, gXa, gXb, gXc, gXd, gXe, gXf, gXg, gXh, gXi, gXj, gXk, gXl, gXm, gXn, gXo, gXp, gXq, gXr, gXs, gXt, gXu, gXv, gXw, gXx, k_mv, gXy, gXz, gX01, gX11, gX21, gX31, gX41, gX51, gX61, gX71, gX81, gX91, gXa1, gXb1, gXc1, gXd1, gXe1, gXf1, gXg1, gXh1, gXi1, gXj1, gXk1, gXl1, gXm1, gXn1, gXo1, gXp1, gXq1, gXr1, gXs1, gXt1, gXu1, k_mn, k_mx, gXv1, gXw1, gXx1, gXy1, gXz1, gX02, gX12, gX22, gX32, gX42, gX52, gX62, gX72, Dn.setLast, Dn.getLast, evalO, mapO, Dn.get, putE, gX82, gX92, gXa2, gXb2, TV.one, TV.isAgg, Dn.part, gXc2, negb, at0, at1, at2, at3, at4, dT, dF, gXd2, Option.bind_some, Option.map_some, dd, p1, p2, q1, q2, u1, u2, v1, v2, c30, w2]

theorem l39_3_all {pg : Pg} (hF : Free pg) {T : TV} {ls : List (List Int)} (hT : SSV T ls) (hL : ∀ d ∈ ls, d.length ≤ 100) {l : List Int} (hr : RankL ls l) (hl : l.length ≤ 1000) : ∀ (r i : Nat), i + r = l.length →
    ∃ e, den pg l39_3 [(0, T), (1, elI.lt true l), (5, .i .i64 (i : Int))] [] = some ⟨.exit 0, e, []⟩
  | 0, i, hi => by
    obtain rfl : i = l.length := by omega
    have ln := lnB elI true l
    refine ⟨[(0, T), (1, elI.lt true l), (5, .i .i64 (l.length : Int)), (22, .b false)], ?_⟩
    generalize elI.lt true l = L at *
    generalize (l.length : Int) = M at *
    rw [l39_3, den_loop]
    simp (disch := omega) [b39_2, gX0, gX1, gX2, gX3, gX4, gX5, gX6, gX7, gX8, gX9, gXa, gXb, gXc, gXd, gXe, gXf, gXg, gXh, gXi, gXj, gXk, gXl, gXm, gXn, gXo, gXp, gXq, gXr, gXs, gXt, gXu, gXv, gXw, gXx, k_mv, gXy, gXz, gX01, gX11, gX21, gX31, gX41, gX51, gX61, gX71, gX81, gX91, gXa1, gXb1, gXc1, gXd1, gXe1, gXf1, gXg1, gXh1, gXi1, gXj1, gXk1, gXl1, gXm1, gXn1, gXo1, gXp1, gXq1, gXr1, gXs1, gXt1, gXu1, k_mn, k_mx, gXv1, gXw1, gXx1, gXy1, gXz1, gX02, gX12, gX22, gX32, gX42, gX52, gX62, gX72, Dn.setLast, Dn.getLast, evalO, mapO, Dn.get, putE, gX82, gX92, gXa2, gXb2, TV.one, TV.isAgg, Dn.part, gXc2, negb, at0, at1, at2, at3, at4, dT, dF, gXd2, Option.bind_some, Option.map_some, ln]
  | r + 1, i, hi => by
    have ln := lnB elI true l
    obtain ⟨x, hx⟩ : ∃ x, l[i]? = some x := ⟨_, List.getElem?_eq_getElem (by omega)⟩
    obtain ⟨e0, g0⟩ := l39_1_all (pg := pg) hF hT hL hr hl hx i 0 (by omega)
    obtain ⟨e, g⟩ := l39_3_all (pg := pg) hF hT hL hr hl r (i + 1) (by omega)
    have w2 : wrapR .i64 ((i : Int) + 1) = .i .i64 ((i + 1 : Nat) : Int) := by rw [← Int.natCast_succ]; exact gXd2 (by omega)
    have dd : decide ((i : Int) < (l.length : Int)) = true := dT (by omega)
    refine ⟨e, Eq.trans ?_ g⟩
    simp only [Int.natCast_zero] at g0
    clear hr g hx hi hT
    generalize elI.lt true l = L at *
    generalize ((i + 1 : Nat) : Int) = I2 at *
    generalize (i : Int) = I at *
    generalize (l.length : Int) = M at *
    rw [l39_3, den_loop]
    simp (disch := omega) [l39_3, b39_2, gX0, gX1, gX2, gX3, gX4, gX5, gX6, gX7, gX8, gX9, gXa, gXb, gXc, gXd, gXe, gXf, gXg, gXh, gXi, gXj, gXk, gXl, gXm, gXn, gXo, gXp, gXq, gXr, gXs, gXt, gXu, gXv, gXw, gXx, k_mv, gXy, gXz, gX01, gX11, gX21, gX31, gX41, gX51, gX61, gX71, gX81, gX91, gXa1, gXb1, gXc1, gXd1, gXe1, gXf1, gXg1, gXh1, gXi1, gXj1, gXk1, gXl1, gXm1, gXn1, gXo1, gXp1, gXq1, gXr1, gXs1, gXt1, gXu1, k_mn, k_mx, gXv1, gXw1, gXx1, gXy1, gXz1, gX02, gX12, gX22, gX32, gX42, gX52, gX62, gX72, Dn.setLast, Dn.getLast, evalO, mapO, Dn.get, putE, gX82, gX92, gXa2, gXb2, TV.one, TV.isAgg, Dn.part, gXc2, negb, at0, at1, at2, at3, at4, dT, dF, gXd2, Option.bind_some, Option.map_some, ln, dd, go_denK (c := l39_1) rfl, g0, w2]

theorem fn39 {pg : Pg} (hF : Free pg) {T : TV} {ls : List (List Int)} (hT : SSV T ls) (hn : ls.length ≤ 100) (hL : ∀ d ∈ ls, d.length ≤ 100) {l : List Int} (hr : RankL ls l) : PFn pg 39 [T, elI.lt true l] (.b true) := by
  have hle := hr.1
  obtain ⟨e, q⟩ := l39_3_all (pg := pg) hF hT hL hr (by omega) l.length 0 (by omega)
  have c67 := call67 (pg := pg) hF (by omega) hr.2.1 (by omega) []
  have ln := lnB elI true l
  have lt := lnS hT
  rw [← hle] at lt c67
  refine .of1 (x := .ret) (e := [(4, .b true)]) (H' := []) (hF.S _ _) (d := d39) (by rw [hF.F]; rfl) rfl ?_ (.inl rfl) rfl (by simp [sn_i, sn_b, gXe2, gXf2, gXg2, gXh2, gXi2, gXj2, gXk2, gXl2, gXm2, gXn2, gXo2, gXp2, mapO, elems])
  simp only [Int.natCast_zero] at q
  clear hr hT hle
  generalize elI.lt true l = L at *
  generalize (l.length : Int) = M at *
  simp (disch := omega) [d39, c39, zipE, gX0, gX1, gX2, gX3, gX4, gX5, gX6, gX7, gX8, gX9, gXa, gXb, gXc, gXd, gXe, gXf, gXg, gXh, gXi, gXj, gXk, gXl, gXm, gXn, gXo, gXp, gXq, gXr, gXs, gXt, gXu, gXv, gXw, gXx, k_mv, gXy, gXz, gX01, gX11, gX21, gX31, gX41, gX51, gX61, gX71, gX81, gX91, gXa1, gXb1, gXc1, gXd1, gXe1, gXf1, gXg1, gXh1, gXi1, gXj1, gXk1, gXl1, gXm1, gXn1, gXo1, gXp1, gXq1, gXr1, gXs1, gXt1, gXu1, k_mn, k_mx, gXv1, gXw1, gXx1, gXy1, gXz1, gX02, gX12, gX22, gX32, gX42, gX52, gX62, gX72, Dn.setLast, Dn.getLast, evalO, mapO, Dn.get, putE, gX82, gX92, gXa2, gXb2, TV.one, TV.isAgg, Dn.part, gXc2, negb, at0, at1, at2, at3, at4, dT, dF, gXd2, Option.bind_some, Option.map_some, ln, lt, c67, go_denK (c := l39_3) rfl, q]

end Go.Proofs.Try.Dn

/-
  Which leads to which (plain): a ring leads back, a rank list does not.
-/

set_option maxHeartbeats 1000000
namespace Go.Proofs.Try.Dn
open Go.Dn

def wU (n k i j : Nat) (G : Nat → Bool) : Nat → Bool := fun u => if u = i * n + j then G (i * n + j) || (G (i * n + k) && G (k * n + j)) else G u
def wJ (n k i : Nat) : Nat → Nat → (Nat → Bool) → (Nat → Bool)
  | 0, _, G => G
  | r + 1, j, G => wJ n k i r (j + 1) (wU n k i j G)
def wI (n k : Nat) : Nat → Nat → (Nat → Bool) → (Nat → Bool)
  | 0, _, G => G
  | r + 1, i, G => wI n k r (i + 1) (wJ n k i n 0 G)
def wK (n : Nat) : Nat → Nat → (Nat → Bool) → (Nat → Bool)
  | 0, _, G => G
  | r + 1, k, G => wK n r (k + 1) (wI n k n 0 G)

theorem flat_inj {n i j i' j' : Nat} (hj : j < n) (hj' : j' < n) (h : i * n + j = i' * n + j') : i = i' ∧ j = j' := by
  have h1 : (i * n + j) / n = i := by rw [Nat.mul_comm, Nat.mul_add_div (by omega), Nat.div_eq_of_lt hj]; rfl
  have h2 : (i' * n + j') / n = i' := by rw [Nat.mul_comm, Nat.mul_add_div (by omega), Nat.div_eq_of_lt hj']; rfl
  have h3 : i = i' := by rw [← h1, h, h2]
  subst h3
  exact ⟨rfl, by omega⟩

def Obey (n : Nat) (P : Nat → Nat → Prop) (G : Nat → Bool) : Prop := ∀ i j, i < n → j < n → G (i * n + j) = true → P i j

theorem Obey.u {n k i j : Nat} {P : Nat → Nat → Prop} (ht : ∀ a b c, P a b → P b c → P a c) {G : Nat → Bool} (h : Obey n P G) (hk : k < n) (hi : i < n) (hj : j < n) : Obey n P (wU n k i j G) := by
  intro a b ha hb hg
  unfold wU at hg
  split at hg
  · rename_i e
    obtain ⟨rfl, rfl⟩ := flat_inj hb hj e
    rw [Bool.or_eq_true, Bool.and_eq_true] at hg
    rcases hg with hg | ⟨h1, h2⟩
    · exact h _ _ ha hb hg
    · exact ht _ _ _ (h _ _ ha hk h1) (h _ _ hk hb h2)
  · exact h _ _ ha hb hg
theorem Obey.j {n k i : Nat} {P : Nat → Nat → Prop} (ht : ∀ a b c, P a b → P b c → P a c) (hk : k < n) (hi : i < n) : ∀ (r j : Nat) {G : Nat → Bool}, j + r = n → Obey n P G → Obey n P (wJ n k i r j G)
  | 0, _, _, _, h => h
  | r + 1, j, G, hj, h => Obey.j ht hk hi r (j + 1) (by omega) (h.u ht hk hi (by omega))
theorem Obey.i {n k : Nat} {P : Nat → Nat → Prop} (ht : ∀ a b c, P a b → P b c → P a c) (hk : k < n) : ∀ (r i : Nat) {G : Nat → Bool}, i + r = n → Obey n P G → Obey n P (wI n k r i G)
  | 0, _, _, _, h => h
  | r + 1, i, G, hi, h => Obey.i ht hk r (i + 1) (by omega) (Obey.j ht hk (by omega) n 0 (by omega) h)
theorem Obey.k {n : Nat} {P : Nat → Nat → Prop} (ht : ∀ a b c, P a b → P b c → P a c) : ∀ (r k : Nat) {G : Nat → Bool}, k + r = n → Obey n P G → Obey n P (wK n r k G)
  | 0, _, _, _, h => h
  | r + 1, k, G, hk, h => Obey.k ht r (k + 1) (by omega) (Obey.i ht (by omega) n 0 (by omega) h)

/-! more and more leads -/
theorem wU_mono {n k i j : Nat} {G : Nat → Bool} {u : Nat} (h : G u = true) : wU n k i j G u = true := by
  unfold wU
  split
  · rename_i e; subst e; rw [h]; rfl
  · exact h
theorem wJ_mono {n k i : Nat} : ∀ (r j : Nat) {G : Nat → Bool} {u : Nat}, G u = true → wJ n k i r j G u = true
  | 0, _, _, _, h => h
  | r + 1, j, G, u, h => wJ_mono r (j + 1) (wU_mono h)
theorem wI_mono {n k : Nat} : ∀ (r i : Nat) {G : Nat → Bool} {u : Nat}, G u = true → wI n k r i G u = true
  | 0, _, _, _, h => h
  | r + 1, i, G, u, h => wI_mono r (i + 1) (wJ_mono n 0 h)
theorem wJ_all {n k i : Nat} : ∀ (r j : Nat) {G : Nat → Bool}, ∀ c, j ≤ c → c < j + r → G (i * n + k) = true → G (k * n + c) = true → wJ n k i r j G (i * n + c) = true
  | 0, j, _, c, h1, h2, _, _ => by omega
  | r + 1, j, G, c, h1, h2, h3, h4 => by
    by_cases hc : c = j
    · subst hc
      refine wJ_mono r (c + 1) ?_
      unfold wU
      rw [if_pos rfl, h3, h4]; simp
    · exact wJ_all r (j + 1) c (by omega) (by omega) (wU_mono h3) (wU_mono h4)
theorem wI_all {n k : Nat} : ∀ (r i : Nat) {G : Nat → Bool}, ∀ a c, i ≤ a → a < i + r → c < n → G (a * n + k) = true → G (k * n + c) = true → wI n k r i G (a * n + c) = true
  | 0, i, _, a, _, h1, h2, _, _, _ => by omega
  | r + 1, i, G, a, c, h1, h2, hc, h3, h4 => by
    by_cases ha : a = i
    · subst ha
      exact wI_mono r (a + 1) (wJ_all n 0 c (by omega) (by omega) h3 h4)
    · exact wI_all r (i + 1) a c (by omega) (by omega) hc (wJ_mono n 0 h3) (wJ_mono n 0 h4)

def Pth (E : Nat → Nat → Bool) : Nat → List Nat → Nat → Prop
  | i, [], j => E i j = true
  | i, v :: vs, j => E i v = true ∧ Pth E v vs j

theorem Pth.split {E : Nat → Nat → Bool} : ∀ {vs ws : List Nat} {i v j : Nat}, Pth E i (vs ++ v :: ws) j → Pth E i vs v ∧ Pth E v ws j
  | [], ws, i, v, j, h => h
  | x :: vs, ws, i, v, j, h => ⟨⟨h.1, (Pth.split h.2).1⟩, (Pth.split h.2).2⟩

def Ways (n : Nat) (E : Nat → Nat → Bool) (k : Nat) (G : Nat → Bool) : Prop := ∀ vs i j, i < n → j < n → (∀ v ∈ vs, v < k) → vs.Nodup → Pth E i vs j → G (i * n + j) = true

theorem Ways.step {n k : Nat} {E : Nat → Nat → Bool} {G : Nat → Bool} (h : Ways n E k G) (hk : k < n) : Ways n E (k + 1) (wI n k n 0 G) := by
  intro vs i j hi hj hv hn hp
  by_cases hm : k ∈ vs
  · obtain ⟨a, b, rfl⟩ := List.append_of_mem hm
    obtain ⟨p1, p2⟩ := hp.split
    rw [List.nodup_append] at hn
    obtain ⟨n1, n2, n3⟩ := hn
    have hk2 := List.nodup_cons.1 n2
    refine wI_all n 0 i j (by omega) (by omega) hj (h a i k hi hk (fun v hv' => ?_) n1 p1) (h b k j hk hj (fun v hv' => ?_) hk2.2 p2)
    · have h1 := hv v (by simp [hv'])
      have h2 : v ≠ k := n3 v hv' k (List.mem_cons_self ..)
      omega
    · have h1 := hv v (by simp [hv'])
      have h2 : v ≠ k := fun e => hk2.1 (e ▸ hv')
      omega
  · refine wI_mono n 0 (h vs i j hi hj (fun v hv' => ?_) hn hp)
    have h1 := hv v hv'
    have h2 : v ≠ k := fun e => hm (e ▸ hv')
    omega

theorem Ways.all {n : Nat} {E : Nat → Nat → Bool} : ∀ (r k : Nat) {G : Nat → Bool}, k + r = n → Ways n E k G → Ways n E n (wK n r k G)
  | 0, k, G, hk, h => by
    obtain rfl : k = n := by omega
    exact h
  | r + 1, k, G, hk, h => Ways.all r (k + 1) (by omega) (h.step (by omega))

def G0 (ls : List (List Int)) : Nat → Bool := fun u => ed ls ((u / ls.length : Nat) : Int) ((u % ls.length : Nat) : Int)
theorem G0_at {ls : List (List Int)} {i j : Nat} (hj : j < ls.length) : G0 ls (i * ls.length + j) = ed ls (i : Int) (j : Int) := by
  unfold G0
  have h1 : (i * ls.length + j) / ls.length = i := by rw [Nat.mul_comm, Nat.mul_add_div (by omega), Nat.div_eq_of_lt hj]; rfl
  have h2 : (i * ls.length + j) % ls.length = j := by rw [Nat.mul_comm, Nat.mul_add_mod, Nat.mod_eq_of_lt hj]
  rw [h1, h2]

def hasR (ls : List (List Int)) : Bool := (List.range ls.length).any fun i => wK ls.length ls.length 0 (G0 ls) (i * ls.length + i)

theorem pth_of {E : Nat → Nat → Bool} : ∀ (l : List Nat) (i j : Nat), (∀ k x y, (i :: (l ++ [j]))[k]? = some x → (i :: (l ++ [j]))[k + 1]? = some y → E x y = true) → Pth E i l j
  | [], i, j, h => h 0 i j rfl rfl
  | v :: l, i, j, h => ⟨h 0 i v rfl rfl, pth_of l v j fun k x y h1 h2 => h (k + 1) x y h1 h2⟩

theorem ring_has {ls : List (List Int)} {l : List Int} (h : RingL ls l) : hasR ls = true := by
  obtain ⟨h3, ⟨hnd, hb⟩, he⟩ := h
  obtain ⟨x, l', rfl⟩ : ∃ x l', l = x :: l' := by
    cases l with
    | nil => simp at h3
    | cons x l' => exact ⟨x, l', rfl⟩
  have hx := hb x (List.mem_cons_self ..)
  have hnd2 := List.nodup_cons.1 hnd
  have key : Ways ls.length (fun i j => ed ls (i : Int) (j : Int)) ls.length (wK ls.length ls.length 0 (G0 ls)) := by
    refine Ways.all ls.length 0 (by omega) ?_
    intro vs i j hi hj hv hn hp
    cases vs with
    | nil => rw [G0_at hj]; exact hp
    | cons v vs => have := hv v (List.mem_cons_self ..); omega
  have hw := key (l'.map Int.toNat) x.toNat x.toNat (by omega) (by omega) (fun v hv => by
    obtain ⟨y, hy, rfl⟩ := List.mem_map.1 hv
    have := hb y (List.mem_cons_of_mem _ hy)
    omega) (by
    refine List.pairwise_map.2 ?_
    refine List.Pairwise.imp_of_mem ?_ hnd2.2
    intro a b ha hb' hne e
    have h1 := hb a (List.mem_cons_of_mem _ ha)
    have h2 := hb b (List.mem_cons_of_mem _ hb')
    exact hne (by omega)) (pth_of _ _ _ fun k u v hu hv => by
    have hmap : (x.toNat :: (l'.map Int.toNat ++ [x.toNat])) = ((x :: l') ++ [x]).map Int.toNat := by simp
    rw [hmap, List.getElem?_map, Option.map_eq_some_iff] at hu hv
    obtain ⟨a, ha, rfl⟩ := hu
    obtain ⟨b, hb', rfl⟩ := hv
    have hkl := (List.getElem?_eq_some_iff.1 hb').1
    rw [List.length_append, List.length_singleton] at hkl
    have ha' : (x :: l')[k]? = some a := by rw [List.getElem?_append_left (by omega)] at ha; exact ha
    have hab := hb a (List.mem_of_getElem? ha')
    have hedge : ed ls a b = true := by
      refine he k a b ha' ?_
      by_cases hlast : k + 1 < (x :: l').length
      · rw [Nat.mod_eq_of_lt hlast]
        rw [List.getElem?_append_left hlast] at hb'
        exact hb'
      · have e : k + 1 = (x :: l').length := by omega
        rw [e, Nat.mod_self]
        rw [e, List.getElem?_append_right (Nat.le_refl _), Nat.sub_self] at hb'
        exact hb'
    have hbb : 0 ≤ b := by
      have := List.mem_of_getElem? hb'
      rcases List.mem_append.1 this with h | h
      · exact (hb b h).1
      · rw [List.mem_singleton.1 h]; exact hx.1
    show ed ls ((a.toNat : Nat) : Int) ((b.toNat : Nat) : Int) = true
    rw [show ((a.toNat : Nat) : Int) = a by omega, show ((b.toNat : Nat) : Int) = b by omega]
    exact hedge)
  unfold hasR
  rw [List.any_eq_true]
  exact ⟨x.toNat, List.mem_range.2 (by omega), hw⟩

theorem sub_lenN : ∀ {l m : List Nat}, l.Nodup → (∀ x ∈ l, x ∈ m) → l.length ≤ m.length
  | [], m, _, _ => Nat.zero_le _
  | x :: l, m, hn, hs => by
    have hn2 := List.nodup_cons.1 hn
    have hx := hs x (List.mem_cons_self ..)
    have ih := sub_lenN (l := l) (m := m.erase x) hn2.2 fun y hy => by
      have hne : y ≠ x := fun e => hn2.1 (e ▸ hy)
      exact (List.mem_erase_of_ne hne).2 (hs y (List.mem_cons_of_mem _ hy))
    have hl := List.length_erase_of_mem hx
    have hp : 0 < m.length := List.length_pos_of_mem hx
    rw [List.length_cons]
    omega

theorem rank_has {ls : List (List Int)} {l : List Int} (h : RankL ls l) (hself : ∀ x : Int, ed ls x x = false) : hasR ls = false := by
  obtain ⟨hl, ⟨hnd, hb⟩, he⟩ := h
  have inj : ∀ (a b : Nat) (x : Int), l[a]? = some x → l[b]? = some x → a = b := fun a b x ha hb' => by
    have ha1 := (List.getElem?_eq_some_iff.1 ha)
    have hb1 := (List.getElem?_eq_some_iff.1 hb')
    obtain ⟨ha1, ha2⟩ := ha1
    obtain ⟨hb1, hb2⟩ := hb1
    rcases Nat.lt_trichotomy a b with h | h | h
    · exact absurd (ha2.trans hb2.symm) ((List.pairwise_iff_getElem.1 hnd) a b ha1 hb1 h)
    · exact h
    · exact absurd (hb2.trans ha2.symm) ((List.pairwise_iff_getElem.1 hnd) b a hb1 ha1 h)
  -- each number below n stands somewhere
  have surj : ∀ i, i < ls.length → ∃ a : Nat, l[a]? = some (i : Int) := fun i hi => by
    apply Classical.byContradiction
    intro hno
    have hnot : (i : Int) ∉ l := fun hm => by
      obtain ⟨a, ha, e⟩ := List.getElem_of_mem hm
      exact hno ⟨a, by rw [List.getElem?_eq_getElem ha, e]⟩
    have hnd2 : ((i : Int) :: l).Nodup := List.nodup_cons.2 ⟨hnot, hnd⟩
    have hnd3 : (((i : Int) :: l).map Int.toNat).Nodup := by
      refine List.pairwise_map.2 (List.Pairwise.imp_of_mem ?_ hnd2)
      intro a b ha hb' hne e
      have g : ∀ x ∈ (i : Int) :: l, 0 ≤ x := fun x hx => by
        rcases List.mem_cons.1 hx with rfl | hx
        · omega
        · exact (hb x hx).1
      have h1 := g a ha
      have h2 := g b hb'
      exact hne (by omega)
    have hsub : ∀ x ∈ ((i : Int) :: l).map Int.toNat, x ∈ List.range ls.length := fun x hx => by
      obtain ⟨y, hy, rfl⟩ := List.mem_map.1 hx
      rw [List.mem_range]
      rcases List.mem_cons.1 hy with rfl | hy
      · omega
      · have := hb y hy; omega
    have hle := sub_lenN hnd3 hsub
    simp at hle
    omega
  have ob : Obey ls.length (fun i j => ∃ a b : Nat, a < b ∧ l[a]? = some (i : Int) ∧ l[b]? = some (j : Int)) (wK ls.length ls.length 0 (G0 ls)) := by
    refine Obey.k (fun x y z g1 g2 => ?_) ls.length 0 (by omega) ?_
    · obtain ⟨a, b, h1, h2, h3⟩ := g1
      obtain ⟨a', b', h4, h5, h6⟩ := g2
      have := inj b a' _ h3 h5
      exact ⟨a, b', by omega, h2, h6⟩
    · intro i j hi hj hg
      rw [G0_at hj] at hg
      obtain ⟨a, ha⟩ := surj i hi
      obtain ⟨b, hb'⟩ := surj j hj
      refine ⟨a, b, ?_, ha, hb'⟩
      apply Classical.byContradiction
      intro hlt
      by_cases hab : a = b
      · subst hab
        rw [ha] at hb'
        have := Option.some.inj hb'
        rw [this, hself] at hg
        cases hg
      · have := he a b _ _ (by omega) ha hb'
        rw [this] at hg
        cases hg
  unfold hasR
  rw [Bool.eq_false_iff]
  intro hany
  rw [List.any_eq_true] at hany
  obtain ⟨i, hi, hg⟩ := hany
  have hi := List.mem_range.1 hi
  obtain ⟨a, b, h1, h2, h3⟩ := ob i i hi hi hg
  have := inj a b _ h2 h3
  omega

end Go.Proofs.Try.Dn

