/-
  Dice without common faces, made of any numbers.
-/
import Derived.Test.YtijeefncmgjlpaaV7
import Derived.Test.YtijeefncmgjlpaaR6
set_option linter.unusedSimpArgs false
set_option linter.unusedVariables false

set_option maxHeartbeats 4000000
set_option maxRecDepth 100000
namespace Go.Proofs.Try.Dn
open Go.Dn

theorem nestW_put {pg : Pg} {R : Rec} {H : Heap} {out : TV} {ts : List {t : TV // t.one = true}} {ls : List (List Int)} (h : NestW H out ts ls) {i k : Nat} {l : List Int} {x : Int} (hl : ls[i]? = some l) (hx : l[k]? = some x) :
    ∃ p T q, (dkc pg R (.ixS 1 false) [out, .i .i64 (i : Int)] H = some (p, H) ∧ dkc pg R (.ld 1 false) [p] H = some (T, H)) ∧ lenK 0 T H = some l.length ∧ dkc pg R (.ixS 1 false) [T, .i .i64 (k : Int)] H = some (q, H) ∧ dkc pg R (.ld 1 false) [q] H = some (.i .i64 x, H) ∧
      ∀ y : Int, ∃ H', dkc pg R (.st 1) [q, .i .i64 y] H = some (.undef, H') ∧ NestW H' out ts (ls.set i (l.set k y)) := by
  have hil := (List.getElem?_eq_some_iff.1 hl).1
  obtain ⟨t, ht⟩ : ∃ t, ts[i]? = some t := ⟨_, List.getElem?_eq_getElem (by have := h.len; omega)⟩
  obtain ⟨c1, c2⟩ := h.row i t l ht hl
  obtain ⟨p, h1, h2, _⟩ := h.own.view.ix (pg := pg) (R := R) ht .i64
  obtain ⟨id, o, e1, e2, e3, e4⟩ := c1.at (pg := pg) (R := R) hx
  refine ⟨p, t.1, .ref id o, ⟨h1, h2.ld⟩, c1.view.lenK H, e2, e3, fun y => ?_⟩
  obtain ⟨H', s1, s2, s3, s4⟩ := e4 y
  refine ⟨H', s1, ⟨h.own.mono fun id' hid => s4 id' fun e => c2 id' e hid, by rw [List.length_set]; exact h.len, fun j u m hu hm => ?_, h.dis⟩⟩
  by_cases hj : j = i
  · subst hj
    rw [ht] at hu
    have e := Option.some.inj hu
    subst e
    rw [List.getElem?_set_self hil] at hm
    have e := Option.some.inj hm
    subst e
    exact ⟨s2, c2⟩
  · rw [List.getElem?_set_ne (Ne.symm hj)] at hm
    obtain ⟨d1, d2⟩ := h.row j u m hu hm
    exact ⟨d1.mono fun id' hid => s4 id' fun e => h.dis j i u t id' hj hu ht hid e, d2⟩

theorem nestW_row {pg : Pg} {R : Rec} {H : Heap} {out : TV} {ts : List {t : TV // t.one = true}} {ls : List (List Int)} (h : NestW H out ts ls) {i : Nat} {l : List Int} (hl : ls[i]? = some l) :
    ∃ p T, dkc pg R (.ixS 1 false) [out, .i .i64 (i : Int)] H = some (p, H) ∧ dkc pg R (.ld 1 false) [p] H = some (T, H) ∧ lenK 0 T H = some l.length := by
  obtain ⟨t, ht⟩ : ∃ t, ts[i]? = some t := ⟨_, List.getElem?_eq_getElem (by have := h.len; have := (List.getElem?_eq_some_iff.1 hl).1; omega)⟩
  obtain ⟨c1, c2⟩ := h.row i t l ht hl
  obtain ⟨p, h1, h2, _⟩ := h.own.view.ix (pg := pg) (R := R) ht .i64
  exact ⟨p, t.1, h1, h2.ld, c1.view.lenK H⟩

def apR (i : Nat) (d : List Int) : List Int := d.map fun x => 5 * x + (i : Int)
def apL (ls : List (List Int)) : List (List Int) := ls.mapIdx apR

theorem l40_1_all {pg : Pg} {out : TV} {ts : List {t : TV // t.one = true}} {i : Nat} (hi : i ≤ 1000) {d : List Int} (hd8 : d.length ≤ 1000) (hd : ∀ x ∈ d, 0 ≤ x ∧ x ≤ 1000) :
    ∀ (r k : Nat) (H : Heap) (L : List (List Int)) (row : List Int), k + r = d.length → NestW H out ts L → L[i]? = some row → row.length = d.length → (∀ j, row[j]? = if j < k then (d[j]?).map fun x => 5 * x + (i : Int) else d[j]?) →
    ∃ H' v, den pg l40_1 [(5, out), (6, .i .i64 (i : Int)), (7, .i .i64 (k : Int))] H = some ⟨.exit 2, [(5, out), (6, .i .i64 (i : Int)), (7, .i .i64 (d.length : Int)), (24, v)], H'⟩ ∧ NestW H' out ts (L.set i (apR i d))
  | 0, k, H, L, row, hk, hn, hL, hlen, hrow => by
    obtain rfl : k = d.length := by omega
    obtain ⟨p, T, p1, p2, p3⟩ := nestW_row hn (pg := pg) (R := den pg) hL
    have e : row = apR i d := by
      apply List.ext_getElem?
      intro j
      rw [hrow j]
      unfold apR
      rw [List.getElem?_map]
      split
      · rfl
      · rw [List.getElem?_eq_none (by omega)]; rfl
    subst e
    rw [hlen] at p3
    refine ⟨H, .b false, ?_, by rw [set_same hL]; exact hn⟩
    have ln' : (lenK 0 T H).map (fun (n : Nat) => TV.i .i64 (n : Int)) = some (.i .i64 (d.length : Int)) := by rw [p3]; rfl
    clear hn hL hlen hrow p3
    generalize (d.length : Int) = N at *
    generalize (i : Int) = I at *
    rw [l40_1, den_loop]
    simp (disch := omega) [b40_0, gX0, gX1, gX2, gX3, gX4, gX5, gX6, gX7, gX8, gX9, gXa, gXb, gXc, gXd, gXe, gXf, gXg, gXh, gXi, gXj, gXk, gXl, gXm, gXn, gXo, gXp, gXq, gXr, gXs, gXt, gXu, gXv, gXw, gXx, k_mv, gXy, gXz, gX01, gX11, gX21, gX31, gX41, gX51, gX61, gX71, gX81, gX91, gXa1, gXb1, gXc1, gXd1, gXe1, gXf1, gXg1, gXh1, gXi1, gXj1, gXk1, gXl1, gXm1, gXn1, gXo1, gXp1, gXq1, gXr1, gXs1, gXt1, gXu1, k_mn, k_mx, gXv1, gXw1, gXx1, gXy1, gXz1, gX02, gX12, gX22, gX32, gX42, gX52, gX62, gX72, Dn.setLast, Dn.getLast, evalO, mapO, Dn.get, putE, gX82, gX92, gXa2, gXb2, TV.one, TV.isAgg, Dn.part, gXc2, negb, at0, at1, at2, at3, at4, dT, dF, gXd2, Option.bind_some, Option.map_some, p1, p2, ln']
  | r + 1, k, H, L, row, hk, hn, hL, hlen, hrow => by
    obtain ⟨x, hx⟩ : ∃ x, d[k]? = some x := ⟨_, List.getElem?_eq_getElem (by omega)⟩
    have hxb := hd x (List.mem_of_getElem? hx)
    have hrk : row[k]? = some x := by rw [hrow k, if_neg (by omega)]; exact hx
    obtain ⟨p, T, q, ⟨p1, p2⟩, p3, q1, q2, q3⟩ := nestW_put hn (pg := pg) (R := den pg) hL hrk
    rw [hlen] at p3
    obtain ⟨H1, s1, s2⟩ := q3 (5 * x + (i : Int))
    have hil := (List.getElem?_eq_some_iff.1 hL).1
    obtain ⟨H', v, y1, y2⟩ := l40_1_all (pg := pg) hi hd8 hd r (k + 1) H1 (L.set i (row.set k (5 * x + (i : Int)))) (row.set k (5 * x + (i : Int))) (by omega) s2 (List.getElem?_set_self hil) (by rw [List.length_set]; exact hlen) (fun j => by
      by_cases hj : j = k
      · subst hj
        rw [List.getElem?_set_self (by omega), if_pos (by omega), hx]; rfl
      · rw [List.getElem?_set_ne (Ne.symm hj), hrow j]
        by_cases hlt : j < k
        · rw [if_pos hlt, if_pos (by omega)]
        · rw [if_neg hlt, if_neg (by omega)])
    rw [List.set_set] at y2
    refine ⟨H', v, Eq.trans ?_ y1, y2⟩
    have ln' : (lenK 0 T H).map (fun (n : Nat) => TV.i .i64 (n : Int)) = some (.i .i64 (d.length : Int)) := by rw [p3]; rfl
    have dd : decide ((k : Int) < (d.length : Int)) = true := dT (by omega)
    obtain ⟨V5, h5⟩ : ∃ V, V = 5 * x := ⟨_, rfl⟩
    obtain ⟨V6, h6⟩ : ∃ V, V = V5 + (i : Int) := ⟨_, rfl⟩
    have w5 : wrapR .i64 (5 * x) = .i .i64 V5 := by rw [h5]; exact gXd2 (by omega)
    have w6 : wrapR .i64 (V5 + (i : Int)) = .i .i64 V6 := by rw [h6]; exact gXd2 (by omega)
    rw [← h5, ← h6] at s1
    have w2 : wrapR .i64 ((k : Int) + 1) = .i .i64 ((k + 1 : Nat) : Int) := by rw [← Int.natCast_succ]; exact gXd2 (by omega)
    clear y1 y2 hn hL hlen hrow p3 q3 hrk hx hxb h5 h6
    generalize (d.length : Int) = N at *
    generalize (i : Int) = I at *
    generalize ((k + 1 : Nat) : Int) = K2 at *
    generalize (k : Int) = K at *
    rw [l40_1, den_loop]
    simp (disch := omega) [l40_1, b40_0, gX0, gX1, gX2, gX3, gX4, gX5, gX6, gX7, gX8, gX9, gXa, gXb, gXc, gXd, gXe, gXf, gXg, gXh, gXi, gXj, gXk, gXl, gXm, gXn, gXo, gXp, gXq, gXr, gXs, gXt, gXu, gXv, gXw, gXx, k_mv, gXy, gXz, gX01, gX11, gX21, gX31, gX41, gX51, gX61, gX71, gX81, gX91, gXa1, gXb1, gXc1, gXd1, gXe1, gXf1, gXg1, gXh1, gXi1, gXj1, gXk1, gXl1, gXm1, gXn1, gXo1, gXp1, gXq1, gXr1, gXs1, gXt1, gXu1, k_mn, k_mx, gXv1, gXw1, gXx1, gXy1, gXz1, gX02, gX12, gX22, gX32, gX42, gX52, gX62, gX72, Dn.setLast, Dn.getLast, evalO, mapO, Dn.get, putE, gX82, gX92, gXa2, gXb2, TV.one, TV.isAgg, Dn.part, gXc2, negb, at0, at1, at2, at3, at4, dT, dF, gXd2, Option.bind_some, Option.map_some, p1, p2, ln', dd, q1, q2, w5, w6, s1, w2]

theorem l40_3_all {pg : Pg} {out : TV} {ts : List {t : TV // t.one = true}} {ls : List (List Int)} (hn1 : ls.length ≤ 1000) (hd8 : ∀ d ∈ ls, d.length ≤ 1000) (hd : ∀ d ∈ ls, ∀ x ∈ d, 0 ≤ x ∧ x ≤ 1000) :
    ∀ (r i : Nat) (H : Heap) (L : List (List Int)), i + r = ls.length → NestW H out ts L → L.length = ls.length → (∀ j, L[j]? = if j < i then (ls[j]?).map (apR j) else ls[j]?) →
    ∃ H' v, den pg l40_3 [(5, out), (6, .i .i64 (i : Int))] H = some ⟨.exit 0, [(5, out), (6, .i .i64 (ls.length : Int)), (15, v)], H'⟩ ∧ NestW H' out ts (apL ls)
  | 0, i, H, L, hi, hn, hlen, hL => by
    obtain rfl : i = ls.length := by omega
    have e : L = apL ls := by
      apply List.ext_getElem?
      intro j
      rw [hL j]
      unfold apL
      rw [List.getElem?_mapIdx]
      split
      · rfl
      · rw [List.getElem?_eq_none (by omega)]; rfl
    subst e
    have ln : (lenK 0 out H).map (fun (n : Nat) => TV.i .i64 (n : Int)) = some (.i .i64 (ls.length : Int)) := by rw [hn.own.view.lenK, hn.len, hlen]; rfl
    refine ⟨H, .b false, ?_, hn⟩
    clear hn hL hlen
    generalize (ls.length : Int) = N at *
    rw [l40_3, den_loop]
    simp (disch := omega) [b40_2, gX0, gX1, gX2, gX3, gX4, gX5, gX6, gX7, gX8, gX9, gXa, gXb, gXc, gXd, gXe, gXf, gXg, gXh, gXi, gXj, gXk, gXl, gXm, gXn, gXo, gXp, gXq, gXr, gXs, gXt, gXu, gXv, gXw, gXx, k_mv, gXy, gXz, gX01, gX11, gX21, gX31, gX41, gX51, gX61, gX71, gX81, gX91, gXa1, gXb1, gXc1, gXd1, gXe1, gXf1, gXg1, gXh1, gXi1, gXj1, gXk1, gXl1, gXm1, gXn1, gXo1, gXp1, gXq1, gXr1, gXs1, gXt1, gXu1, k_mn, k_mx, gXv1, gXw1, gXx1, gXy1, gXz1, gX02, gX12, gX22, gX32, gX42, gX52, gX62, gX72, Dn.setLast, Dn.getLast, evalO, mapO, Dn.get, putE, gX82, gX92, gXa2, gXb2, TV.one, TV.isAgg, Dn.part, gXc2, negb, at0, at1, at2, at3, at4, dT, dF, gXd2, Option.bind_some, Option.map_some, ln]
  | r + 1, i, H, L, hi, hn, hlen, hL => by
    obtain ⟨d, hdi⟩ : ∃ d, ls[i]? = some d := ⟨_, List.getElem?_eq_getElem (by omega)⟩
    have hLi : L[i]? = some d := by rw [hL i, if_neg (by omega)]; exact hdi
    have hil := (List.getElem?_eq_some_iff.1 hLi).1
    obtain ⟨H1, v, y1, y2⟩ := l40_1_all (pg := pg) (i := i) (by omega) (hd8 d (List.mem_of_getElem? hdi)) (hd d (List.mem_of_getElem? hdi)) d.length 0 H L d (by omega) hn hLi rfl (fun j => by rw [if_neg (by omega)])
    obtain ⟨H', v', z1, z2⟩ := l40_3_all (pg := pg) hn1 hd8 hd r (i + 1) H1 (L.set i (apR i d)) (by omega) y2 (by rw [List.length_set]; exact hlen) (fun j => by
      by_cases hj : j = i
      · subst hj
        rw [List.getElem?_set_self hil, if_pos (by omega), hdi]; rfl
      · rw [List.getElem?_set_ne (Ne.symm hj), hL j]
        by_cases hlt : j < i
        · rw [if_pos hlt, if_pos (by omega)]
        · rw [if_neg hlt, if_neg (by omega)])
    refine ⟨H', v', Eq.trans ?_ z1, z2⟩
    have ln : (lenK 0 out H).map (fun (n : Nat) => TV.i .i64 (n : Int)) = some (.i .i64 (ls.length : Int)) := by rw [hn.own.view.lenK, hn.len, hlen]; rfl
    have dd : decide ((i : Int) < (ls.length : Int)) = true := dT (by omega)
    have w2 : wrapR .i64 ((i : Int) + 1) = .i .i64 ((i + 1 : Nat) : Int) := by rw [← Int.natCast_succ]; exact gXd2 (by omega)
    simp only [Int.natCast_zero] at y1
    clear hn hL hlen y2 z1 z2 hLi hdi
    generalize (ls.length : Int) = N at *
    generalize (d.length : Int) = M at *
    generalize ((i + 1 : Nat) : Int) = I2 at *
    generalize (i : Int) = I at *
    rw [l40_3, den_loop]
    simp (disch := omega) [l40_3, b40_2, gX0, gX1, gX2, gX3, gX4, gX5, gX6, gX7, gX8, gX9, gXa, gXb, gXc, gXd, gXe, gXf, gXg, gXh, gXi, gXj, gXk, gXl, gXm, gXn, gXo, gXp, gXq, gXr, gXs, gXt, gXu, gXv, gXw, gXx, k_mv, gXy, gXz, gX01, gX11, gX21, gX31, gX41, gX51, gX61, gX71, gX81, gX91, gXa1, gXb1, gXc1, gXd1, gXe1, gXf1, gXg1, gXh1, gXi1, gXj1, gXk1, gXl1, gXm1, gXn1, gXo1, gXp1, gXq1, gXr1, gXs1, gXt1, gXu1, k_mn, k_mx, gXv1, gXw1, gXx1, gXy1, gXz1, gX02, gX12, gX22, gX32, gX42, gX52, gX62, gX72, Dn.setLast, Dn.getLast, evalO, mapO, Dn.get, putE, gX82, gX92, gXa2, gXb2, TV.one, TV.isAgg, Dn.part, gXc2, negb, at0, at1, at2, at3, at4, dT, dF, gXd2, Option.bind_some, Option.map_some, ln, dd, go_denK (c := l40_1) rfl, y1, w2]

theorem apL_at {ls : List (List Int)} {i : Nat} : (apL ls)[i]? = (ls[i]?).map (apR i) := by unfold apL; rw [List.getElem?_mapIdx]
theorem apL_len (ls : List (List Int)) : (apL ls).length = ls.length := by unfold apL; simp

theorem apL_row {n : Nat} (hn : n ≤ 5) {ls : List (List Int)} (h : Row 11 n ls) : Row 59 n (apL ls) := by
  refine ⟨fun d' hd' => ?_, by rw [apL_len]; exact h.pos, by rw [apL_len]; exact h.le⟩
  obtain ⟨i, hi, e⟩ := List.getElem_of_mem hd'
  have hi' : (apL ls)[i]? = some d' := by rw [List.getElem?_eq_getElem hi, e]
  rw [apL_at] at hi'
  obtain ⟨d, hd, rfl⟩ := Option.map_eq_some_iff.1 hi'
  have hlt := (List.getElem?_eq_some_iff.1 hd).1
  have hle := h.le
  have hdd := h.all d (List.mem_of_getElem? hd)
  refine ⟨⟨?_, ?_, ?_⟩, ?_⟩
  · unfold apR; rw [List.length_map]; exact hdd.le
  · intro x hx
    unfold apR at hx
    obtain ⟨y, hy, rfl⟩ := List.mem_map.1 hx
    have := hdd.ok y hy
    omega
  · unfold apR
    rw [List.pairwise_map]
    exact List.Pairwise.imp (fun h => by omega) hdd.srt
  · unfold apR; rw [List.length_map]; exact hdd.pos

theorem apL_apt {n : Nat} (hn : n ≤ 5) {ls : List (List Int)} (h : ls.length ≤ n) : Apt (apL ls) := by
  intro i k d d' f hk hi hki hf hf'
  rw [apL_at] at hi hki
  obtain ⟨e, he, rfl⟩ := Option.map_eq_some_iff.1 hi
  obtain ⟨e', he', rfl⟩ := Option.map_eq_some_iff.1 hki
  have hlt := (List.getElem?_eq_some_iff.1 he).1
  unfold apR at hf hf'
  obtain ⟨y, _, h1⟩ := List.mem_map.1 hf
  obtain ⟨z, _, h2⟩ := List.mem_map.1 hf'
  omega

theorem call40 {pg : Pg} (hF : Free pg) {T : TV} {l : List (List Int)} (hT : SSV T l) (hl : l.length ≤ 9223372036854775807) (hL : ∀ x ∈ l, x.length ≤ 9223372036854775807) {many : Nat} (h1 : 1 ≤ many) (h4 : many ≤ 4) (H : Heap) :
    ∃ ls, Row 11 many ls ∧ callRun pg (den pg) (.pu []) [.fn 40 [] [], T, .i .i64 (many : Int)] H = some ((elR false).lt false (apL ls), H) := by
  obtain ⟨T', s1, s2⟩ := hT.snap H 6
  obtain ⟨ls, O, ts, H1, r1, r2, r3⟩ := body28 (pg := pg) hF s2 hl hL (many := many) (most := 11) h1 (by omega) (by omega)
  have hle := r2.le
  obtain ⟨H2, v, q1, q2⟩ := l40_3_all (pg := pg) (by omega) (fun d hd => by have := (r2.all d hd).le; omega) (fun d hd x hx => by have := (r2.all d hd).ok x hx; omega) ls.length 0 H1 ls (by omega) r3 rfl (fun j => by rw [if_neg (by omega)])
  have hrow := apL_row (by omega) r2
  refine ⟨ls, r2, PFn.call (xs := [T', .i .i64 (many : Int)]) (.inr ⟨hF.S _ _, O, H2, body_of (x := .ret) (e := [(4, O)]) (d := d40) (by rw [hF.F]; rfl) rfl ?_ (.inl rfl) rfl, q2.fin (fun d hd he => by have := (hrow.all d hd).pos; rw [he] at this; simp at this) 5⟩) (args := [T, .i .i64 (many : Int)]) (ks := []) (fs := []) (cs := []) (by simp [snapArgs, s1, sn_i])⟩
  have cl : callRun pg (den pg) .sh [.fn 28 [] [], T', .i .i64 (many : Int), .i .i64 11] [] = some (O, H1) := r1
  simp only [Int.natCast_zero] at q1
  clear r1 r2 r3 q2 s1 s2 hrow
  generalize (many : Int) = M at *
  simp (disch := omega) [d40, c40, zipE, gX0, gX1, gX2, gX3, gX4, gX5, gX6, gX7, gX8, gX9, gXa, gXb, gXc, gXd, gXe, gXf, gXg, gXh, gXi, gXj, gXk, gXl, gXm, gXn, gXo, gXp, gXq, gXr, gXs, gXt, gXu, gXv, gXw, gXx, k_mv, gXy, gXz, gX01, gX11, gX21, gX31, gX41, gX51, gX61, gX71, gX81, gX91, gXa1, gXb1, gXc1, gXd1, gXe1, gXf1, gXg1, gXh1, gXi1, gXj1, gXk1, gXl1, gXm1, gXn1, gXo1, gXp1, gXq1, gXr1, gXs1, gXt1, gXu1, k_mn, k_mx, gXv1, gXw1, gXx1, gXy1, gXz1, gX02, gX12, gX22, gX32, gX42, gX52, gX62, gX72, Dn.setLast, Dn.getLast, evalO, mapO, Dn.get, putE, gX82, gX92, gXa2, gXb2, TV.one, TV.isAgg, Dn.part, gXc2, negb, at0, at1, at2, at3, at4, dT, dF, gXd2, Option.bind_some, Option.map_some, cl, go_denK (c := l40_3) rfl, q1]

end Go.Proofs.Try.Dn

