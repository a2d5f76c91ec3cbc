/-
  Dice: Orders: one order's number.
-/
import Derived.Test.YtijeefncmgjlpaaV4
set_option linter.unusedSimpArgs false
set_option linter.unusedVariables false

set_option maxHeartbeats 4000000
set_option maxRecDepth 100000
namespace Go.Proofs.Try.Dn
open Go.Dn

def rs (ls : List (List Int)) : List Nat → Int → Nat
  | [], _ => 1
  | i :: l, last => ((ls.getD i []).map fun f => if last < f then rs ls l f else 0).sum

theorem l41_10_all {pg : Pg} {V13 T Lv : TV} {ls : List (List Int)} (hT : SSV T ls) (hD : ∀ d ∈ ls, DieL 60 d) {rD : Nat} {l : List Nat} (hl : ∀ x ∈ l, x < ls.length) (h4 : l.length ≤ 1000) (hLv : SV Lv (ci l)) :
    ∀ (r k mid : Nat) (H : Heap) (es : List (Int × TV)) (g : Int → Option Nat), k + r = l.length → H[rD]? = some (.cells [T] false) → H[mid]? = some (.mapS es es.length) → CM es g → KB g → mass es * 8 ^ r ≤ 1000000 →
    ∃ mid' es' g' H' v, den pg l41_10 [(1, .ref rD 0), (13, V13), (15, .mp mid), (72, Lv), (73, .i .i64 (l.length : Int)), (74, .i .i64 (k : Int))] H =
      some ⟨.exit 6, [(1, .ref rD 0), (13, V13), (15, .mp mid'), (72, Lv), (73, .i .i64 (l.length : Int)), (74, .i .i64 (l.length : Int)), (75, v)], H'⟩ ∧
      H'[mid']? = some (.mapS es' es'.length) ∧ CM es' g' ∧ KB g' ∧ mass es' = wgt (rs ls (l.drop k)) es ∧ mass es' ≤ 1000000 ∧ H.length ≤ H'.length ∧ ∀ i, i < H.length → H'[i]? = H[i]?
  | 0, k, mid, H, es, g, hk, hR, hM, hc, hb, hm => by
    obtain rfl : k = l.length := by omega
    refine ⟨mid, es, g, H, .b false, ?_, hM, hc, hb, by rw [List.drop_length]; exact (wgt_one es).symm, by simpa using hm, Nat.le_refl _, fun _ _ => rfl⟩
    rw [l41_10, den_loop]
    simp (disch := omega) [b41_9, gX0, gX1, gX2, gX3, gX4, gX5, gX6, gX7, gX8, gX9, gXa, gXb, gXc, gXd, gXe, gXf, gXg, gXh, gXi, gXj, gXk, gXl, gXm, gXn, gXo, gXp, gXq, gXr, gXs, gXt, gXu, gXv, gXw, gXx, k_mv, gXy, gXz, gX01, gX11, gX21, gX31, gX41, gX51, gX61, gX71, gX81, gX91, gXa1, gXb1, gXc1, gXd1, gXe1, gXf1, gXg1, gXh1, gXi1, gXj1, gXk1, gXl1, gXm1, gXn1, gXo1, gXp1, gXq1, gXr1, gXs1, gXt1, gXu1, k_mn, k_mx, gXv1, gXw1, gXx1, gXy1, gXz1, gX02, gX12, gX22, gX32, gX42, gX52, gX62, gX72, Dn.setLast, Dn.getLast, evalO, mapO, Dn.get, putE, gX82, gX92, gXa2, gXb2, TV.one, TV.isAgg, Dn.part, gXc2, negb, at0, at1, at2, at3, at4, dT, dF, gXd2, Option.bind_some, Option.map_some]
  | r + 1, k, mid, H, es, g, hk, hR, hM, hc, hb, hm => by
    obtain ⟨i, hi⟩ : ∃ i, l[k]? = some i := ⟨_, List.getElem?_eq_getElem (by omega)⟩
    have hil := hl i (List.mem_of_getElem? hi)
    obtain ⟨d, hd⟩ : ∃ d, ls[i]? = some d := ⟨_, List.getElem?_eq_getElem hil⟩
    have hdr : l.drop k = i :: l.drop (k + 1) := by
      obtain ⟨h1, rfl⟩ := List.getElem?_eq_some_iff.1 hi
      exact List.drop_eq_getElem_cons h1
    have hgd : ls.getD i [] = d := by rw [List.getD_eq_getElem?_getD, hd]; rfl
    have hdd := hD d (List.mem_of_getElem? hd)
    have hmid : mid < H.length := (List.getElem?_eq_some_iff.1 hM).1
    have hrD : rD < H.length := (List.getElem?_eq_some_iff.1 hR).1
    have hm1 : mass es ≤ 1000000 := Nat.le_trans (Nat.le_mul_of_pos_right _ (Nat.pow_pos (by omega))) hm
    obtain ⟨p, p1, p2⟩ := ixI (pg := pg) (R := den pg) (hLv.view H) (ci_at hi)
    obtain ⟨H1, hH1⟩ : ∃ H1, H1 = H ++ [AObj.mapS [] 0] := ⟨_, rfl⟩
    have mk := k_mkS (pg := pg) (R := den pg) H
    rw [← hH1] at mk
    have l1 : H1.length = H.length + 1 := by rw [hH1]; simp
    have f1 : ∀ j, j < H.length → H1[j]? = H[j]? := fun j hj => by rw [hH1, List.getElem?_append_left hj]
    have g1 : H1[mid]? = some (.mapS es es.length) := by rw [f1 _ hmid]; exact hM
    have g1n : H1[H.length]? = some (.mapS [] ([] : List (Int × TV)).length) := by rw [hH1]; exact getLast _ _
    have agT : T.isAgg = false := by rcases hT with ⟨rfl, _⟩ | ⟨b, ts, rfl, _⟩ <;> rfl
    have ld := ldC1 (pg := pg) (H := H1) (r := rD) (t := T) (by rw [f1 _ hrD]; exact hR) agT
    obtain ⟨u, L, u1, u2, hL⟩ := hT.ix (pg := pg) (R := den pg) hd H1
    have ln : ∀ K, lenK 0 L K = some d.length := fun K => (hL.view K).lenK K
    have hle8 := hdd.le
    have hmul : d.length * mass es ≤ 8 * 1000000 := Nat.mul_le_mul hle8 hm1
    obtain ⟨es1, g2, H2, v2, r1, r2, r3, r4, r5, r6, r7⟩ := l41_8_all (pg := pg) (V1 := .ref rD 0) (V13 := V13) (V72 := Lv) (V73 := .i .i64 (l.length : Int)) (V74 := .i .i64 (k : Int)) hL hle8 (fun f hf => hdd.ok f hf) (mid := mid) (nid := H.length) (by omega) hc hb hm1 d.length 0 H1 [] (fun _ => none) (by omega) g1 g1n CM.nil (fun k hk => by simp at hk) (by simp [mass] at *; omega)
    simp only [List.drop_zero] at r5
    have hmass1 : mass es1 ≤ d.length * mass es := by
      have h1 := r5 (fun _ => 1)
      rw [wgt_one] at h1
      have h2 := sumF_le es d
      have h3 : wgt (fun _ => 1) ([] : List (Int × TV)) = 0 := rfl
      omega
    have hR2 : H2[rD]? = some (.cells [T] false) := by rw [r7 _ (by omega) (by omega), f1 _ hrD]; exact hR
    have hm2 : mass es1 * 8 ^ r ≤ 1000000 := by
      refine Nat.le_trans (Nat.mul_le_mul_right _ (Nat.le_trans hmass1 (Nat.mul_le_mul_right _ hle8))) ?_
      rw [Nat.pow_succ] at hm
      have e : 8 * mass es * 8 ^ r = mass es * (8 ^ r * 8) := by rw [Nat.mul_comm 8 (mass es), Nat.mul_assoc, Nat.mul_comm 8 (8 ^ r)]
      omega
    obtain ⟨mid', es', g', H', v, x1, x2, x3, x4, x5, x6, x7, x8⟩ := l41_10_all (pg := pg) (V13 := V13) hT hD hl h4 hLv r (k + 1) H.length H2 es1 g2 (by omega) hR2 r2 r3 r4 hm2
    refine ⟨mid', es', g', H', v, Eq.trans ?_ x1, x2, x3, x4, ?_, x6, by omega, fun j hj => by rw [x8 j (by omega), r7 j (by omega) (by omega), f1 j hj]⟩
    · have w2 : wrapR .i64 ((k : Int) + 1) = .i .i64 ((k + 1 : Nat) : Int) := by rw [← Int.natCast_succ]; exact gXd2 (by omega)
      have dk : decide ((k : Int) < (l.length : Int)) = true := dT (by omega)
      simp only [Int.natCast_zero] at r1
      clear x1 x2 x3 x4 x5 x6 x7 x8 r2 r3 r4 r5 r6 r7 hm hm1 hm2 hmul hmass1 hR hM hR2 hH1 hl hD hd hdd hL hLv g1 g1n f1 hT l1 hi hil hgd
      generalize ((k + 1 : Nat) : Int) = K2 at *
      generalize (k : Int) = K at *
      generalize (l.length : Int) = NL at *
      generalize (i : Int) = I at *
      obtain ⟨N, hN⟩ : ∃ N, N = d.length := ⟨_, rfl⟩
      rw [← hN] at ln r1
      generalize H.length = HL at *
      conv => lhs; rw [l41_10, den_loop]
      simp (disch := omega) [l41_10, b41_9, gX0, gX1, gX2, gX3, gX4, gX5, gX6, gX7, gX8, gX9, gXa, gXb, gXc, gXd, gXe, gXf, gXg, gXh, gXi, gXj, gXk, gXl, gXm, gXn, gXo, gXp, gXq, gXr, gXs, gXt, gXu, gXv, gXw, gXx, k_mv, gXy, gXz, gX01, gX11, gX21, gX31, gX41, gX51, gX61, gX71, gX81, gX91, gXa1, gXb1, gXc1, gXd1, gXe1, gXf1, gXg1, gXh1, gXi1, gXj1, gXk1, gXl1, gXm1, gXn1, gXo1, gXp1, gXq1, gXr1, gXs1, gXt1, gXu1, k_mn, k_mx, gXv1, gXw1, gXx1, gXy1, gXz1, gX02, gX12, gX22, gX32, gX42, gX52, gX62, gX72, Dn.setLast, Dn.getLast, evalO, mapO, Dn.get, putE, gX82, gX92, gXa2, gXb2, TV.one, TV.isAgg, Dn.part, gXc2, negb, at0, at1, at2, at3, at4, dT, dF, gXd2, Option.bind_some, Option.map_some, dk, p1, p2, mk, ld, u1, u2, ln, go_denK (c := l41_8) rfl, r1, w2]
    · rw [x5, r5, sumF_wgt, hdr]
      have h3 : ∀ R, wgt R ([] : List (Int × TV)) = 0 := fun R => rfl
      rw [h3, Nat.zero_add]
      congr 1
      funext x
      show _ = ((ls.getD i []).map fun f => if x < f then rs ls (l.drop (k + 1)) f else 0).sum
      rw [hgd]

abbrev ops41b : List DOper := [⟨(some 110), .mv, [.t 110], none⟩, ⟨(some 111), (.ext 1), [.t 110], none⟩, ⟨(some 25), .mv, [.t 111], none⟩]

theorem mf41b {pg : Pg} {V13 : TV} {it : Nat} {H : Heap} : ∀ (p : List (Int × TV)), (∀ q ∈ p, EntO q) → ∀ n : Nat, n + mass p ≤ 4611686018427387904 →
    mf pg (den pg) 107 it 13 110 ops41b [13, 23, 25, 107] b41_11 [13, 23, 107] p [(13, V13), (23, .i .i64 (n : Int)), (107, .ref it 0)] H = some ([(13, V13), (23, .i .i64 ((n + mass p : Nat) : Int)), (107, .ref it 0)], H)
  | [], hp, n, hm => mf_nil _ _
  | (s, v) :: p, hp, n, hm => by
    obtain ⟨hs, m, hn⟩ := hp (s, v) (List.mem_cons_self ..)
    have hn : v = .i .i64 (m : Int) := hn
    subst hn
    have hmp : mass ((s, .i .i64 (m : Int)) :: p) = m + mass p := by simp [mass, TV.num]
    rw [hmp] at hm ⊢
    have ih := mf41b (pg := pg) (V13 := V13) (it := it) (H := H) p (fun q hq => hp q (List.mem_cons_of_mem _ hq)) (n + m) (by omega)
    rw [show n + m + mass p = n + (m + mass p) by omega] at ih
    refine Eq.trans (mf_cons (e1 := [(13, V13), (23, .i .i64 ((n + m : Nat) : Int)), (107, .ref it 0)]) ?_ rfl) ih
    have wv : wrapR .i64 ((n : Int) + (m : Int)) = .i .i64 ((n + m : Nat) : Int) := by rw [← Int.natCast_add]; exact gXd2 (by omega)
    generalize ((n + m : Nat) : Int) = nm at *
    simp (disch := omega) [b41_11, gX0, gX1, gX2, gX3, gX4, gX5, gX6, gX7, gX8, gX9, gXa, gXb, gXc, gXd, gXe, gXf, gXg, gXh, gXi, gXj, gXk, gXl, gXm, gXn, gXo, gXp, gXq, gXr, gXs, gXt, gXu, gXv, gXw, gXx, k_mv, gXy, gXz, gX01, gX11, gX21, gX31, gX41, gX51, gX61, gX71, gX81, gX91, gXa1, gXb1, gXc1, gXd1, gXe1, gXf1, gXg1, gXh1, gXi1, gXj1, gXk1, gXl1, gXm1, gXn1, gXo1, gXp1, gXq1, gXr1, gXs1, gXt1, gXu1, k_mn, k_mx, gXv1, gXw1, gXx1, gXy1, gXz1, gX02, gX12, gX22, gX32, gX42, gX52, gX62, gX72, Dn.setLast, Dn.getLast, evalO, mapO, Dn.get, putE, gX82, gX92, gXa2, gXb2, TV.one, TV.isAgg, Dn.part, gXc2, negb, at0, at1, at2, at3, at4, dT, dF, gXd2, Option.bind_some, Option.map_some, wv]

theorem run41_15 {pg : Pg} {T Lv tO : TV} {ls : List (List Int)} (hT : SSV T ls) (hD : ∀ d ∈ ls, DieL 60 d) {rD rO : Nat} {l : List Nat} (hl : ∀ x ∈ l, x < ls.length) (h4 : l.length ≤ 6) (hLv : SV Lv (ci l)) {H : Heap} {out : List Int} (hR : H[rD]? = some (.cells [T] false)) (hO : H[rO]? = some (.cells [tO] false)) (wO : elI.Own H tO out) (hol : out.length ≤ 10000) (hne : tO.idOf ≠ some rO) :
    ∃ tO' H' H3, den pg b41_15 [(1, .ref rD 0), (13, .ref rO 0), (14, Lv)] H = some ⟨.normal, [], H'⟩ ∧ H' = H3.set rO (.cells [tO'] false) ∧ elI.Own H3 tO' (out ++ [((rs ls l (-1) : Nat) : Int)]) ∧ H.length ≤ H3.length ∧ (∀ j, j < H.length → tO.idOf ≠ some j → H3[j]? = H[j]?) ∧ (tO' = tO ∨ ∀ id, tO'.idOf = some id → H.length ≤ id) := by
  have hrD : rD < H.length := (List.getElem?_eq_some_iff.1 hR).1
  have hrO : rO < H.length := (List.getElem?_eq_some_iff.1 hO).1
  have mk := k_mkS (pg := pg) (R := den pg) H
  obtain ⟨H1, hH1⟩ : ∃ H1, H1 = H ++ [AObj.mapS [] 0] := ⟨_, rfl⟩
  rw [← hH1] at mk
  have l1 : H1.length = H.length + 1 := by rw [hH1]; simp
  have g1 : H1[H.length]? = some (.mapS [] ([] : List (Int × TV)).length) := by rw [hH1]; exact getLast _ _
  have st := CM.nil.set (pg := pg) (R := den pg) g1 (-1) 1
  have hc := CM.nil.ins (-1) 1
  obtain ⟨es0, hes0⟩ : ∃ es0, es0 = insS (-1) (.i .i64 ((1 : Nat) : Int)) [] := ⟨_, rfl⟩
  have hm0 : mass es0 = 1 := by rw [hes0]; rfl
  have hw0 : ∀ R, wgt R es0 = R (-1) := fun R => by rw [hes0]; show 1 * R (-1) + 0 = _; omega
  rw [← hes0] at st hc
  obtain ⟨H2, hH2⟩ : ∃ H2, H2 = H1.set H.length (.mapS es0 es0.length) := ⟨_, rfl⟩
  rw [← hH2] at st
  have g2 : H2[H.length]? = some (.mapS es0 es0.length) := by rw [hH2, List.getElem?_set_self (by omega)]
  have l2 : H2.length = H.length + 1 := by rw [hH2]; simp [l1]
  have f2 : ∀ j, j < H.length → H2[j]? = H[j]? := fun j hj => by rw [hH2, List.getElem?_set_ne (by omega), hH1, List.getElem?_append_left hj]
  have hp8 : 8 ^ l.length ≤ 8 ^ 6 := Nat.pow_le_pow_right (by omega) h4
  obtain ⟨mid, es, g, H3, v, r1, r2, r3, r4, r5, r6, r7, r8⟩ := l41_10_all (pg := pg) (V13 := .ref rO 0) hT hD hl (by omega) hLv l.length 0 H.length H2 es0 _ (by omega) (by rw [f2 _ hrD]; exact hR) g2 hc (fun k hk => by
    unfold updM at hk
    by_cases h : k = -1
    · omega
    · rw [if_neg h] at hk; simp at hk) (by rw [hm0]; omega)
  rw [List.drop_zero, hw0] at r5
  have hmid : mid < H3.length := (List.getElem?_eq_some_iff.1 r2).1
  have rg : dkc pg (den pg) .rngS [.mp mid] H3 = some (.ref H3.length 0, H3 ++ [.iter mid es.length]) := by rw [k_rngS, r2]; rfl
  obtain ⟨H4, hH4⟩ : ∃ H4, H4 = H3 ++ [AObj.iter mid es.length] := ⟨_, rfl⟩
  rw [← hH4] at rg
  have g4 : H4[mid]? = some (.mapS es es.length) := by rw [hH4, List.getElem?_append_left hmid]; exact r2
  have g4i : H4[H3.length]? = some (.iter mid es.length) := by rw [hH4]; exact getLast _ _
  have l4 : H4.length = H3.length + 1 := by rw [hH4]; simp
  obtain ⟨Hd, hHd⟩ : ∃ Hd, Hd = (H4.set H3.length .dead).set mid .dead := ⟨_, rfl⟩
  obtain ⟨H5, hH5⟩ : ∃ H5, H5 = Hd.set mid (.mapS es es.length) := ⟨_, rfl⟩
  have mr : ∀ K, go pg (den pg) (.c l41_13 :: K) .normal [(13, .ref rO 0), (23, .i .i64 0), (107, .ref H3.length 0)] H4 = go pg (den pg) (.c z41_12 :: K) .normal [(13, .ref rO 0), (23, .i .i64 ((rs ls l (-1) : Nat) : Int)), (107, .ref H3.length 0)] H5 := fun K => by
    unfold l41_13
    rw [hH5]
    refine go_mrange (id := H3.length) rfl g4i g4 fun q hq => ?_
    rw [← hHd]
    have := mf41b (pg := pg) (V13 := .ref rO 0) (it := H3.length) (H := Hd) q (fun x hx => KB.ent r3 r4 x (hq.mem_iff.1 hx)) 0 (by rw [mass_perm hq]; omega)
    rw [mass_perm hq, Nat.zero_add, r5] at this
    exact this
  have l5 : H5.length = H3.length + 1 := by rw [hH5, hHd]; simp [l4]
  have f5 : ∀ j, j < H.length → H5[j]? = H[j]? := fun j hj => by
    by_cases hjm : j = mid
    · rw [hjm, hH5, List.getElem?_set_self (by rw [hHd]; simp; omega), ← r2, r8 _ (by omega), f2 _ (by omega)]
    · rw [hH5, List.getElem?_set_ne (Ne.symm hjm), hHd, List.getElem?_set_ne (Ne.symm hjm), List.getElem?_set_ne (by omega), hH4, List.getElem?_append_left (by omega), r8 j (by omega), f2 j hj]
  have tlt := wO.lt
  have w5 : elI.Own H5 tO out := wO.mono fun id hid => f5 id (tlt id hid)
  have c5 : H5[rO]? = some (.cells [tO] false) := by rw [f5 _ hrO]; exact hO
  have oT : tO.isAgg = false := by rcases wO with ⟨rfl, _⟩ | ⟨_, id, ag, c, rfl, _⟩ <;> rfl
  have ld := ldC1 (pg := pg) c5 oT
  obtain ⟨W, hW⟩ : ∃ W : Nat, W = rs ls l (-1) := ⟨_, rfl⟩
  obtain ⟨H6, hH6⟩ : ∃ H6, H6 = H5 ++ [AObj.cells [.i .i64 (W : Int)] false] := ⟨_, rfl⟩
  have bs : dkc pg (den pg) (.bsl false [.i .i64 0] false 1 [0]) [.i .i64 (W : Int)] H5 = some (.sl H5.length 0 1 false 1 (some 1), H6) := by rw [hH6]; rfl
  have ov := one_view H5 (W : Int)
  rw [← hH6] at ov
  have l6 : H6.length = H5.length + 1 := by rw [hH6]; simp
  have f6 : ∀ j, j < H5.length → H6[j]? = H5[j]? := fun j hj => by rw [hH6, List.getElem?_append_left hj]
  obtain ⟨tO', H7, t1, t2, t3, t4, t5⟩ := appI (w5.mono (H' := H6) fun id hid => f6 id (by have := tlt id hid; omega)) ov (by simp; omega)
  have f7 : ∀ j, j < H.length → tO.idOf ≠ some j → H7[j]? = H[j]? := fun j hj hn => by rw [t4 j (by omega) hn, f6 j (by omega), f5 j hj]
  have c7 : H7[rO]? = some (.cells [tO] false) := by rw [f7 _ hrO hne]; exact hO
  have o3 : tO'.one = true ∧ tO'.cells = [tO'] := by
    rcases t2 with ⟨rfl, _⟩ | ⟨_, id, ag, c, rfl, _⟩ <;> exact ⟨rfl, rfl⟩
  have st3 := stC1 (pg := pg) c7 o3.1 o3.2
  refine ⟨tO', _, H7, ?_, rfl, by rw [← hW]; exact t2, by omega, f7, ?_⟩
  · rw [den_eq, runC_go]
    rw [← hW] at mr
    have ln : ∀ K, (lenK 0 Lv K).map (fun (n : Nat) => TV.i .i64 (n : Int)) = some (.i .i64 (l.length : Int)) := fun K => by rw [(hLv.view K).lenK, ci_len]; rfl
    simp only [Int.natCast_zero] at r1
    have st' : dkc pg (den pg) .setS [.mp H.length, .i .i64 (-1), .i .i64 1] H1 = some (.undef, H2) := st
    clear hR hO hH1 l1 g1 hc hes0 hm0 hw0 st hH2 g2 l2 f2 hp8 r2 r3 r4 r5 r6 r7 r8 hmid hH4 g4 g4i l4 hHd hH5 l5 f5 w5 c5 hH6 ov l6 f6 t2 t3 t4 t5 f7 c7 o3 tlt hLv hW wO
    generalize (H7.set rO (.cells [tO'] false)) = K7 at *
    generalize (TV.sl H5.length 0 1 false 1 (some 1)) = SW at *
    generalize H.length = HL at *
    generalize H3.length = HL3 at *
    generalize (l.length : Int) = NL at *
    generalize (W : Int) = WW at *
    simp (disch := omega) [b41_15, z41_12, gX0, gX1, gX2, gX3, gX4, gX5, gX6, gX7, gX8, gX9, gXa, gXb, gXc, gXd, gXe, gXf, gXg, gXh, gXi, gXj, gXk, gXl, gXm, gXn, gXo, gXp, gXq, gXr, gXs, gXt, gXu, gXv, gXw, gXx, k_mv, gXy, gXz, gX01, gX11, gX21, gX31, gX41, gX51, gX61, gX71, gX81, gX91, gXa1, gXb1, gXc1, gXd1, gXe1, gXf1, gXg1, gXh1, gXi1, gXj1, gXk1, gXl1, gXm1, gXn1, gXo1, gXp1, gXq1, gXr1, gXs1, gXt1, gXu1, k_mn, k_mx, gXv1, gXw1, gXx1, gXy1, gXz1, gX02, gX12, gX22, gX32, gX42, gX52, gX62, gX72, Dn.setLast, Dn.getLast, evalO, mapO, Dn.get, putE, gX82, gX92, gXa2, gXb2, TV.one, TV.isAgg, Dn.part, gXc2, negb, at0, at1, at2, at3, at4, dT, dF, gXd2, Option.bind_some, Option.map_some, mk, st', ln, go_denK (c := l41_10) rfl, r1, rg, go_seqr, mr, ld, bs, t1, st3, -gXx1]
  · rcases t5 with h | h
    · exact .inl h
    · exact .inr fun id hid => by have := h id hid; omega

end Go.Proofs.Try.Dn

