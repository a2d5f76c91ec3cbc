/-
  Dice: all orders of some indices: the search.
-/
import Derived.Test.YtijeefncmgjlpaaV3
set_option linter.unusedSimpArgs false
set_option linter.unusedVariables false

set_option maxHeartbeats 4000000
set_option maxRecDepth 100000
namespace Go.Proofs.Try.Dn
open Go.Dn

def r94_0 : DC :=
 (.reg [⟨(some 4), .mv, [.c (.b false)], none⟩] [0, 1, 2, 3])

def r94_1 : DC :=
 (.seq (.reg [⟨(some 6), (.ld 1 false), [.t 0], none⟩,
   ⟨(some 7), (.len 0), [.t 6], none⟩,
   ⟨(some 8), (.ld 1 false), [.t 1], none⟩,
   ⟨(some 9), (.binI .eql), [.t 7, .t 8], none⟩] [0, 1, 2, 3, 9])
 (.cond (.t 9)
  (.seq (.reg [⟨(some 10), (.ld 1 false), [.t 2], none⟩,
    ⟨(some 11), (.ld 1 false), [.t 0], none⟩,
    ⟨(some 12), (.call (.pu [])), [.c (.fn 88 [] []), .t 11], none⟩,
    ⟨(some 13), (.call .sh), [.t 10, .t 12], none⟩,
    ⟨(some 4), .mv, [.t 13], none⟩] [4])
  .ret)
  .skip))

def r94_2 : DC :=
 (.seq (.reg [⟨(some 14), (.ld 1 false), [.t 1], none⟩,
   ⟨(some 15), .mv, [.c (.i .i64 0)], none⟩] [0, 3, 14, 15])
 (.block 0
  l94_1))

def r94_3 : DC :=
 (.reg [⟨(some 4), .mv, [.c (.b true)], none⟩] [4])

def r94_4 : DC :=
 .ret

theorem c94_parts : c94 = (.seq r94_0 (.seq r94_1 (.seq r94_2 (.seq r94_3 r94_4)))) := rfl

theorem PW.borS {H : Heap} {t : TV} {l : List Int} (h : PW H t l) : ∃ A, snap .borrow H 9 t = some A ∧ SV A l := by
  rcases h with ⟨rfl, rfl⟩ | h
  · exact ⟨.nilsl, gXe2 _ _, .inl ⟨rfl, rfl⟩⟩
  · have := h.view.snap elI_flat (by obtain ⟨id, off, cap, c, ag, rfl, _⟩ := h; intro e; cases e)
    exact ⟨_, this, .inr ⟨true, rfl⟩⟩

theorem ci_mem {l : List Nat} {i : Nat} : decide ((i : Int) ∈ ci l) = decide (i ∈ l) := by
  have : (i : Int) ∈ ci l ↔ i ∈ l := by
    unfold ci
    rw [List.mem_map]
    exact ⟨fun ⟨y, hy, e⟩ => by have : y = i := by omega
                                rw [← this]; exact hy, fun h => ⟨i, h, rfl⟩⟩
  by_cases h : i ∈ l
  · rw [decide_eq_true h, decide_eq_true (this.2 h)]
  · rw [decide_eq_false h, decide_eq_false (fun g => h (this.1 g))]

def permsF (n k : Nat) (l : List Nat) (i r : Nat) : List (List Nat) := (List.range' i r).flatMap fun i => if i ∈ l then [] else perms n k (l ++ [i])

theorem perms_succ (n k : Nat) (l : List Nat) : perms n (k + 1) l = permsF n k l 0 n := by
  unfold perms permsF
  rw [List.range_eq_range']
theorem permsF_succ (n k : Nat) (l : List Nat) (i r : Nat) : permsF n k l i (r + 1) = (if i ∈ l then [] else perms n k (l ++ [i])) ++ permsF n k l (i + 1) r := by
  unfold permsF
  rw [List.range'_succ, List.flatMap_cons]

def Spec94 (pg : Pg) (q : Q94) (n : Nat) (Y : TV) (I : List (List Nat) → (Nat → Prop) → Heap → Prop) (k : Nat) : Prop := ∀ (l : List Nat) (acc : List (List Nat)) (own : Nat → Prop) (tL : TV) (H : Heap), HO q n Y I l acc tL own H → l.length + k = n → (∀ x ∈ l, x < n) → acc.length + (perms n k l).length < 10000 →
  ∃ tL' own' H', bodyRun pg (den pg) 94 q.caps H = some (.b true, H') ∧ HO q n Y I l (acc ++ perms n k l) tL' own' H'

theorem l94_1_all {pg : Pg} (hF : Free pg) {q : Q94} {n : Nat} (hn : n ≤ 1000) {Y : TV} {I : List (List Nat) → (Nat → Prop) → Heap → Prop} (hC : Con1 pg Y n I) {k : Nat} (ih : Spec94 pg q n Y I k) {l : List Nat} (hl : l.length + (k + 1) = n) (hb : ∀ x ∈ l, x < n) :
    ∀ (r i : Nat) (acc : List (List Nat)) (own : Nat → Prop) (tL : TV) (H : Heap), i + r = n → HO q n Y I l acc tL own H → acc.length + (permsF n k l i r).length < 10000 →
    ∃ tL' own' H' v, den pg l94_1 [(0, .ref q.rL 0), (3, .ref q.rG 0), (14, .i .i64 (n : Int)), (15, .i .i64 (i : Int))] H = some ⟨.exit 0, [(0, .ref q.rL 0), (3, .ref q.rG 0), (14, .i .i64 (n : Int)), (15, .i .i64 (n : Int)), (16, v)], H'⟩ ∧ HO q n Y I l (acc ++ permsF n k l i r) tL' own' H'
  | 0, i, acc, own, tL, H, hi, h, ha => by
    obtain rfl : i = n := by omega
    refine ⟨tL, own, H, .b false, ?_, by rw [show permsF i k l i 0 = [] from rfl, List.append_nil]; exact h⟩
    clear h
    generalize (i : Int) = N at *
    rw [l94_1, den_loop]
    simp (disch := omega) [b94_0, gX0, gX1, gX2, gX3, gX4, gX5, gX6, gX7, gX8, gX9, gXa, gXb, gXc, gXd, gXe, gXf, gXg, gXh, gXi, gXj, gXk, gXl, gXm, gXn, gXo, gXp, gXq, gXr, gXs, gXt, gXu, gXv, gXw, gXx, k_mv, gXy, gXz, gX01, gX11, gX21, gX31, gX41, gX51, gX61, gX71, gX81, gX91, gXa1, gXb1, gXc1, gXd1, gXe1, gXf1, gXg1, gXh1, gXi1, gXj1, gXk1, gXl1, gXm1, gXn1, gXo1, gXp1, gXq1, gXr1, gXs1, gXt1, gXu1, k_mn, k_mx, gXv1, gXw1, gXx1, gXy1, gXz1, gX02, gX12, gX22, gX32, gX42, gX52, gX62, gX72, Dn.setLast, Dn.getLast, evalO, mapO, Dn.get, putE, gX82, gX92, gXa2, gXb2, TV.one, TV.isAgg, Dn.part, gXc2, negb, at0, at1, at2, at3, at4, dT, dF, gXd2, Option.bind_some, Option.map_some]
  | r + 1, i, acc, own, tL, H, hi, h, ha => by
    rw [permsF_succ, List.length_append] at ha
    rw [permsF_succ, ← List.append_assoc]
    have dd : decide ((i : Int) < (n : Int)) = true := dT (by omega)
    have w2 : wrapR .i64 ((i : Int) + 1) = .i .i64 ((i + 1 : Nat) : Int) := by rw [← Int.natCast_succ]; exact gXd2 (by omega)
    have a1 := ldC1 (pg := pg) h.hL h.wL.one.2
    obtain ⟨A, sA, hA⟩ := h.wL.borS
    have c95 := PFn.call (fn95 (pg := pg) hF hA (i : Int) (by rw [ci_len]; omega)) (args := [tL, .i .i64 (i : Int)]) (ks := []) (fs := []) (cs := []) (H := H) (by simp [snapArgs, sA, sn_i])
    rw [ci_mem] at c95
    by_cases hm : i ∈ l
    · rw [if_pos hm] at ha ⊢
      rw [decide_eq_true hm] at c95
      rw [List.append_nil]
      obtain ⟨tL', own', H', v, r1, r2⟩ := l94_1_all hF hn hC ih hl hb r (i + 1) acc own tL H (by omega) h (by simpa using ha)
      refine ⟨tL', own', H', v, Eq.trans ?_ r1, r2⟩
      clear r1 r2 h hA sA hC ih
      generalize ((i + 1 : Nat) : Int) = I2 at *
      generalize (i : Int) = I0 at *
      generalize (n : Int) = N at *
      conv => lhs; rw [l94_1, den_loop]
      simp (disch := omega) [l94_1, b94_0, gX0, gX1, gX2, gX3, gX4, gX5, gX6, gX7, gX8, gX9, gXa, gXb, gXc, gXd, gXe, gXf, gXg, gXh, gXi, gXj, gXk, gXl, gXm, gXn, gXo, gXp, gXq, gXr, gXs, gXt, gXu, gXv, gXw, gXx, k_mv, gXy, gXz, gX01, gX11, gX21, gX31, gX41, gX51, gX61, gX71, gX81, gX91, gXa1, gXb1, gXc1, gXd1, gXe1, gXf1, gXg1, gXh1, gXi1, gXj1, gXk1, gXl1, gXm1, gXn1, gXo1, gXp1, gXq1, gXr1, gXs1, gXt1, gXu1, k_mn, k_mx, gXv1, gXw1, gXx1, gXy1, gXz1, gX02, gX12, gX22, gX32, gX42, gX52, gX62, gX72, Dn.setLast, Dn.getLast, evalO, mapO, Dn.get, putE, gX82, gX92, gXa2, gXb2, TV.one, TV.isAgg, Dn.part, gXc2, negb, at0, at1, at2, at3, at4, dT, dF, gXd2, Option.bind_some, Option.map_some, dd, a1, c95, w2]
    · rw [if_neg hm] at ha ⊢
      rw [decide_eq_false hm] at c95
      obtain ⟨tP', H2, t1, t2, t3, t4, t5⟩ := h.wL.app (x := (i : Int)) (by rw [ci_len]; omega)
      rw [← ci_snoc] at t2
      obtain ⟨H1', hH1'⟩ : ∃ H1', H1' = H ++ [AObj.cells [.i .i64 (i : Int)] false] := ⟨_, rfl⟩
      have bs : dkc pg (den pg) (.bsl false [.i .i64 0] false 1 [0]) [.i .i64 (i : Int)] H = some (.sl H.length 0 1 false 1 (some 1), H1') := by rw [hH1']; rfl
      rw [← hH1'] at t1
      have h2 := h.setL (pg := pg) hC t2 t4 t5 t3
      have hPa : H2[q.rL]? = some (.cells [tL] false) := by
        rw [t4 _ (h.lt q.rL (by simp [Q94.ids])) (fun e => (h.dL _ e).1 (by simp [Q94.ids]))]
        exact h.hL
      have hcl : tP'.cells = [tP'] := by
        rcases t2 with ⟨rfl, _⟩ | ⟨id, off, cap, c, ag, rfl, _⟩ <;> rfl
      have st := stC1 (pg := pg) hPa t2.one.1 hcl
      obtain ⟨tL3, own3, H4, x1, x2⟩ := ih (l ++ [i]) acc own tP' _ h2 (by simp; omega) (fun x hx => by
        rcases List.mem_append.1 hx with hx | hx
        · exact hb x hx
        · rw [List.mem_singleton.1 hx]; omega) (by omega)
      have lg := ldC1 (pg := pg) h2.hG rfl
      have cl : callRun pg (den pg) .sh [.fn 94 [] q.caps] (H2.set q.rL (.cells [tP'] false)) = some (.b true, H4) := x1
      have b1 := ldC1 (pg := pg) x2.hL x2.wL.one.2
      have ln : ∀ K, (lenK 0 tL3 K).map (fun (n : Nat) => TV.i .i64 (n : Int)) = some (.i .i64 ((l.length + 1 : Nat) : Int)) := fun K => by rw [x2.wL.view.lenK, ci_len]; simp
      have wl : wrapR .i64 (((l.length + 1 : Nat) : Int) - 1) = .i .i64 (l.length : Int) := by rw [show (((l.length + 1 : Nat) : Int) - 1) = (l.length : Int) by omega]; exact gXd2 (by omega)
      have hw := x2.wL
      rw [ci_snoc] at hw
      obtain ⟨tL5, c1, c2, c3⟩ := hw.cut
      rw [ci_len] at c1
      have hcl5 : tL5.cells = [tL5] := by
        rcases c2 with ⟨rfl, _⟩ | ⟨id, off, cap, c, ag, rfl, _⟩ <;> rfl
      have st5 := stC1 (pg := pg) x2.hL c2.one.1 hcl5
      have h5 := x2.setL (pg := pg) hC (l' := l) c2 (fun _ _ _ => rfl) (.inl c3) (Nat.le_refl _)
      obtain ⟨tL', own', H', v, r1, r2⟩ := l94_1_all hF hn hC ih hl hb r (i + 1) _ own3 tL5 _ (by omega) h5 (by rw [List.length_append]; omega)
      refine ⟨tL', own', H', v, Eq.trans ?_ r1, r2⟩
      clear r1 r2 h hA sA hC ih h2 x1 x2 h5 t2 t4 t5 c2 c3 hcl hcl5 hPa hw hH1'
      generalize (H4.set q.rL (.cells [tL5] false)) = K4 at *
      generalize (H2.set q.rL (.cells [tP'] false)) = K2 at *
      generalize (TV.sl H.length 0 1 false 1 (some 1)) = W at *
      generalize ((i + 1 : Nat) : Int) = I2 at *
      generalize ((l.length + 1 : Nat) : Int) = L1 at *
      generalize (l.length : Int) = L0 at *
      generalize (i : Int) = I0 at *
      generalize (n : Int) = N at *
      generalize TV.fn 94 [] q.caps = FN at *
      conv => lhs; rw [l94_1, den_loop]
      simp (disch := omega) [l94_1, b94_0, gX0, gX1, gX2, gX3, gX4, gX5, gX6, gX7, gX8, gX9, gXa, gXb, gXc, gXd, gXe, gXf, gXg, gXh, gXi, gXj, gXk, gXl, gXm, gXn, gXo, gXp, gXq, gXr, gXs, gXt, gXu, gXv, gXw, gXx, k_mv, gXy, gXz, gX01, gX11, gX21, gX31, gX41, gX51, gX61, gX71, gX81, gX91, gXa1, gXb1, gXc1, gXd1, gXe1, gXf1, gXg1, gXh1, gXi1, gXj1, gXk1, gXl1, gXm1, gXn1, gXo1, gXp1, gXq1, gXr1, gXs1, gXt1, gXu1, k_mn, k_mx, gXv1, gXw1, gXx1, gXy1, gXz1, gX02, gX12, gX22, gX32, gX42, gX52, gX62, gX72, Dn.setLast, Dn.getLast, evalO, mapO, Dn.get, putE, gX82, gX92, gXa2, gXb2, TV.one, TV.isAgg, Dn.part, gXc2, negb, at0, at1, at2, at3, at4, dT, dF, gXd2, Option.bind_some, Option.map_some, dd, a1, c95, bs, t1, st, lg, cl, b1, ln, wl, c1, st5, w2, -gXx1]

theorem spec94 {pg : Pg} (hF : Free pg) {q : Q94} {n : Nat} (hn : 1 ≤ n ∧ n ≤ 1000) {Y : TV} {I : List (List Nat) → (Nat → Prop) → Heap → Prop} (hC : Con1 pg Y n I) : ∀ k, Spec94 pg q n Y I k := by
  intro k
  induction k with
  | zero =>
    intro l acc own tL H h hl hb ha
    have hlen : l.length = n := by omega
    have a1 := ldC1 (pg := pg) h.hL h.wL.one.2
    have a2 := ldC1 (pg := pg) h.hN rfl
    have a3 := ldC1 (pg := pg) h.hY hC.ag
    have ln : ∀ K, (lenK 0 tL K).map (fun (n : Nat) => TV.i .i64 (n : Int)) = some (.i .i64 (n : Int)) := fun K => by rw [h.wL.view.lenK, ci_len, hlen]; rfl
    have hne : ci l ≠ [] := ci_ne (by intro e; rw [e] at hlen; simp at hlen; omega)
    have c88 := PFn.call (fn88 (pg := pg) hF (SV.lt true (ci l)) hne (by rw [ci_len]; omega)) (args := [tL]) (ks := []) (fs := []) (cs := []) (H := H) (by simp [snapArgs, h.wL.bor hne])
    obtain ⟨own', H', y1, y2, y3, y4, y5⟩ := hC.step _ _ _ l h.con (by omega) hlen hb
    refine ⟨tL, own', H', body_of (x := .ret) (e := [(4, .b true)]) (d := d94) (by rw [hF.F]; rfl) rfl ?_ (.inl rfl) rfl, h.took (pg := pg) y2 y3 y5⟩
    show go pg (den pg) [.c c94] .normal [(0, .ref q.rL 0), (1, .ref q.rN 0), (2, .ref q.rY 0), (3, .ref q.rG 0)] H = _
    rw [c94_parts]
    clear h hC y2 y3 y4 y5 hne
    generalize elI.lt false (ci l) = LV at *
    generalize (n : Int) = N at *
    simp (disch := omega) [r94_0, r94_1, gX0, gX1, gX2, gX3, gX4, gX5, gX6, gX7, gX8, gX9, gXa, gXb, gXc, gXd, gXe, gXf, gXg, gXh, gXi, gXj, gXk, gXl, gXm, gXn, gXo, gXp, gXq, gXr, gXs, gXt, gXu, gXv, gXw, gXx, k_mv, gXy, gXz, gX01, gX11, gX21, gX31, gX41, gX51, gX61, gX71, gX81, gX91, gXa1, gXb1, gXc1, gXd1, gXe1, gXf1, gXg1, gXh1, gXi1, gXj1, gXk1, gXl1, gXm1, gXn1, gXo1, gXp1, gXq1, gXr1, gXs1, gXt1, gXu1, k_mn, k_mx, gXv1, gXw1, gXx1, gXy1, gXz1, gX02, gX12, gX22, gX32, gX42, gX52, gX62, gX72, Dn.setLast, Dn.getLast, evalO, mapO, Dn.get, putE, gX82, gX92, gXa2, gXb2, TV.one, TV.isAgg, Dn.part, gXc2, negb, at0, at1, at2, at3, at4, dT, dF, gXd2, Option.bind_some, Option.map_some, a1, a2, a3, ln, c88, y1]
  | succ k ih =>
    intro l acc own tL H h hl hb ha
    rw [perms_succ] at ha ⊢
    have a1 := ldC1 (pg := pg) h.hL h.wL.one.2
    have a2 := ldC1 (pg := pg) h.hN rfl
    have ln : ∀ K, (lenK 0 tL K).map (fun (n : Nat) => TV.i .i64 (n : Int)) = some (.i .i64 (l.length : Int)) := fun K => by rw [h.wL.view.lenK, ci_len]; rfl
    obtain ⟨tL', own', H', v, r1, r2⟩ := l94_1_all hF (by omega) hC ih (by omega) hb n 0 acc own tL H (by omega) h ha
    simp only [Int.natCast_zero] at r1
    refine ⟨tL', own', H', body_of (x := .ret) (e := [(4, .b true)]) (d := d94) (by rw [hF.F]; rfl) rfl ?_ (.inl rfl) rfl, r2⟩
    show go pg (den pg) [.c c94] .normal [(0, .ref q.rL 0), (1, .ref q.rN 0), (2, .ref q.rY 0), (3, .ref q.rG 0)] H = _
    rw [c94_parts]
    have d0 : ¬ (l.length : Int) = (n : Int) := by omega
    clear h hC r2 ih
    generalize (l.length : Int) = L0 at *
    generalize (n : Int) = N at *
    simp (disch := omega) [r94_0, r94_1, r94_2, r94_3, r94_4, gX0, gX1, gX2, gX3, gX4, gX5, gX6, gX7, gX8, gX9, gXa, gXb, gXc, gXd, gXe, gXf, gXg, gXh, gXi, gXj, gXk, gXl, gXm, gXn, gXo, gXp, gXq, gXr, gXs, gXt, gXu, gXv, gXw, gXx, k_mv, gXy, gXz, gX01, gX11, gX21, gX31, gX41, gX51, gX61, gX71, gX81, gX91, gXa1, gXb1, gXc1, gXd1, gXe1, gXf1, gXg1, gXh1, gXi1, gXj1, gXk1, gXl1, gXm1, gXn1, gXo1, gXp1, gXq1, gXr1, gXs1, gXt1, gXu1, k_mn, k_mx, gXv1, gXw1, gXx1, gXy1, gXz1, gX02, gX12, gX22, gX32, gX42, gX52, gX62, gX72, Dn.setLast, Dn.getLast, evalO, mapO, Dn.get, putE, gX82, gX92, gXa2, gXb2, TV.one, TV.isAgg, Dn.part, gXc2, negb, at0, at1, at2, at3, at4, dT, dF, gXd2, Option.bind_some, Option.map_some, a1, a2, ln, d0, go_denK (c := l94_1) rfl, r1]

end Go.Proofs.Try.Dn

