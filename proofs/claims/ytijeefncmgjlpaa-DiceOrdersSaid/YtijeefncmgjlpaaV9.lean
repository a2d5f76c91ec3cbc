/-
  Dice: the reference's rising.
-/
import Derived.Test.YtijeefncmgjlpaaV5
set_option linter.unusedSimpArgs false
set_option linter.unusedVariables false

set_option maxHeartbeats 4000000
set_option maxRecDepth 100000
namespace Go.Proofs.Try.Dn
open Go.Dn

theorem sum_le {α : Type} {f : α → Nat} {B : Nat} : ∀ {l : List α}, (∀ x ∈ l, f x ≤ B) → (l.map f).sum ≤ l.length * B
  | [], _ => by simp
  | x :: l, h => by
    have h1 := h x (List.mem_cons_self ..)
    have h2 := sum_le (f := f) (l := l) fun y hy => h y (List.mem_cons_of_mem _ hy)
    rw [List.map_cons, List.sum_cons, List.length_cons, Nat.succ_mul]
    omega

theorem rs_le {ls : List (List Int)} (hL : ∀ d ∈ ls, d.length ≤ 8) : ∀ (l : List Nat) (x : Int), rs ls l x ≤ 8 ^ l.length
  | [], _ => Nat.le_refl _
  | i :: l, x => by
    unfold rs
    have hd : (ls.getD i []).length ≤ 8 := by
      rw [List.getD_eq_getElem?_getD]
      cases h : ls[i]? with
      | none => simp
      | some d => exact hL d (List.mem_of_getElem? h)
    have h1 := sum_le (f := fun f => if x < f then rs ls l f else 0) (B := 8 ^ l.length) (l := ls.getD i []) fun f hf => by
      by_cases h : x < f
      · simp only [h, if_true]; exact rs_le hL l f
      · simp only [h, if_false]; exact Nat.zero_le _
    have h2 := Nat.mul_le_mul_right (8 ^ l.length) hd
    rw [List.length_cons, Nat.pow_succ]
    omega

theorem l99_1_all {pg : Pg} (hF : Free pg) {X Lv D : TV} {ls : List (List Int)} {l : List Nat} {at_ : Nat} {last : Int} {d : List Int} (hD : SV D d) (hd8 : d.length ≤ 8) (hL8 : ∀ d ∈ ls, d.length ≤ 8) (h6 : l.length ≤ 6) (ha : at_ ≤ 100)
    (rcl : ∀ f : Int, callRun pg (den pg) (.pu []) [.fn 99 [] [], X, Lv, .i .i64 ((at_ + 1 : Nat) : Int), .i .i64 f] [] = some (.i .i64 ((rs ls (l.drop (at_ + 1)) f : Nat) : Int), [])) : ∀ (r k s : Nat), k + r = d.length → s + r * 262144 ≤ 100000000 →
    ∃ v, den pg l99_1 [(0, X), (1, Lv), (2, .i .i64 (at_ : Int)), (3, .i .i64 last), (9, .i .i64 (s : Int)), (10, D), (11, .i .i64 (k : Int))] [] =
      some ⟨.exit 0, [(0, X), (1, Lv), (2, .i .i64 (at_ : Int)), (3, .i .i64 last), (9, .i .i64 ((s + ((d.drop k).map fun f => if last < f then rs ls (l.drop (at_ + 1)) f else 0).sum : Nat) : Int)), (10, D), (11, .i .i64 (d.length : Int)), (26, v)], []⟩
  | 0, k, s, hk, hs => by
    obtain rfl : k = d.length := by omega
    have ln := (hD.view []).lenK
    refine ⟨.b false, ?_⟩
    simp only [List.drop_length, List.map_nil, List.sum_nil, Nat.add_zero]
    obtain ⟨N, hN⟩ : ∃ N, N = d.length := ⟨_, rfl⟩
    rw [← hN] at ln ⊢
    rw [l99_1, den_loop]
    simp (disch := omega) [b99_0, gX0, gX1, gX2, gX3, gX4, gX5, gX6, gX7, gX8, gX9, gXa, gXb, gXc, gXd, gXe, gXf, gXg, gXh, gXi, gXj, gXk, gXl, gXm, gXn, gXo, gXp, gXq, gXr, gXs, gXt, gXu, gXv, gXw, gXx, k_mv, gXy, gXz, gX01, gX11, gX21, gX31, gX41, gX51, gX61, gX71, gX81, gX91, gXa1, gXb1, gXc1, gXd1, gXe1, gXf1, gXg1, gXh1, gXi1, gXj1, gXk1, gXl1, gXm1, gXn1, gXo1, gXp1, gXq1, gXr1, gXs1, gXt1, gXu1, k_mn, k_mx, gXv1, gXw1, gXx1, gXy1, gXz1, gX02, gX12, gX22, gX32, gX42, gX52, gX62, gX72, Dn.setLast, Dn.getLast, evalO, mapO, Dn.get, putE, gX82, gX92, gXa2, gXb2, TV.one, TV.isAgg, Dn.part, gXc2, negb, at0, at1, at2, at3, at4, dT, dF, gXd2, Option.bind_some, Option.map_some, ln]
  | r + 1, k, s, hk, hs => by
    obtain ⟨f, hf⟩ : ∃ f, d[k]? = some f := ⟨_, List.getElem?_eq_getElem (by omega)⟩
    have hdr : d.drop k = f :: d.drop (k + 1) := by
      obtain ⟨h1, rfl⟩ := List.getElem?_eq_some_iff.1 hf
      exact List.drop_eq_getElem_cons h1
    obtain ⟨p, p1, p2⟩ := ixI (pg := pg) (R := den pg) (hD.view []) hf
    have ln := (hD.view []).lenK
    have dd : decide ((k : Int) < (d.length : Int)) = true := dT (by omega)
    have w2 : wrapR .i64 ((k : Int) + 1) = .i .i64 ((k + 1 : Nat) : Int) := by rw [← Int.natCast_succ]; exact gXd2 (by omega)
    have wa : wrapR .i64 ((at_ : Int) + 1) = .i .i64 ((at_ + 1 : Nat) : Int) := by rw [← Int.natCast_succ]; exact gXd2 (by omega)
    have hb := rs_le hL8 (l.drop (at_ + 1)) f
    have hb2 : 8 ^ (l.drop (at_ + 1)).length ≤ 8 ^ 6 := Nat.pow_le_pow_right (by omega) (by rw [List.length_drop]; omega)
    rw [Nat.succ_mul] at hs
    have c := rcl f
    obtain ⟨W, hW⟩ : ∃ W, W = rs ls (l.drop (at_ + 1)) f := ⟨_, rfl⟩
    rw [← hW] at c hb
    have h1 : k + 1 + r = d.length := by omega
    have h2 : s + r * 262144 ≤ 100000000 := Nat.le_trans (Nat.add_le_add_left (Nat.le_add_right _ _) s) hs
    by_cases hlt : last < f
    · obtain ⟨v, ih⟩ := l99_1_all (last := last) hF hD hd8 hL8 h6 ha rcl r (k + 1) (s + W) (by omega) (by omega)
      refine ⟨v, Eq.trans ?_ (ih.trans ?_)⟩
      · have dl : decide (last < f) = true := dT hlt
        have ws : wrapR .i64 ((s : Int) + (W : Int)) = .i .i64 ((s + W : Nat) : Int) := by rw [← Int.natCast_add]; exact gXd2 (by omega)
        clear ih rcl hD hdr hf hW
        obtain ⟨N, hN⟩ : ∃ N, N = d.length := ⟨_, rfl⟩
        rw [← hN] at ln dd
        generalize ((s + W : Nat) : Int) = SW at *
        generalize (W : Int) = WW at *
        generalize ((at_ + 1 : Nat) : Int) = A1 at *
        generalize (at_ : Int) = A0 at *
        generalize (s : Int) = S at *
        generalize ((k + 1 : Nat) : Int) = K2 at *
        generalize (k : Int) = K at *
        conv => lhs; rw [l99_1, den_loop]
        simp (disch := omega) [l99_1, b99_0, gX0, gX1, gX2, gX3, gX4, gX5, gX6, gX7, gX8, gX9, gXa, gXb, gXc, gXd, gXe, gXf, gXg, gXh, gXi, gXj, gXk, gXl, gXm, gXn, gXo, gXp, gXq, gXr, gXs, gXt, gXu, gXv, gXw, gXx, k_mv, gXy, gXz, gX01, gX11, gX21, gX31, gX41, gX51, gX61, gX71, gX81, gX91, gXa1, gXb1, gXc1, gXd1, gXe1, gXf1, gXg1, gXh1, gXi1, gXj1, gXk1, gXl1, gXm1, gXn1, gXo1, gXp1, gXq1, gXr1, gXs1, gXt1, gXu1, k_mn, k_mx, gXv1, gXw1, gXx1, gXy1, gXz1, gX02, gX12, gX22, gX32, gX42, gX52, gX62, gX72, Dn.setLast, Dn.getLast, evalO, mapO, Dn.get, putE, gX82, gX92, gXa2, gXb2, TV.one, TV.isAgg, Dn.part, gXc2, negb, at0, at1, at2, at3, at4, dT, dF, gXd2, Option.bind_some, Option.map_some, ln, dd, p1, p2, dl, wa, c, ws, w2]
      · rw [hdr, List.map_cons, List.sum_cons, if_pos hlt, ← hW, Nat.add_assoc s W]
    · clear hb hb2 wa w2 dd
      obtain ⟨v, ih⟩ := l99_1_all (last := last) hF hD hd8 hL8 h6 ha rcl r (k + 1) s h1 h2
      refine ⟨v, Eq.trans ?_ (ih.trans ?_)⟩
      · have dl : decide (last < f) = false := dF hlt
        have dd : decide ((k : Int) < (d.length : Int)) = true := dT (by omega)
        have w2 : wrapR .i64 ((k : Int) + 1) = .i .i64 ((k + 1 : Nat) : Int) := by rw [← Int.natCast_succ]; exact gXd2 (by omega)
        clear ih rcl hD hdr hf hW c
        obtain ⟨N, hN⟩ : ∃ N, N = d.length := ⟨_, rfl⟩
        rw [← hN] at ln dd
        generalize (at_ : Int) = A0 at *
        generalize (s : Int) = S at *
        generalize ((k + 1 : Nat) : Int) = K2 at *
        generalize (k : Int) = K at *
        conv => lhs; rw [l99_1, den_loop]
        simp (disch := omega) [l99_1, b99_0, gX0, gX1, gX2, gX3, gX4, gX5, gX6, gX7, gX8, gX9, gXa, gXb, gXc, gXd, gXe, gXf, gXg, gXh, gXi, gXj, gXk, gXl, gXm, gXn, gXo, gXp, gXq, gXr, gXs, gXt, gXu, gXv, gXw, gXx, k_mv, gXy, gXz, gX01, gX11, gX21, gX31, gX41, gX51, gX61, gX71, gX81, gX91, gXa1, gXb1, gXc1, gXd1, gXe1, gXf1, gXg1, gXh1, gXi1, gXj1, gXk1, gXl1, gXm1, gXn1, gXo1, gXp1, gXq1, gXr1, gXs1, gXt1, gXu1, k_mn, k_mx, gXv1, gXw1, gXx1, gXy1, gXz1, gX02, gX12, gX22, gX32, gX42, gX52, gX62, gX72, Dn.setLast, Dn.getLast, evalO, mapO, Dn.get, putE, gX82, gX92, gXa2, gXb2, TV.one, TV.isAgg, Dn.part, gXc2, negb, at0, at1, at2, at3, at4, dT, dF, gXd2, Option.bind_some, Option.map_some, ln, dd, p1, p2, dl, w2]
      · rw [hdr, List.map_cons, List.sum_cons, if_neg hlt, Nat.zero_add]

theorem fn99 {pg : Pg} (hF : Free pg) {ls : List (List Int)} (hL8 : ∀ d ∈ ls, d.length ≤ 8) {l : List Nat} (hl : ∀ x ∈ l, x < ls.length) (h6 : l.length ≤ 6) : ∀ (r at_ : Nat), at_ + r = l.length → ∀ (X Lv : TV) (last : Int), SSV X ls → SV Lv (ci l) → PFn pg 99 [X, Lv, .i .i64 (at_ : Int), .i .i64 last] (.i .i64 ((rs ls (l.drop at_) last : Nat) : Int))
  | 0, at_, ha, X, Lv, last, hX, hLv => by
    obtain rfl : at_ = l.length := by omega
    have ln : ∀ K, (lenK 0 Lv K).map (fun (n : Nat) => TV.i .i64 (n : Int)) = some (.i .i64 (l.length : Int)) := fun K => by rw [(hLv.view K).lenK, ci_len]; rfl
    rw [List.drop_length]
    refine .of1 (x := .ret) (e := [(8, .i .i64 1)]) (H' := []) (hF.S _ _) (d := d99) (by rw [hF.F]; rfl) rfl ?_ (.inl rfl) rfl (by simp [sn_i, sn_b, gXe2, gXf2, gXg2, gXh2, gXi2, gXj2, gXk2, gXl2, gXm2, gXn2, gXo2, gXp2, mapO, elems])
    generalize (l.length : Int) = N at *
    simp (disch := omega) [d99, c99, zipE, gX0, gX1, gX2, gX3, gX4, gX5, gX6, gX7, gX8, gX9, gXa, gXb, gXc, gXd, gXe, gXf, gXg, gXh, gXi, gXj, gXk, gXl, gXm, gXn, gXo, gXp, gXq, gXr, gXs, gXt, gXu, gXv, gXw, gXx, k_mv, gXy, gXz, gX01, gX11, gX21, gX31, gX41, gX51, gX61, gX71, gX81, gX91, gXa1, gXb1, gXc1, gXd1, gXe1, gXf1, gXg1, gXh1, gXi1, gXj1, gXk1, gXl1, gXm1, gXn1, gXo1, gXp1, gXq1, gXr1, gXs1, gXt1, gXu1, k_mn, k_mx, gXv1, gXw1, gXx1, gXy1, gXz1, gX02, gX12, gX22, gX32, gX42, gX52, gX62, gX72, Dn.setLast, Dn.getLast, evalO, mapO, Dn.get, putE, gX82, gX92, gXa2, gXb2, TV.one, TV.isAgg, Dn.part, gXc2, negb, at0, at1, at2, at3, at4, dT, dF, gXd2, Option.bind_some, Option.map_some, ln]
  | r + 1, at_, ha, X, Lv, last, hX, hLv => by
    obtain ⟨i, hi⟩ : ∃ i, l[at_]? = some i := ⟨_, List.getElem?_eq_getElem (by omega)⟩
    have hil := hl i (List.mem_of_getElem? hi)
    obtain ⟨d, hd⟩ : ∃ d, ls[i]? = some d := ⟨_, List.getElem?_eq_getElem hil⟩
    have hdr : l.drop at_ = i :: l.drop (at_ + 1) := by
      obtain ⟨h1, rfl⟩ := List.getElem?_eq_some_iff.1 hi
      exact List.drop_eq_getElem_cons h1
    have hgd : ls.getD i [] = d := by rw [List.getD_eq_getElem?_getD, hd]; rfl
    have ln : ∀ K, (lenK 0 Lv K).map (fun (n : Nat) => TV.i .i64 (n : Int)) = some (.i .i64 (l.length : Int)) := fun K => by rw [(hLv.view K).lenK, ci_len]; rfl
    obtain ⟨p, p1, p2⟩ := ixI (pg := pg) (R := den pg) (hLv.view []) (ci_at hi)
    obtain ⟨u, D, u1, u2, hD⟩ := hX.ix (pg := pg) (R := den pg) hd []
    obtain ⟨X', s1, hX'⟩ := hX.snap [] 6
    obtain ⟨L', s2, hL'⟩ := hLv.snap [] 7
    have rcl : ∀ f : Int, callRun pg (den pg) (.pu []) [.fn 99 [] [], X, Lv, .i .i64 ((at_ + 1 : Nat) : Int), .i .i64 f] [] = some (.i .i64 ((rs ls (l.drop (at_ + 1)) f : Nat) : Int), []) := fun f =>
      PFn.call (fn99 hF hL8 hl h6 r (at_ + 1) (by omega) X' L' f hX' hL') (args := [X, Lv, .i .i64 ((at_ + 1 : Nat) : Int), .i .i64 f]) (ks := []) (fs := []) (cs := []) (by simp [snapArgs, s1, s2, sn_i])
    have hd8 := hL8 d (List.mem_of_getElem? hd)
    obtain ⟨v, q⟩ := l99_1_all hF hD hd8 hL8 h6 (at_ := at_) (last := last) (by omega) rcl d.length 0 0 (by omega) (by omega)
    simp only [Nat.zero_add, List.drop_zero, Int.natCast_zero] at q
    have ers : rs ls (l.drop at_) last = (d.map fun f => if last < f then rs ls (l.drop (at_ + 1)) f else 0).sum := by
      rw [hdr]
      show ((ls.getD i []).map fun f => if last < f then rs ls (l.drop (at_ + 1)) f else 0).sum = _
      rw [hgd]
    rw [ers]
    refine .of1 (x := .ret) (e := [(8, .i .i64 (((d.map fun f => if last < f then rs ls (l.drop (at_ + 1)) f else 0).sum : Nat) : Int))]) (H' := []) (hF.S _ _) (d := d99) (by rw [hF.F]; rfl) rfl ?_ (.inl rfl) rfl (by simp [sn_i, sn_b, gXe2, gXf2, gXg2, gXh2, gXi2, gXj2, gXk2, gXl2, gXm2, gXn2, gXo2, gXp2, mapO, elems])
    have hne : ¬ (at_ : Int) = (l.length : Int) := by omega
    clear rcl ers hdr hi hD hX hLv hX' hL' hgd hd
    generalize ((d.map fun f => if last < f then rs ls (l.drop (at_ + 1)) f else 0).sum : Nat) = W at *
    generalize (l.length : Int) = N at *
    generalize (at_ : Int) = A at *
    generalize (i : Int) = I at *
    simp (disch := omega) [d99, c99, zipE, gX0, gX1, gX2, gX3, gX4, gX5, gX6, gX7, gX8, gX9, gXa, gXb, gXc, gXd, gXe, gXf, gXg, gXh, gXi, gXj, gXk, gXl, gXm, gXn, gXo, gXp, gXq, gXr, gXs, gXt, gXu, gXv, gXw, gXx, k_mv, gXy, gXz, gX01, gX11, gX21, gX31, gX41, gX51, gX61, gX71, gX81, gX91, gXa1, gXb1, gXc1, gXd1, gXe1, gXf1, gXg1, gXh1, gXi1, gXj1, gXk1, gXl1, gXm1, gXn1, gXo1, gXp1, gXq1, gXr1, gXs1, gXt1, gXu1, k_mn, k_mx, gXv1, gXw1, gXx1, gXy1, gXz1, gX02, gX12, gX22, gX32, gX42, gX52, gX62, gX72, Dn.setLast, Dn.getLast, evalO, mapO, Dn.get, putE, gX82, gX92, gXa2, gXb2, TV.one, TV.isAgg, Dn.part, gXc2, negb, at0, at1, at2, at3, at4, dT, dF, gXd2, Option.bind_some, Option.map_some, ln, hne, p1, p2, u1, u2, go_denK (c := l99_1) rfl, q]

end Go.Proofs.Try.Dn

