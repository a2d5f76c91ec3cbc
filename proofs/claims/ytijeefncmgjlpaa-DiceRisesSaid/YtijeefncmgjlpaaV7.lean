/-
  Dice: Orders whole.
-/
import Derived.Test.YtijeefncmgjlpaaV6
set_option linter.unusedSimpArgs false
set_option linter.unusedVariables false

set_option maxHeartbeats 4000000
set_option maxRecDepth 100000
namespace Go.Proofs.Try.Dn
open Go.Dn

def Apt (ls : List (List Int)) : Prop := ∀ (i k : Nat) (d d' : List Int) (f : Int), k < i → ls[i]? = some d → ls[k]? = some d' → f ∈ d → f ∉ d'

structure Who (ls : List (List Int)) (i j : Nat) (g : Int → Option Nat) : Prop where
  a : ∀ f k, g f = some k → k ≤ i ∧ (∃ d, ls[k]? = some d ∧ f ∈ d) ∧ ∀ (k' : Nat) d', k' < k → ls[k']? = some d' → f ∉ d'
  b1 : ∀ (k : Nat) d f, k < i → ls[k]? = some d → f ∈ d → (g f).isSome = true
  b2 : ∀ d f, ls[i]? = some d → f ∈ d.take j → (g f).isSome = true
  c1 : ∀ (i' : Nat) d (k : Nat) d' f, i' < i → k < i' → ls[i']? = some d → ls[k]? = some d' → f ∈ d → f ∉ d'
  c2 : ∀ d (k : Nat) d' f, ls[i]? = some d → k < i → ls[k]? = some d' → f ∈ d.take j → f ∉ d'

theorem Who.start (ls : List (List Int)) : Who ls 0 0 fun _ => none where
  a f k h := by cases h
  b1 k d f h := by omega
  b2 d f _ h := by simp at h
  c1 i' d k d' f h := by omega
  c2 d k d' f _ h := by omega

theorem Who.bad {ls : List (List Int)} {i j : Nat} {g : Int → Option Nat} (h : Who ls i j g) {d : List Int} (hd : ls[i]? = some d) {f : Int} (hf : f ∈ d) {k : Nat} (hk : g f = some k) (hne : k ≠ i) : ¬ Apt ls := fun ha => by
  obtain ⟨h1, ⟨d', h2, h3⟩, _⟩ := h.a f k hk
  exact ha i k d d' f (by omega) hd h2 hf h3

theorem Who.step {ls : List (List Int)} {i j : Nat} {g : Int → Option Nat} (h : Who ls i j g) {d : List Int} (hd : ls[i]? = some d) {f : Int} (hf : d[j]? = some f) (hk : ∀ k, g f = some k → k = i) : Who ls i (j + 1) (updM g f i) := by
  have hfd := List.mem_of_getElem? hf
  have htk : d.take (j + 1) = d.take j ++ [f] := by rw [List.take_add_one, hf]; rfl
  have hno : ∀ (k' : Nat) d', k' < i → ls[k']? = some d' → f ∉ d' := fun k' d' hk' hd' hm => by
    cases hg : g f with
    | none => have := h.b1 k' d' f hk' hd' hm; rw [hg] at this; cases this
    | some k =>
      have e := hk k hg
      subst e
      exact (h.a f k hg).2.2 k' d' hk' hd' hm
  have hs : ∀ f', (g f').isSome = true → (updM g f i f').isSome = true := fun f' hh => by
    unfold updM; split
    · rfl
    · exact hh
  exact
  { a := fun f' k hh => by
      unfold updM at hh
      split at hh
      · rename_i e
        subst e
        have e2 := Option.some.inj hh
        subst e2
        exact ⟨Nat.le_refl _, ⟨d, hd, hfd⟩, hno⟩
      · exact h.a f' k hh
    b1 := fun k d' f' hk' hd' hm => hs _ (h.b1 k d' f' hk' hd' hm)
    b2 := fun d' f' hd' hm => by
      rw [hd] at hd'; have e := Option.some.inj hd'; subst e
      rw [htk] at hm
      rcases List.mem_append.1 hm with hm | hm
      · exact hs _ (h.b2 d f' hd hm)
      · rw [List.mem_singleton.1 hm]; unfold updM; rw [if_pos rfl]; rfl
    c1 := h.c1
    c2 := fun d' k d'' f' hd' hk' hd'' hm => by
      rw [hd] at hd'; have e := Option.some.inj hd'; subst e
      rw [htk] at hm
      rcases List.mem_append.1 hm with hm | hm
      · exact h.c2 d k d'' f' hd hk' hd'' hm
      · rw [List.mem_singleton.1 hm]; exact hno k d'' hk' hd'' }

theorem Who.next {ls : List (List Int)} {i : Nat} {d : List Int} {g : Int → Option Nat} (hd : ls[i]? = some d) (h : Who ls i d.length g) : Who ls (i + 1) 0 g where
  a f k hk := by have := h.a f k hk; exact ⟨by omega, this.2⟩
  b1 k d' f hk hd' hm := by
    by_cases hki : k = i
    · subst hki
      rw [hd] at hd'; have e := Option.some.inj hd'; subst e
      exact h.b2 d f hd (by rw [List.take_length]; exact hm)
    · exact h.b1 k d' f (by omega) hd' hm
  b2 d' f _ hm := by simp at hm
  c1 i' d' k d'' f hi hk hd' hd'' hm := by
    by_cases hki : i' = i
    · subst hki
      rw [hd] at hd'; have e := Option.some.inj hd'; subst e
      exact h.c2 d k d'' f hd hk hd'' (by rw [List.take_length]; exact hm)
    · exact h.c1 i' d' k d'' f (by omega) hk hd' hd'' hm
  c2 d' k d'' f _ hk _ hm := by simp at hm

theorem Who.end {ls : List (List Int)} {g : Int → Option Nat} (h : Who ls ls.length 0 g) : Apt ls := fun i k d d' f hk hd hd' hm =>
  h.c1 i d k d' f (List.getElem?_eq_some_iff.1 hd).1 hk hd hd' hm

theorem CM.lkok {pg : Pg} {R : Rec} {es : List (Int × TV)} {g : Int → Option Nat} (h : CM es g) {id ck : Nat} {H : Heap} (hi : H[id]? = some (.mapS es ck)) (k : Int) : dkc pg R (.lkS (.i .i64 0) true) [.mp id, .i .i64 k] H = some (.tup [.i .i64 (((g k).getD 0 : Nat) : Int), .b (g k).isSome], H) := by
  rw [k_lkS, hi, lkC_some, h.2 k]
  cases g k <;> rfl

theorem l41_1_all {pg : Pg} {V1 V35 V36 V37 L : TV} {ls : List (List Int)} {d : List Int} (hL : SV L d) (hd8 : d.length ≤ 1000) {i : Nat} (hd : ls[i]? = some d) (hi : i ≤ 1000) {w : Nat} :
    ∀ (r j : Nat) (H : Heap) (es : List (Int × TV)) (g : Int → Option Nat), j + r = d.length → H[w]? = some (.mapS es es.length) → CM es g → Who ls i j g →
    (∃ H', den pg l41_1 [(1, V1), (5, .mp w), (6, .b false), (7, .i .i64 (i : Int)), (35, V35), (36, V36), (37, V37), (42, L), (43, .i .i64 (d.length : Int)), (44, .i .i64 (j : Int))] H = some ⟨.exit 0, [(1, V1), (6, .b true)], H'⟩ ∧ ¬ Apt ls) ∨
    (∃ es' g' H' v, den pg l41_1 [(1, V1), (5, .mp w), (6, .b false), (7, .i .i64 (i : Int)), (35, V35), (36, V36), (37, V37), (42, L), (43, .i .i64 (d.length : Int)), (44, .i .i64 (j : Int))] H =
      some ⟨.exit 2, [(1, V1), (5, .mp w), (6, .b false), (7, .i .i64 (i : Int)), (35, V35), (36, V36), (37, V37), (42, L), (43, .i .i64 (d.length : Int)), (44, .i .i64 (d.length : Int)), (45, v)], H'⟩ ∧ H'[w]? = some (.mapS es' es'.length) ∧ CM es' g' ∧ Who ls i d.length g' ∧ H'.length = H.length ∧ ∀ j, j ≠ w → H'[j]? = H[j]?)
  | 0, j, H, es, g, hj, hH, hc, hw => by
    obtain rfl : j = d.length := by omega
    refine .inr ⟨es, g, H, .b false, ?_, hH, hc, hw, rfl, fun _ _ => rfl⟩
    rw [l41_1, den_loop]
    simp (disch := omega) [b41_0, gX0, gX1, gX2, gX3, gX4, gX5, gX6, gX7, gX8, gX9, gXa, gXb, gXc, gXd, gXe, gXf, gXg, gXh, gXi, gXj, gXk, gXl, gXm, gXn, gXo, gXp, gXq, gXr, gXs, gXt, gXu, gXv, gXw, gXx, k_mv, gXy, gXz, gX01, gX11, gX21, gX31, gX41, gX51, gX61, gX71, gX81, gX91, gXa1, gXb1, gXc1, gXd1, gXe1, gXf1, gXg1, gXh1, gXi1, gXj1, gXk1, gXl1, gXm1, gXn1, gXo1, gXp1, gXq1, gXr1, gXs1, gXt1, gXu1, k_mn, k_mx, gXv1, gXw1, gXx1, gXy1, gXz1, gX02, gX12, gX22, gX32, gX42, gX52, gX62, gX72, Dn.setLast, Dn.getLast, evalO, mapO, Dn.get, putE, gX82, gX92, gXa2, gXb2, TV.one, TV.isAgg, Dn.part, gXc2, negb, at0, at1, at2, at3, at4, dT, dF, gXd2, Option.bind_some, Option.map_some]
  | r + 1, j, H, es, g, hj, hH, hc, hw => by
    obtain ⟨f, hfj⟩ : ∃ f, d[j]? = some f := ⟨_, List.getElem?_eq_getElem (by omega)⟩
    have hwl := (List.getElem?_eq_some_iff.1 hH).1
    obtain ⟨q, q1, q2⟩ := ixI (pg := pg) (R := den pg) (hL.view H) hfj
    have lk := CM.lkok (pg := pg) (R := den pg) hc hH f
    have dd : decide ((j : Int) < (d.length : Int)) = true := dT (by omega)
    by_cases hbad : ∃ k, g f = some k ∧ k ≠ i
    · obtain ⟨k, hk, hki⟩ := hbad
      refine .inl ⟨H, ?_, hw.bad hd (List.mem_of_getElem? hfj) hk hki⟩
      rw [hk] at lk
      have lk' : dkc pg (den pg) (.lkS (.i .i64 0) true) [.mp w, .i .i64 f] H = some (.tup [.i .i64 (k : Int), .b true], H) := lk
      have hne : ¬ (k : Int) = (i : Int) := by omega
      clear hw hc hH lk hk hL hki
      generalize (d.length : Int) = N at *
      generalize (j : Int) = J at *
      generalize (k : Int) = K at *
      generalize (i : Int) = I at *
      rw [l41_1, den_loop]
      simp (disch := omega) [l41_1, b41_0, gX0, gX1, gX2, gX3, gX4, gX5, gX6, gX7, gX8, gX9, gXa, gXb, gXc, gXd, gXe, gXf, gXg, gXh, gXi, gXj, gXk, gXl, gXm, gXn, gXo, gXp, gXq, gXr, gXs, gXt, gXu, gXv, gXw, gXx, k_mv, gXy, gXz, gX01, gX11, gX21, gX31, gX41, gX51, gX61, gX71, gX81, gX91, gXa1, gXb1, gXc1, gXd1, gXe1, gXf1, gXg1, gXh1, gXi1, gXj1, gXk1, gXl1, gXm1, gXn1, gXo1, gXp1, gXq1, gXr1, gXs1, gXt1, gXu1, k_mn, k_mx, gXv1, gXw1, gXx1, gXy1, gXz1, gX02, gX12, gX22, gX32, gX42, gX52, gX62, gX72, Dn.setLast, Dn.getLast, evalO, mapO, Dn.get, putE, gX82, gX92, gXa2, gXb2, TV.one, TV.isAgg, Dn.part, gXc2, negb, at0, at1, at2, at3, at4, dT, dF, gXd2, Option.bind_some, Option.map_some, dd, q1, q2, lk', hne]
    · have hk : ∀ k, g f = some k → k = i := fun k h => Classical.byContradiction fun h0 => hbad ⟨k, h, h0⟩
      have st := hc.set (pg := pg) (R := den pg) hH f i
      have hc2 := hc.ins f i
      have hw2 := hw.step hd hfj hk
      obtain ⟨es1, he1⟩ : ∃ es1, es1 = insS f (.i .i64 (i : Int)) es := ⟨_, rfl⟩
      rw [← he1] at st hc2
      have hH2 : (H.set w (.mapS es1 es1.length))[w]? = some (.mapS es1 es1.length) := List.getElem?_set_self hwl
      have w2 : wrapR .i64 ((j : Int) + 1) = .i .i64 ((j + 1 : Nat) : Int) := by rw [← Int.natCast_succ]; exact gXd2 (by omega)
      have e : den pg l41_1 [(1, V1), (5, .mp w), (6, .b false), (7, .i .i64 (i : Int)), (35, V35), (36, V36), (37, V37), (42, L), (43, .i .i64 (d.length : Int)), (44, .i .i64 (j : Int))] H = den pg l41_1 [(1, V1), (5, .mp w), (6, .b false), (7, .i .i64 (i : Int)), (35, V35), (36, V36), (37, V37), (42, L), (43, .i .i64 (d.length : Int)), (44, .i .i64 ((j + 1 : Nat) : Int))] (H.set w (.mapS es1 es1.length)) := by
        cases hg : g f with
        | none =>
          rw [hg] at lk
          have lk' : dkc pg (den pg) (.lkS (.i .i64 0) true) [.mp w, .i .i64 f] H = some (.tup [.i .i64 0, .b false], H) := lk
          clear hw hc hH lk hL hH2 hw2 hc2 hk hbad hg
          generalize H.set w (.mapS es1 es1.length) = H1 at *
          generalize (d.length : Int) = N at *
          generalize ((j + 1 : Nat) : Int) = J2 at *
          generalize (j : Int) = J at *
          generalize (i : Int) = I at *
          conv => lhs; rw [l41_1, den_loop]
          simp (disch := omega) [l41_1, b41_0, gX0, gX1, gX2, gX3, gX4, gX5, gX6, gX7, gX8, gX9, gXa, gXb, gXc, gXd, gXe, gXf, gXg, gXh, gXi, gXj, gXk, gXl, gXm, gXn, gXo, gXp, gXq, gXr, gXs, gXt, gXu, gXv, gXw, gXx, k_mv, gXy, gXz, gX01, gX11, gX21, gX31, gX41, gX51, gX61, gX71, gX81, gX91, gXa1, gXb1, gXc1, gXd1, gXe1, gXf1, gXg1, gXh1, gXi1, gXj1, gXk1, gXl1, gXm1, gXn1, gXo1, gXp1, gXq1, gXr1, gXs1, gXt1, gXu1, k_mn, k_mx, gXv1, gXw1, gXx1, gXy1, gXz1, gX02, gX12, gX22, gX32, gX42, gX52, gX62, gX72, Dn.setLast, Dn.getLast, evalO, mapO, Dn.get, putE, gX82, gX92, gXa2, gXb2, TV.one, TV.isAgg, Dn.part, gXc2, negb, at0, at1, at2, at3, at4, dT, dF, gXd2, Option.bind_some, Option.map_some, dd, q1, q2, lk', st, w2]
        | some k =>
          have hki := hk k hg
          subst hki
          rw [hg] at lk
          have lk' : dkc pg (den pg) (.lkS (.i .i64 0) true) [.mp w, .i .i64 f] H = some (.tup [.i .i64 (k : Int), .b true], H) := lk
          clear hw hc hH lk hL hH2 hw2 hc2 hk hbad hg
          generalize H.set w (.mapS es1 es1.length) = H1 at *
          generalize (d.length : Int) = N at *
          generalize ((j + 1 : Nat) : Int) = J2 at *
          generalize (j : Int) = J at *
          generalize (k : Int) = I at *
          conv => lhs; rw [l41_1, den_loop]
          simp (disch := omega) [l41_1, b41_0, gX0, gX1, gX2, gX3, gX4, gX5, gX6, gX7, gX8, gX9, gXa, gXb, gXc, gXd, gXe, gXf, gXg, gXh, gXi, gXj, gXk, gXl, gXm, gXn, gXo, gXp, gXq, gXr, gXs, gXt, gXu, gXv, gXw, gXx, k_mv, gXy, gXz, gX01, gX11, gX21, gX31, gX41, gX51, gX61, gX71, gX81, gX91, gXa1, gXb1, gXc1, gXd1, gXe1, gXf1, gXg1, gXh1, gXi1, gXj1, gXk1, gXl1, gXm1, gXn1, gXo1, gXp1, gXq1, gXr1, gXs1, gXt1, gXu1, k_mn, k_mx, gXv1, gXw1, gXx1, gXy1, gXz1, gX02, gX12, gX22, gX32, gX42, gX52, gX62, gX72, Dn.setLast, Dn.getLast, evalO, mapO, Dn.get, putE, gX82, gX92, gXa2, gXb2, TV.one, TV.isAgg, Dn.part, gXc2, negb, at0, at1, at2, at3, at4, dT, dF, gXd2, Option.bind_some, Option.map_some, dd, q1, q2, lk', st, w2]
      rw [e]
      rcases l41_1_all (pg := pg) (V1 := V1) (V35 := V35) (V36 := V36) (V37 := V37) hL hd8 hd hi r (j + 1) _ es1 _ (by omega) hH2 hc2 hw2 with h1 | ⟨es', g', H', v, x1, x2, x3, x4, x5, x6⟩
      · exact .inl h1
      · exact .inr ⟨es', g', H', v, x1, x2, x3, x4, by simpa using x5, fun j hj => by rw [x6 j hj, List.getElem?_set_ne (Ne.symm hj)]⟩

theorem l41_3_all {pg : Pg} {V1 T : TV} {ls : List (List Int)} (hT : SSV T ls) (hD : ∀ d ∈ ls, DieL 60 d) (h6 : ls.length ≤ 1000) {w : Nat} :
    ∀ (r i : Nat) (H : Heap) (es : List (Int × TV)) (g : Int → Option Nat), i + r = ls.length → H[w]? = some (.mapS es es.length) → CM es g → Who ls i 0 g →
    (∃ H', den pg l41_3 [(1, V1), (5, .mp w), (6, .b false), (35, T), (36, .i .i64 (ls.length : Int)), (37, .i .i64 (i : Int))] H = some ⟨.exit 0, [(1, V1), (6, .b true)], H'⟩ ∧ ¬ Apt ls) ∨
    (∃ H' v, den pg l41_3 [(1, V1), (5, .mp w), (6, .b false), (35, T), (36, .i .i64 (ls.length : Int)), (37, .i .i64 (i : Int))] H =
      some ⟨.exit 0, [(1, V1), (5, .mp w), (6, .b false), (35, T), (36, .i .i64 (ls.length : Int)), (37, .i .i64 (ls.length : Int)), (38, v)], H'⟩ ∧ Apt ls ∧ H'.length = H.length ∧ ∀ j, j ≠ w → H'[j]? = H[j]?)
  | 0, i, H, es, g, hi, hH, hc, hw => by
    obtain rfl : i = ls.length := by omega
    refine .inr ⟨H, .b false, ?_, hw.end, rfl, fun _ _ => rfl⟩
    rw [l41_3, den_loop]
    simp (disch := omega) [b41_2, gX0, gX1, gX2, gX3, gX4, gX5, gX6, gX7, gX8, gX9, gXa, gXb, gXc, gXd, gXe, gXf, gXg, gXh, gXi, gXj, gXk, gXl, gXm, gXn, gXo, gXp, gXq, gXr, gXs, gXt, gXu, gXv, gXw, gXx, k_mv, gXy, gXz, gX01, gX11, gX21, gX31, gX41, gX51, gX61, gX71, gX81, gX91, gXa1, gXb1, gXc1, gXd1, gXe1, gXf1, gXg1, gXh1, gXi1, gXj1, gXk1, gXl1, gXm1, gXn1, gXo1, gXp1, gXq1, gXr1, gXs1, gXt1, gXu1, k_mn, k_mx, gXv1, gXw1, gXx1, gXy1, gXz1, gX02, gX12, gX22, gX32, gX42, gX52, gX62, gX72, Dn.setLast, Dn.getLast, evalO, mapO, Dn.get, putE, gX82, gX92, gXa2, gXb2, TV.one, TV.isAgg, Dn.part, gXc2, negb, at0, at1, at2, at3, at4, dT, dF, gXd2, Option.bind_some, Option.map_some]
  | r + 1, i, H, es, g, hi, hH, hc, hw => by
    obtain ⟨d, hd⟩ : ∃ d, ls[i]? = some d := ⟨_, List.getElem?_eq_getElem (by omega)⟩
    have hdd := hD d (List.mem_of_getElem? hd)
    have hle := hdd.le
    obtain ⟨p, L, p1, p2, hL⟩ := hT.ix (pg := pg) (R := den pg) hd H
    have ln : ∀ K, (lenK 0 L K).map (fun (n : Nat) => TV.i .i64 (n : Int)) = some (.i .i64 (d.length : Int)) := fun K => by rw [(hL.view K).lenK]; rfl
    have dd : decide ((i : Int) < (ls.length : Int)) = true := dT (by omega)
    have w2 : wrapR .i64 ((i : Int) + 1) = .i .i64 ((i + 1 : Nat) : Int) := by rw [← Int.natCast_succ]; exact gXd2 (by omega)
    rcases l41_1_all (pg := pg) (V1 := V1) (V35 := T) (V36 := .i .i64 (ls.length : Int)) (V37 := .i .i64 (i : Int)) hL (by omega) hd (by omega) (w := w) d.length 0 H es g (by omega) hH hc hw with ⟨H', x1, x2⟩ | ⟨es', g', H1, v, x1, x2, x3, x4, x5, x6⟩
    · refine .inl ⟨H', ?_, x2⟩
      simp only [Int.natCast_zero] at x1
      clear hw hc hH hL hdd hT x2
      generalize (d.length : Int) = DL at *
      generalize (ls.length : Int) = N at *
      generalize (i : Int) = I at *
      rw [l41_3, den_loop]
      simp (disch := omega) [l41_3, b41_2, gX0, gX1, gX2, gX3, gX4, gX5, gX6, gX7, gX8, gX9, gXa, gXb, gXc, gXd, gXe, gXf, gXg, gXh, gXi, gXj, gXk, gXl, gXm, gXn, gXo, gXp, gXq, gXr, gXs, gXt, gXu, gXv, gXw, gXx, k_mv, gXy, gXz, gX01, gX11, gX21, gX31, gX41, gX51, gX61, gX71, gX81, gX91, gXa1, gXb1, gXc1, gXd1, gXe1, gXf1, gXg1, gXh1, gXi1, gXj1, gXk1, gXl1, gXm1, gXn1, gXo1, gXp1, gXq1, gXr1, gXs1, gXt1, gXu1, k_mn, k_mx, gXv1, gXw1, gXx1, gXy1, gXz1, gX02, gX12, gX22, gX32, gX42, gX52, gX62, gX72, Dn.setLast, Dn.getLast, evalO, mapO, Dn.get, putE, gX82, gX92, gXa2, gXb2, TV.one, TV.isAgg, Dn.part, gXc2, negb, at0, at1, at2, at3, at4, dT, dF, gXd2, Option.bind_some, Option.map_some, dd, p1, p2, ln, go_denK (c := l41_1) rfl, x1]
    · simp only [Int.natCast_zero] at x1
      have e : den pg l41_3 [(1, V1), (5, .mp w), (6, .b false), (35, T), (36, .i .i64 (ls.length : Int)), (37, .i .i64 (i : Int))] H = den pg l41_3 [(1, V1), (5, .mp w), (6, .b false), (35, T), (36, .i .i64 (ls.length : Int)), (37, .i .i64 ((i + 1 : Nat) : Int))] H1 := by
        clear hw hc hH hL hdd hT x2 x3 x4 x5 x6
        generalize (d.length : Int) = DL at *
        generalize (ls.length : Int) = N at *
        generalize ((i + 1 : Nat) : Int) = I2 at *
        generalize (i : Int) = I at *
        conv => lhs; rw [l41_3, den_loop]
        simp (disch := omega) [l41_3, b41_2, gX0, gX1, gX2, gX3, gX4, gX5, gX6, gX7, gX8, gX9, gXa, gXb, gXc, gXd, gXe, gXf, gXg, gXh, gXi, gXj, gXk, gXl, gXm, gXn, gXo, gXp, gXq, gXr, gXs, gXt, gXu, gXv, gXw, gXx, k_mv, gXy, gXz, gX01, gX11, gX21, gX31, gX41, gX51, gX61, gX71, gX81, gX91, gXa1, gXb1, gXc1, gXd1, gXe1, gXf1, gXg1, gXh1, gXi1, gXj1, gXk1, gXl1, gXm1, gXn1, gXo1, gXp1, gXq1, gXr1, gXs1, gXt1, gXu1, k_mn, k_mx, gXv1, gXw1, gXx1, gXy1, gXz1, gX02, gX12, gX22, gX32, gX42, gX52, gX62, gX72, Dn.setLast, Dn.getLast, evalO, mapO, Dn.get, putE, gX82, gX92, gXa2, gXb2, TV.one, TV.isAgg, Dn.part, gXc2, negb, at0, at1, at2, at3, at4, dT, dF, gXd2, Option.bind_some, Option.map_some, dd, p1, p2, ln, go_denK (c := l41_1) rfl, x1, w2]
      rw [e]
      rcases l41_3_all (pg := pg) (V1 := V1) hT hD h6 r (i + 1) H1 es' g' (by omega) x2 x3 (x4.next hd) with h1 | ⟨H', v', y1, y2, y3, y4⟩
      · exact .inl h1
      · exact .inr ⟨H', v', y1, y2, by omega, fun j hj => by rw [y4 j hj, x6 j hj]⟩

end Go.Proofs.Try.Dn

