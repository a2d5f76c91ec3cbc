/-
  The reference's search, walked whole.
-/
import Derived.Test.YtijeefncmgjlpaaTD
import Derived.Test.YtijeefncmgjlpaaEe
set_option linter.unusedSimpArgs false
set_option linter.unusedVariables false

set_option maxHeartbeats 4000000
set_option maxRecDepth 100000
namespace Go.Proofs.Try.Dn
open Go.Dn

theorem growP_sz (n m : Nat) (c d : Int) : ∀ (k : Nat) (a b : List Int) (g : Int → Option Nat), a.length ≤ n → b.length ≤ m → Szs n m (growP n m c d k a b g)
  | 0, _, _, _, _, _ => fun p hp => by simp [growP] at hp
  | k + 1, a, b, g, ha, hb => by
    unfold growP
    cases leastF g with
    | none =>
      intro p hp
      simp only at hp
      split at hp
      · simp at hp
      · rw [List.mem_singleton.1 hp]
        constructor <;> simp only <;> omega
    | some l =>
      intro p hp
      simp only [List.mem_append] at hp
      rcases hp with hp | hp
      · split at hp
        · rename_i hf
          unfold fits at hf
          simp only [Bool.and_eq_true, decide_eq_true_eq] at hf
          split at hp
          · exact growP_sz n m c d k _ b _ (by simp; omega) hb p hp
          · simp at hp
        · simp at hp
      · split at hp
        · rename_i hf
          unfold fits at hf
          simp only [Bool.and_eq_true, decide_eq_true_eq] at hf
          split at hp
          · exact growP_sz n m c d k a _ _ ha (by simp; omega) p hp
          · simp at hp
        · simp at hp

theorem foldP_mem : ∀ (l o : List PL) (p : PL), p ∈ l.foldl putP o → p ∈ o ∨ p ∈ l
  | [], o, p, h => .inl h
  | x :: l, o, p, h => by
    rcases foldP_mem l (putP o x) p h with h | h
    · have put : ∀ (o : List PL), p ∈ putP o x → p ∈ o ∨ p = x := by
        intro o
        induction o with
        | nil => intro h; rw [putP] at h; exact .inr (List.mem_singleton.1 h)
        | cons y o ih =>
          intro h
          rw [putP] at h
          split at h
          · rcases List.mem_cons.1 h with rfl | h
            · exact .inl (List.mem_cons_self ..)
            · rcases ih h with h | h
              · exact .inl (List.mem_cons_of_mem _ h)
              · exact .inr h
          · split at h
            · exact .inl h
            · rcases List.mem_cons.1 h with rfl | h
              · exact .inr rfl
              · exact .inl h
      rcases put o h with h | rfl
      · exact .inl h
      · exact .inr (List.mem_cons_self ..)
    · exact .inr (List.mem_cons_of_mem _ h)

theorem Szs.fold {n m : Nat} {l o : List PL} (ho : Szs n m o) (hl : Szs n m l) : Szs n m (l.foldl putP o) := fun p hp => (foldP_mem l o p hp).elim (ho p) (hl p)

theorem fits_die {n : Nat} {a : List Int} {x : Int} (hD : DieL 60 a) (hn : n ≤ 8) (h : fits n a x = true) : DieL 60 (a ++ [x]) ∧ a.length < n := by
  obtain ⟨z, h1, h2, h3, h4, h5⟩ := die_last hD
  unfold fits at h
  rw [h2] at h
  simp only [Bool.and_eq_true, decide_eq_true_eq] at h
  refine ⟨{ le := by simp; omega, ok := fun f hf => ?_, srt := ?_, pos := by simp }, h.1.1⟩
  · rcases List.mem_append.1 hf with hf | hf
    · exact hD.ok f hf
    · rw [List.mem_singleton.1 hf]; omega
  · rw [List.pairwise_append]
    refine ⟨hD.srt, by simp, fun f hf g hg => ?_⟩
    rw [List.mem_singleton.1 hg]
    have := h5 f hf
    omega

noncomputable def ptA (n m : Nat) (c d : Int) (k : Nat) (a b : List Int) (g : Int → Option Nat) (x : Int) : List PL := match takes g x b with | some g' => growP n m c d k (a ++ [x]) b g' | none => []
noncomputable def ptB (n m : Nat) (c d : Int) (k : Nat) (a b : List Int) (g : Int → Option Nat) (x : Int) : List PL := match takes g x a with | some g' => growP n m c d k a (b ++ [x]) g' | none => []

theorem RowS.bor8 {H : Heap} {t : TV} {l : List Int} (h : RowS H t l) : snap .borrow H 8 t = some (elI.lt true l) := by
  have := h.2.1.toB (E' := elI) (l' := l) (f := 7) h.nn rfl (mapO_map (g := snap .borrow H 7) (f := elI.val) (k := elI.val) fun a _ => by simp [elI, El.val, snap])
  rw [this, El.lt_ne h.1]

theorem two_bor {H : Heap} {tA tB : TV} {a b : List Int} (ha : RowS H tA a) (hb : RowS H tB b) : snap .borrow (H ++ [.cells [tA, tB] false]) 9 (.sl H.length 0 1 false 2 (some 2)) = some ((elR true).lt true [a, b]) := by
  have f : ∀ j, j < H.length → (H ++ [AObj.cells [tA, tB] false])[j]? = H[j]? := fun j hj => List.getElem?_append_left hj
  have h1 := (ha.mono f).bor8
  have h2 := (hb.mono f).bor8
  rw [gXk2 _ (by decide), getLast, gXm2]
  simp [sn_i, sn_b, gXe2, gXf2, gXg2, gXh2, gXi2, gXj2, gXk2, gXl2, gXm2, gXn2, gXo2, gXp2, mapO, elems, h1, h2]
  rfl

theorem body89 {pg : Pg} (hF : Free pg) {n m : Nat} {c d : Int} {G : Nat → Nat} {M : Nat} (hn : n ≤ 8) (hm : m ≤ 8) (hM : M ≤ 1000) : ∀ (k : Nat) (a b : List Int) (tA tB O : TV) (X : List PL) (H : Heap),
    RowS H tA a → RowS H tB b → DieL 60 a → DieL 60 b → a[0]? = some c → b[0]? = some d → a.length ≤ n → b.length ≤ m → PIn H O X → Szs n m X → X.length + 2 ^ ((n - a.length) + (m - b.length)) ≤ 900000 → (n - a.length) + (m - b.length) < k →
    (∀ g, Lf G M a b g → Gr89 pg n m tA tB (elI.lt true (gL G M)) O H ((growP n m c d k a b g).foldl putP X)) ∧ (¬ Valid G M a b → Gr89 pg n m tA tB (elI.lt true (gL G M)) O H X)
  | 0, _, _, _, _, _, _, _, _, _, _, _, _, _, _, _, _, _, _, h => by omega
  | k + 1, a, b, tA, tB, O, X, H, ha, hb, hA, hB, hc, hd, han, hbm, hO, hS, hXl, hk => by
    have hc6 := hA.ok c (List.mem_of_getElem? hc)
    have hd6 := hB.ok d (List.mem_of_getElem? hd)
    have hap := hA.pos
    have hbp := hB.pos
    obtain ⟨H1, hH1⟩ : ∃ H1, H1 = H ++ [AObj.cells [tA, tB] false] := ⟨_, rfl⟩
    have f1 : ∀ j, j < H.length → H1[j]? = H[j]? := fun j hj => by rw [hH1, List.getElem?_append_left hj]
    have l1 : H1.length = H.length + 1 := by rw [hH1]; simp
    have bs : dkc pg (den pg) (.bsl false [.nilsl] false 2 [0, 1]) [tA, tB] H = some (.sl H.length 0 1 false 2 (some 2), H1) := by
      rw [hH1]; simp [dkc, dk, fillP, repl, put2, ha.one.1, hb.one.1, ha.one.2.1, hb.one.2.1]
    have sb := two_bor ha hb
    rw [← hH1] at sb
    have hD2 : ∀ x ∈ [a, b], DieL 60 x := fun x hx => by simp at hx; rcases hx with rfl | rfl <;> assumption
    have c46 := PFn.call (fn46 (pg := pg) hF (elR_SSV true true [a, b]) (by simp) hD2) (args := [.sl H.length 0 1 false 2 (some 2)]) (ks := []) (fs := []) (cs := []) (H := H1) (by simp [snapArgs, sb])
    have hmx := mxS_le hD2
    simp only [List.length_cons, List.length_nil] at hmx
    obtain ⟨L, hL⟩ : ∃ L, L = max (mxS [a, b]) M := ⟨_, rfl⟩
    have hw : ∀ j, wn [a, b] j ≠ 0 → 0 ≤ j ∧ j < (mxS [a, b] : Int) := fun j hj => by
      have := wn_mx hD2 2 (by simp) j hj
      exact this
    have hsc := scan_grow (G := G) (M := M) (a := a) (b := b) (L := L) (by omega) (fun j hj => by have := hw j hj; omega)
    have hlp := l89_1_all (pg := pg) (N := .i .i64 (n : Int)) (Mm := .i .i64 (m : Int)) (tA := tA) (tB := tB) (O := O) (hv := fun t => wn [a, b] (t : Int)) (G := G) (mx := mxS [a, b]) (M := M) (L := L) hL (by omega) (fun t ht => Classical.byContradiction fun h0 => by have := hw _ h0; omega) (H := H1) L 0 (-1) (by omega)
    have hR : refW [a, b] = gL (fun t => wn [a, b] (t : Int)) (mxS [a, b]) := rfl
    rw [hR] at c46
    simp only [Int.natCast_zero] at hlp
    have hO1 := hO.mono f1
    revert hsc hlp
    cases scanW (fun t => wn [a, b] (t : Int)) (fun t => wtI G M (t : Int)) L 0 (-1) with
    | none =>
      intro hsc hlp
      refine ⟨fun g hg => absurd hg.valid hsc, fun _ => ⟨O, H1, body_of (x := .ret) (e := [(12, O)]) (d := d89) (by rw [hF.F]; rfl) rfl ?_ (.inl rfl) rfl, hO1, f1, by omega⟩⟩
      clear hsc hO1 hO hw hD2 sb ha hb hA hB hXl hk hH1 hR
      generalize elI.lt true (gL G M) = W at *
      generalize elI.lt false (gL (fun t => wn [a, b] (t : Int)) (mxS [a, b])) = Wc at *
      generalize TV.sl H.length 0 1 false 2 (some 2) = SS at *
      generalize (n : Int) = nn at *
      generalize (m : Int) = mm at *
      show go pg (den pg) [.c c89] .normal _ _ = _
      rw [c89_parts]
      simp (maxSteps := 1000000) (disch := omega) [zipE, r89_0, r89_1, r89_2, r89_3, gX0, gX1, gX2, gX3, gX4, gX5, gX6, gX7, gX8, gX9, gXa, gXb, gXc, gXd, gXe, gXf, gXg, gXh, gXi, gXj, gXk, gXl, gXm, gXn, gXo, gXp, gXq, gXr, gXs, gXt, gXu, gXv, gXw, gXx, k_mv, gXy, gXz, gX01, gX11, gX21, gX31, gX41, gX51, gX61, gX71, gX81, gX91, gXa1, gXb1, gXc1, gXd1, gXe1, gXf1, gXg1, gXh1, gXi1, gXj1, gXk1, gXl1, gXm1, gXn1, gXo1, gXp1, gXq1, gXr1, gXs1, gXt1, gXu1, k_mn, k_mx, gXv1, gXw1, gXx1, gXy1, gXz1, gX02, gX12, gX22, gX32, gX42, gX52, gX62, gX72, Dn.setLast, Dn.getLast, evalO, mapO, Dn.get, putE, gX82, gX92, gXa2, gXb2, TV.one, TV.isAgg, Dn.part, gXc2, negb, at0, at1, at2, at3, at4, dT, dF, gXd2, Option.bind_some, Option.map_some, bs, c46, go_denK (c := l89_1) rfl, hlp, -gXx1]
    | some y =>
      intro hsc hlp
      refine ⟨fun g hg => ?_, fun h => absurd hsc.1 h⟩
      obtain ⟨e, hlp⟩ := hlp
      have hlf := hsc.2 g hg
      -- up to the two branches
      have st : ∀ (Q : Out), go pg (den pg) [.c (.seq r89_4 (.seq r89_5 (.seq r89_6 (.seq r89_7 r89_8))))] .normal ((0, .i .i64 (n : Int)) :: (1, .i .i64 (m : Int)) :: (2, tA) :: (3, tB) :: (4, elI.lt true (gL G M)) :: (5, O) :: (13, elI.lt false (gL (fun t => wn [a, b] (t : Int)) (mxS [a, b]))) :: (14, .i .i64 y) :: e) H1 = some Q →
          go pg (den pg) [.c d89.body] .normal (zipE [.i .i64 (n : Int), .i .i64 (m : Int), tA, tB, elI.lt true (gL G M), O] 0) H = some Q := by
        intro Q hQ
        rw [← hQ]
        clear hQ hsc hO1 hO hw hD2 sb ha hb hA hB hXl hk hH1 hR hlf hg
        generalize elI.lt true (gL G M) = W at *
        generalize elI.lt false (gL (fun t => wn [a, b] (t : Int)) (mxS [a, b])) = Wc at *
        generalize TV.sl H.length 0 1 false 2 (some 2) = SS at *
        generalize (n : Int) = nn at *
        generalize (m : Int) = mm at *
        show go pg (den pg) [.c c89] .normal _ _ = _
        rw [c89_parts]
        simp (maxSteps := 1000000) (disch := omega) [zipE, r89_0, r89_1, r89_2, r89_3, gX0, gX1, gX2, gX3, gX4, gX5, gX6, gX7, gX8, gX9, gXa, gXb, gXc, gXd, gXe, gXf, gXg, gXh, gXi, gXj, gXk, gXl, gXm, gXn, gXo, gXp, gXq, gXr, gXs, gXt, gXu, gXv, gXw, gXx, k_mv, gXy, gXz, gX01, gX11, gX21, gX31, gX41, gX51, gX61, gX71, gX81, gX91, gXa1, gXb1, gXc1, gXd1, gXe1, gXf1, gXg1, gXh1, gXi1, gXj1, gXk1, gXl1, gXm1, gXn1, gXo1, gXp1, gXq1, gXr1, gXs1, gXt1, gXu1, k_mn, k_mx, gXv1, gXw1, gXx1, gXy1, gXz1, gX02, gX12, gX22, gX32, gX42, gX52, gX62, gX72, Dn.setLast, Dn.getLast, evalO, mapO, Dn.get, putE, gX82, gX92, gXa2, gXb2, TV.one, TV.isAgg, Dn.part, gXc2, negb, at0, at1, at2, at3, at4, dT, dF, gXd2, Option.bind_some, Option.map_some, bs, c46, go_denK (c := l89_1) rfl, hlp, -gXx1]
      have lnA : ∀ K, (lenK 0 tA K).map (fun (n : Nat) => TV.i .i64 (n : Int)) = some (.i .i64 (a.length : Int)) := fun K => by rw [ha.2.1.lenK]; rfl
      have lnB : ∀ K, (lenK 0 tB K).map (fun (n : Nat) => TV.i .i64 (n : Int)) = some (.i .i64 (b.length : Int)) := fun K => by rw [hb.2.1.lenK]; rfl
      have ha1 := ha.mono f1
      have hb1 := hb.mono f1
      by_cases hy : y < 0
      · rw [if_pos hy] at hlf
        have d0 : decide (y < 0) = true := dT hy
        unfold growP
        rw [hlf]
        dsimp only
        by_cases hfull : a.length < n ∨ b.length < m
        · rw [if_pos hfull, List.foldl_nil]
          refine ⟨O, H1, body_of (x := .ret) (e := [(12, O)]) (d := d89) (by rw [hF.F]; rfl) rfl (st _ ?_) (.inl rfl) rfl, hO1, f1, by omega⟩
          by_cases h1 : a.length < n
          · have d1 : ((a.length : Int) == (n : Int)) = false := by simp; omega
            clear st hlp hsc hO1 hO hw hD2 sb ha hb hA hB hXl hk hH1 hR hlf hg hfull h1 ha1 hb1 bs c46 hL
            generalize elI.lt true (gL G M) = W at *
            generalize elI.lt false (gL (fun t => wn [a, b] (t : Int)) (mxS [a, b])) = Wc at *
            generalize (n : Int) = nn at *
            generalize (m : Int) = mm at *
            generalize (a.length : Int) = al at *
            generalize (b.length : Int) = bl at *
            simp (maxSteps := 1000000) (disch := omega) [r89_4, gX0, gX1, gX2, gX3, gX4, gX5, gX6, gX7, gX8, gX9, gXa, gXb, gXc, gXd, gXe, gXf, gXg, gXh, gXi, gXj, gXk, gXl, gXm, gXn, gXo, gXp, gXq, gXr, gXs, gXt, gXu, gXv, gXw, gXx, k_mv, gXy, gXz, gX01, gX11, gX21, gX31, gX41, gX51, gX61, gX71, gX81, gX91, gXa1, gXb1, gXc1, gXd1, gXe1, gXf1, gXg1, gXh1, gXi1, gXj1, gXk1, gXl1, gXm1, gXn1, gXo1, gXp1, gXq1, gXr1, gXs1, gXt1, gXu1, k_mn, k_mx, gXv1, gXw1, gXx1, gXy1, gXz1, gX02, gX12, gX22, gX32, gX42, gX52, gX62, gX72, Dn.setLast, Dn.getLast, evalO, mapO, Dn.get, putE, gX82, gX92, gXa2, gXb2, TV.one, TV.isAgg, Dn.part, gXc2, negb, at0, at1, at2, at3, at4, dT, dF, gXd2, Option.bind_some, Option.map_some, d0, lnA, lnB, d1]
          · have d1 : ((a.length : Int) == (n : Int)) = true := by simp; omega
            have d2 : ((b.length : Int) == (m : Int)) = false := by simp; omega
            clear st hlp hsc hO1 hO hw hD2 sb ha hb hA hB hXl hk hH1 hR hlf hg hfull h1 ha1 hb1 bs c46 hL
            generalize elI.lt true (gL G M) = W at *
            generalize elI.lt false (gL (fun t => wn [a, b] (t : Int)) (mxS [a, b])) = Wc at *
            generalize (n : Int) = nn at *
            generalize (m : Int) = mm at *
            generalize (a.length : Int) = al at *
            generalize (b.length : Int) = bl at *
            simp (maxSteps := 1000000) (disch := omega) [r89_4, gX0, gX1, gX2, gX3, gX4, gX5, gX6, gX7, gX8, gX9, gXa, gXb, gXc, gXd, gXe, gXf, gXg, gXh, gXi, gXj, gXk, gXl, gXm, gXn, gXo, gXp, gXq, gXr, gXs, gXt, gXu, gXv, gXw, gXx, k_mv, gXy, gXz, gX01, gX11, gX21, gX31, gX41, gX51, gX61, gX71, gX81, gX91, gXa1, gXb1, gXc1, gXd1, gXe1, gXf1, gXg1, gXh1, gXi1, gXj1, gXk1, gXl1, gXm1, gXn1, gXo1, gXp1, gXq1, gXr1, gXs1, gXt1, gXu1, k_mn, k_mx, gXv1, gXw1, gXx1, gXy1, gXz1, gX02, gX12, gX22, gX32, gX42, gX52, gX62, gX72, Dn.setLast, Dn.getLast, evalO, mapO, Dn.get, putE, gX82, gX92, gXa2, gXb2, TV.one, TV.isAgg, Dn.part, gXc2, negb, at0, at1, at2, at3, at4, dT, dF, gXd2, Option.bind_some, Option.map_some, d0, lnA, lnB, d1, d2]
        · rw [if_neg hfull, List.foldl_cons, List.foldl_nil]
          have hpw : 1 ≤ 2 ^ ((n - a.length) + (m - b.length)) := Nat.one_le_two_pow
          obtain ⟨O', H', p1, p2, p3, p4⟩ := body106 (pg := pg) hF (x := (a, b)) hO1 hS ⟨by simp only; omega, by simp only; omega⟩ ha1 hb1 (by omega) (by omega) (by omega)
          refine ⟨O', H', body_of (x := .ret) (e := [(12, O')]) (d := d89) (by rw [hF.F]; rfl) rfl (st _ ?_) (.inl rfl) rfl, p2, fun j hj => by rw [p3 j (by omega), f1 j hj], by omega⟩
          have d1 : ((a.length : Int) == (n : Int)) = true := by simp; omega
          have d2 : ((b.length : Int) == (m : Int)) = true := by simp; omega
          have bl : dkc pg (den pg) (.build [.nilsl, .nilsl] [(0, 1), (1, 1)]) [tA, tB] H1 = some (.agg [tA, tB], H1) := by
            show dk (.build [.nilsl, .nilsl] [(0, 1), (1, 1)]) [tA, tB] H1 = _
            simp [dk, fillP, put2, ha.one.1, hb.one.1, ha.one.2.1, hb.one.2.1]
          clear st hlp hsc hO1 hO hw hD2 sb ha hb hA hB hXl hk hH1 hR hlf hg hfull ha1 hb1 bs c46 hL p2 p3
          generalize elI.lt true (gL G M) = W at *
          generalize elI.lt false (gL (fun t => wn [a, b] (t : Int)) (mxS [a, b])) = Wc at *
          generalize (n : Int) = nn at *
          generalize (m : Int) = mm at *
          generalize (a.length : Int) = al at *
          generalize (b.length : Int) = bl at *
          generalize TV.agg [tA, tB] = AG at *
          simp (maxSteps := 1000000) (disch := omega) [r89_4, gX0, gX1, gX2, gX3, gX4, gX5, gX6, gX7, gX8, gX9, gXa, gXb, gXc, gXd, gXe, gXf, gXg, gXh, gXi, gXj, gXk, gXl, gXm, gXn, gXo, gXp, gXq, gXr, gXs, gXt, gXu, gXv, gXw, gXx, k_mv, gXy, gXz, gX01, gX11, gX21, gX31, gX41, gX51, gX61, gX71, gX81, gX91, gXa1, gXb1, gXc1, gXd1, gXe1, gXf1, gXg1, gXh1, gXi1, gXj1, gXk1, gXl1, gXm1, gXn1, gXo1, gXp1, gXq1, gXr1, gXs1, gXt1, gXu1, k_mn, k_mx, gXv1, gXw1, gXx1, gXy1, gXz1, gX02, gX12, gX22, gX32, gX42, gX52, gX62, gX72, Dn.setLast, Dn.getLast, evalO, mapO, Dn.get, putE, gX82, gX92, gXa2, gXb2, TV.one, TV.isAgg, Dn.part, gXc2, negb, at0, at1, at2, at3, at4, dT, dF, gXd2, Option.bind_some, Option.map_some, d0, lnA, lnB, d1, d2, bl, sh_fn, p1]
      · rw [if_neg hy] at hlf
        have d0 : decide (y < 0) = false := dF hy
        have hyb : 0 ≤ y ∧ y ≤ 1000 := by
          have h1 := leastF_some.1 hlf
          have h2 := hg y
          have h3 : wtI G M y ≠ 0 := by have := h1.1; omega
          unfold wtI at h3
          split at h3
          · omega
          · exact absurd rfl h3
        have hgr : growP n m c d (k + 1) a b g = (if fits n a (y - d) = true then ptA n m c d k a b g (y - d) else []) ++ (if fits m b (y - c) = true then ptB n m c d k a b g (y - c) else []) := by
          conv => lhs; unfold growP
          rw [hlf]; rfl
        rw [hgr, List.foldl_append]
        have hpow : ∀ e, 2 ^ (e + 1) = 2 * 2 ^ e := fun e => by rw [Nat.pow_succ]; omega
        -- the first branch
        obtain ⟨O1, H2, e1, he1, q1, q2, q3, q4⟩ := r89_A (pg := pg) (n := n) (m := m) (W := elI.lt true (gL G M)) (O := O) (X := X) (R := (ptA n m c d k a b g (y - d)).foldl putP X) (H := H1) (z := y) ha1 hb1 hA hd hd6 hyb hO1 (by
          intro hf t' H2 ht' hfr hln
          obtain ⟨hD', hlt⟩ := fits_die hA hn hf
          have hex : (n - (a ++ [y - d]).length) + (m - b.length) + 1 = (n - a.length) + (m - b.length) := by simp; omega
          have ih := body89 (pg := pg) (c := c) (d := d) (G := G) (M := M) hF hn hm hM k (a ++ [y - d]) b t' tB O X H2 ht' (hb1.mono hfr) hD' hB (by rw [List.getElem?_append_left (by omega)]; exact hc) hd (by simp; omega) hbm (hO1.mono hfr) hS (by rw [← hex, hpow] at hXl; omega) (by omega)
          have hta := hg.takeA (y - d)
          unfold ptA
          revert hta
          cases takes g (y - d) b with
          | none => intro hta; exact ih.2 hta
          | some g' => intro hta; exact ih.1 g' hta) [.c (.seq r89_6 (.seq r89_7 r89_8))]
        have hX1 : (if fits n a (y - d) = true then (ptA n m c d k a b g (y - d)).foldl putP X else X) = (if fits n a (y - d) = true then ptA n m c d k a b g (y - d) else []).foldl putP X := by split <;> rfl
        rw [hX1] at q2
        obtain ⟨X1, hX1d⟩ : ∃ X1, X1 = (if fits n a (y - d) = true then ptA n m c d k a b g (y - d) else []).foldl putP X := ⟨_, rfl⟩
        rw [← hX1d] at q2 ⊢
        have hpl : (if fits n a (y - d) = true then ptA n m c d k a b g (y - d) else []).length * 2 ≤ 2 ^ ((n - a.length) + (m - b.length)) := partA_len n m c d k a b (y - d) (takes g (y - d) b) hbm
        have hX1l : X1.length ≤ X.length + (if fits n a (y - d) = true then ptA n m c d k a b g (y - d) else []).length := by rw [hX1d]; exact foldP_len _ _
        have hS1 : Szs n m X1 := by
          rw [hX1d]
          refine hS.fold fun p hp => ?_
          split at hp
          · rename_i hf
            obtain ⟨_, hlt⟩ := fits_die hA hn hf
            unfold ptA at hp
            split at hp
            · exact growP_sz n m c d k _ b _ (by simp; omega) hbm p hp
            · simp at hp
          · simp at hp
        -- the second branch
        obtain ⟨O2, H3, u1, u2, u3, u4⟩ := r89_B (pg := pg) (n := n) (m := m) (W := elI.lt true (gL G M)) (O := O1) (X := X1) (R := (ptB n m c d k a b g (y - c)).foldl putP X1) (H := H2) (z := y) he1 (ha1.mono q3) (hb1.mono q3) hB hc hc6 hyb q2 (by
          intro hf t' H3 ht' hfr hln
          obtain ⟨hD', hlt⟩ := fits_die hB hm hf
          have hex : (n - a.length) + (m - (b ++ [y - c]).length) + 1 = (n - a.length) + (m - b.length) := by simp; omega
          have ih := body89 (pg := pg) (c := c) (d := d) (G := G) (M := M) hF hn hm hM k a (b ++ [y - c]) tA t' O1 X1 H3 ((ha1.mono q3).mono hfr) ht' hA hD' hc (by rw [List.getElem?_append_left (by omega)]; exact hd) han (by simp; omega) (q2.mono hfr) hS1 (by rw [← hex, hpow] at hXl hpl; omega) (by omega)
          have hta := hg.takeB (y - c)
          unfold ptB
          revert hta
          cases takes g (y - c) a with
          | none => intro hta; exact ih.2 hta
          | some g' => intro hta; exact ih.1 g' hta)
        have hX2 : (if fits m b (y - c) = true then (ptB n m c d k a b g (y - c)).foldl putP X1 else X1) = (if fits m b (y - c) = true then ptB n m c d k a b g (y - c) else []).foldl putP X1 := by split <;> rfl
        rw [hX2] at u2
        refine ⟨O2, H3, body_of (x := .ret) (e := [(12, O2)]) (d := d89) (by rw [hF.F]; rfl) rfl (st _ ?_) (.inl rfl) rfl, u2, fun j hj => by rw [u3 j (by omega), q3 j (by omega), f1 j hj], by omega⟩
        rw [← u1, ← q1]
        clear st hlp hsc hO1 hO hw hD2 sb ha hb hA hB hXl hk hH1 hR hlf hg ha1 hb1 bs c46 hL u1 u2 u3 q1 q2 q3 hX1 hX2 hX1d hgr hpl hS1
        generalize elI.lt true (gL G M) = W at *
        generalize elI.lt false (gL (fun t => wn [a, b] (t : Int)) (mxS [a, b])) = Wc at *
        generalize (n : Int) = nn at *
        generalize (m : Int) = mm at *
        simp (maxSteps := 1000000) (disch := omega) [r89_4, gX0, gX1, gX2, gX3, gX4, gX5, gX6, gX7, gX8, gX9, gXa, gXb, gXc, gXd, gXe, gXf, gXg, gXh, gXi, gXj, gXk, gXl, gXm, gXn, gXo, gXp, gXq, gXr, gXs, gXt, gXu, gXv, gXw, gXx, k_mv, gXy, gXz, gX01, gX11, gX21, gX31, gX41, gX51, gX61, gX71, gX81, gX91, gXa1, gXb1, gXc1, gXd1, gXe1, gXf1, gXg1, gXh1, gXi1, gXj1, gXk1, gXl1, gXm1, gXn1, gXo1, gXp1, gXq1, gXr1, gXs1, gXt1, gXu1, k_mn, k_mx, gXv1, gXw1, gXx1, gXy1, gXz1, gX02, gX12, gX22, gX32, gX42, gX52, gX62, gX72, Dn.setLast, Dn.getLast, evalO, mapO, Dn.get, putE, gX82, gX92, gXa2, gXb2, TV.one, TV.isAgg, Dn.part, gXc2, negb, at0, at1, at2, at3, at4, dT, dF, gXd2, Option.bind_some, Option.map_some, d0]

end Go.Proofs.Try.Dn

