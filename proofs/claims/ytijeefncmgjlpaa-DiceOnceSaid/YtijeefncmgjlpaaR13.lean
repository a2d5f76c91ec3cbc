/-
  Dice: the law Once run.
-/
import Derived.Test.YtijeefncmgjlpaaUG
import Derived.Test.YtijeefncmgjlpaaEb
set_option linter.unusedSimpArgs false
set_option linter.unusedVariables false

set_option maxHeartbeats 4000000
set_option maxRecDepth 100000
namespace Go.Proofs.Try.Dn
open Go.Dn

theorem same_comm (a b : List Int) : same b a = same a b := by
  have h1 := cmp_all a b
  have h2 := cmp_all b a
  have h3 := more_less a b
  have h4 := less_more a b
  have h5 := Nat.mul_comm a.length b.length
  omega

theorem call33 {pg : Pg} (hF : Free pg) {A B : TV} {a b : List Int} (hA : SV A a) (hB : SV B b) (ha : a.length ≤ 100) (hb : b.length ≤ 100) (h0 : chkD [a, b] = 0) (H : Heap) : callRun pg (den pg) (.pu []) [.fn 33 [] [], A, B] H = some (.tup [.i .i64 (more a b : Int), .i .i64 (less a b : Int), .i .i64 (same a b : Int), .i .i64 0], H) := by
  obtain ⟨A', s1, hA'⟩ := hA.snap H 7
  obtain ⟨B', s2, hB'⟩ := hB.snap H 7
  have := fn33 (pg := pg) hF hA' hB' ha hb
  rw [if_pos h0] at this
  exact PFn.call this (args := [A, B]) (ks := []) (fs := []) (cs := []) (by simp [snapArgs, s1, s2])

theorem l13_1_all {pg : Pg} (hF : Free pg) {ls : List (List Int)} (hr : Row 60 6 ls) {X R : TV} (hX : SSV X ls) (hR : R = (elRw elB false).lt false (tbl ls)) {i : Nat} {a : List Int} (ha : ls[i]? = some a) {H : Heap} :
    ∀ (n k : Nat), k + n = ls.length → ∃ e, den pg l13_1 [(3, X), (4, R), (12, .i .i64 (i : Int)), (13, .i .i64 (k : Int))] H = some ⟨.exit 2, e, H⟩ ∧ keepE [3, 4, 12] e = [(3, X), (4, R), (12, .i .i64 (i : Int))]
  | 0, k, hk => by
    obtain rfl : k = ls.length := by omega
    have ln := hX.len H
    refine ⟨[(3, X), (4, R), (12, .i .i64 (i : Int)), (13, .i .i64 (ls.length : Int)), (95, .b false)], ?_, rfl⟩
    rw [l13_1, den_loop]
    simp (disch := omega) [b13_0, gX0, gX1, gX2, gX3, gX4, gX5, gX6, gX7, gX8, gX9, gXa, gXb, gXc, gXd, gXe, gXf, gXg, gXh, gXi, gXj, gXk, gXl, gXm, gXn, gXo, gXp, gXq, gXr, gXs, gXt, gXu, gXv, gXw, gXx, k_mv, gXy, gXz, gX01, gX11, gX21, gX31, gX41, gX51, gX61, gX71, gX81, gX91, gXa1, gXb1, gXc1, gXd1, gXe1, gXf1, gXg1, gXh1, gXi1, gXj1, gXk1, gXl1, gXm1, gXn1, gXo1, gXp1, gXq1, gXr1, gXs1, gXt1, gXu1, k_mn, k_mx, gXv1, gXw1, gXx1, gXy1, gXz1, gX02, gX12, gX22, gX32, gX42, gX52, gX62, gX72, Dn.setLast, Dn.getLast, evalO, mapO, Dn.get, putE, gX82, gX92, gXa2, gXb2, TV.one, TV.isAgg, Dn.part, gXc2, negb, at0, at1, at2, at3, at4, dT, dF, gXd2, Option.bind_some, Option.map_some, ln]
  | n + 1, k, hk => by
    have ln := hX.len H
    have hlen := hr.le
    obtain ⟨b, hb⟩ : ∃ b, ls[k]? = some b := ⟨_, List.getElem?_eq_getElem (by omega)⟩
    have da := hr.all a (List.mem_of_getElem? ha)
    have db := hr.all b (List.mem_of_getElem? hb)
    obtain ⟨t1, t2⟩ := tbl_at ha hb
    obtain ⟨p, p1, p2⟩ := ixRw (pg := pg) (H := H) (b := false) t1
    rw [← hR] at p1
    obtain ⟨q, q1, q2⟩ := ixBo (pg := pg) (H := H) (b := false) t2
    obtain ⟨u, A, u1, u2, hA⟩ := hX.ix (pg := pg) (R := den pg) ha H
    obtain ⟨w, B, w1, w2, hB⟩ := hX.ix (pg := pg) (R := den pg) hb H
    have la := da.le
    have lb := db.le
    have row2 : ∀ {x y : List Int}, DieL 60 x → DieL 60 y → chkD [x, y] = 0 := fun {x y} hx hy => chk_row (most := 60) (n := 2) ⟨fun d hd => by simp at hd; rcases hd with rfl | rfl <;> assumption, by simp, by simp⟩ (by omega) (by omega)
    have c1 := call33 (pg := pg) hF hA hB (by omega) (by omega) (row2 da db) H
    have c2 := call33 (pg := pg) hF hB hA (by omega) (by omega) (row2 db da) H
    have hs := cmp_all b a
    rw [more_less b a, less_more b a, same_comm a b] at c2
    have lnA := (hA.view H).lenK
    have lnB := (hB.view H).lenK
    obtain ⟨e, r1, r2⟩ := l13_1_all (pg := pg) hF hr hX hR ha (H := H) n (k + 1) (by omega)
    refine ⟨e, Eq.trans ?_ r1, r2⟩
    have hbt : bt a b = decide ((less a b : Int) < (more a b : Int)) := by unfold bt; simp
    rw [hbt] at q2
    have hm := Nat.mul_le_mul la lb
    obtain ⟨N2, hN2⟩ : ∃ N2, N2 = a.length * b.length := ⟨_, rfl⟩
    have w3 : wrapR .i64 ((a.length : Int) * (b.length : Int)) = .i .i64 (N2 : Int) := by rw [← Int.natCast_mul, ← hN2]; exact gXd2 (by omega)
    rw [← hN2] at hs hm
    have x1 : wrapR .i64 ((more a b : Int) + (less a b : Int)) = .i .i64 ((more a b : Int) + (less a b : Int)) := gXd2 (by omega)
    have x2 : wrapR .i64 ((more a b : Int) + (less a b : Int) + (same a b : Int)) = .i .i64 (N2 : Int) := by rw [show (more a b : Int) + (less a b : Int) + (same a b : Int) = (N2 : Int) by omega]; exact gXd2 (by omega)
    have hw : wrapR .i64 ((k : Int) + 1) = .i .i64 ((k + 1 : Nat) : Int) := by rw [← Int.natCast_succ]; exact gXd2 (by omega)
    obtain ⟨N, hN⟩ : ∃ N, N = ls.length := ⟨_, rfl⟩
    rw [← hN] at hk ln
    have lt : ∀ K, lenK 0 R K = some N := fun K => by
      have := (ltV (elRw elB false) false K (tbl ls)).lenK
      rw [show (tbl ls).length = ls.length by unfold tbl; rw [List.length_map]] at this
      rw [hR, hN]; exact this K
    have dk : decide ((k : Int) < (N : Int)) = true := dT (by omega)
    clear hs hm hr da db t1 t2 hR hX ha hb hA hB row2 r1 r2 hbt la lb hN2 hlen
    generalize ((k + 1 : Nat) : Int) = K2 at *
    generalize elB.lt false (ls.map (bt a)) = RR at *
    generalize (more a b : Int) = M at *
    generalize (less a b : Int) = L at *
    generalize (same a b : Int) = S at *
    generalize (N2 : Int) = NN at *
    rw [l13_1, den_loop]
    simp (disch := omega) [l13_1, b13_0, gX0, gX1, gX2, gX3, gX4, gX5, gX6, gX7, gX8, gX9, gXa, gXb, gXc, gXd, gXe, gXf, gXg, gXh, gXi, gXj, gXk, gXl, gXm, gXn, gXo, gXp, gXq, gXr, gXs, gXt, gXu, gXv, gXw, gXx, k_mv, gXy, gXz, gX01, gX11, gX21, gX31, gX41, gX51, gX61, gX71, gX81, gX91, gXa1, gXb1, gXc1, gXd1, gXe1, gXf1, gXg1, gXh1, gXi1, gXj1, gXk1, gXl1, gXm1, gXn1, gXo1, gXp1, gXq1, gXr1, gXs1, gXt1, gXu1, k_mn, k_mx, gXv1, gXw1, gXx1, gXy1, gXz1, gX02, gX12, gX22, gX32, gX42, gX52, gX62, gX72, Dn.setLast, Dn.getLast, evalO, mapO, Dn.get, putE, gX82, gX92, gXa2, gXb2, TV.one, TV.isAgg, Dn.part, gXc2, negb, at0, at1, at2, at3, at4, dT, dF, gXd2, Option.bind_some, Option.map_some, ln, lt, dk, p1, p2, q1, q2, u1, u2, w1, w2, c1, c2, lnA, lnB, w3, x1, x2, hw]

theorem l13_3_all {pg : Pg} (hF : Free pg) {ls : List (List Int)} (hr : Row 60 6 ls) {X R : TV} (hX : SSV X ls) (hR : R = (elRw elB false).lt false (tbl ls)) {H : Heap} :
    ∀ (n i : Nat), i + n = ls.length → ∃ e, den pg l13_3 [(3, X), (4, R), (12, .i .i64 (i : Int))] H = some ⟨.exit 0, e, H⟩
  | 0, i, hi => by
    obtain rfl : i = ls.length := by omega
    have ln := hX.len H
    exact ⟨_, by
      rw [l13_3, den_loop]
      simp (disch := omega) [b13_2, gX0, gX1, gX2, gX3, gX4, gX5, gX6, gX7, gX8, gX9, gXa, gXb, gXc, gXd, gXe, gXf, gXg, gXh, gXi, gXj, gXk, gXl, gXm, gXn, gXo, gXp, gXq, gXr, gXs, gXt, gXu, gXv, gXw, gXx, k_mv, gXy, gXz, gX01, gX11, gX21, gX31, gX41, gX51, gX61, gX71, gX81, gX91, gXa1, gXb1, gXc1, gXd1, gXe1, gXf1, gXg1, gXh1, gXi1, gXj1, gXk1, gXl1, gXm1, gXn1, gXo1, gXp1, gXq1, gXr1, gXs1, gXt1, gXu1, k_mn, k_mx, gXv1, gXw1, gXx1, gXy1, gXz1, gX02, gX12, gX22, gX32, gX42, gX52, gX62, gX72, Dn.setLast, Dn.getLast, evalO, mapO, Dn.get, putE, gX82, gX92, gXa2, gXb2, TV.one, TV.isAgg, Dn.part, gXc2, negb, at0, at1, at2, at3, at4, dT, dF, gXd2, Option.bind_some, Option.map_some, ln]
      rfl⟩
  | n + 1, i, hi => by
    have ln := hX.len H
    have hlen := hr.le
    obtain ⟨a, ha⟩ : ∃ a, ls[i]? = some a := ⟨_, List.getElem?_eq_getElem (by omega)⟩
    obtain ⟨t1, t2⟩ := tbl_at ha ha
    rw [bt_self] at t2
    obtain ⟨p, p1, p2⟩ := ixRw (pg := pg) (H := H) (b := false) t1
    rw [← hR] at p1
    obtain ⟨q, q1, q2⟩ := ixBo (pg := pg) (H := H) (b := false) t2
    have ln2 : ∀ K, lenK 0 (elB.lt false (ls.map (bt a))) K = some ls.length := fun K => by
      have := (ltV elB false K (ls.map (bt a))).lenK
      rw [List.length_map] at this
      exact this K
    obtain ⟨e, r1, r2⟩ := l13_1_all (pg := pg) hF hr hX hR ha (H := H) ls.length 0 (by omega)
    obtain ⟨e', r'⟩ := l13_3_all (pg := pg) hF hr hX hR (H := H) n (i + 1) (by omega)
    refine ⟨e', Eq.trans ?_ r'⟩
    obtain ⟨N, hN⟩ : ∃ N, N = ls.length := ⟨_, rfl⟩
    rw [← hN] at hi ln ln2 hlen
    have di : decide ((i : Int) < (N : Int)) = true := dT (by omega)
    have hw : wrapR .i64 ((i : Int) + 1) = .i .i64 ((i + 1 : Nat) : Int) := by rw [← Int.natCast_succ]; exact gXd2 (by omega)
    have g3 := keep_get r2 (s := 3) (by simp) rfl
    have g4 := keep_get r2 (s := 4) (by simp) rfl
    have g6 := keep_get r2 (s := 12) (by simp) rfl
    generalize elB.lt false (ls.map (bt a)) = RR at *
    simp only [Int.natCast_zero] at r1
    clear r' hr hX hR ha t1 t2 r2
    generalize ((i + 1 : Nat) : Int) = I2 at *
    rw [l13_3, den_loop]
    simp (disch := omega) [l13_3, b13_2, gX0, gX1, gX2, gX3, gX4, gX5, gX6, gX7, gX8, gX9, gXa, gXb, gXc, gXd, gXe, gXf, gXg, gXh, gXi, gXj, gXk, gXl, gXm, gXn, gXo, gXp, gXq, gXr, gXs, gXt, gXu, gXv, gXw, gXx, k_mv, gXy, gXz, gX01, gX11, gX21, gX31, gX41, gX51, gX61, gX71, gX81, gX91, gXa1, gXb1, gXc1, gXd1, gXe1, gXf1, gXg1, gXh1, gXi1, gXj1, gXk1, gXl1, gXm1, gXn1, gXo1, gXp1, gXq1, gXr1, gXs1, gXt1, gXu1, k_mn, k_mx, gXv1, gXw1, gXx1, gXy1, gXz1, gX02, gX12, gX22, gX32, gX42, gX52, gX62, gX72, Dn.setLast, Dn.getLast, evalO, mapO, Dn.get, putE, gX82, gX92, gXa2, gXb2, TV.one, TV.isAgg, Dn.part, gXc2, negb, at0, at1, at2, at3, at4, dT, dF, gXd2, Option.bind_some, Option.map_some, ln, ln2, di, p1, p2, q1, q2, go_denK (c := l13_1) rfl, r1, g3, g4, g6, hw]

theorem run13 {pg : Pg} (hF : Free pg) (h23 : PFn pg 23 [] (.b true)) {T : TV} {l : List (List Int)} (hT : SSV T l) (hl : l.length ≤ 9223372036854775807) (hL : ∀ x ∈ l, x.length ≤ 9223372036854775807) : ∃ H, bodyRun pg (den pg) 13 [T] [] = some (.b true, H) := by
  obtain ⟨ls, hr, c28⟩ := call28 (pg := pg) hF hT hl hL (many := 6) (most := 12) (by omega) (by omega) (by omega) []
  have c23 := fun H => PFn.call h23 (args := []) (ks := []) (fs := []) (cs := []) (H := H) (by simp [snapArgs])
  have hlen := hr.le
  have hX := elR_SSV false false ls
  have ln := hX.len []
  obtain ⟨X', s1, s2⟩ := snapSSV hX []
  have h0 := chk_row hr (by omega) (by omega)
  have hr' : Row 60 6 ls := ⟨fun d hd => (hr.all d hd).mono (by omega), hr.pos, hr.le⟩
  have c29 := PFn.call (fn29 (pg := pg) hF s2 h0) (args := [(elR false).lt false ls]) (ks := []) (fs := []) (cs := []) (H := []) (by simpa using s1)
  obtain ⟨e, r⟩ := l13_3_all (pg := pg) hF hr' hX rfl (H := []) ls.length 0 (by omega)
  have ln2 : ∀ K, lenK 0 ((elRw elB false).lt false (tbl ls)) K = some ls.length := fun K => by
    have := (ltV (elRw elB false) false K (tbl ls)).lenK
    rw [show (tbl ls).length = ls.length by unfold tbl; rw [List.length_map]] at this
    exact this K
  refine ⟨[], body_of (x := .ret) (e := [(2, .b true)]) (d := d13) (by rw [hF.F]; rfl) rfl ?_ (.inl rfl) rfl⟩
  have go : ∀ (A B : Bool) (RV QV : TV), (A == B) = false → callRun pg (den pg) (.pu []) [.fn 35 [] [], (elR false).lt false ls] [] = some (.tup [RV, .b A, .i .i64 0], []) → callRun pg (den pg) (.pu []) [.fn 36 [] [], (elR false).lt false ls] [] = some (.tup [QV, .b B, .i .i64 0], []) →
      go pg (den pg) [.c d13.body] .normal (zipE [T] 0) [] = some ⟨.ret, [(2, .b true)], []⟩ := by
    intro A B RV QV hab c35 c36
    clear s1 s2 hr hr' h0 hX
    generalize (elRw elB false).lt false (tbl ls) = R at *
    generalize (elR false).lt false ls = X at *
    simp only [Int.natCast_zero] at r
    simp only [Int.cast_ofNat_Int] at c28
    have eb : ∀ K, dkc pg (den pg) (.eqB false) [.b A, .b B] K = some (.b false, K) := fun K => by
      show dk (.eqB false) [.b A, .b B] K = _
      simp [dk, hab, negb]
    simp (disch := omega) [d13, c13, zipE, gX0, gX1, gX2, gX3, gX4, gX5, gX6, gX7, gX8, gX9, gXa, gXb, gXc, gXd, gXe, gXf, gXg, gXh, gXi, gXj, gXk, gXl, gXm, gXn, gXo, gXp, gXq, gXr, gXs, gXt, gXu, gXv, gXw, gXx, k_mv, gXy, gXz, gX01, gX11, gX21, gX31, gX41, gX51, gX61, gX71, gX81, gX91, gXa1, gXb1, gXc1, gXd1, gXe1, gXf1, gXg1, gXh1, gXi1, gXj1, gXk1, gXl1, gXm1, gXn1, gXo1, gXp1, gXq1, gXr1, gXs1, gXt1, gXu1, k_mn, k_mx, gXv1, gXw1, gXx1, gXy1, gXz1, gX02, gX12, gX22, gX32, gX42, gX52, gX62, gX72, Dn.setLast, Dn.getLast, evalO, mapO, Dn.get, putE, gX82, gX92, gXa2, gXb2, TV.one, TV.isAgg, Dn.part, gXc2, negb, at0, at1, at2, at3, at4, dT, dF, gXd2, Option.bind_some, Option.map_some, c28, c29, c35, c36, eb, ln, ln2, go_denK (c := l13_3) rfl, r, c23]
  have ca : ∀ {f : Nat} {v : TV}, PFn pg f [X'] v → callRun pg (den pg) (.pu []) [.fn f [] [], (elR false).lt false ls] [] = some (v, []) := fun {f v} h => PFn.call h (args := [(elR false).lt false ls]) (ks := []) (fs := []) (cs := []) (H := []) (by simpa using s1)
  rcases fn35 (pg := pg) hF s2 h0 with ⟨r1, hr1, f35⟩ | ⟨⟨r1, hr1⟩, f35⟩
  · rcases fn36 (pg := pg) hF s2 h0 with ⟨_, f36⟩ | ⟨q, hq, _⟩
    · exact go true false _ _ rfl (ca f35) (ca f36)
    · have hh := ring_has hr1; rw [rank_has hq (ed_self ls)] at hh; cases hh
  · rcases fn36 (pg := pg) hF s2 h0 with ⟨⟨q, hq⟩, _⟩ | ⟨q, hq, f36⟩
    · have hh := rank_has hr1 (ed_self ls); rw [ring_has hq] at hh; cases hh
    · exact go false true _ _ rfl (ca f35) (ca f36)

end Go.Proofs.Try.Dn

