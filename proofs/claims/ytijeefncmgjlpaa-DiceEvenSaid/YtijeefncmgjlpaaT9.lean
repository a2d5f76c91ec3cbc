/-
  The reference's put: a pair at its place in a list.
-/
import Derived.Test.YtijeefncmgjlpaaT8
set_option linter.unusedSimpArgs false
set_option linter.unusedVariables false

set_option maxHeartbeats 4000000
set_option maxRecDepth 100000
namespace Go.Proofs.Try.Dn
open Go.Dn

def RowS (H : Heap) (t : TV) (l : List Int) : Prop := l ≠ [] ∧ elI.View H t l ∧ ∃ id, t.idOf = some id

theorem RowS.mono {H H' : Heap} {t : TV} {l : List Int} (h : RowS H t l) (hf : ∀ j, j < H.length → H'[j]? = H[j]?) : RowS H' t l :=
  ⟨h.1, h.2.1.mono fun id hid => hf id (h.2.1.lt id hid), h.2.2⟩
theorem RowS.nn {H : Heap} {t : TV} {l : List Int} (h : RowS H t l) : t ≠ .nilsl := by
  obtain ⟨id, hid⟩ := h.2.2
  intro e; rw [e] at hid; cases hid
theorem RowS.bor {H : Heap} {t : TV} {l : List Int} (h : RowS H t l) : snap .borrow H 9 t = some (elI.lt true l) := by
  rw [h.2.1.snap elI_flat h.nn, El.lt_ne h.1]
theorem RowS.one {H : Heap} {t : TV} {l : List Int} (h : RowS H t l) : t.one = true ∧ t.cells = [t] ∧ t.isAgg = false := by
  obtain ⟨id, hid⟩ := h.2.2
  rcases h.2.1 with ⟨rfl, _⟩ | ⟨b, rfl⟩ | ⟨id', off, cap, c, ag, rfl, _⟩
  · cases hid
  · cases hid
  · exact ⟨rfl, rfl, rfl⟩
theorem RowS.fin {H : Heap} {t : TV} {l : List Int} (h : RowS H t l) (f : Nat) : snap .fin H (f + 2) t = some (elI.lt false l) := by
  obtain ⟨id, hid⟩ := h.2.2
  rcases h.2.1 with ⟨rfl, _⟩ | ⟨b, rfl⟩ | ⟨id', off, cap, c, ag, rfl, h0, h1, h2, h3⟩
  · cases hid
  · cases hid
  · rw [snap]
    simp only [reduceCtorEq, if_false, h1]
    rw [if_pos ⟨h2, .inr rfl⟩, h3, elI.elems_flat, El.lt_ne h.1]
    have hm : mapO (snap .fin H (f + 1)) (l.map elI.val) = some (l.map elI.val) := mapO_map (g := snap .fin H (f + 1)) (f := elI.val) (k := elI.val) fun a _ => by simp [elI, El.val, snap]
    rw [hm]; rfl

abbrev TP := {t : TV // t.one = true} × {t : TV // t.one = true}

def PInT (H : Heap) (O : TV) (ts : List TP) (X : List PL) : Prop := elCC.Own H O ts ∧ ts.length = X.length ∧ ∀ (i : Nat) t x, ts[i]? = some t → X[i]? = some x → RowS H t.1.1 x.1 ∧ RowS H t.2.1 x.2
def PIn (H : Heap) (O : TV) (X : List PL) : Prop := ∃ ts, PInT H O ts X

theorem PIn.mono {H H' : Heap} {O : TV} {X : List PL} (h : PIn H O X) (hf : ∀ j, j < H.length → H'[j]? = H[j]?) : PIn H' O X := by
  obtain ⟨ts, h1, h2, h3⟩ := h
  exact ⟨ts, h1.mono fun id hid => hf id (h1.lt id hid), h2, fun i t x ht hx => ⟨(h3 i t x ht hx).1.mono hf, (h3 i t x ht hx).2.mono hf⟩⟩

theorem PIn.nil (H : Heap) : PIn H .nilsl [] := ⟨[], .inl ⟨rfl, rfl⟩, rfl, fun i t x ht => by simp at ht⟩

theorem mapO_rows {m : SM} {H : Heap} {f : Nat} : ∀ (ts : List TP) (X : List PL), ts.length = X.length → (∀ (i : Nat) t x, ts[i]? = some t → X[i]? = some x → snap m H (f + 1) (elCC.val t) = some (elP.val x)) → mapO (snap m H (f + 1)) (ts.map elCC.val) = some (X.map elP.val)
  | [], [], _, _ => rfl
  | [], _ :: _, h, _ => by simp at h
  | _ :: _, [], h, _ => by simp at h
  | t :: ts, x :: X, h, hs => by
    have h0 := hs 0 t x rfl rfl
    have ih := mapO_rows ts X (by simpa using h) fun i t x ht hx => hs (i + 1) t x ht hx
    simp [mapO, h0, ih]

theorem PIn.fin {H : Heap} {O : TV} {X : List PL} (h : PIn H O X) : snap .fin H 9 O = some (LPv X) := by
  obtain ⟨ts, h1, h2, h3⟩ := h
  rcases h1 with ⟨rfl, rfl⟩ | ⟨h0, id, ag, c, rfl, h4, h5, h6⟩
  · have : X = [] := List.eq_nil_of_length_eq_zero (by simpa using h2.symm)
    subst this; rfl
  · have hX : X ≠ [] := by intro e; rw [e] at h2; exact h0 (List.eq_nil_of_length_eq_zero (by simpa using h2))
    rw [snap]
    simp only [reduceCtorEq, if_false, h4]
    rw [if_pos ⟨by omega, .inl rfl⟩, List.drop_zero, h6, elCC.elems_flat]
    rw [mapO_rows (m := .fin) (H := H) (f := 7) ts X h2 fun i t x ht hx => by
      obtain ⟨r1, r2⟩ := h3 i t x ht hx
      show snap .fin H 8 (.agg [t.1.1, t.2.1]) = some (.agg [elI.lt false x.1, elI.lt false x.2])
      rw [snap]
      simp [mapO, r1.fin 5, r2.fin 5]]
    unfold LPv
    rw [El.lt_ne hX]; rfl

def Szs (n m : Nat) (X : List PL) : Prop := ∀ p ∈ X, p.1.length = n ∧ p.2.length = m

theorem putP_at : ∀ (l : List PL) (x : PL) (k : Nat), k ≤ l.length → (∀ i y, i < k → l[i]? = some y → cmpP y x < 0) → (∀ y, l[k]? = some y → ¬ cmpP y x < 0) →
    putP l x = if l[k]? = some x then l else l.take k ++ [x] ++ l.drop k
  | [], x, k, hk, _, _ => by
    obtain rfl : k = 0 := by simpa using hk
    simp [putP]
  | y :: l, x, 0, hk, _, h2 => by
    have h3 := h2 y rfl
    rw [putP, if_neg h3]
    by_cases h4 : cmpP y x = 0
    · rw [if_pos h4, if_pos (by simp [(cmpP_eq y x).1 h4])]
    · rw [if_neg h4, if_neg (by simpa using fun e => h4 ((cmpP_eq y x).2 e))]
      simp
  | y :: l, x, k + 1, hk, h1, h2 => by
    have h3 := h1 0 y (by omega) rfl
    rw [putP, if_pos h3, putP_at l x k (by simpa using hk) (fun i z hi hz => h1 (i + 1) z (by omega) hz) (fun z hz => h2 z hz)]
    simp only [List.getElem?_cons_succ, List.take_succ_cons, List.drop_succ_cons]
    split <;> rfl

theorem cellCC {pg : Pg} {H : Heap} {O : TV} {l : List TP} (h : elCC.View H O l) {i : Nat} {x : TP} (hx : l[i]? = some x) : ∃ p, dkc pg (den pg) (.ixS 2 true) [O, .i .i64 (i : Int)] H = some (p, H) ∧
    (∃ q, dkc pg (den pg) (.ixA 2 1 false) [p, .i .i64 0] H = some (q, H) ∧ dkc pg (den pg) (.ld 1 false) [q] H = some (x.1.1, H)) ∧
    ∃ q, dkc pg (den pg) (.ixA 2 1 false) [p, .i .i64 1] H = some (q, H) ∧ dkc pg (den pg) (.ld 1 false) [q] H = some (x.2.1, H) := by
  obtain ⟨p, h1, h2, _⟩ := h.ix (pg := pg) (R := den pg) hx .i64
  exact ⟨p, h1, h2.cell (j := 0) (v := x.1.1) rfl rfl .i64, h2.cell (j := 1) (v := x.2.1) rfl rfl .i64⟩

structure PutC (H : Heap) (O : TV) (ts : List TP) (X : List PL) (n m : Nat) (xid : Nat) (t : TP) (x : PL) : Prop where
  own : PInT H O ts X
  sz : Szs n m X
  xsz : x.1.length = n ∧ x.2.length = m
  r1 : RowS H t.1.1 x.1
  r2 : RowS H t.2.1 x.2
  at_ : H[xid]? = some (.cells [t.1.1, t.2.1] true)

theorem PutC.lds {pg : Pg} {H : Heap} {O : TV} {ts : List TP} {X : List PL} {n m xid : Nat} {t : TP} {x : PL} (h : PutC H O ts X n m xid t x) :
    (dkc pg (den pg) (.ixA 2 1 false) [.ref xid 0, .i .i64 0] H = some (.ref xid 0, H) ∧ dkc pg (den pg) (.ld 1 false) [.ref xid 0] H = some (t.1.1, H)) ∧
    (dkc pg (den pg) (.ixA 2 1 false) [.ref xid 0, .i .i64 1] H = some (.ref xid 1, H) ∧ dkc pg (den pg) (.ld 1 false) [.ref xid 1] H = some (t.2.1, H)) := by
  have n1 := h.r1.one
  have n2 := h.r2.one
  refine ⟨⟨by simp [dkc, dk, bound], ?_⟩, ⟨by simp [dkc, dk, bound], ?_⟩⟩
  · show dk (.ld 1 false) [.ref xid 0] H = _
    simp [dk, h.at_, Dn.part, n1.2.2]
  · show dk (.ld 1 false) [.ref xid 1] H = _
    simp [dk, h.at_, Dn.part, n2.2.2]

theorem l106_1_all {pg : Pg} (hF : Free pg) {H : Heap} {O : TV} {ts : List TP} {X : List PL} {n m xid : Nat} {t : TP} {x : PL} (h : PutC H O ts X n m xid t x) (hX : X.length ≤ 1000000) (hn : n ≤ 1000000) (hm : m ≤ 1000000) :
    ∀ (r k : Nat), k + r = X.length → ∃ j e, k ≤ j ∧ j ≤ X.length ∧ den pg l106_1 [(0, O), (3, .ref xid 0), (5, .i .i64 (k : Int))] H = some ⟨.exit 0, (0, O) :: (3, .ref xid 0) :: (5, .i .i64 (j : Int)) :: e, H⟩ ∧ (∀ i y, k ≤ i → i < j → X[i]? = some y → cmpP y x < 0) ∧ ∀ y, X[j]? = some y → ¬ cmpP y x < 0
  | 0, k, hk => by
    obtain rfl : k = X.length := by omega
    refine ⟨X.length, [(40, .b false)], Nat.le_refl _, Nat.le_refl _, ?_, fun i y h1 h2 => by omega, fun y hy => by rw [List.getElem?_eq_none (Nat.le_refl _)] at hy; cases hy⟩
    have l1 : ∀ K, (lenK 0 O K).map (fun (n : Nat) => TV.i .i64 (n : Int)) = some (.i .i64 (X.length : Int)) := fun K => by rw [h.own.1.view.lenK, h.own.2.1]; rfl
    clear h
    generalize (X.length : Int) = M at *
    rw [l106_1, den_loop]
    simp (disch := omega) [b106_0, gX0, gX1, gX2, gX3, gX4, gX5, gX6, gX7, gX8, gX9, gXa, gXb, gXc, gXd, gXe, gXf, gXg, gXh, gXi, gXj, gXk, gXl, gXm, gXn, gXo, gXp, gXq, gXr, gXs, gXt, gXu, gXv, gXw, gXx, k_mv, gXy, gXz, gX01, gX11, gX21, gX31, gX41, gX51, gX61, gX71, gX81, gX91, gXa1, gXb1, gXc1, gXd1, gXe1, gXf1, gXg1, gXh1, gXi1, gXj1, gXk1, gXl1, gXm1, gXn1, gXo1, gXp1, gXq1, gXr1, gXs1, gXt1, gXu1, k_mn, k_mx, gXv1, gXw1, gXx1, gXy1, gXz1, gX02, gX12, gX22, gX32, gX42, gX52, gX62, gX72, Dn.setLast, Dn.getLast, evalO, mapO, Dn.get, putE, gX82, gX92, gXa2, gXb2, TV.one, TV.isAgg, Dn.part, gXc2, negb, at0, at1, at2, at3, at4, dT, dF, gXd2, Option.bind_some, Option.map_some, l1]
  | r + 1, k, hk => by
    have l1 : ∀ K, (lenK 0 O K).map (fun (n : Nat) => TV.i .i64 (n : Int)) = some (.i .i64 (X.length : Int)) := fun K => by rw [h.own.1.view.lenK, h.own.2.1]; rfl
    obtain ⟨y, hy⟩ : ∃ y, X[k]? = some y := ⟨_, List.getElem?_eq_getElem (by omega)⟩
    obtain ⟨u, hu⟩ : ∃ u, ts[k]? = some u := ⟨_, List.getElem?_eq_getElem (by rw [h.own.2.1]; omega)⟩
    obtain ⟨u1, u2⟩ := h.own.2.2 k u y hu hy
    have sy := h.sz y (List.mem_of_getElem? hy)
    have sx := h.xsz
    obtain ⟨p, p1, ⟨p0, p2, p3⟩, ⟨p4, p5, p6⟩⟩ := cellCC (pg := pg) h.own.1.view hu
    obtain ⟨⟨x1, x2⟩, ⟨x3, x4⟩⟩ := h.lds (pg := pg)
    have c1 := call121 (pg := pg) hF u1.bor h.r1.bor (by omega) (by omega)
    have c2 := call122 (pg := pg) hF u1.bor h.r1.bor (by omega) (by omega)
    have c3 := call121 (pg := pg) hF u2.bor h.r2.bor (by omega) (by omega)
    have w2 : wrapR .i64 ((k : Int) + 1) = .i .i64 ((k + 1 : Nat) : Int) := by rw [← Int.natCast_succ]; exact gXd2 (by omega)
    have dd : decide ((k : Int) < (X.length : Int)) = true := dT (by omega)
    have e1 := cmpL_eq y.1 x.1
    by_cases hc : cmpP y x < 0
    · obtain ⟨j, e, j1, j2, r1, r2, r3⟩ := l106_1_all (pg := pg) hF h hX hn hm r (k + 1) (by omega)
      refine ⟨j, e, by omega, j2, Eq.trans ?_ r1, fun i z h1 h2 hz => ?_, r3⟩
      · by_cases h1 : cmpL y.1 x.1 < 0
        · rw [decide_eq_true h1] at c1
          clear h r1 r2 r3 hc hy hu u1 u2 sy sx e1 h1 c2 c3
          generalize (X.length : Int) = M at *
          generalize ((k + 1 : Nat) : Int) = K2 at *
          generalize (k : Int) = K at *
          generalize u.1.1 = U1 at *
          generalize u.2.1 = U2 at *
          generalize t.1.1 = T1 at *
          generalize t.2.1 = T2 at *
          generalize TV.ref xid 0 = XR at *
          generalize TV.ref xid 1 = XR1 at *
          rw [l106_1, den_loop]
          simp (disch := omega) [l106_1, b106_0, gX0, gX1, gX2, gX3, gX4, gX5, gX6, gX7, gX8, gX9, gXa, gXb, gXc, gXd, gXe, gXf, gXg, gXh, gXi, gXj, gXk, gXl, gXm, gXn, gXo, gXp, gXq, gXr, gXs, gXt, gXu, gXv, gXw, gXx, k_mv, gXy, gXz, gX01, gX11, gX21, gX31, gX41, gX51, gX61, gX71, gX81, gX91, gXa1, gXb1, gXc1, gXd1, gXe1, gXf1, gXg1, gXh1, gXi1, gXj1, gXk1, gXl1, gXm1, gXn1, gXo1, gXp1, gXq1, gXr1, gXs1, gXt1, gXu1, k_mn, k_mx, gXv1, gXw1, gXx1, gXy1, gXz1, gX02, gX12, gX22, gX32, gX42, gX52, gX62, gX72, Dn.setLast, Dn.getLast, evalO, mapO, Dn.get, putE, gX82, gX92, gXa2, gXb2, TV.one, TV.isAgg, Dn.part, gXc2, negb, at0, at1, at2, at3, at4, dT, dF, gXd2, Option.bind_some, Option.map_some, l1, dd, p1, p2, p3, x1, x2, c1, w2]
        · unfold cmpP at hc
          have h2 : cmpL y.1 x.1 = 0 := by
            apply Classical.byContradiction
            intro h2
            rw [if_pos h2] at hc
            exact h1 hc
          rw [if_neg (by omega)] at hc
          rw [decide_eq_false h1] at c1
          rw [decide_eq_true (e1.1 h2)] at c2
          rw [decide_eq_true hc] at c3
          clear h r1 r2 r3 hc hy hu u1 u2 sy sx e1 h1 h2
          generalize (X.length : Int) = M at *
          generalize ((k + 1 : Nat) : Int) = K2 at *
          generalize (k : Int) = K at *
          generalize u.1.1 = U1 at *
          generalize u.2.1 = U2 at *
          generalize t.1.1 = T1 at *
          generalize t.2.1 = T2 at *
          generalize TV.ref xid 0 = XR at *
          generalize TV.ref xid 1 = XR1 at *
          rw [l106_1, den_loop]
          simp (disch := omega) [l106_1, b106_0, gX0, gX1, gX2, gX3, gX4, gX5, gX6, gX7, gX8, gX9, gXa, gXb, gXc, gXd, gXe, gXf, gXg, gXh, gXi, gXj, gXk, gXl, gXm, gXn, gXo, gXp, gXq, gXr, gXs, gXt, gXu, gXv, gXw, gXx, k_mv, gXy, gXz, gX01, gX11, gX21, gX31, gX41, gX51, gX61, gX71, gX81, gX91, gXa1, gXb1, gXc1, gXd1, gXe1, gXf1, gXg1, gXh1, gXi1, gXj1, gXk1, gXl1, gXm1, gXn1, gXo1, gXp1, gXq1, gXr1, gXs1, gXt1, gXu1, k_mn, k_mx, gXv1, gXw1, gXx1, gXy1, gXz1, gX02, gX12, gX22, gX32, gX42, gX52, gX62, gX72, Dn.setLast, Dn.getLast, evalO, mapO, Dn.get, putE, gX82, gX92, gXa2, gXb2, TV.one, TV.isAgg, Dn.part, gXc2, negb, at0, at1, at2, at3, at4, dT, dF, gXd2, Option.bind_some, Option.map_some, l1, dd, p1, p2, p3, p5, p6, x1, x2, x3, x4, c1, c2, c3, w2]
      · by_cases hik : i = k
        · subst hik; rw [hy] at hz; cases hz; exact hc
        · exact r2 i z (by omega) h2 hz
    · refine ⟨k, [(40, .b false)], Nat.le_refl _, by omega, ?_, fun i z h1 h2 => by omega, fun z hz => by rw [hy] at hz; cases hz; exact hc⟩
      unfold cmpP at hc
      by_cases h1 : cmpL y.1 x.1 = 0
      · rw [if_neg (by omega)] at hc
        rw [decide_eq_false (by omega)] at c1
        rw [decide_eq_true (e1.1 h1)] at c2
        rw [decide_eq_false hc] at c3
        clear h hc hy hu u1 u2 sy sx e1 h1 w2
        generalize (X.length : Int) = M at *
        generalize (k : Int) = K at *
        generalize u.1.1 = U1 at *
        generalize u.2.1 = U2 at *
        generalize t.1.1 = T1 at *
        generalize t.2.1 = T2 at *
        generalize TV.ref xid 0 = XR at *
        generalize TV.ref xid 1 = XR1 at *
        rw [l106_1, den_loop]
        simp (disch := omega) [l106_1, b106_0, gX0, gX1, gX2, gX3, gX4, gX5, gX6, gX7, gX8, gX9, gXa, gXb, gXc, gXd, gXe, gXf, gXg, gXh, gXi, gXj, gXk, gXl, gXm, gXn, gXo, gXp, gXq, gXr, gXs, gXt, gXu, gXv, gXw, gXx, k_mv, gXy, gXz, gX01, gX11, gX21, gX31, gX41, gX51, gX61, gX71, gX81, gX91, gXa1, gXb1, gXc1, gXd1, gXe1, gXf1, gXg1, gXh1, gXi1, gXj1, gXk1, gXl1, gXm1, gXn1, gXo1, gXp1, gXq1, gXr1, gXs1, gXt1, gXu1, k_mn, k_mx, gXv1, gXw1, gXx1, gXy1, gXz1, gX02, gX12, gX22, gX32, gX42, gX52, gX62, gX72, Dn.setLast, Dn.getLast, evalO, mapO, Dn.get, putE, gX82, gX92, gXa2, gXb2, TV.one, TV.isAgg, Dn.part, gXc2, negb, at0, at1, at2, at3, at4, dT, dF, gXd2, Option.bind_some, Option.map_some, l1, dd, p1, p2, p3, p5, p6, x1, x2, x3, x4, c1, c2, c3]
      · rw [if_pos h1] at hc
        rw [decide_eq_false hc] at c1
        rw [decide_eq_false (fun he => h1 (e1.2 he))] at c2
        clear h hc hy hu u1 u2 sy sx e1 h1 w2 c3
        generalize (X.length : Int) = M at *
        generalize (k : Int) = K at *
        generalize u.1.1 = U1 at *
        generalize u.2.1 = U2 at *
        generalize t.1.1 = T1 at *
        generalize t.2.1 = T2 at *
        generalize TV.ref xid 0 = XR at *
        generalize TV.ref xid 1 = XR1 at *
        rw [l106_1, den_loop]
        simp (disch := omega) [l106_1, b106_0, gX0, gX1, gX2, gX3, gX4, gX5, gX6, gX7, gX8, gX9, gXa, gXb, gXc, gXd, gXe, gXf, gXg, gXh, gXi, gXj, gXk, gXl, gXm, gXn, gXo, gXp, gXq, gXr, gXs, gXt, gXu, gXv, gXw, gXx, k_mv, gXy, gXz, gX01, gX11, gX21, gX31, gX41, gX51, gX61, gX71, gX81, gX91, gXa1, gXb1, gXc1, gXd1, gXe1, gXf1, gXg1, gXh1, gXi1, gXj1, gXk1, gXl1, gXm1, gXn1, gXo1, gXp1, gXq1, gXr1, gXs1, gXt1, gXu1, k_mn, k_mx, gXv1, gXw1, gXx1, gXy1, gXz1, gX02, gX12, gX22, gX32, gX42, gX52, gX62, gX72, Dn.setLast, Dn.getLast, evalO, mapO, Dn.get, putE, gX82, gX92, gXa2, gXb2, TV.one, TV.isAgg, Dn.part, gXc2, negb, at0, at1, at2, at3, at4, dT, dF, gXd2, Option.bind_some, Option.map_some, l1, dd, p1, p2, p3, p5, p6, x1, x2, c1, c2]

end Go.Proofs.Try.Dn

/-
  The reference's put, whole.
-/

set_option maxHeartbeats 4000000
set_option maxRecDepth 100000
namespace Go.Proofs.Try.Dn
open Go.Dn

theorem slcToC {H : Heap} {t : TV} {l : List TP} (h : elCC.View H t l) {k : Nat} (hk : k ≤ l.length) : ∃ v, slcRun false true false 2 true t [.i .i64 (k : Int)] = some v ∧ elCC.View H v (l.take k) := by
  obtain ⟨v, h1, h2, _⟩ := h.slc (lo := 0) (hi := k) (Nat.zero_le _) hk (bl := false) (bh := true) (vs := [.i .i64 (k : Int)]) (by simp [bounds3, bound, hk])
  exact ⟨v, h1, by simpa using h2⟩
theorem slcFromC {H : Heap} {t : TV} {l : List TP} (h : elCC.View H t l) {k : Nat} (hk : k ≤ l.length) : ∃ v, slcRun true false false 2 true t [.i .i64 (k : Int)] = some v ∧ elCC.View H v (l.drop k) := by
  obtain ⟨v, h1, h2, _⟩ := h.slc (lo := k) (hi := l.length) hk (Nat.le_refl _) (bl := true) (bh := false) (vs := [.i .i64 (k : Int)]) (by simp [bounds3, bound, hk])
  exact ⟨v, h1, by simpa using h2⟩

theorem appC {H : Heap} {t x : TV} {l k : List TP} (h : elCC.Own H t l) (hx : elCC.View H x k) (hb : l.length + k.length ≤ 1000000) :
    ∃ t' H', appRun 2 true 48 t x H = some (t', H') ∧ elCC.Own H' t' (l ++ k) ∧ H.length ≤ H'.length ∧ (∀ j, j < H.length → t.idOf ≠ some j → H'[j]? = H[j]?) ∧ (t' = t ∨ ∀ id, t'.idOf = some id → H.length ≤ id) := El.app (E := elCC) (bytes := 48) h hx (by omega)

theorem k_bslP2 {pg : Pg} {R : Rec} {a c : TV} (ha : a.one = true) (hc : c.one = true) (H : Heap) : dkc pg R (.bsl false [.nilsl, .nilsl] true 1 [0]) [.agg [a, c]] H = some (.sl H.length 0 2 true 1 (some 1), H ++ [.cells [a, c] false]) := by
  simp [dkc, dk, fillP, repl, put2, TV.cells, ha, hc]

theorem body106 {pg : Pg} (hF : Free pg) {H : Heap} {O : TV} {X : List PL} {n m : Nat} {tA tB : TV} {x : PL} (hO : PIn H O X) (hs : Szs n m X) (hx : x.1.length = n ∧ x.2.length = m) (hA : RowS H tA x.1) (hB : RowS H tB x.2) (hX : X.length + 1 ≤ 1000000) (hn : n ≤ 1000000) (hm : m ≤ 1000000) :
    ∃ O' H', bodyRun pg (den pg) 106 [O, .agg [tA, tB]] H = some (O', H') ∧ PIn H' O' (putP X x) ∧ (∀ j, j < H.length → H'[j]? = H[j]?) ∧ H.length ≤ H'.length := by
  obtain ⟨ts, hT⟩ := hO
  obtain ⟨t, ht1, ht2⟩ : ∃ t : TP, t.1.1 = tA ∧ t.2.1 = tB := ⟨(⟨tA, hA.one.1⟩, ⟨tB, hB.one.1⟩), rfl, rfl⟩
  have b1 := gX61 (pg := pg) (R := den pg) [tA, tB] H (by simp [hA.one.1, hB.one.1])
  obtain ⟨H1, hH1⟩ : ∃ H1, H1 = H ++ [AObj.cells [tA, tB] true] := ⟨_, rfl⟩
  rw [← hH1] at b1
  have f1 : ∀ j, j < H.length → H1[j]? = H[j]? := fun j hj => by rw [hH1, List.getElem?_append_left hj]
  have l1 : H1.length = H.length + 1 := by rw [hH1]; simp
  have hP1 : PInT H1 O ts X := ⟨hT.1.mono fun id hid => f1 id (hT.1.lt id hid), hT.2.1, fun i u y hu hy => ⟨(hT.2.2 i u y hu hy).1.mono f1, (hT.2.2 i u y hu hy).2.mono f1⟩⟩
  have hA1 := hA.mono f1
  have hB1 := hB.mono f1
  have hC : PutC H1 O ts X n m H.length t x := ⟨hP1, hs, hx, by rw [ht1]; exact hA1, by rw [ht2]; exact hB1, by rw [hH1, ht1, ht2]; exact getLast _ _⟩
  obtain ⟨j, e, -, j2, r1, r2, r3⟩ := l106_1_all (pg := pg) hF hC (by omega) hn hm X.length 0 (by omega)
  simp only [Int.natCast_zero] at r1
  have hput := putP_at X x j j2 (fun i y hi hy => r2 i y (by omega) hi hy) r3
  have ln : ∀ K, (lenK 0 O K).map (fun (n : Nat) => TV.i .i64 (n : Int)) = some (.i .i64 (X.length : Int)) := fun K => by rw [hP1.1.view.lenK, hP1.2.1]; rfl
  obtain ⟨⟨x1, x2⟩, ⟨x3, x4⟩⟩ := hC.lds (pg := pg)
  rw [ht1] at x2
  rw [ht2] at x4
  -- what is put when it is not there
  have hnew : X[j]? ≠ some x → ∃ v O1 H2 H3 O2 w O3 H4, slcRun false true false 2 true O [.i .i64 (j : Int)] = some v ∧ appRun 2 true 48 .nilsl v H1 = some (O1, H2) ∧ dkc pg (den pg) (.ld 2 true) [.ref H.length 0] H2 = some (.agg [tA, tB], H2) ∧
      dkc pg (den pg) (.bsl false [.nilsl, .nilsl] true 1 [0]) [.agg [tA, tB]] H2 = some (.sl H2.length 0 2 true 1 (some 1), H2 ++ [.cells [tA, tB] false]) ∧ appRun 2 true 48 O1 (.sl H2.length 0 2 true 1 (some 1)) (H2 ++ [.cells [tA, tB] false]) = some (O2, H3) ∧
      slcRun true false false 2 true O [.i .i64 (j : Int)] = some w ∧ appRun 2 true 48 O2 w H3 = some (O3, H4) ∧ PIn H4 O3 (putP X x) ∧ (∀ j, j < H.length → H4[j]? = H[j]?) ∧ H.length ≤ H4.length := by
    intro hne
    rw [if_neg hne] at hput
    have hjt : j ≤ ts.length := by rw [hP1.2.1]; exact j2
    obtain ⟨v, v1, v2⟩ := slcToC hP1.1.view hjt
    obtain ⟨O1, H2, a1, a2, a3, a4, a5⟩ := appC (H := H1) (t := .nilsl) (l := []) (.inl ⟨rfl, rfl⟩) v2 (by simp; have := hP1.2.1; omega)
    rw [List.nil_append] at a2
    have f2 : ∀ i, i < H1.length → H2[i]? = H1[i]? := fun i hi => a4 i hi (by simp [TV.idOf])
    have d2 : dkc pg (den pg) (.ld 2 true) [.ref H.length 0] H2 = some (.agg [tA, tB], H2) := by
      have hx : H2[H.length]? = some (.cells [tA, tB] true) := by rw [f2 _ (by omega), ← ht1, ← ht2]; exact hC.at_
      show dk (.ld 2 true) [.ref H.length 0] H2 = _
      simp [dk, hx, Dn.part]
    have d3 := k_bslP2 (pg := pg) (R := den pg) hA.one.1 hB.one.1 H2
    obtain ⟨H2', hH2'⟩ : ∃ H2', H2' = H2 ++ [AObj.cells [tA, tB] false] := ⟨_, rfl⟩
    have l2 : H2'.length = H2.length + 1 := by rw [hH2']; simp
    have f2' : ∀ i, i < H2.length → H2'[i]? = H2[i]? := fun i hi => by rw [hH2', List.getElem?_append_left hi]
    have vw : elCC.View H2' (.sl H2.length 0 2 true 1 (some 1)) [t] := by rw [hH2', ← ht1, ← ht2]; exact view1 elCC H2 t
    have o1lt := a2.lt
    obtain ⟨O2, H3, b1', b2, b3, b4, b5⟩ := appC (a2.mono (H' := H2') fun id hid => f2' id (o1lt id hid)) vw (by simp; have := hP1.2.1; omega)
    have o1new : ∀ id, O1.idOf = some id → H1.length ≤ id := by
      intro id hid
      rcases a5 with rfl | a5
      · cases hid
      · exact a5 id hid
    have o2new : ∀ id, O2.idOf = some id → H1.length ≤ id := by
      intro id hid
      rcases b5 with rfl | b5
      · exact o1new id hid
      · have := b5 id hid; omega
    have f3 : ∀ i, i < H1.length → H3[i]? = H1[i]? := fun i hi => by
      rw [b4 i (by omega) (fun he => by have := o1new i he; omega), f2' i (by omega), f2 i hi]
    obtain ⟨w, w1, w2⟩ := slcFromC (hP1.1.view.mono fun id hid => f3 id (hP1.1.lt id hid)) hjt
    obtain ⟨O3, H4, c1, c2, c3, c4, c5⟩ := appC b2 w2 (by simp; have := hP1.2.1; omega)
    have f4 : ∀ i, i < H1.length → H4[i]? = H1[i]? := fun i hi => by
      rw [c4 i (by omega) (fun he => by have := o2new i he; omega), f3 i hi]
    refine ⟨v, O1, H2, H3, O2, w, O3, H4, v1, a1, d2, d3, by rw [← hH2']; exact b1', w1, c1, ⟨ts.take j ++ [t] ++ ts.drop j, c2, ?_, ?_⟩, fun i hi => by rw [f4 i (by omega), f1 i hi], by omega⟩
    · rw [hput]; simp only [List.length_append, List.length_take, List.length_drop, List.length_singleton, hP1.2.1]
    · intro i u y hu hy
      rw [hput] at hy
      have key : RowS H1 u.1.1 y.1 ∧ RowS H1 u.2.1 y.2 := by
        have hlt : (ts.take j).length = j := by simp; omega
        have hlX : (X.take j).length = j := by simp; omega
        rw [List.append_assoc] at hu hy
        by_cases h1 : i < j
        · rw [List.getElem?_append_left (by omega), List.getElem?_take, if_pos h1] at hu hy
          exact hP1.2.2 i u y hu hy
        · rw [List.getElem?_append_right (by omega), hlt] at hu
          rw [List.getElem?_append_right (by omega), hlX] at hy
          by_cases h2 : i = j
          · subst h2
            rw [Nat.sub_self] at hu hy
            simp at hu hy
            subst hu; subst hy
            rw [ht1, ht2]
            exact ⟨hA1, hB1⟩
          · rw [List.getElem?_append_right (by simp; omega), List.getElem?_drop] at hu hy
            exact hP1.2.2 _ u y hu hy
      exact ⟨key.1.mono f4, key.2.mono f4⟩
  by_cases hj : j < X.length
  · obtain ⟨y, hy⟩ : ∃ y, X[j]? = some y := ⟨_, List.getElem?_eq_getElem hj⟩
    obtain ⟨u, hu⟩ : ∃ u, ts[j]? = some u := ⟨_, List.getElem?_eq_getElem (by rw [hT.2.1]; omega)⟩
    obtain ⟨u1, u2⟩ := hP1.2.2 j u y hu hy
    have sy := hs y (List.mem_of_getElem? hy)
    obtain ⟨p, p1, ⟨p0, p2, p3⟩, ⟨p4, p5, p6⟩⟩ := cellCC (pg := pg) hP1.1.view hu
    have c1 := call122 (pg := pg) hF u1.bor hA1.bor (by omega) (by omega)
    have c2 := call122 (pg := pg) hF u2.bor hB1.bor (by omega) (by omega)
    have dd : decide ((j : Int) < (X.length : Int)) = true := dT (by omega)
    by_cases he : y = x
    · subst he
      rw [if_pos hy] at hput
      rw [decide_eq_true rfl] at c1 c2
      refine ⟨O, H1, body_of (x := .ret) (e := [(4, O)]) (d := d106) (by rw [hF.F]; rfl) rfl ?_ (.inl rfl) rfl, by rw [hput]; exact ⟨ts, hP1⟩, f1, by omega⟩
      clear hnew hput hC hT hP1 hH1 r2 r3 hs hx hA hB hX u1 u2 f1 hA1 hB1 hy hu sy
      generalize (X.length : Int) = M at *
      generalize (j : Int) = J at *
      generalize u.1.1 = U1 at *
      generalize u.2.1 = U2 at *
      generalize TV.ref H.length 0 = XR at *
      generalize TV.ref H.length 1 = XR1 at *
      simp (maxSteps := 1000000) (disch := omega) [d106, c106, zipE, gX0, gX1, gX2, gX3, gX4, gX5, gX6, gX7, gX8, gX9, gXa, gXb, gXc, gXd, gXe, gXf, gXg, gXh, gXi, gXj, gXk, gXl, gXm, gXn, gXo, gXp, gXq, gXr, gXs, gXt, gXu, gXv, gXw, gXx, k_mv, gXy, gXz, gX01, gX11, gX21, gX31, gX41, gX51, gX61, gX71, gX81, gX91, gXa1, gXb1, gXc1, gXd1, gXe1, gXf1, gXg1, gXh1, gXi1, gXj1, gXk1, gXl1, gXm1, gXn1, gXo1, gXp1, gXq1, gXr1, gXs1, gXt1, gXu1, k_mn, k_mx, gXv1, gXw1, gXx1, gXy1, gXz1, gX02, gX12, gX22, gX32, gX42, gX52, gX62, gX72, Dn.setLast, Dn.getLast, evalO, mapO, Dn.get, putE, gX82, gX92, gXa2, gXb2, TV.one, TV.isAgg, Dn.part, gXc2, negb, at0, at1, at2, at3, at4, dT, dF, gXd2, Option.bind_some, Option.map_some, b1, go_denK (c := l106_1) rfl, r1, ln, dd, p1, p2, p3, p5, p6, x1, x2, x3, x4, c1, c2]
    · obtain ⟨v, O1, H2, H3, O2, w, O3, H4, s1, s2, s3, s4, s5, s6, s7, s8, s9, s10⟩ := hnew (by rw [hy]; exact fun h => he (Option.some.inj h))
      refine ⟨O3, H4, body_of (x := .ret) (e := [(4, O3)]) (d := d106) (by rw [hF.F]; rfl) rfl ?_ (.inl rfl) rfl, s8, s9, s10⟩
      obtain ⟨H2', hH2'⟩ : ∃ H2', H2' = H2 ++ [AObj.cells [tA, tB] false] := ⟨_, rfl⟩
      rw [← hH2'] at s4 s5
      by_cases h1 : y.1 = x.1
      · rw [decide_eq_true h1] at c1
        rw [decide_eq_false (fun h2 => he (Prod.ext h1 h2))] at c2
        clear hnew hput hC hT hP1 hH1 r2 r3 hs hx hA hB hX u1 u2 f1 hA1 hB1 hy hu sy s8 s9 hH2' h1 he
        generalize (X.length : Int) = M at *
        generalize (j : Int) = J at *
        generalize u.1.1 = U1 at *
        generalize u.2.1 = U2 at *
        generalize TV.ref H.length 0 = XR at *
        generalize TV.ref H.length 1 = XR1 at *
        generalize TV.agg [tA, tB] = AG at *
        generalize TV.sl H2.length 0 2 true 1 (some 1) = SS at *
        simp (maxSteps := 1000000) (disch := omega) [d106, c106, zipE, gX0, gX1, gX2, gX3, gX4, gX5, gX6, gX7, gX8, gX9, gXa, gXb, gXc, gXd, gXe, gXf, gXg, gXh, gXi, gXj, gXk, gXl, gXm, gXn, gXo, gXp, gXq, gXr, gXs, gXt, gXu, gXv, gXw, gXx, k_mv, gXy, gXz, gX01, gX11, gX21, gX31, gX41, gX51, gX61, gX71, gX81, gX91, gXa1, gXb1, gXc1, gXd1, gXe1, gXf1, gXg1, gXh1, gXi1, gXj1, gXk1, gXl1, gXm1, gXn1, gXo1, gXp1, gXq1, gXr1, gXs1, gXt1, gXu1, k_mn, k_mx, gXv1, gXw1, gXx1, gXy1, gXz1, gX02, gX12, gX22, gX32, gX42, gX52, gX62, gX72, Dn.setLast, Dn.getLast, evalO, mapO, Dn.get, putE, gX82, gX92, gXa2, gXb2, TV.one, TV.isAgg, Dn.part, gXc2, negb, at0, at1, at2, at3, at4, dT, dF, gXd2, Option.bind_some, Option.map_some, b1, go_denK (c := l106_1) rfl, r1, ln, dd, p1, p2, p3, p5, p6, x1, x2, x3, x4, c1, c2, s1, s2, s3, s4, s5, s6, s7]
      · rw [decide_eq_false h1] at c1
        clear hnew hput hC hT hP1 hH1 r2 r3 hs hx hA hB hX u1 u2 f1 hA1 hB1 hy hu sy s8 s9 hH2' h1 he c2
        generalize (X.length : Int) = M at *
        generalize (j : Int) = J at *
        generalize u.1.1 = U1 at *
        generalize u.2.1 = U2 at *
        generalize TV.ref H.length 0 = XR at *
        generalize TV.ref H.length 1 = XR1 at *
        generalize TV.agg [tA, tB] = AG at *
        generalize TV.sl H2.length 0 2 true 1 (some 1) = SS at *
        simp (maxSteps := 1000000) (disch := omega) [d106, c106, zipE, gX0, gX1, gX2, gX3, gX4, gX5, gX6, gX7, gX8, gX9, gXa, gXb, gXc, gXd, gXe, gXf, gXg, gXh, gXi, gXj, gXk, gXl, gXm, gXn, gXo, gXp, gXq, gXr, gXs, gXt, gXu, gXv, gXw, gXx, k_mv, gXy, gXz, gX01, gX11, gX21, gX31, gX41, gX51, gX61, gX71, gX81, gX91, gXa1, gXb1, gXc1, gXd1, gXe1, gXf1, gXg1, gXh1, gXi1, gXj1, gXk1, gXl1, gXm1, gXn1, gXo1, gXp1, gXq1, gXr1, gXs1, gXt1, gXu1, k_mn, k_mx, gXv1, gXw1, gXx1, gXy1, gXz1, gX02, gX12, gX22, gX32, gX42, gX52, gX62, gX72, Dn.setLast, Dn.getLast, evalO, mapO, Dn.get, putE, gX82, gX92, gXa2, gXb2, TV.one, TV.isAgg, Dn.part, gXc2, negb, at0, at1, at2, at3, at4, dT, dF, gXd2, Option.bind_some, Option.map_some, b1, go_denK (c := l106_1) rfl, r1, ln, dd, p1, p2, p3, x1, x2, c1, s1, s2, s3, s4, s5, s6, s7]
  · obtain ⟨v, O1, H2, H3, O2, w, O3, H4, s1, s2, s3, s4, s5, s6, s7, s8, s9, s10⟩ := hnew (by rw [List.getElem?_eq_none (by omega)]; exact fun h => by cases h)
    refine ⟨O3, H4, body_of (x := .ret) (e := [(4, O3)]) (d := d106) (by rw [hF.F]; rfl) rfl ?_ (.inl rfl) rfl, s8, s9, s10⟩
    have dd : decide ((j : Int) < (X.length : Int)) = false := dF (by omega)
    obtain ⟨H2', hH2'⟩ : ∃ H2', H2' = H2 ++ [AObj.cells [tA, tB] false] := ⟨_, rfl⟩
    rw [← hH2'] at s4 s5
    clear hnew hput hC hT hP1 hH1 r2 r3 hs hx hA hB hX f1 hA1 hB1 s8 s9 hH2' hj j2
    generalize (X.length : Int) = M at *
    generalize (j : Int) = J at *
    generalize TV.ref H.length 0 = XR at *
    generalize TV.ref H.length 1 = XR1 at *
    generalize TV.agg [tA, tB] = AG at *
    generalize TV.sl H2.length 0 2 true 1 (some 1) = SS at *
    simp (maxSteps := 1000000) (disch := omega) [d106, c106, zipE, gX0, gX1, gX2, gX3, gX4, gX5, gX6, gX7, gX8, gX9, gXa, gXb, gXc, gXd, gXe, gXf, gXg, gXh, gXi, gXj, gXk, gXl, gXm, gXn, gXo, gXp, gXq, gXr, gXs, gXt, gXu, gXv, gXw, gXx, k_mv, gXy, gXz, gX01, gX11, gX21, gX31, gX41, gX51, gX61, gX71, gX81, gX91, gXa1, gXb1, gXc1, gXd1, gXe1, gXf1, gXg1, gXh1, gXi1, gXj1, gXk1, gXl1, gXm1, gXn1, gXo1, gXp1, gXq1, gXr1, gXs1, gXt1, gXu1, k_mn, k_mx, gXv1, gXw1, gXx1, gXy1, gXz1, gX02, gX12, gX22, gX32, gX42, gX52, gX62, gX72, Dn.setLast, Dn.getLast, evalO, mapO, Dn.get, putE, gX82, gX92, gXa2, gXb2, TV.one, TV.isAgg, Dn.part, gXc2, negb, at0, at1, at2, at3, at4, dT, dF, gXd2, Option.bind_some, Option.map_some, b1, go_denK (c := l106_1) rfl, r1, ln, dd, s1, s2, s3, s4, s5, s6, s7]

end Go.Proofs.Try.Dn

