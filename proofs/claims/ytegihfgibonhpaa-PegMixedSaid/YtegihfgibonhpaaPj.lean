/-
  Peg: the jumps that can be made, listed by the program.
-/
import Derived.Test.YtegihfgibonhpaaPe
import Derived.Test.YtegihfgibonhpaaPf
import Derived.Test.YtegihfgibonhpaaDd
import Derived.Test.YtegihfgibonhpaaPd
set_option linter.unusedSimpArgs false
set_option linter.unusedVariables false

set_option maxHeartbeats 2000000
namespace Go.Proofs.Try.Dn
open Go.Dn

def L43 (rP rO : Nat) : ALoop := { env := [(5, .ref rP 0), (9, .ref rO 0)], params := [24, 25], assign := a43_0, body := b43_1, st := .ready, pend := none }

def canL (p : Nat) (m : List Line) : List Line := m.filter fun j => can p j

def I43 (rP rO lp p : Nat) (l : List Line) (k : Nat) (H : Heap) : Prop :=
  ∃ t, H[rP]? = some (.cells [.i .i64 (p : Int)] false) ∧ H[rO]? = some (.cells [t] false) ∧ elL.Own H t (canL p ((js l).take k)) ∧ H[lp]? = some (.loop (L43 rP rO)) ∧ t.idOf ≠ some rP ∧ t.idOf ≠ some rO ∧ t.idOf ≠ some lp

theorem ownL_one {H : Heap} {t : TV} {l : List Line} (h : elL.Own H t l) : t.one = true ∧ t.isAgg = false := by
  rcases h with ⟨rfl, _⟩ | ⟨_, id, ag, c, rfl, _⟩ <;> exact ⟨rfl, rfl⟩

theorem b43_run {pg : Pg} (hF : Free pg) {rP rO m p : Nat} {j : Line} {H : Heap} {t : TV} {out : List Line} (hp : p < 65536) (hj : Hole3 j) (hP : H[rP]? = some (.cells [.i .i64 (p : Int)] false)) (hO : H[rO]? = some (.cells [t] false)) (ho : elL.Own H t out) (hol : out.length ≤ 1000) (hm : H[m]? = some (cl j)) (htO : t.idOf ≠ some rO) (htm : t.idOf ≠ some m) (hmO : m ≠ rO) :
    ∃ e H' t' , den pg b43_1 [(5, .ref rP 0), (9, .ref rO 0), (11, .ref m 0)] H = some ⟨.normal, e, H'⟩ ∧ H'[rO]? = some (.cells [t'] false) ∧ elL.Own H' t' (out ++ if can p j = true then [j] else []) ∧ H.length ≤ H'.length ∧ (∀ i, i < H.length → i ≠ rO → t.idOf ≠ some i → H'[i]? = H[i]?) ∧ (t' = t ∨ ∀ id, t'.idOf = some id → H.length ≤ id) := by
  obtain ⟨r3, _⟩ := ld_cl (pg := pg) (R := den pg) hm
  have rP' := ld_box (pg := pg) (R := den pg) hP rfl
  have c65 := fun H => Fn.call (fn65 hF hp hj) (args := [lineTV j, .i .i64 (p : Int)]) (ks := []) (fs := []) (cs := []) (H := H) (by simp [snapArgs, sn_i, snap_line _ _ 7])
  simp only [lineTV] at c65
  have hrO := (List.getElem?_eq_some_iff.1 hO).1
  cases hcan : can p j with
  | false =>
    rw [hcan] at c65
    refine ⟨[(9, .ref rO 0), (11, .ref m 0), (32, .b false)], H, t, ?_, hO, by simpa using ho, Nat.le_refl _, fun _ _ _ _ => rfl, .inl rfl⟩
    rw [den_eq, runC_go]
    simp [b43_1, gX0, gX1, gX2, gX3, gX4, gX5, gX6, gX7, gX8, gX9, gXa, gXb, gXc, gXd, gXe, gXf, gXg, gXh, gXi, gXj, gXk, gXl, gXm, gXn, gXo, gXp, gXq, gXr, gXs, gXt, gXu, gXv, gXw, gXx, k_mv, gXy, gXz, gX01, gX11, gX21, gX31, gX41, gX51, gX61, gX71, gX81, gX91, gXa1, gXb1, gXc1, gXd1, gXe1, gXf1, gXg1, gXh1, gXi1, gXj1, gXk1, gXl1, gXm1, gXn1, gXo1, gXp1, gXq1, gXr1, gXs1, gXt1, gXu1, k_mn, k_mx, gXv1, gXw1, gXx1, gXy1, gXz1, gX02, gX12, gX22, gX32, gX42, gX52, gX62, gX72, Dn.setLast, Dn.getLast, evalO, mapO, Dn.get, putE, keepE, TV.one, TV.isAgg, Dn.part, r3, rP', c65]
  | true =>
    rw [hcan] at c65
    have rO' := ld_box (pg := pg) (R := den pg) hO (ownL_one ho).2
    have c50 := fun H => Fn.call (fn50 hF j) (args := [lineTV j]) (ks := []) (fs := []) (cs := []) (H := H) (by simp [snapArgs, snap_line _ _ 7])
    have hbs := k_bslL (pg := pg) (R := den pg) j H
    simp only [lineTV] at c50 hbs
    obtain ⟨H1, hH1⟩ : ∃ H1, H1 = H ++ [AObj.cells [.i .i64 j.1, .i .i64 j.2.1, .i .i64 j.2.2] false] := ⟨_, rfl⟩
    rw [← hH1] at hbs
    have f1 : ∀ i, i < H.length → H1[i]? = H[i]? := fun i hi => by rw [hH1, List.getElem?_append_left hi]
    have hv : elL.View H1 (.sl H.length 0 3 true 1 (some 1)) [j] := .inr (.inr ⟨H.length, 0, some 1, _, false, rfl, by simp, by rw [hH1]; exact getLast _ _, by simp [elL], by simp [elL, El.flat]⟩)
    have tl := ho.lt
    have l1 : H1.length = H.length + 1 := by rw [hH1]; simp
    obtain ⟨t', H2, a1, a2, a3, a4, a5⟩ := appL (ho.mono (H' := H1) fun id hid => f1 id (tl id hid)) hv (by simp; omega)
    have f2 : ∀ i, i < H.length → t.idOf ≠ some i → H2[i]? = H[i]? := fun i hi hne => by rw [a4 i (by omega) hne, f1 i hi]
    have hO2 : H2[rO]? = some (.cells [t] false) := by rw [f2 _ hrO htO]; exact hO
    have st := st_box (pg := pg) (R := den pg) hO2 (ownL_one a2).1
    have hne' : t'.idOf ≠ some rO := by
      rcases a5 with rfl | h
      · exact htO
      · intro e; have := h _ e; omega
    refine ⟨[], H2.set rO (.cells [t'] false), t', ?_, by rw [List.getElem?_set_self (by omega)], ?_, by simp; omega, fun i hi h1 h2 => by rw [List.getElem?_set_ne (Ne.symm h1), f2 i hi h2], ?_⟩
    · rw [den_eq, runC_go]
      simp [b43_1, gX0, gX1, gX2, gX3, gX4, gX5, gX6, gX7, gX8, gX9, gXa, gXb, gXc, gXd, gXe, gXf, gXg, gXh, gXi, gXj, gXk, gXl, gXm, gXn, gXo, gXp, gXq, gXr, gXs, gXt, gXu, gXv, gXw, gXx, k_mv, gXy, gXz, gX01, gX11, gX21, gX31, gX41, gX51, gX61, gX71, gX81, gX91, gXa1, gXb1, gXc1, gXd1, gXe1, gXf1, gXg1, gXh1, gXi1, gXj1, gXk1, gXl1, gXm1, gXn1, gXo1, gXp1, gXq1, gXr1, gXs1, gXt1, gXu1, k_mn, k_mx, gXv1, gXw1, gXx1, gXy1, gXz1, gX02, gX12, gX22, gX32, gX42, gX52, gX62, gX72, Dn.setLast, Dn.getLast, evalO, mapO, Dn.get, putE, keepE, TV.one, TV.isAgg, Dn.part, r3, rP', c65, rO', c50, hbs, a1, st]
    · simp only [if_true]
      exact a2.mono fun id hid => List.getElem?_set_ne fun e => hne' (by rw [e]; exact hid)
    · rcases a5 with h | h
      · exact .inl h
      · exact .inr fun id hid => by have := h id hid; omega

theorem over43 {pg : Pg} (hF : Free pg) {rP rO lp p : Nat} {l : List Line} {n : Int} (hn : n ≤ 16) (hf : ∀ x ∈ l, Fits n x) (hp : p < 65536) (hl : l.length ≤ 40) (h1 : rP ≠ rO) (h2 : rO < lp) (h3 : rP < lp) :
    Over pg lp (L43 rP rO) l (I43 rP rO lp p l) (fun _ _ _ => False) where
  ready := rfl
  pend := rfl
  two := rfl
  step := by
    intro k j H X hj ⟨t, hP, hO, ho, hL', htP, htO, htlp⟩ hL
    have hjm := List.mem_of_getElem? hj
    have hfits := js_fits hf
    have hlt := (List.getElem?_eq_some_iff.1 hL).1
    have hrP := (List.getElem?_eq_some_iff.1 hP).1
    have hrO := (List.getElem?_eq_some_iff.1 hO).1
    have htl : ∀ id, t.idOf = some id → id < H.length := ho.lt
    have hassign : den pg a43_0 [(25, lineTV j), (24, .i .i64 (k : Int)), (5, .ref rP 0), (9, .ref rO 0)] (H ++ X) = some ⟨.normal, [(5, .ref rP 0), (9, .ref rO 0), (11, .ref (H ++ X).length 0)], H ++ X ++ [cl j]⟩ := by
      rw [den_eq, runC_go]
      generalize H ++ X = HX
      simp [a43_0, gX0, gX1, gX2, gX3, gX4, gX5, gX6, gX7, gX8, gX9, gXa, gXb, gXc, gXd, gXe, gXf, gXg, gXh, gXi, gXj, gXk, gXl, gXm, gXn, gXo, gXp, gXq, gXr, gXs, gXt, gXu, gXv, gXw, gXx, k_mv, gXy, gXz, gX01, gX11, gX21, gX31, gX41, gX51, gX61, gX71, gX81, gX91, gXa1, gXb1, gXc1, gXd1, gXe1, gXf1, gXg1, gXh1, gXi1, gXj1, gXk1, gXl1, gXm1, gXn1, gXo1, gXp1, gXq1, gXr1, gXs1, gXt1, gXu1, k_mn, k_mx, gXv1, gXw1, gXx1, gXy1, gXz1, gX02, gX12, gX22, gX32, gX42, gX52, gX62, gX72, Dn.setLast, Dn.getLast, evalO, mapO, Dn.get, putE, keepE, TV.one, TV.isAgg, Dn.part, lineTV, put2, cl]
    have hpre : ∀ (i : Nat), i < H.length → (H ++ X ++ [cl j])[i]? = H[i]? := by
      intro i h
      rw [List.append_assoc, List.getElem?_append_left h]
    have h4' : (H ++ X ++ [cl j])[lp]? = some (.loop (L43 rP rO)) := by rw [hpre lp hlt]; exact hL
    have hlen : lp < (H ++ X ++ [cl j]).length := (List.getElem?_eq_some_iff.1 h4').1
    have hnl' : H.length ≤ (H ++ X).length := by simp
    have hB : ∀ i, i ≠ lp → ((H ++ X ++ [cl j]).set lp (.loop { L43 rP rO with st := .busy }))[i]? = (H ++ X ++ [cl j])[i]? := fun i hi => List.getElem?_set_ne (by omega)
    have hlen3 : ((H ++ X ++ [cl j]).set lp (.loop { L43 rP rO with st := .busy })).length = (H ++ X ++ [cl j]).length := by simp
    have hlX : (H ++ X ++ [cl j]).length = (H ++ X).length + 1 := by simp; omega
    have hjl := js_len l
    have hol : (canL p ((js l).take k)).length ≤ 1000 := by
      have h1 : (canL p ((js l).take k)).length ≤ ((js l).take k).length := List.length_filter_le _ _
      rw [List.length_take] at h1
      omega
    obtain ⟨e2, H3, t', hrun, hO3, ho3, hl3, hf3, hi3⟩ := b43_run (pg := pg) (rP := rP) (rO := rO) (m := (H ++ X).length) (p := p) (j := j) (H := (H ++ X ++ [cl j]).set lp (.loop { L43 rP rO with st := .busy })) (t := t) (out := canL p ((js l).take k)) hF hp (Hole3.of hn (hfits j hjm))
      (by rw [hB _ (by omega), hpre _ hrP]; exact hP) (by rw [hB _ (by omega), hpre _ hrO]; exact hO) (ho.mono fun id hid => by rw [hB id (fun e => htlp (by rw [← e]; exact hid)), hpre id (htl id hid)]) hol (by rw [hB _ (by omega)]; exact getLast _ _) htO (fun he => by have := htl _ he; omega) (by omega)
    rw [hlen3] at hl3 hf3 hi3
    have hloop3 : H3[lp]? = some (.loop { L43 rP rO with st := .busy }) := by
      rw [hf3 lp hlen (by omega) htlp, List.getElem?_set_self hlen]
    have ht' : ∀ i, i < (H ++ X ++ [cl j]).length → t.idOf ≠ some i → t'.idOf ≠ some i := by
      intro i hi hne he
      rcases hi3 with h | h
      · exact hne (by rw [← h]; exact he)
      · have := h i he; omega
    have hcl : canL p ((js l).take (k + 1)) = canL p ((js l).take k) ++ if can p j = true then [j] else [] := by
      unfold canL
      rw [List.take_add_one, hj, List.filter_append]
      congr 1
      show [j].filter _ = _
      rw [List.filter_cons]
      split <;> rfl
    refine ⟨.normal, H3.set lp (.loop (L43 rP rO)), ⟨_, _, e2, H3, hassign, h4', hrun, hloop3, rfl⟩, ?_, .inl ⟨rfl, t', ?_, ?_, ?_, ?_, ht' rP (by omega) htP, ht' rO (by omega) htO, ht' lp hlen htlp⟩⟩
    · intro i y hy
      have hix := (List.getElem?_eq_some_iff.1 hy).1
      have : H.length + i < (H ++ X ++ [cl j]).length := by simp; omega
      rw [List.getElem?_set_ne (by omega), hf3 (H.length + i) this (by omega) (fun he => by have := htl _ he; omega), hB _ (by omega),
        List.append_assoc, List.getElem?_append_right (by omega), Nat.add_sub_cancel_left, List.getElem?_append_left hix, hy]
    · rw [List.getElem?_set_ne (by omega), hf3 rP (by omega) h1 htP, hB _ (by omega), hpre _ hrP]; exact hP
    · rw [List.getElem?_set_ne (by omega)]; exact hO3
    · rw [hcl]
      exact ho3.mono fun id hid => List.getElem?_set_ne fun (e : lp = id) => ht' lp hlen htlp (by rw [e]; exact hid)
    · exact List.getElem?_set_self (by omega)

end Go.Proofs.Try.Dn

/-
  Peg: Jumps whole: in order.
-/

set_option maxHeartbeats 2000000
namespace Go.Proofs.Try.Dn
open Go.Dn

theorem ord3 : Ordr cmp3 where
  irr x := by rw [cmp3_lt, sr3_irr]; decide
  tr x y z h1 h2 := by rw [cmp3_lt] at h1 h2 ⊢; exact sr3_trans h1 h2
  ntr x y z h1 h2 := by
    rw [cmp3_lt, sr3_iff] at h1 h2 ⊢
    omega

theorem cmp69 {pg : Pg} (hF : Free pg) (H0 : Heap) (x y : Line) : cmpRun pg (den pg) H0 69 [] (.agg (elL.enc x)) (.agg (elL.enc y)) = some (cmp3 x y) := by
  obtain ⟨a, b, c⟩ := x
  obtain ⟨u, v, w⟩ := y
  have sa : snapArgs H0 [] ([.agg (elL.enc (a, b, c)), .agg (elL.enc (u, v, w))] ++ []) = some [lineTV (a, b, c), lineTV (u, v, w)] := by
    have h1 := snap_line .borrow H0 7 (a, b, c)
    have h2 := snap_line .borrow H0 7 (u, v, w)
    show snapArgs H0 [] [lineTV (a, b, c), lineTV (u, v, w)] = _
    simp [snapArgs, h1, h2]
  obtain ⟨G, hG⟩ : ∃ G : Heap, G = [.cells [.i .i64 a, .i .i64 b, .i .i64 c] true, .cells [.i .i64 u, .i .i64 v, .i .i64 w] true] := ⟨_, rfl⟩
  have c70 := call70 (pg := pg) hF (a := (a, b, c)) (b := (u, v, w)) (x := .sl 0 0 1 false 3 (some 3)) (y := .sl 1 0 1 false 3 (some 3)) (H := G) (by rw [hG]; simp [sn_i, sn_b, gX92, gXa2, gXb2, gXc2, gXd2, gXe2, gXf2, gXg2, gXh2, gXi2, gXj2, gXk2, mapO, elems]) (by rw [hG]; simp [sn_i, sn_b, gX92, gXa2, gXb2, gXc2, gXd2, gXe2, gXf2, gXg2, gXh2, gXi2, gXj2, gXk2, mapO, elems])
  have r : bodyRun pg (den pg) 69 [lineTV (a, b, c), lineTV (u, v, w)] [] = some (.i .i64 (cmp3 (a, b, c) (u, v, w)), G) := by
    refine body_of (x := .ret) (e := [(4, .i .i64 (cmp3 (a, b, c) (u, v, w)))]) (d := d69) (by rw [hF.F]; rfl) rfl ?_ (.inl rfl) rfl
    generalize cmp3 (a, b, c) (u, v, w) = C at *
    subst hG
    simp [d69, c69, zipE, gX0, gX1, gX2, gX3, gX4, gX5, gX6, gX7, gX8, gX9, gXa, gXb, gXc, gXd, gXe, gXf, gXg, gXh, gXi, gXj, gXk, gXl, gXm, gXn, gXo, gXp, gXq, gXr, gXs, gXt, gXu, gXv, gXw, gXx, k_mv, gXy, gXz, gX01, gX11, gX21, gX31, gX41, gX51, gX61, gX71, gX81, gX91, gXa1, gXb1, gXc1, gXd1, gXe1, gXf1, gXg1, gXh1, gXi1, gXj1, gXk1, gXl1, gXm1, gXn1, gXo1, gXp1, gXq1, gXr1, gXs1, gXt1, gXu1, k_mn, k_mx, gXv1, gXw1, gXx1, gXy1, gXz1, gX02, gX12, gX22, gX32, gX42, gX52, gX62, gX72, Dn.setLast, Dn.getLast, evalO, mapO, Dn.get, putE, keepE, TV.one, TV.isAgg, Dn.part, lineTV, slcARun, bounds3, c70]
  unfold cmpRun
  rw [sa, Option.bind_some, r, Option.bind_some]

theorem sor_uniq : ∀ {a b : List Line}, Sor a → Sor b → (∀ z, z ∈ a ↔ z ∈ b) → a = b
  | [], [], _, _, _ => rfl
  | [], y :: b, _, _, h => by have := (h y).2 (by simp); simp at this
  | x :: a, [], _, _, h => by have := (h x).1 (by simp); simp at this
  | x :: a, y :: b, h1, h2, h => by
    obtain ⟨p1, p2⟩ := List.pairwise_cons.1 h1
    obtain ⟨q1, q2⟩ := List.pairwise_cons.1 h2
    have hxy : x = y := by
      apply Classical.byContradiction
      intro hne
      have m1 : x ∈ b := by
        rcases List.mem_cons.1 ((h x).1 (by simp)) with h | h
        · exact absurd h hne
        · exact h
      have m2 : y ∈ a := by
        rcases List.mem_cons.1 ((h y).2 (by simp)) with h | h
        · exact absurd h.symm hne
        · exact h
      have := sr3_trans (q1 x m1) (p1 y m2)
      rw [sr3_irr] at this; cases this
    subst hxy
    rw [sor_uniq p2 q2 fun z => ?_]
    constructor
    · intro hz
      rcases List.mem_cons.1 ((h z).1 (List.mem_cons_of_mem _ hz)) with h | h
      · rw [h] at hz
        have := p1 x hz
        rw [sr3_irr] at this; cases this
      · exact h
    · intro hz
      rcases List.mem_cons.1 ((h z).2 (List.mem_cons_of_mem _ hz)) with h | h
      · rw [h] at hz
        have := q1 x hz
        rw [sr3_irr] at this; cases this
      · exact h

/-! the lines are in order, so no jump is there twice -/
theorem lines_sor {n : Int} : ∀ {l : List Line} {p : Option Line}, chkFrom n p l = 0 → Sor l ∧ ∀ q, p = some q → ∀ x ∈ l, lt3 q x = true
  | [], p, _ => ⟨List.Pairwise.nil, fun q _ x hx => by cases hx⟩
  | x :: l, p, h => by
    rw [chkFrom_cons] at h
    split at h
    · cases h
    · rename_i hb
      obtain ⟨h1, h2⟩ := lines_sor (l := l) h
      have h3 := h2 x rfl
      refine ⟨List.pairwise_cons.2 ⟨h3, h1⟩, fun q hq z hz => ?_⟩
      subst hq
      have hqx : lt3 q x = true := by
        have : ¬ ((lineBad n x || worse (some q) x) = true) := hb
        simp only [Bool.or_eq_true, not_or, worse] at this
        simpa using this.2
      rcases List.mem_cons.1 hz with rfl | hz
      · exact hqx
      · exact sr3_trans hqx (h3 z hz)

theorem js_mem {z : Line} : ∀ {l : List Line}, z ∈ js l ↔ ∃ x ∈ l, z = x ∨ z = rev x
  | [] => by simp [js]
  | x :: l => by
    simp only [js, List.mem_cons, js_mem (l := l)]
    constructor
    · rintro (h | h | ⟨y, h1, h2⟩)
      · exact ⟨x, .inl rfl, .inl h⟩
      · exact ⟨x, .inl rfl, .inr h⟩
      · exact ⟨y, .inr h1, h2⟩
    · rintro ⟨y, rfl | h1, h2⟩
      · rcases h2 with h2 | h2
        · exact .inl h2
        · exact .inr (.inl h2)
      · exact .inr (.inr ⟨y, h1, h2⟩)

theorem js_nd {n : Int} : ∀ {l : List Line}, Sor l → (∀ x ∈ l, Fits n x) → (js l).Nodup
  | [], _, _ => List.nodup_nil
  | x :: l, hs, hf => by
    obtain ⟨h1, h2⟩ := List.pairwise_cons.1 hs
    have ih := js_nd h2 fun y hy => hf y (List.mem_cons_of_mem _ hy)
    have hx := hf x (by simp)
    have hne : ∀ y ∈ l, x ≠ y := fun y hy e => by have := h1 y hy; rw [e, sr3_irr] at this; cases this
    have hrr : ∀ y : Line, rev (rev y) = y := fun y => rfl
    have asym : ∀ y, Fits n y → ∀ z, Fits n z → z ≠ rev y := fun y hy z hz e => by
      unfold Fits at hy hz
      rw [e] at hz
      unfold rev at hz
      dsimp only at hz
      omega
    show (x :: rev x :: js l).Nodup
    rw [List.nodup_cons, List.nodup_cons]
    refine ⟨fun hm => ?_, fun hm => ?_, ih⟩
    · rcases List.mem_cons.1 hm with hm | hm
      · exact asym x hx x hx hm
      · obtain ⟨y, hy, e | e⟩ := js_mem.1 hm
        · exact hne y hy e
        · exact asym y (hf y (List.mem_cons_of_mem _ hy)) x hx e
    · obtain ⟨y, hy, e | e⟩ := js_mem.1 hm
      · exact asym x hx y (hf y (List.mem_cons_of_mem _ hy)) e.symm
      · have : x = y := by rw [← hrr x, e, hrr]
        exact hne y hy this

theorem chk_sor {n : Int} {l : List Line} (h : chk n l = 0) : (js l).Nodup := by
  have hf := (chk_ok h).2.2.2
  unfold chk at h
  split at h
  · cases h
  · split at h
    · cases h
    · exact js_nd (lines_sor h).1 hf

theorem body43 {pg : Pg} (hF : Free pg) (hQ : pg.Q 68 = some 3) {n : Int} {l : List Line} (hc : chk n l = 0) {p : Nat} (hp : p < 65536) (hout : outOf n (p : Int) = false) {J : List Line} (hJ : ∀ z, z ∈ J ↔ z ∈ js l ∧ can p z = true) (hJs : Sor J) :
    ∃ t H', bodyRun pg (den pg) 43 [.i .i64 n, LT true l, .i .i64 (p : Int)] [] = some (.tup [t, .i .i64 0], H') ∧ elL.Own H' t J := by
  obtain ⟨hn1, hn2, hl, hf⟩ := chk_ok hc
  have hop := opn1 hF hc (p : Int)
  rw [hout] at hop
  have c48 := fun H hi => hop.call1 1 H hi
  let H3 : Heap := [.cells [.i .i64 (p : Int)] false, .cells [.i .i64 (p : Int)] false, .cells [.nilsl] false, .cells [LT true l] false]
  have hlp : H3.length = 4 := rfl
  have hov : Over pg H3.length (L43 0 2) l (I43 0 2 4 p l) (fun _ _ _ => False) := over43 hF hn2 hf hp hl (by omega) (by omega) (by omega)
  have hI : I43 0 2 4 p l 0 (H3 ++ [.loop (L43 0 2)]) := ⟨.nilsl, rfl, rfl, .inl ⟨rfl, rfl⟩, rfl, (by intro e; cases e), (by intro e; cases e), (by intro e; cases e)⟩
  rcases rf_jumps (pg := pg) (H := H3) (L := L43 0 2) (l := l) (s := .t 23) (ps := [24, 25]) (as_ := a43_0) (bd := b43_1) (ks := [5, 9]) (e := [(5, .ref 0 0), (9, .ref 2 0), (23, .fn 77 [] [.ref 3 0])]) (bid := 3) (b := true) hF rfl hov hl rfl rfl hI with ⟨Hf, o, ⟨t, i1, i2, i3, i4, i5, i6, i7⟩, hlf, hgo⟩ | ⟨k, x, Hf, o, hq, _⟩
  · have hjl : (js l).take (2 * l.length) = js l := List.take_of_length_le (by rw [js_len]; omega)
    rw [hjl] at i3
    obtain ⟨H5, hH5⟩ : ∃ H5, H5 = Hf.set H3.length (.loop o) := ⟨_, rfl⟩
    have f5 : ∀ j, j ≠ 4 → H5[j]? = Hf[j]? := fun j hj => by rw [hH5]; exact List.getElem?_set_ne (by rw [hlp]; omega)
    have o5 : elL.Own H5 t (canL p (js l)) := i3.mono fun id hid => f5 id fun e => i7 (by rw [← e]; exact hid)
    have c5 : H5[2]? = some (.cells [t] false) := by rw [f5 2 (by omega)]; exact i2
    obtain ⟨l', H6, s1, s2, s3, s4, s5, s6, _⟩ := sort_own (E := elL) rfl (pg := pg) (f := 68) (g := 69) (cs := []) hQ o5 ord3 (fun H0 x y _ _ _ => cmp69 hF H0 x y) (by
      have h1 : (canL p (js l)).length ≤ (js l).length := List.length_filter_le _ _
      rw [js_len] at h1
      omega)
    have hnd : (canL p (js l)).Nodup := List.Pairwise.filter _ (chk_sor hc)
    have hsl : Sor l' := by
      have hnd' : l'.Nodup := s3.nodup_iff.2 hnd
      refine List.Pairwise.imp₂ (fun a b h1 h2 => ?_) s4 hnd'
      apply Classical.byContradiction
      intro h3
      have h3' : lt3 a b = false := by simpa using h3
      exact h1 ((cmp3_lt b a).2 (sr3_total h3' h2))
    have e : l' = J := sor_uniq hsl hJs fun z => by
      rw [s3.mem_iff, hJ]
      unfold canL
      rw [List.mem_filter]
    rw [e] at s2
    refine ⟨t, H6, ?_, s2⟩
    have c6 : H6[2]? = some (.cells [t] false) := by rw [s5 2 i6]; exact c5
    have ta := (ownL_one o5).2
    have ld5 := ld_box (pg := pg) (R := den pg) c5 ta
    have ld6 := ld_box (pg := pg) (R := den pg) c6 ta
    have c62 := fn62 (pg := pg) hF true l [.cells [.i .i64 (p : Int)] false, .cells [.i .i64 (p : Int)] false, .cells [.nilsl] false]
    have c62' : callRun pg (den pg) .sh [.fn 62 [] [], LT true l] [.cells [.i .i64 (p : Int)] false, .cells [.i .i64 (p : Int)] false, .cells [.nilsl] false] = some (.fn 77 [] [.ref 3 0], H3) := c62
    have c48' := c48 [.cells [.i .i64 (p : Int)] false, .cells [.i .i64 (p : Int)] false] rfl
    rw [← hH5] at hgo
    have s1' : callRun pg (den pg) .so [.fn 68 [] [], t, .fn 69 [] []] H5 = some (.tup [], H6) := s1
    refine bodyRun_of (vs := [t, .i .i64 0]) (o := ⟨.ret, [(6, t), (7, .i .i64 0)], H6⟩) (d := d43) (by rw [hF.F]; rfl) rfl ?_ (by simp) rfl
    rw [runC_go]
    clear i1 i2 i3 i4 i5 i6 i7 hlf hov hI s2 s3 s4 s5 s6 hnd hsl e o5 c5 c6 c62 c48 hop hJ hJs hH5 f5 hjl
    simp [d43, c43, zipE, gX0, gX1, gX2, gX3, gX4, gX5, gX6, gX7, gX8, gX9, gXa, gXb, gXc, gXd, gXe, gXf, gXg, gXh, gXi, gXj, gXk, gXl, gXm, gXn, gXo, gXp, gXq, gXr, gXs, gXt, gXu, gXv, gXw, gXx, k_mv, gXy, gXz, gX01, gX11, gX21, gX31, gX41, gX51, gX61, gX71, gX81, gX91, gXa1, gXb1, gXc1, gXd1, gXe1, gXf1, gXg1, gXh1, gXi1, gXj1, gXk1, gXl1, gXm1, gXn1, gXo1, gXp1, gXq1, gXr1, gXs1, gXt1, gXu1, k_mn, k_mx, gXv1, gXw1, gXx1, gXy1, gXz1, gX02, gX12, gX22, gX32, gX42, gX52, gX62, gX72, Dn.setLast, Dn.getLast, evalO, mapO, Dn.get, putE, keepE, TV.one, TV.isAgg, Dn.part, c48', c62', hgo, ld5, s1', ld6]
  · exact hq.elim

end Go.Proofs.Try.Dn

/-
  Peg: the law Jumps run.
-/

set_option maxHeartbeats 2000000
namespace Go.Proofs.Try.Dn
open Go.Dn

theorem LT_view (b : Bool) (l : List Line) (H : Heap) : elL.View H (LT b l) l := by rw [LT_lt]; exact El.lt_view _ _ _

theorem fn43 {pg : Pg} (hF : Free pg) (hQ : pg.Q 68 = some 3) {n : Int} {l : List Line} (hc : chk n l = 0) {p : Nat} (hp : p < 65536) (hout : outOf n (p : Int) = false) {J : List Line} (hJ : ∀ z, z ∈ J ↔ z ∈ js l ∧ can p z = true) (hJs : Sor J) :
    Fn pg 43 [.i .i64 n, LT true l, .i .i64 (p : Int)] (.tup [LT false J, .i .i64 0]) := by
  obtain ⟨t, H', r, o⟩ := body43 hF hQ hc hp hout hJ hJs
  refine .inr ⟨hF.S _ _ (by decide), _, H', r, ?_⟩
  rw [LT_lt, gXi2]
  simp [mapO, o.fin8 elL_flat, gXa2]

end Go.Proofs.Try.Dn

