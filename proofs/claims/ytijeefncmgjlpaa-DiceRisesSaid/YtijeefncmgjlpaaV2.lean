/-
  Dice: Orders: how many results rise in one order.
-/
import Derived.Test.YtijeefncmgjlpaaV1
set_option linter.unusedSimpArgs false
set_option linter.unusedVariables false

set_option maxHeartbeats 2000000
namespace Go.Proofs.Try.Dn
open Go.Dn

def KB (g : Int → Option Nat) : Prop := ∀ k, (g k).isSome = true → -1 ≤ k ∧ k ≤ 60

theorem addO_some (f : Int) (k : Int) : ∀ (p : List (Int × TV)) (g : Int → Option Nat), (p.foldl (addO f) g k).isSome = true → (g k).isSome = true ∨ k = f
  | [], g, h => .inl h
  | q :: p, g, h => by
    rcases addO_some f k p _ h with h | h
    · unfold addO at h
      split at h
      · rw [addM_some] at h
        simp only [Bool.or_eq_true, decide_eq_true_eq] at h
        exact h
      · exact .inl h
    · exact .inr h

theorem KB.fold {g : Int → Option Nat} (h : KB g) {f : Int} (hf : 0 ≤ f ∧ f ≤ 60) (p : List (Int × TV)) : KB (p.foldl (addO f) g) := fun k hk => by
  rcases addO_some f k p g hk with h1 | h1
  · exact h k h1
  · omega

theorem KB.ent {es : List (Int × TV)} {g : Int → Option Nat} (h : CM es g) (hk : KB g) : ∀ q ∈ es, EntO q := fun q hq => by
  obtain ⟨n, h1, h2⟩ := cm_ent h hq
  exact ⟨hk q.1 (by rw [h1]; rfl), n, h2⟩

def sumF (R : Int → Nat) (d : List Int) (es : List (Int × TV)) : Nat := (d.map fun f => below f es * R f).sum

theorem wgt_add (a b : Int → Nat) (es : List (Int × TV)) : wgt (fun k => a k + b k) es = wgt a es + wgt b es := by
  unfold wgt
  rw [← sum_add]
  congr 1
  exact List.map_congr_left fun q _ => Nat.mul_add _ _ _
theorem wgt_zero (es : List (Int × TV)) : wgt (fun _ => 0) es = 0 := by
  unfold wgt
  exact sum_zero _ _ fun x _ => Nat.mul_zero _
theorem wgt_below (f : Int) (c : Nat) : ∀ es : List (Int × TV), wgt (fun k => if k < f then c else 0) es = below f es * c
  | [] => by simp [wgt, below]
  | q :: es => by
    have := wgt_below f c es
    unfold wgt below at *
    rw [List.map_cons, List.sum_cons, this, List.map_cons, List.sum_cons, Nat.add_mul]
    by_cases h : q.1 < f
    · simp only [h, if_true]
    · simp only [h, if_false]; omega
theorem sumF_wgt (R : Int → Nat) (es : List (Int × TV)) : ∀ d : List Int, sumF R d es = wgt (fun k => (d.map fun f => if k < f then R f else 0).sum) es
  | [] => by simp [sumF, wgt_zero]
  | f :: d => by
    have h := sumF_wgt R es d
    have e : (fun k => ((f :: d).map fun f => if k < f then R f else 0).sum) = fun k => (if k < f then R f else 0) + (d.map fun f => if k < f then R f else 0).sum := by funext k; rfl
    rw [e, wgt_add, ← h, wgt_below]; rfl
theorem sumF_le (es : List (Int × TV)) : ∀ d : List Int, sumF (fun _ => 1) d es ≤ d.length * mass es
  | [] => by simp [sumF]
  | f :: d => by
    have h := sumF_le es d
    have h2 := below_le f es
    unfold sumF at *
    rw [List.map_cons, List.sum_cons, List.length_cons, Nat.succ_mul]
    have e : below f es * (fun _ => 1) f = below f es := Nat.mul_one _
    rw [e]
    omega

theorem l41_8_all {pg : Pg} {V1 V13 V72 V73 V74 L : TV} {d : List Int} (hL : SV L d) (hd : d.length ≤ 8) (hf : ∀ f ∈ d, 0 ≤ f ∧ f ≤ 60) {mid nid : Nat} (hne : mid ≠ nid) {es0 : List (Int × TV)} {g0 : Int → Option Nat} (hc0 : CM es0 g0) (hk0 : KB g0) (hm0 : mass es0 ≤ 1000000) :
    ∀ (r j : Nat) (H : Heap) (es : List (Int × TV)) (g : Int → Option Nat), j + r = d.length → H[mid]? = some (.mapS es0 es0.length) → H[nid]? = some (.mapS es es.length) → CM es g → KB g → mass es + r * mass es0 ≤ 1000000000 →
    ∃ es' g' H' v, den pg l41_8 [(1, V1), (13, V13), (15, .mp mid), (18, .mp nid), (72, V72), (73, V73), (74, V74), (82, L), (83, .i .i64 (d.length : Int)), (84, .i .i64 (j : Int))] H =
      some ⟨.exit 8, [(1, V1), (13, V13), (15, .mp mid), (18, .mp nid), (72, V72), (73, V73), (74, V74), (82, L), (83, .i .i64 (d.length : Int)), (84, .i .i64 (d.length : Int)), (85, v)], H'⟩ ∧
      H'[nid]? = some (.mapS es' es'.length) ∧ CM es' g' ∧ KB g' ∧ (∀ R, wgt R es' = wgt R es + sumF R (d.drop j) es0) ∧ H.length ≤ H'.length ∧ ∀ i, i < H.length → i ≠ nid → H'[i]? = H[i]?
  | 0, j, H, es, g, hj, hM, hN, hc, hk, hm => by
    obtain rfl : j = d.length := by omega
    refine ⟨es, g, H, .b false, ?_, hN, hc, hk, fun R => by rw [List.drop_length]; rfl, Nat.le_refl _, fun _ _ _ => rfl⟩
    rw [l41_8, den_loop]
    simp (disch := omega) [b41_7, gX0, gX1, gX2, gX3, gX4, gX5, gX6, gX7, gX8, gX9, gXa, gXb, gXc, gXd, gXe, gXf, gXg, gXh, gXi, gXj, gXk, gXl, gXm, gXn, gXo, gXp, gXq, gXr, gXs, gXt, gXu, gXv, gXw, gXx, k_mv, gXy, gXz, gX01, gX11, gX21, gX31, gX41, gX51, gX61, gX71, gX81, gX91, gXa1, gXb1, gXc1, gXd1, gXe1, gXf1, gXg1, gXh1, gXi1, gXj1, gXk1, gXl1, gXm1, gXn1, gXo1, gXp1, gXq1, gXr1, gXs1, gXt1, gXu1, k_mn, k_mx, gXv1, gXw1, gXx1, gXy1, gXz1, gX02, gX12, gX22, gX32, gX42, gX52, gX62, gX72, Dn.setLast, Dn.getLast, evalO, mapO, Dn.get, putE, gX82, gX92, gXa2, gXb2, TV.one, TV.isAgg, Dn.part, gXc2, negb, at0, at1, at2, at3, at4, dT, dF, gXd2, Option.bind_some, Option.map_some]
  | r + 1, j, H, es, g, hj, hM, hN, hc, hk, hm => by
    obtain ⟨f, hfj⟩ : ∃ f, d[j]? = some f := ⟨_, List.getElem?_eq_getElem (by omega)⟩
    have hfb := hf f (List.mem_of_getElem? hfj)
    have hdr : d.drop j = f :: d.drop (j + 1) := by
      obtain ⟨h1, rfl⟩ := List.getElem?_eq_some_iff.1 hfj
      exact List.drop_eq_getElem_cons h1
    rw [Nat.succ_mul] at hm
    have hmid : mid < H.length := (List.getElem?_eq_some_iff.1 hM).1
    have hnid : nid < H.length := (List.getElem?_eq_some_iff.1 hN).1
    obtain ⟨q, q1, q2⟩ := ixI (pg := pg) (R := den pg) (hL.view H) hfj
    have rg : dkc pg (den pg) .rngS [.mp mid] H = some (.ref H.length 0, H ++ [.iter mid es0.length]) := by rw [k_rngS, hM]; rfl
    obtain ⟨H2, hH2⟩ : ∃ H2, H2 = H ++ [AObj.iter mid es0.length] := ⟨_, rfl⟩
    rw [← hH2] at rg
    have g2 : H2[mid]? = some (.mapS es0 es0.length) := by rw [hH2, List.getElem?_append_left (by omega)]; exact hM
    have g2i : H2[H.length]? = some (.iter mid es0.length) := by rw [hH2]; exact getLast _ _
    have g2n : H2[nid]? = some (.mapS es es.length) := by rw [hH2, List.getElem?_append_left (by omega)]; exact hN
    have l2 : H2.length = H.length + 1 := by rw [hH2, List.length_append]; rfl
    obtain ⟨Hd, hHd⟩ : ∃ Hd, Hd = (H2.set H.length .dead).set mid .dead := ⟨_, rfl⟩
    have ld : Hd.length = H.length + 1 := by rw [hHd]; simp [l2]
    have gdn : Hd[nid]? = some (.mapS es es.length) := by rw [hHd, List.getElem?_set_ne hne, List.getElem?_set_ne (by omega)]; exact g2n
    have hent := KB.ent hc0 hk0
    have run : ∀ p : List (Int × TV), p.Perm es0 → ∃ es', mf pg (den pg) 89 H.length 11 92 ops41 [1, 13, 15, 18, 20, 21, 22, 72, 73, 74, 82, 83, 84, 89] b41_4 [1, 13, 15, 18, 20, 72, 73, 74, 82, 83, 84, 89] p [(1, V1), (13, V13), (15, .mp mid), (18, .mp nid), (20, .i .i64 f), (72, V72), (73, V73), (74, V74), (82, L), (83, .i .i64 (d.length : Int)), (84, .i .i64 (j : Int)), (89, .ref H.length 0)] Hd =
        some ([(1, V1), (13, V13), (15, .mp mid), (18, .mp nid), (20, .i .i64 f), (72, V72), (73, V73), (74, V74), (82, L), (83, .i .i64 (d.length : Int)), (84, .i .i64 (j : Int)), (89, .ref H.length 0)], Hd.set nid (.mapS es' es'.length)) ∧ CM es' (es0.foldl (addO f) g) ∧ ∀ R, wgt R es' = wgt R es + below f es0 * R f := fun p hp => by
      have hmq := mass_perm hp
      obtain ⟨es', r1, r2, r3⟩ := mf41 (pg := pg) (V1 := V1) (V13 := V13) (V15 := .mp mid) (V72 := V72) (V73 := V73) (V74 := V74) (V82 := L) (V83 := .i .i64 (d.length : Int)) (V84 := .i .i64 (j : Int)) (nid := nid) (it := H.length) (H0 := Hd) hfb (by omega) p (fun x hx => hent x (hp.mem_iff.1 hx)) es g hc (by rw [hmq]; omega)
      rw [set_same gdn] at r1
      rw [addO_perm f hp] at r2
      refine ⟨es', r1, r2, fun R => ?_⟩
      rw [r3 R, below_perm f hp]
    obtain ⟨es1, r1, r2, r3⟩ := run es0 (List.Perm.refl _)
    have mr : ∀ K, go pg (den pg) (.c l41_6 :: K) .normal [(1, V1), (13, V13), (15, .mp mid), (18, .mp nid), (20, .i .i64 f), (72, V72), (73, V73), (74, V74), (82, L), (83, .i .i64 (d.length : Int)), (84, .i .i64 (j : Int)), (89, .ref H.length 0)] H2 =
        go pg (den pg) (.c z41_5 :: K) .normal [(1, V1), (13, V13), (15, .mp mid), (18, .mp nid), (20, .i .i64 f), (72, V72), (73, V73), (74, V74), (82, L), (83, .i .i64 (d.length : Int)), (84, .i .i64 (j : Int)), (89, .ref H.length 0)] ((Hd.set nid (.mapS es1 es1.length)).set mid (.mapS es0 es0.length)) := fun K => by
      unfold l41_6
      refine go_mrange (id := H.length) rfl g2i g2 fun q hq => ?_
      rw [← hHd]
      obtain ⟨es', q1, q2, q3⟩ := run q hq
      rw [q2.uniq r2] at q1
      exact q1
    obtain ⟨H3, hH3⟩ : ∃ H3, H3 = (Hd.set nid (.mapS es1 es1.length)).set mid (.mapS es0 es0.length) := ⟨_, rfl⟩
    rw [← hH3] at mr
    have l3 : H3.length = H.length + 1 := by rw [hH3]; simp [ld]
    have g3 : H3[nid]? = some (.mapS es1 es1.length) := by rw [hH3, List.getElem?_set_ne hne, List.getElem?_set_self (by omega)]
    have g3m : H3[mid]? = some (.mapS es0 es0.length) := by rw [hH3, List.getElem?_set_self (by simp; omega)]
    have f3 : ∀ i, i < H.length → i ≠ nid → H3[i]? = H[i]? := fun i hi hin => by
      by_cases him : i = mid
      · rw [him, g3m, hM]
      · rw [hH3, List.getElem?_set_ne (Ne.symm him), List.getElem?_set_ne (Ne.symm hin), hHd, List.getElem?_set_ne (Ne.symm him), List.getElem?_set_ne (by omega), hH2, List.getElem?_append_left hi]
    have hw1 := r3 (fun _ => 1)
    rw [wgt_one, wgt_one] at hw1
    have hbl := below_le f es0
    obtain ⟨es', g', H', v, x1, x2, x3, x4, x5, x6, x7⟩ := l41_8_all (pg := pg) (V1 := V1) (V13 := V13) (V72 := V72) (V73 := V73) (V74 := V74) hL hd hf hne hc0 hk0 hm0 r (j + 1) H3 es1 _ (by omega) g3m g3 r2 (hk.fold hfb _) (by omega)
    refine ⟨es', g', H', v, Eq.trans ?_ x1, x2, x3, x4, fun R => ?_, by omega, fun i hi hin => by rw [x7 i (by omega) hin, f3 i hi hin]⟩
    · obtain ⟨N, hN2⟩ : ∃ N, N = d.length := ⟨_, rfl⟩
      rw [← hN2] at hj mr ⊢
      have dj : decide ((j : Int) < (N : Int)) = true := dT (by omega)
      clear run l2 ld g2 g2i g2n gdn g3 g3m f3 x1 x7 r1 l3 hM hN
      generalize H.length = HL at *
      rw [l41_8, den_loop]
      simp (disch := omega) [l41_8, b41_7, z41_5, gX0, gX1, gX2, gX3, gX4, gX5, gX6, gX7, gX8, gX9, gXa, gXb, gXc, gXd, gXe, gXf, gXg, gXh, gXi, gXj, gXk, gXl, gXm, gXn, gXo, gXp, gXq, gXr, gXs, gXt, gXu, gXv, gXw, gXx, k_mv, gXy, gXz, gX01, gX11, gX21, gX31, gX41, gX51, gX61, gX71, gX81, gX91, gXa1, gXb1, gXc1, gXd1, gXe1, gXf1, gXg1, gXh1, gXi1, gXj1, gXk1, gXl1, gXm1, gXn1, gXo1, gXp1, gXq1, gXr1, gXs1, gXt1, gXu1, k_mn, k_mx, gXv1, gXw1, gXx1, gXy1, gXz1, gX02, gX12, gX22, gX32, gX42, gX52, gX62, gX72, Dn.setLast, Dn.getLast, evalO, mapO, Dn.get, putE, gX82, gX92, gXa2, gXb2, TV.one, TV.isAgg, Dn.part, gXc2, negb, at0, at1, at2, at3, at4, dT, dF, gXd2, Option.bind_some, Option.map_some, dj, q1, q2, rg, mr]
    · rw [x5 R, r3 R, hdr]
      unfold sumF
      rw [List.map_cons, List.sum_cons]
      omega

end Go.Proofs.Try.Dn

