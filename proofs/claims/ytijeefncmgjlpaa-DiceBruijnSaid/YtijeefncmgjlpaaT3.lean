/-
  The sums of dice: all of them, in order.
-/
import Derived.Test.YtijeefncmgjlpaaT1
import Derived.Test.YtijeefncmgjlpaaEl
import Derived.Test.YtijeefncmgjlpaaK3
set_option linter.unusedSimpArgs false
set_option linter.unusedVariables false

set_option maxHeartbeats 1000000
namespace Go.Proofs.Try.Dn
open Go.Dn

theorem wn_range {ls : List (List Int)} (hD : ∀ d ∈ ls, DieL 60 d) {j : Int} (h : wn ls j ≠ 0) : 0 ≤ j ∧ j ≤ 60 * ls.length := by
  have key : ∀ i, i ≤ ls.length → ∀ j, wn (ls.take i) j ≠ 0 → 0 ≤ j ∧ j ≤ 60 * i := by
    intro i
    induction i with
    | zero =>
      intro _ j hj
      rw [List.take_zero] at hj
      have : wn0 j ≠ 0 := hj
      unfold wn0 at this
      split at this
      · omega
      · exact absurd rfl this
    | succ i ih =>
      intro hi j hj
      have e : ls.take (i + 1) = ls.take i ++ [ls[i]] := by rw [List.take_add_one, List.getElem?_eq_getElem (by omega)]; rfl
      rw [e, wn_snoc] at hj
      obtain ⟨f, hf, h0⟩ := wnF_ne.1 hj
      have h1 := ih (by omega) _ h0
      have h2 := (hD ls[i] (List.getElem_mem (by omega))).ok f hf
      omega
  have := key ls.length (Nat.le_refl _) j (by rw [List.take_length]; exact h)
  exact this

def sumsE (ls : List (List Int)) (N : Nat) : List (Int × TV) := (List.range N).filterMap fun (s : Nat) => if wn ls (s : Int) = 0 then none else some ((s : Int), .i .i64 ((wn ls (s : Int) : Nat) : Int))
def sumsN (ls : List (List Int)) (N : Nat) : List (Int × Int) := (List.range N).filterMap fun (s : Nat) => if wn ls (s : Int) = 0 then none else some ((s : Int), ((wn ls (s : Int) : Nat) : Int))
def sumsL (ls : List (List Int)) : List (Int × Int) := sumsN ls 361

theorem sumsE_ent (ls : List (List Int)) (N : Nat) : (sumsE ls N).map entQ = sumsN ls N := by
  unfold sumsE sumsN
  rw [List.map_filterMap]
  congr 1
  funext s
  split <;> simp [entQ, TV.num]

theorem sumsE_cm {ls : List (List Int)} {N : Nat} (h : ∀ j, wn ls j ≠ 0 → 0 ≤ j ∧ j < (N : Int)) : CM (sumsE ls N) (fun k => posO (wn ls k)) := by
  have hr : Rise (sumsE ls N) := by
    unfold Rise sumsE
    rw [List.pairwise_filterMap]
    refine List.pairwise_lt_range.imp fun {a b} hab => ?_
    intro x hx y hy
    split at hx
    · cases hx
    · split at hy
      · cases hy
      · cases hx; cases hy; simp only; omega
  refine ⟨hr, fun k => ?_⟩
  have hm : ∀ v, (k, v) ∈ sumsE ls N ↔ wn ls k ≠ 0 ∧ v = .i .i64 ((wn ls k : Nat) : Int) := by
    intro v
    unfold sumsE
    rw [List.mem_filterMap]
    constructor
    · rintro ⟨s, hs, he⟩
      split at he
      · cases he
      · rename_i h0
        simp only [Option.some.injEq, Prod.mk.injEq] at he
        obtain ⟨rfl, rfl⟩ := he
        exact ⟨h0, rfl⟩
    · rintro ⟨h0, rfl⟩
      have := h k h0
      refine ⟨k.toNat, List.mem_range.2 (by omega), ?_⟩
      rw [show ((k.toNat : Nat) : Int) = k by omega, if_neg h0]
  by_cases h0 : wn ls k = 0
  · unfold posO
    dsimp only
    rw [if_pos h0, Option.map_none]
    cases hl : lookS k (sumsE ls N) with
    | none => rfl
    | some v => exact absurd h0 ((hm v).1 ((lookS_some hr).1 hl)).1
  · unfold posO
    dsimp only
    rw [if_neg h0, Option.map_some]
    exact (lookS_some hr).2 ((hm _).2 ⟨h0, rfl⟩)

theorem sums_of {ls : List (List Int)} (hl : ls.length ≤ 6) (hD : ∀ d ∈ ls, DieL 60 d) {es : List (Int × TV)} (h : CM es fun k => posO (wn ls k)) : es.map entQ = sumsL ls := by
  have h2 := sumsE_cm (ls := ls) (N := 361) fun j hj => by have := wn_range hD hj; omega
  rw [h.uniq h2, sumsE_ent]; rfl

theorem hQ_set {K : Heap} {l : List (Int × Int)} {i : Nat} (hi : i < K.length) (o : AObj) : (hQ K l).set i o = hQ (K.set i o) l := by
  unfold hQ
  split
  · rfl
  · rw [List.append_assoc, List.set_append_left _ _ hi, List.append_assoc]

theorem cmpQ_lt {x y : Int × Int} (h : x.1 < y.1) : cmpQ x y < 0 := by
  unfold cmpQ cmpL
  have := (cmpI_lt x.1 y.1).2 h
  rw [if_pos (by omega)]; exact this

theorem cmpQ_eq {x y : Int × Int} (h : cmpQ x y = 0) : x = y := by
  have := (cmpL_eq _ _).1 h
  simp only [List.cons.injEq, and_true] at this
  exact Prod.ext_iff.2 this

theorem body70 {pg : Pg} (hF : Free pg) (hQ96 : pg.Q 96 = some 2) {T : TV} {ls : List (List Int)} (hT : SSV T ls) (hl : ls.length ≤ 6) (hD : ∀ d ∈ ls, DieL 60 d) :
    ∃ K, bodyRun pg (den pg) 70 [T] [] = some (oQ K.length (sumsL ls), hQ K (sumsL ls)) ∧ sumsL ls ≠ [] := by
  obtain ⟨mid, H1, es, r1, r2, r3, r4, -, -⟩ := body58 hF hl hD [] (Rd.ssv hT _ _)
  have hmid := (List.getElem?_eq_some_iff.1 r2).1
  have hes := sums_of hl hD r3
  have r1' : callRun pg (den pg) .sh [.fn 58 [] [], T] [] = some (.mp mid, H1) := r1
  have rg : dkc pg (den pg) .rngS [.mp mid] H1 = some (.ref H1.length 0, H1 ++ [.iter mid es.length]) := by rw [k_rngS, r2]; rfl
  have hpos : es ≠ [] := by
    intro e
    rw [e] at r4
    have : 1 ≤ lenP ls := by
      unfold lenP
      have key : ∀ (m : List (List Int)) (n : Nat), 1 ≤ n → (∀ d ∈ m, DieL 60 d) → 1 ≤ m.foldl (fun n d => n * d.length) n := by
        intro m
        induction m with
        | nil => intro n hn _; exact hn
        | cons d m ih =>
          intro n hn hd
          rw [List.foldl_cons]
          exact ih _ (Nat.mul_le_mul hn (hd d (List.mem_cons_self ..)).pos) fun x hx => hd x (List.mem_cons_of_mem _ hx)
      exact key ls 1 (by omega) hD
    have h0 : mass [] = 0 := rfl
    omega
  have hne : sumsL ls ≠ [] := by rw [← hes]; simpa using hpos
  obtain ⟨Kd, hKd⟩ : ∃ Kd, Kd = (H1 ++ [AObj.iter mid es.length]).set H1.length .dead := ⟨_, rfl⟩
  have e1 : Kd = H1 ++ [.dead] := by rw [hKd]; simp
  have lK : Kd.length = H1.length + 1 := by rw [e1]; simp
  have hrev : (Kd.set mid .dead).set mid (.mapS es es.length) = Kd := by
    rw [List.set_set]
    apply set_same
    rw [e1, List.getElem?_append_left hmid]; exact r2
  have hmass : es.length ≤ 1000000 := by
    have hN : (sumsL ls).length ≤ 361 := by
      unfold sumsL sumsN
      exact Nat.le_trans (List.length_filterMap_le _ _) (by simp)
    have : es.length = (sumsL ls).length := by rw [← hes]; simp
    omega
  have hrun : go pg (den pg) [.c c70] .normal [(0, T)] [] = some ⟨.ret, [(2, oQ Kd.length (sumsL ls))], hQ Kd (sumsL ls)⟩ := by
    have s0 : go pg (den pg) [.c c70] .normal [(0, T)] [] = go pg (den pg) [.c l70_2] .normal [(3, .nilsl), (8, .ref H1.length 0)] (H1 ++ [.iter mid es.length]) := by
      clear hKd e1 lK hrev
      simp (disch := omega) [c70, go_seqr, gX0, gX1, gX2, gX3, gX4, gX5, gX6, gX7, gX8, gX9, gXa, gXb, gXc, gXd, gXe, gXf, gXg, gXh, gXi, gXj, gXk, gXl, gXm, gXn, gXo, gXp, gXq, gXr, gXs, gXt, gXu, gXv, gXw, gXx, k_mv, gXy, gXz, gX01, gX11, gX21, gX31, gX41, gX51, gX61, gX71, gX81, gX91, gXa1, gXb1, gXc1, gXd1, gXe1, gXf1, gXg1, gXh1, gXi1, gXj1, gXk1, gXl1, gXm1, gXn1, gXo1, gXp1, gXq1, gXr1, gXs1, gXt1, gXu1, k_mn, k_mx, gXv1, gXw1, gXx1, gXy1, gXz1, gX02, gX12, gX22, gX32, gX42, gX52, gX62, gX72, Dn.setLast, Dn.getLast, evalO, mapO, Dn.get, putE, gX82, gX92, gXa2, gXb2, TV.one, TV.isAgg, Dn.part, gXc2, negb, at0, at1, at2, at3, at4, dT, dF, gXd2, Option.bind_some, Option.map_some, r1', rg]
    rw [s0]
    unfold l70_2
    rw [go_mrangeZ (id := H1.length) (mid := mid) (ck := es.length) (es := es) (o := ⟨.ret, [(2, oQ Kd.length (sumsL ls))], hQ Kd (sumsL ls)⟩) rfl (getLast _ _) (by rw [List.getElem?_append_left hmid]; exact r2) fun p hp => ?_]
    · rfl
    refine ⟨[(3, oQ Kd.length (p.map entQ)), (8, .ref H1.length 0)], hQ (Kd.set mid .dead) (p.map entQ), ?_, ?_⟩
    · have := mf70 (pg := pg) (it := H1.length) (K := Kd.set mid .dead) p (fun q hq => by obtain ⟨n, _, h2⟩ := cm_ent r3 (hp.mem_iff.1 hq); exact ⟨n, h2⟩) [] (by rw [hp.length_eq]; simpa using hmass)
      rw [List.nil_append, List.length_set] at this
      rw [← hKd]
      exact this
    · rw [hQ_set (by rw [List.length_set]; omega), hrev]
      have hpn : p.map entQ ≠ [] := by
        intro e
        have : p = [] := by simpa using e
        rw [this] at hp
        exact hpos hp.symm.eq_nil
      obtain ⟨m, hm⟩ : ∃ m, m = p.map entQ := ⟨_, rfl⟩
      rw [← hm] at hpn ⊢
      have hml : 0 < m.length := List.length_pos_iff.2 hpn
      have et : oQ Kd.length m = .sl (Kd.length + m.length - 1) 0 2 true m.length none := by unfold oQ; rw [if_neg hpn]
      have eh : hQ Kd m = Kd ++ List.replicate (m.length - 1) .dead ++ [.cells (elQ.flat m) false] := by unfold hQ; rw [if_neg hpn]
      have ei : Kd.length + m.length - 1 = (Kd ++ List.replicate (m.length - 1) AObj.dead).length := by simp; omega
      have hcell : (hQ Kd m)[Kd.length + m.length - 1]? = some (.cells (elQ.flat m) false) := by rw [eh, ei]; exact getLast _ _
      have hown : elQ.Own (hQ Kd m) (oQ Kd.length m) m := .inr ⟨hpn, _, false, _, et, hcell, by rw [elQ.flat_len]; exact Nat.le_refl _, by rw [← elQ.flat_len, List.take_length]⟩
      obtain ⟨l', H', q1, q2, q3, q4, q5, q6, q7⟩ := sort_own (E := elQ) rfl (pg := pg) (f := 96) (g := 97) (cs := []) hQ96 hown ordQ (fun H0 x y _ _ _ => cmpQ_run hF H0 x y) (by
        have : m.length = es.length := by rw [hm, List.length_map, hp.length_eq]
        omega)
      have q8 := q7 _ _ _ _ _ _ et hcell
      have hl' : l' = sumsL ls := by
        have hperm : l'.Perm (sumsL ls) := q3.trans (by rw [hm, ← hes]; exact hp.map _)
        refine hperm.eq_of_pairwise (le := fun x y => ¬ cmpQ y x < 0) (fun a b _ _ h1 h2 => ?_) q4 ?_
        · have := cmpL_rev [a.1, a.2] [b.1, b.2]
          exact cmpQ_eq (by unfold cmpQ at *; omega)
        · rw [← hes, List.pairwise_map]
          refine r3.1.imp fun {a b} hab => ?_
          have h1 : cmpQ (entQ a) (entQ b) < 0 := cmpQ_lt hab
          have := cmpL_rev [(entQ a).1, (entQ a).2] [(entQ b).1, (entQ b).2]
          unfold cmpQ at *; omega
      have hlen : l'.length = m.length := q3.length_eq
      have hH' : H' = hQ Kd (sumsL ls) := by
        rw [q8, eh, ei, Dn.setLast]
        have hfl : put2 (elQ.flat m) 0 (elQ.flat l') = elQ.flat l' := by
          unfold put2
          rw [List.take_zero, List.nil_append, Nat.zero_add, List.drop_of_length_le (by rw [elQ.flat_len, elQ.flat_len, hlen]; exact Nat.le_refl _), List.append_nil]
        rw [hfl, hl']
        unfold hQ
        rw [if_neg hne, ← hl', hlen]
      have hO : oQ Kd.length m = oQ Kd.length (sumsL ls) := by
        rw [et]; unfold oQ; rw [if_neg hne, ← hl', hlen]
      rw [hH', hO] at q1
      rw [hO]
      clear q2 q3 q4 q5 q6 q7 q8 hcell hown eh ei et
      generalize oQ Kd.length (sumsL ls) = O at *
      generalize hQ Kd (sumsL ls) = H9 at *
      generalize hQ Kd m = H8 at *
      simp (disch := omega) [z70_1, gX0, gX1, gX2, gX3, gX4, gX5, gX6, gX7, gX8, gX9, gXa, gXb, gXc, gXd, gXe, gXf, gXg, gXh, gXi, gXj, gXk, gXl, gXm, gXn, gXo, gXp, gXq, gXr, gXs, gXt, gXu, gXv, gXw, gXx, k_mv, gXy, gXz, gX01, gX11, gX21, gX31, gX41, gX51, gX61, gX71, gX81, gX91, gXa1, gXb1, gXc1, gXd1, gXe1, gXf1, gXg1, gXh1, gXi1, gXj1, gXk1, gXl1, gXm1, gXn1, gXo1, gXp1, gXq1, gXr1, gXs1, gXt1, gXu1, k_mn, k_mx, gXv1, gXw1, gXx1, gXy1, gXz1, gX02, gX12, gX22, gX32, gX42, gX52, gX62, gX72, Dn.setLast, Dn.getLast, evalO, mapO, Dn.get, putE, gX82, gX92, gXa2, gXb2, TV.one, TV.isAgg, Dn.part, gXc2, negb, at0, at1, at2, at3, at4, dT, dF, gXd2, Option.bind_some, Option.map_some, q1]
  exact ⟨Kd, body_of (x := .ret) (e := [(2, oQ Kd.length (sumsL ls))]) (d := d70) (by rw [hF.F]; rfl) rfl hrun (.inl rfl) rfl, hne⟩

theorem own_Q {K : Heap} {l : List (Int × Int)} (hne : l ≠ []) : elQ.Own (hQ K l) (oQ K.length l) l := by
  have hml : 0 < l.length := List.length_pos_iff.2 hne
  have ei : K.length + l.length - 1 = (K ++ List.replicate (l.length - 1) AObj.dead).length := by simp; omega
  exact .inr ⟨hne, _, false, elQ.flat l, by unfold oQ; rw [if_neg hne]; rfl, by unfold hQ; rw [if_neg hne, ei]; exact getLast _ _, by rw [elQ.flat_len]; exact Nat.le_refl _, by rw [← elQ.flat_len, List.take_length]⟩

theorem body43 {pg : Pg} (hF : Free pg) (hQ96 : pg.Q 96 = some 2) {T : TV} {ls : List (List Int)} (hT : SSV T ls) (h0 : chkD ls = 0) : ∃ K, bodyRun pg (den pg) 43 [T] [] = some (.tup [oQ K.length (sumsL ls), .i .i64 0], hQ K (sumsL ls)) ∧ elQ.Own (hQ K (sumsL ls)) (oQ K.length (sumsL ls)) (sumsL ls) := by
  have hr := row_chk h0
  have hl := hr.le
  have c55 := call55 (pg := pg) hF hT (by omega) (fun x hx => by have := (hr.all x hx).le; omega) []
  rw [h0] at c55
  obtain ⟨K, q1, hne⟩ := body70 (pg := pg) hF hQ96 hT hl hr.all
  refine ⟨K, body_ofs (vs := [oQ K.length (sumsL ls), .i .i64 0]) (x := .ret) (e := [(2, oQ K.length (sumsL ls)), (3, .i .i64 0)]) (d := d43) (by rw [hF.F]; rfl) rfl ?_ (.inl rfl) rfl, own_Q hne⟩
  generalize oQ K.length (sumsL ls) = O at *
  generalize hQ K (sumsL ls) = H' at *
  simp (disch := omega) [d43, c43, zipE, gX0, gX1, gX2, gX3, gX4, gX5, gX6, gX7, gX8, gX9, gXa, gXb, gXc, gXd, gXe, gXf, gXg, gXh, gXi, gXj, gXk, gXl, gXm, gXn, gXo, gXp, gXq, gXr, gXs, gXt, gXu, gXv, gXw, gXx, k_mv, gXy, gXz, gX01, gX11, gX21, gX31, gX41, gX51, gX61, gX71, gX81, gX91, gXa1, gXb1, gXc1, gXd1, gXe1, gXf1, gXg1, gXh1, gXi1, gXj1, gXk1, gXl1, gXm1, gXn1, gXo1, gXp1, gXq1, gXr1, gXs1, gXt1, gXu1, k_mn, k_mx, gXv1, gXw1, gXx1, gXy1, gXz1, gX02, gX12, gX22, gX32, gX42, gX52, gX62, gX72, Dn.setLast, Dn.getLast, evalO, mapO, Dn.get, putE, gX82, gX92, gXa2, gXb2, TV.one, TV.isAgg, Dn.part, gXc2, negb, at0, at1, at2, at3, at4, dT, dF, gXd2, Option.bind_some, Option.map_some, c55, sh_fn, q1]

theorem fn43 {pg : Pg} (hF : Free pg) (hQ96 : pg.Q 96 = some 2) {T : TV} {ls : List (List Int)} (hT : SSV T ls) (h0 : chkD ls = 0) : PFn pg 43 [T] (.tup [elQ.lt false (sumsL ls), .i .i64 0]) := by
  obtain ⟨K, q1, q2⟩ := body43 (pg := pg) hF hQ96 hT h0
  refine .inr ⟨hF.S _ _, _, _, q1, ?_⟩
  rw [gXn2]
  simp [mapO, q2.fin8 elQ_flat, gXf2]

end Go.Proofs.Try.Dn

/-
  The reference's ways of all sums.
-/

set_option maxHeartbeats 1000000
namespace Go.Proofs.Try.Dn
open Go.Dn

end Go.Proofs.Try.Dn

