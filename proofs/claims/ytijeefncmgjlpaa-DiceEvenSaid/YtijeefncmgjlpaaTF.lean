/-
  The reference's twins; the laws of twins run.
-/
import Derived.Test.YtijeefncmgjlpaaTE
set_option linter.unusedSimpArgs false
set_option linter.unusedVariables false

set_option maxHeartbeats 4000000
set_option maxRecDepth 100000
namespace Go.Proofs.Try.Dn
open Go.Dn

theorem one_RowS (H : Heap) (v : Int) : RowS (H ++ [.cells [.i .i64 v] false]) (.sl H.length 0 1 false 1 (some 1)) [v] := ⟨by simp, one_view H v, ⟨_, rfl⟩⟩

theorem die_one {c : Int} (hc : 0 ≤ c ∧ c ≤ 60) : DieL 60 [c] := { le := by simp, ok := fun x hx => by rw [List.mem_singleton.1 hx]; exact hc, srt := by simp, pos := by simp }

theorem fn59 {pg : Pg} (hF : Free pg) {n m : Nat} {c d : Int} {G : Nat → Nat} {M : Nat} (hn : 1 ≤ n ∧ n ≤ 8) (hm : 1 ≤ m ∧ m ≤ 8) (hM : M ≤ 1000) (hc : 0 ≤ c ∧ c ≤ 60) (hd : 0 ≤ d ∧ d ≤ 60) {g0 : Int → Option Nat} (h0 : ∀ j, (g0 j).getD 0 = wtI G M j) (h1 : (g0 (c + d)).getD 0 ≠ 0) :
    PFn pg 59 [.i .i64 (n : Int), .i .i64 (m : Int), .i .i64 c, .i .i64 d, elI.lt true (gL G M)] (LPv (canP (pairsP n m c d g0))) := by
  have hg : Lf G M [c] [d] (subM g0 (c + d)) := fun j => by
    have hw : wn [[c], [d]] j = if c + d = j then 1 else 0 := by
      show ([d].map fun f => ([c].map fun e => wn0 (j - f - e)).sum).sum = _
      simp only [List.map_cons, List.map_nil, List.sum_cons, List.sum_nil, Nat.add_zero]
      unfold wn0
      by_cases h : c + d = j
      · rw [if_pos (by omega), if_pos h]
      · rw [if_neg (by omega), if_neg h]
    have h2 := h0 j
    rw [subM_getD, hw]
    by_cases h : c + d = j
    · subst h
      rw [if_pos rfl]; omega
    · rw [if_neg h]; omega
  obtain ⟨H1, hH1⟩ : ∃ H1, H1 = ([] : Heap) ++ [AObj.cells [.i .i64 c] false] := ⟨_, rfl⟩
  obtain ⟨H2, hH2⟩ : ∃ H2, H2 = H1 ++ [AObj.cells [.i .i64 d] false] := ⟨_, rfl⟩
  have r1 : RowS H1 (.sl 0 0 1 false 1 (some 1)) [c] := by rw [hH1]; exact one_RowS [] c
  have l1 : H1.length = 1 := by rw [hH1]; rfl
  have r2 : RowS H2 (.sl 1 0 1 false 1 (some 1)) [d] := by have := one_RowS H1 d; rw [l1] at this; rw [hH2]; exact this
  have r1' := r1.mono (H' := H2) fun j hj => by rw [hH2, List.getElem?_append_left hj]
  have b1 : dkc pg (den pg) (.bsl false [.i .i64 0] false 1 [0]) [.i .i64 c] [] = some (.sl 0 0 1 false 1 (some 1), H1) := by rw [hH1]; rfl
  have b2 : dkc pg (den pg) (.bsl false [.i .i64 0] false 1 [0]) [.i .i64 d] H1 = some (.sl 1 0 1 false 1 (some 1), H2) := by rw [hH2, hH1]; rfl
  obtain ⟨O', H', q1, q2, -, -⟩ := (body89 (pg := pg) (n := n) (m := m) (c := c) (d := d) (G := G) (M := M) hF hn.2 hm.2 hM 1001 [c] [d] (.sl 0 0 1 false 1 (some 1)) (.sl 1 0 1 false 1 (some 1)) .nilsl [] H2 r1' r2 (die_one hc) (die_one hd) rfl rfl hn.1 hm.1 (PIn.nil H2) (fun p hp => by simp at hp) (by
    simp only [List.length_nil, List.length_singleton, Nat.zero_add]
    have : 2 ^ ((n - 1) + (m - 1)) ≤ 2 ^ 14 := Nat.pow_le_pow_right (by decide) (by omega)
    omega) (by simp only [List.length_singleton]; omega)).1 _ hg
  refine .inr ⟨hF.S _ _, O', H', body_of (x := .ret) (e := [(10, O')]) (d := d59) (by rw [hF.F]; rfl) rfl ?_ (.inl rfl) rfl, q2.fin⟩
  clear hH1 hH2 r1 r2 r1' q2 hg l1
  generalize elI.lt true (gL G M) = W at *
  generalize TV.sl 0 0 1 false 1 (some 1) = A at *
  generalize TV.sl 1 0 1 false 1 (some 1) = B at *
  simp (maxSteps := 1000000) (disch := omega) [d59, c59, zipE, gX0, gX1, gX2, gX3, gX4, gX5, gX6, gX7, gX8, gX9, gXa, gXb, gXc, gXd, gXe, gXf, gXg, gXh, gXi, gXj, gXk, gXl, gXm, gXn, gXo, gXp, gXq, gXr, gXs, gXt, gXu, gXv, gXw, gXx, k_mv, gXy, gXz, gX01, gX11, gX21, gX31, gX41, gX51, gX61, gX71, gX81, gX91, gXa1, gXb1, gXc1, gXd1, gXe1, gXf1, gXg1, gXh1, gXi1, gXj1, gXk1, gXl1, gXm1, gXn1, gXo1, gXp1, gXq1, gXr1, gXs1, gXt1, gXu1, k_mn, k_mx, gXv1, gXw1, gXx1, gXy1, gXz1, gX02, gX12, gX22, gX32, gX42, gX52, gX62, gX72, Dn.setLast, Dn.getLast, evalO, mapO, Dn.get, putE, gX82, gX92, gXa2, gXb2, TV.one, TV.isAgg, Dn.part, gXc2, negb, at0, at1, at2, at3, at4, dT, dF, gXd2, Option.bind_some, Option.map_some, b1, b2, sh_fn, q1, -gXx1]

theorem canP_short {n m : Nat} {c d : Int} {k : Nat} {a b : List Int} {g : Int → Option Nat} (hn : n ≤ 8) (hm : m ≤ 8) (ha : a.length ≤ n) (hb : b.length ≤ m) : Short (canP (growP n m c d k a b g)) ∧ (canP (growP n m c d k a b g)).length ≤ 1000000 := by
  constructor
  · intro p hp
    have := (Szs.fold (o := []) (fun p hp => by simp at hp) (growP_sz n m c d k a b g ha hb)) p hp
    omega
  · have h1 := foldP_len (growP n m c d k a b g) []
    have h2 := growP_len n m c d k a b g ha hb
    have h3 : 2 ^ ((n - a.length) + (m - b.length)) ≤ 2 ^ 16 := Nat.pow_le_pow_right (by decide) (by omega)
    unfold canP
    simp only [List.length_nil, Nat.zero_add] at h1
    omega

theorem call21 {pg : Pg} (hF : Free pg) (a b : List PL) (ha : a.length ≤ 1000000) (hb : b.length ≤ 1000000) (sa : Short a) (sb : Short b) (H : Heap) : callRun pg (den pg) (.pu []) [.fn 21 [] [], LPv a, LPv b] H = some (.b (decide (a = b)), H) := by
  have s : ∀ x : List PL, snap .borrow H 9 (LPv x) = some ((elS true).lt true x) := fun x => snap_pairs false false H 5 x
  exact PFn.call (fn21 hF a b ha hb sa sb) (args := [LPv a, LPv b]) (ks := []) (fs := []) (cs := []) (by simp [snapArgs, s])

end Go.Proofs.Try.Dn

