/-
  Shares and rings; sets without a ring, in plain terms.
-/
import Derived.Test.YtgmlmmgpcbollaaDoorQo
set_option linter.unusedSimpArgs false
set_option linter.unusedVariables false

namespace Go.Proofs.Tryd.Dn
open Go.Dn

theorem Rch.head {E : Nat → Nat → Bool} {a c : Nat} (h : Rch E a c) (hne : a ≠ c) : ∃ b, E a b = true ∧ Rch E b c := by
  induction h with
  | here => exact absurd rfl hne
  | @step x y hx he ih =>
    by_cases hax : a = x
    · subst hax; exact ⟨y, he, .here⟩
    · obtain ⟨b, h1, h2⟩ := ih hax
      exact ⟨b, h1, .step h2 he⟩

/-- strictly preferred by a share -/
theorem pref_two {X : List Obs} {g : Nat} (hm : Market X g) {i k : Nat} (hi : i < X.length) (hk : k < X.length) (t : Frc) : pref X t.1 t.2 i k = 2 ↔ ¬ fle t (qF X i k) := by
  obtain ⟨e1, _, _⟩ := hm.cN hi hk
  obtain ⟨e2, _, _⟩ := hm.cN hi hi
  unfold pref fle qF
  rw [e1, e2]
  have key : ((t.2 : Int) * (cN X i k : Int) < (t.1 : Int) * (cN X i i : Int)) ↔ ¬ t.1 * cN X i i ≤ cN X i k * t.2 := by
    rw [Nat.mul_comm (cN X i k)]
    constructor
    · intro h h2
      have : t.2 * cN X i k < t.1 * cN X i i := by exact_mod_cast h
      omega
    · intro h
      have : t.2 * cN X i k < t.1 * cN X i i := by omega
      exact_mod_cast this
  rw [← key]
  split
  · rename_i h; simp [h]
  · rename_i h
    split
    · simp [h]
    · simp [h]

theorem flt_le_trans {x t u : Frc} (hu : 0 < u.2) (h1 : fle x t) (h2 : ¬ fle u t) (hx : 0 < x.2) : ¬ fle u x := fun h => h2 (fle_trans hx h h1)

/-- rounds by a share below 1 are rings by a greater share -/
theorem cyc_pair {X : List Obs} {g : Nat} (hm : Market X g) {t u : Frc} (ht : ¬ fle (1, 1) t) (hu2 : 1 ≤ u.2) (htu : ¬ fle u t) (ht2 : 1 ≤ t.2) (h : Cyc (fT X.length (qF X) t) X.length) : ∃ i k, PairT X.length (pref X u.1 u.2) i k := by
  obtain ⟨i, k, hi, hk, hne, r1, r2⟩ := h
  obtain ⟨b, e1, r3⟩ := r1.head hne
  obtain ⟨_, hb, hle⟩ := fT_iff.1 e1
  have hib : i ≠ b := by
    rintro rfl
    have hq := (qF_pos hm i i hi hi).2
    have : fle (1, 1) (qF X i i) := by
      unfold fle; rw [qF_one X i]; show 1 * _ ≤ _ * 1; omega
    exact ht (fle_trans hq this hle)
  have htu' : fle t u := (fle_total t u).resolve_right htu
  refine ⟨i, b, hi, hb, hib, ?_, ?_⟩
  · rw [pref_two hm hi hb]
    exact flt_le_trans hu2 hle htu (qF_pos hm i b hi hb).2
  · rw [tE_fT hm u, wall_iff fun i k h => (fT_iff.1 h).2.1]
    exact (Rch_mono (fT_mono (qF_pos hm) (by omega : 0 < t.2) htu') (r3.trans r2)).rch1 (Ne.symm hib)

theorem pair_cyc {X : List Obs} {g : Nat} (hm : Market X g) {u : Frc} (hu2 : 1 ≤ u.2) {i k : Nat} (h : PairT X.length (pref X u.1 u.2) i k) : Cyc (fT X.length (qF X) u) X.length := by
  obtain ⟨hi, hk, hne, hp, hw⟩ := h
  rw [tE_fT hm u, wall_iff fun i k h => (fT_iff.1 h).2.1] at hw
  have hle := (fle_total u (qF X i k)).resolve_left ((pref_two hm hi hk u).1 hp)
  exact ⟨i, k, hi, hk, hne, .step .here (fT_iff.2 ⟨hi, hk, hle⟩), hw.rch⟩

theorem share_le_one {n : Nat} {Q : Nat → Nat → Frc} {s : Frc} (h : IsShare n Q s) : s.1 ≤ s.2 := by
  have := (h.le (1, 1) (Nat.le_refl _)).2 (.inl (fle_refl _))
  unfold fle at this
  simp only [Nat.mul_one, Nat.one_mul] at this
  exact this

theorem share_no_ring {X : List Obs} {g : Nat} (hm : Market X g) {s : Frc} (h : IsShare X.length (qF X) s) (hno : ¬ ∃ i k, PairT X.length (pref X 1 1) i k) : s.1 = s.2 := by
  have h1 := share_le_one h
  apply Classical.byContradiction
  intro hne
  have ht : ¬ fle (1, 1) s := by
    unfold fle; simp only [Nat.mul_one, Nat.one_mul]; omega
  have hc := ((h.le s h.pos.2).1 (fle_refl s)).resolve_left ht
  exact hno (cyc_pair hm ht (u := (1, 1)) (Nat.le_refl _) ht h.pos.2 hc)

theorem share_below {X : List Obs} {g : Nat} (hm : Market X g) {s : Frc} (h : IsShare X.length (qF X) s) : ¬ ∃ i k, PairT X.length (pref X ((s.1 : Int) - 1) s.2) i k := by
  rintro ⟨i, k, hp⟩
  have hp' : PairT X.length (pref X ((s.1 - 1 : Nat) : Int) ((s.2 : Nat) : Int)) i k := by
    have := h.pos.1
    rw [show ((s.1 - 1 : Nat) : Int) = (s.1 : Int) - 1 by omega]; exact hp
  have hc := pair_cyc hm (u := (s.1 - 1, s.2)) h.pos.2 hp'
  have := (h.le (s.1 - 1, s.2) h.pos.2).2 (.inr hc)
  unfold fle at this
  have h2 := Nat.le_of_mul_le_mul_right this (by have := h.pos.2; omega : 0 < s.2)
  have := h.pos.1
  omega

theorem share_above {X : List Obs} {g : Nat} (hm : Market X g) {s : Frc} (h : IsShare X.length (qF X) s) (hlt : s.1 < s.2) : ∃ i k, PairT X.length (pref X ((s.1 : Int) + 1) s.2) i k := by
  have ht : ¬ fle (1, 1) s := by
    unfold fle; simp only [Nat.mul_one, Nat.one_mul]; omega
  have hc := ((h.le s h.pos.2).1 (fle_refl s)).resolve_left ht
  have hu : ¬ fle (s.1 + 1, s.2) s := by
    unfold fle
    intro hh
    have h2 := Nat.le_of_mul_le_mul_right hh (by have := h.pos.2; omega : 0 < s.2)
    omega
  have := cyc_pair hm ht (u := (s.1 + 1, s.2)) h.pos.2 hu h.pos.2 hc
  simpa using this

/-! sets -/

theorem mask (P : Nat → Bool) : ∀ n, ∃ s, s < 2 ^ n ∧ ∀ x, x < n → s.testBit x = P x
  | 0 => ⟨0, by simp, fun x hx => by omega⟩
  | n + 1 => by
    obtain ⟨s, h1, h2⟩ := mask P n
    cases hp : P n with
    | false =>
      refine ⟨s, by rw [Nat.pow_succ]; omega, fun x hx => ?_⟩
      by_cases he : x = n
      · subst he; rw [Nat.testBit_lt_two_pow h1, hp]
      · exact h2 x (by omega)
    | true =>
      refine ⟨2 ^ n + s, by rw [Nat.pow_succ]; omega, fun x hx => ?_⟩
      by_cases he : x = n
      · subst he; rw [Nat.testBit_two_pow_add_eq, Nat.testBit_lt_two_pow h1, hp]; rfl
      · rw [Nat.testBit_two_pow_add_gt (by omega)]; exact h2 x (by omega)

theorem sub_length : ∀ {a b : List Nat}, a.Nodup → (∀ x ∈ a, x ∈ b) → a.length ≤ b.length
  | [], b, _, _ => Nat.zero_le _
  | x :: a, b, h, hs => by
    rw [List.nodup_cons] at h
    have hx := hs x (by simp)
    have := sub_length (a := a) (b := b.erase x) h.2 fun y hy => by
      have hne : y ≠ x := by rintro rfl; exact h.1 hy
      exact (List.mem_erase_of_ne hne).2 (hs y (by simp [hy]))
    rw [List.length_erase_of_mem hx] at this
    have : 0 < b.length := List.length_pos_of_mem hx
    simp only [List.length_cons]
    omega

theorem bits_sorted (s : Nat) : (bitsOf s).Pairwise (· < ·) := List.Pairwise.filter _ List.pairwise_lt_range

theorem ring_full {X : List Obs} : ringS X (2 ^ X.length - 1) ↔ ∃ i k, PairT X.length (pref X 1 1) i k := by
  constructor
  · rintro ⟨i, k, h⟩; exact ⟨i, k, pair_iff.1 h⟩
  · rintro ⟨i, k, h⟩; exact ⟨i, k, pair_iff.2 h⟩

/-- what the search for most yields -/
structure MInv (X : List Obs) (N : Nat) (m : List Nat) : Prop where
  is : m = [] ∨ ∃ t, 1 ≤ t ∧ t ≤ N ∧ m = bitsOf t ∧ ¬ ringS X t
  most : ∀ t, 1 ≤ t → t ≤ N → ¬ ringS X t → (bitsOf t).length ≤ m.length

theorem mostN_inv (X : List Obs) : ∀ N, MInv X N (mostN X N)
  | 0 => ⟨.inl rfl, fun t h1 h2 => by omega⟩
  | N + 1 => by
    have ih := mostN_inv X N
    show MInv X (N + 1) (stepM X (N + 1) (mostN X N))
    have keep : (mostN X N = [] ∨ ∃ t, 1 ≤ t ∧ t ≤ N + 1 ∧ mostN X N = bitsOf t ∧ ¬ ringS X t) := by
      rcases ih.is with h | ⟨t, h1, h2, h3, h4⟩
      · exact .inl h
      · exact .inr ⟨t, h1, by omega, h3, h4⟩
    unfold stepM
    split
    · rename_i h
      refine ⟨keep, fun t h1 h2 h3 => ?_⟩
      by_cases he : t = N + 1
      · subst he
        exact Nat.le_of_lt (h.resolve_right h3)
      · exact ih.most t h1 (by omega) h3
    · rename_i h
      have hr : ¬ ringS X (N + 1) := fun hr => h (.inr hr)
      have hl : (mostN X N).length ≤ (bitsOf (N + 1)).length := Nat.le_of_not_lt fun hh => h (.inl hh)
      split
      · refine ⟨.inr ⟨N + 1, by omega, Nat.le_refl _, rfl, hr⟩, fun t h1 h2 h3 => ?_⟩
        by_cases he : t = N + 1
        · subst he; exact Nat.le_refl _
        · exact Nat.le_trans (ih.most t h1 (by omega) h3) hl
      · rename_i h'
        have hl' : (bitsOf (N + 1)).length ≤ (mostN X N).length := Nat.le_of_not_lt fun hh => h' (.inl hh)
        refine ⟨keep, fun t h1 h2 h3 => ?_⟩
        by_cases he : t = N + 1
        · subst he; exact hl'
        · exact ih.most t h1 (by omega) h3

theorem ring_one {X : List Obs} : ¬ ringS X 1 := by
  rintro ⟨i, k, hne, _, _, bi, bk, _⟩
  have h1 : ∀ x, Nat.testBit 1 x = true → x = 0 := by
    intro x hx
    apply Classical.byContradiction
    intro h
    rw [Nat.testBit_lt_two_pow (by have : 2 ^ 1 ≤ 2 ^ x := Nat.pow_le_pow_right (by decide) (by omega); omega)] at hx
    cases hx
  exact hne ((h1 i bi).trans (h1 k bk).symm)

theorem full_bits : ((List.range 6).all fun n => (List.range (2 ^ n)).all fun t => (bitsOf t).length != n || t == 2 ^ n - 1) = true := by decide
theorem full_len : ((List.range 6).all fun n => (bitsOf (2 ^ n - 1)).length == n) = true := by decide

/-- the facts about most that the law asks for -/
structure Mst (X : List Obs) (m : List Nat) : Prop where
  ne : 1 ≤ m.length
  le : m.length ≤ X.length
  full : m.length = X.length ↔ ¬ ∃ i k, PairT X.length (pref X 1 1) i k
  lt : ∀ x ∈ m, x < X.length
  sorted : m.Pairwise (· < ·)
  nodup : m.Nodup
  free : ¬ ∃ i k, PairT (sub X m).length (pref (sub X m) 1 1) i k
  more : ∀ i, i < X.length → i ∉ m → ∃ a b, PairT (sub X (m ++ [i])).length (pref (sub X (m ++ [i])) 1 1) a b

theorem mst {X : List Obs} {g : Nat} (hm : Market X g) : Mst X (mostN X (2 ^ X.length - 1)) := by
  have hn5 := hm.n5
  have hn1 := hm.n1
  obtain ⟨p1, p2⟩ := pow5 hn5
  have p3 : 2 ≤ 2 ^ X.length := by have : 2 ^ 1 ≤ 2 ^ X.length := Nat.pow_le_pow_right (by decide) hn1; omega
  have inv := mostN_inv X (2 ^ X.length - 1)
  generalize mostN X (2 ^ X.length - 1) = m at *
  have h1 := inv.most 1 (by omega) (by omega) ring_one
  have hb1 : (bitsOf 1).length = 1 := by decide
  rw [hb1] at h1
  rcases inv.is with h0 | ⟨t, t1, t2, rfl, t4⟩
  · rw [h0] at h1; simp at h1
  have hset := bits_set hn5 (s := t) (by omega)
  have hle : (bitsOf t).length ≤ X.length := nodup_len _ _ hset.nodup hset.lt
  have pairs : ∀ {l : List Nat} {s : Nat}, IsSet X l s → ((∃ i k, PairT (sub X l).length (pref (sub X l) 1 1) i k) ↔ ringS X s) := by
    intro l s h
    rw [show ringS X s = ∃ i k, Pair X s 1 1 i k from rfl, ← sub_ring h]
    constructor
    · rintro ⟨i, k, h⟩; exact ⟨i, k, pair_iff.2 h⟩
    · rintro ⟨i, k, h⟩; exact ⟨i, k, pair_iff.1 h⟩
  refine ⟨h1, hle, ⟨fun hh => ?_, fun hh => ?_⟩, hset.lt, bits_sorted t, hset.nodup, ?_, fun i hi hni => ?_⟩
  · have hall := List.all_eq_true.1 (List.all_eq_true.1 full_bits X.length (List.mem_range.2 (by omega))) t (List.mem_range.2 (by omega))
    rw [hh] at hall
    simp at hall
    rw [hall] at t4
    rwa [ring_full] at t4
  · rw [← ring_full] at hh
    have h2 := inv.most (2 ^ X.length - 1) (by omega) (Nat.le_refl _) hh
    have hall := List.all_eq_true.1 full_len X.length (List.mem_range.2 (by omega))
    simp only [beq_iff_eq] at hall
    omega
  · rw [pairs hset]; exact t4
  · obtain ⟨s, s1, s2⟩ := mask (fun x => decide (x ∈ bitsOf t ++ [i])) X.length
    have hset' : IsSet X (bitsOf t ++ [i]) s := by
      refine ⟨?_, fun x hx => ?_, fun x hx => by rw [s2 x hx]; simp⟩
      · rw [List.nodup_append]
        exact ⟨hset.nodup, by simp, fun a ha b hb => by simp at hb; subst hb; rintro rfl; exact hni ha⟩
      · rcases List.mem_append.1 hx with h | h
        · exact hset.lt x h
        · simp at h; subst h; exact hi
    rw [pairs hset']
    apply Classical.byContradiction
    intro hno
    have s0 : 1 ≤ s := by
      rcases Nat.eq_zero_or_pos s with h | h
      · subst h
        have := s2 i hi
        simp at this
      · exact h
    have h2 := inv.most s s0 (by omega) hno
    have hs := bits_set hn5 s1
    have h3 := sub_length hset'.nodup (b := bitsOf s) fun x hx => (hs.bit x (hset'.lt x hx)).1 ((hset'.bit x (hset'.lt x hx)).2 hx)
    simp at h3
    omega

end Go.Proofs.Tryd.Dn

/-
  PriceNearly: the loops.
-/

namespace Go.Proofs.Tryd.Dn
open Go.Dn

/-- a ring of all, by a value that is a market -/
theorem fn25 {pg : Pg} (hF : Free pg) {X : List Obs} {g : Nat} (hm : Market X g) :
    ∃ r : List Nat, PFn pg 25 [(elS true).lt true X] (.tup [elI.lt false (nI r), .b (decide (r ≠ [])), .i .i64 0]) ∧ (r = [] ↔ ¬ ∃ i k, PairT X.length (pref X 1 1) i k) := by
  have hn5 := hm.n5
  obtain ⟨H1, h1, h2, h3, h4⟩ := body53 hF hm (P := .nilsl) (P' := .nilsl) (ps := []) (elS_RV true true X) (.inl ⟨rfl, rfl⟩) (by simp) (by simp) (H := []) (sn_nil _ _)
  simp only [List.length_nil] at h1 h2
  have c57 := call57 hF hm h2
  obtain ⟨r, c60, r1, r2⟩ := call60 hF hm (all_small hm) (ba := 1) (bb := 1) (by omega) (by omega)
  have c60' := c60 H1 0 h2
  have hnn := nil_ne (pg := pg) (R := den pg) r
  refine ⟨r, ?_, ?_⟩
  · have hs : Dn.snap .fin H1 8 (elI.lt false (nI r)) = some (elI.lt false (nI r)) := snap_intsF H1 6 _
    refine .of_go (x := .ret) (e := [(2, elI.lt false (nI r)), (3, .b (decide (r ≠ []))), (4, .i .i64 0)]) (H' := H1) (vs := [elI.lt false (nI r), .b (decide (r ≠ [])), .i .i64 0]) (hF.S _ _ (by decide)) (d := d25) (by rw [hF.F]; rfl) rfl ?_ (.inl rfl) rfl (by
      show Dn.snap .fin H1 9 (.tup [elI.lt false (nI r), .b (decide (r ≠ [])), .i .i64 0]) = _
      rw [sn_tup]
      simp only [mapO, hs, sn8_b, sn8_i, Option.bind_some, Option.map_some])
    generalize ((2 ^ X.length - 1 : Nat) : Int) = al at c57 c60'
    generalize hd : decide (r ≠ []) = dd at *
    simp [d25, c25, zipE, go_nil, go_last, go_past, go_pastR, go_blkN, go_blkR, go_blkE, go_skip, go_exit, go_ret, go_scope, go_seq, go_reg, go_block, go_cond, cnd_b, go_opsN, go_ops, go_opsG, grd_b, grd_u, stp_some, fin_some, up_some, cont_some, k_call, k_mv, k_pick, k_bin, k_eqB, k_eqA, k_not, k_neg, k_conv, k_alloc, k_boxA, k_boxI, k_boxB, k_boxN, k_boxBs, k_ldR, k_ldA, k_ldI, k_ldB, k_stA, k_stI, k_stB, ldC_some, stC_some, k_mkfn, k_slc, k_slcA, k_ixA, k_ixBs, k_ixSl, k_fadr, k_fld, k_ext, k_len, k_app, k_mn, k_mx, k_nilck, k_build, k_bsl1, k_bsl2, b_add, b_sub, b_mul, b_eql, b_neq, b_lss, b_leq, b_gtr, b_geq, Dn.setLast, Dn.getLast, evalO, mapO, Dn.get, putE, keepE, TV.one, TV.isAgg, Dn.part, sh_fn, h1, hF.G, c57, c60', hnn]
  · rw [r1]
    constructor
    · rintro h ⟨i, k, hp⟩; exact h ⟨i, k, pair_iff.2 hp⟩
    · rintro h ⟨i, k, hp⟩; exact h ⟨i, k, pair_iff.1 hp⟩

/-- the same, with a slice that one owns -/
theorem call25o {pg : Pg} (hF : Free pg) {X : List Obs} {g : Nat} (hm : Market X g) {H : Heap} {T : TV} (hT : (elS false).Own H T X) :
    ∃ r : List Nat, callRun pg (den pg) (.pu []) [.fn 25 [] [], T] H = some (.tup [elI.lt false (nI r), .b (decide (r ≠ [])), .i .i64 0], H) ∧ (r = [] ↔ ¬ ∃ i k, PairT X.length (pref X 1 1) i k) := by
  obtain ⟨r, h1, h2⟩ := fn25 hF hm
  have hs : Dn.snap .borrow H 9 T = some ((elS true).lt true X) := El.Own.to (m := .borrow) (f := 8) (by decide) hT (E' := elS true) rfl (mapO_map fun a _ => snap_pair false H 5 a)
  exact ⟨r, PFn.call h1 (args := [T]) (by simp [snapArgs, hs]), h2⟩

/-- one observation of a slice, cut out -/
theorem slc_one {pg : Pg} {R : Rec} {X : List Obs} {i : Nat} (hi : i < X.length) (H : Heap) : dkc pg R (.slc true true false 2 true) [(elS false).lt false X, .i .i64 (i : Int), .i .i64 ((i + 1 : Nat) : Int)] H = some ((elS false).lt false (sub X [i]), H) := by
  have hne : X ≠ [] := by rintro rfl; simp at hi
  have hb : bounds3 true true false X.length [.i .i64 (i : Int), .i .i64 ((i + 1 : Nat) : Int)] = some (i, i + 1, none) := by
    have h1 : (0 : Int) ≤ (i : Int) := by omega
    have h2 : (0 : Int) ≤ ((i + 1 : Nat) : Int) := by omega
    simp only [bounds3, bound, if_true, List.head?_cons, Option.bind_some, List.drop_succ_cons, List.drop_zero, h1, h2, Int.toNat_natCast, Bool.false_eq_true, if_false]
    rw [if_pos (by omega)]
  rw [El.lt_ne hne, k_slc]
  have h2 : ((X.map (elS false).val).drop i).take (i + 1 - i) = (sub X [i]).map (elS false).val := by
    rw [Nat.add_sub_cancel_left, List.drop_eq_getElem_cons (by simpa using hi)]
    simp [sub, List.getElem?_eq_getElem hi]
  simp only [slcRun, List.length_map, hb, Option.bind_some, Option.getD_none, true_and]
  rw [if_pos ⟨rfl, by omega, by omega, by omega⟩, if_neg (by simp), h2]
  rfl

theorem sub_append (X : List Obs) (a b : List Nat) : sub X (a ++ b) = sub X a ++ sub X b := by simp [sub]

theorem one_market {X : List Obs} {g : Nat} (hm : Market X g) {i : Nat} (hi : i < X.length) : Market (sub X [i]) g :=
  sub_market hm (by simp) (by simpa using hi) (by simp)

theorem wrap_nat1 {i : Nat} (h : i ≤ 1000000) : wrapR .i64 ((i : Int) + 1) = .i .i64 ((i + 1 : Nat) : Int) := by
  rw [show ((i + 1 : Nat) : Int) = (i : Int) + 1 by omega]; exact wrapR_i64 (by omega)

theorem l6_1_all {pg : Pg} (hF : Free pg) {X : List Obs} {g : Nat} (hm : Market X g) {m : List Nat} (hlt : ∀ x ∈ m, x < X.length) (hso : m.Pairwise (· < ·)) (hml : m.length ≤ 5) {A : TV} (hA : A.idOf = some 0) : ∀ (d i : Nat) (S : TV) (H : Heap), i + d = m.length → elB.Arr H A (metOf X.length (nI m) i) → (elS false).Own H S (sub X (m.take i)) → S.idOf ≠ some 0 →
    ∃ e S' H', den pg l6_1 [(5, (elS false).lt false X), (13, elI.lt false (nI m)), (21, A), (22, S), (23, .i .i64 (i : Int))] H = some ⟨.exit 0, e, H'⟩ ∧
      keepE [5, 21, 22] e = [(5, (elS false).lt false X), (21, A), (22, S')] ∧ elB.Arr H' A (metOf X.length (nI m) m.length) ∧ (elS false).Own H' S' (sub X m) ∧ S'.idOf ≠ some 0
  | 0, i, S, H, h, hM, hS, hz => by
    obtain rfl : i = m.length := by omega
    have hlm := El.lt_len (E := elI) false (nI m) H
    rw [nI_len] at hlm
    refine ⟨[(5, (elS false).lt false X), (13, elI.lt false (nI m)), (21, A), (22, S), (23, .i .i64 (m.length : Int)), (145, .b false)], S, H, ?_, rfl, hM, by rw [List.take_length] at hS; exact hS, hz⟩
    rw [l6_1, den_loop]
    simp [b6_0, go_nil, go_last, go_past, go_pastR, go_blkN, go_blkR, go_blkE, go_skip, go_exit, go_ret, go_scope, go_seq, go_reg, go_block, go_cond, cnd_b, go_opsN, go_ops, go_opsG, grd_b, grd_u, stp_some, fin_some, up_some, cont_some, k_call, k_mv, k_pick, k_bin, k_eqB, k_eqA, k_not, k_neg, k_conv, k_alloc, k_boxA, k_boxI, k_boxB, k_boxN, k_boxBs, k_ldR, k_ldA, k_ldI, k_ldB, k_stA, k_stI, k_stB, ldC_some, stC_some, k_mkfn, k_slc, k_slcA, k_ixA, k_ixBs, k_ixSl, k_fadr, k_fld, k_ext, k_len, k_app, k_mn, k_mx, k_nilck, k_build, k_bsl1, k_bsl2, b_add, b_sub, b_mul, b_eql, b_neq, b_lss, b_leq, b_gtr, b_geq, Dn.setLast, Dn.getLast, evalO, mapO, Dn.get, putE, keepE, TV.one, TV.isAgg, Dn.part, hlm]
  | d + 1, i, S, H, h, hM, hS, hz => by
    have hn5 := hm.n5
    have hi : i < m.length := by omega
    have e1 : ((i : Int) < (m.length : Int)) := by omega
    have e2 : wrapR .i64 ((i : Int) + 1) = .i .i64 ((i : Int) + 1) := wrapR_i64 (by omega)
    have hlm := fun H => El.lt_len (E := elI) false (nI m) H
    simp only [nI_len] at hlm
    have hlX := El.lt_len (E := elS false) false X
    have hx := hlt _ (List.getElem_mem hi)
    have hget : (nI m)[i]? = some (m[i] : Int) := by simp [nI, hi]
    have hrd : ∀ H, ∃ p, dkc pg (den pg) (.ixS 1 false) [elI.lt false (nI m), .i .i64 (i : Int)] H = some (p, H) ∧ dkc pg (den pg) (.ld 1 false) [p] H = some (.i .i64 (m[i] : Int), H) := fun H => ixI (El.lt_view false (nI m) H : elI.View H _ _) hget
    obtain ⟨p, hp, hv⟩ := hrd H
    have x0 : ¬ ((m[i] : Int) < 0) := by omega
    have x1 : ¬ ((X.length : Int) ≤ (m[i] : Int)) := by omega
    obtain ⟨q, a1, a2, a3, _⟩ := hM.at (pg := pg) (R := den pg) (metOf_get (l := nI m) (i := i) hx) .i64
    obtain ⟨H1, s1, s2, s3, s4⟩ := a3 true
    have a1' : dkc pg (den pg) (.ixS 1 false) [A, .i .i64 (m[i] : Int)] H = some (q, H) := a1
    have s1' : dkc pg (den pg) (.st 1) [q, .b true] H = some (.undef, H1) := s1
    rw [metOf_step hget hx] at s2
    obtain ⟨p2, hp2, hv2⟩ := hrd H1
    have hS1 : (elS false).Own H1 S (sub X (m.take i)) := hS.mono fun id hid => s4 id (by intro he; rw [hA] at he; cases he; exact hz hid)
    have hsl := slc_one (pg := pg) (R := den pg) hx H1
    have e5 := wrap_nat1 (i := m[i]) (by omega)
    have c18 := call18m hF (one_market hm hx) H1
    obtain ⟨S', H2, b1, b2, b3, b4, b5⟩ := El.app (E := elS false) (bytes := 48) hS1 (El.lt_view false (sub X [m[i]]) H1) (by rw [sub_len, sub_len]; simp; omega)
    have b1' : appRun 2 true 48 S ((elS false).lt false (sub X [m[i]])) H1 = some (S', H2) := b1
    have hH1 : 0 < H1.length := by have := s2.lt 0 hA; omega
    have htk : m.take (i + 1) = m.take i ++ [m[i]] := by rw [List.take_add_one, List.getElem?_eq_getElem hi]; rfl
    obtain ⟨e, S2, H3, k1, k2, k3, k4, k5⟩ := l6_1_all hF hm hlt hso hml hA d (i + 1) S' H2 (by omega) (s2.mono fun id hid => by rw [hA] at hid; cases hid; exact b4 0 hH1 hz) (by rw [htk, sub_append]; exact b2) (by
      rcases b5 with rfl | b5
      · exact hz
      · intro he; have := b5 0 he; omega)
    refine ⟨e, S2, H3, Eq.trans ?_ k1, k2, k3, k4, k5⟩
    generalize ((m[i] + 1 : Nat) : Int) = mi1 at *
    by_cases hi0 : i = 0
    · subst hi0
      generalize (m[0] : Int) = mi at *
      simp only [Int.natCast_zero] at *
      have e7 : wrapR .i64 1 = .i .i64 1 := wrapR_i64 (by omega)
      rw [l6_1, den_loop]
      simp [l6_1, b6_0, go_nil, go_last, go_past, go_pastR, go_blkN, go_blkR, go_blkE, go_skip, go_exit, go_ret, go_scope, go_seq, go_reg, go_block, go_cond, cnd_b, go_opsN, go_ops, go_opsG, grd_b, grd_u, stp_some, fin_some, up_some, cont_some, k_call, k_mv, k_pick, k_bin, k_eqB, k_eqA, k_not, k_neg, k_conv, k_alloc, k_boxA, k_boxI, k_boxB, k_boxN, k_boxBs, k_ldR, k_ldA, k_ldI, k_ldB, k_stA, k_stI, k_stB, ldC_some, stC_some, k_mkfn, k_slc, k_slcA, k_ixA, k_ixBs, k_ixSl, k_fadr, k_fld, k_ext, k_len, k_app, k_mn, k_mx, k_nilck, k_build, k_bsl1, k_bsl2, b_add, b_sub, b_mul, b_eql, b_neq, b_lss, b_leq, b_gtr, b_geq, Dn.setLast, Dn.getLast, evalO, mapO, Dn.get, putE, keepE, TV.one, TV.isAgg, Dn.part, hlm, e1, hi, e7, hp, hv, hlX, x0, x1, a1', s1', hp2, hv2, e5, hsl, c18, b1', e2]
    · have hi1 : (0 : Int) < (i : Int) := by omega
      have hi2 : 0 < i := by omega
      have e6 : wrapR .i64 ((i : Int) - 1) = .i .i64 ((i - 1 : Nat) : Int) := by rw [show ((i - 1 : Nat) : Int) = (i : Int) - 1 by omega]; exact wrapR_i64 (by omega)
      have hget' : (nI m)[i - 1]? = some (m[i - 1]'(by omega) : Int) := by rw [nI, List.getElem?_map, List.getElem?_eq_getElem (by omega)]; rfl
      obtain ⟨p3, hp3, hv3⟩ := ixI (pg := pg) (R := den pg) (El.lt_view false (nI m) H : elI.View H _ _) hget'
      have hlt' := List.pairwise_iff_getElem.1 hso (i - 1) i (by omega) hi (by omega)
      have x2 : ¬ ((m[i] : Int) ≤ (m[i - 1]'(by omega) : Int)) := by omega
      generalize ((m[i - 1]'(by omega) : Nat) : Int) = mj at *
      generalize ((i - 1 : Nat) : Int) = i1 at *
      generalize (m[i] : Int) = mi at *
      rw [l6_1, den_loop]
      simp [l6_1, b6_0, go_nil, go_last, go_past, go_pastR, go_blkN, go_blkR, go_blkE, go_skip, go_exit, go_ret, go_scope, go_seq, go_reg, go_block, go_cond, cnd_b, go_opsN, go_ops, go_opsG, grd_b, grd_u, stp_some, fin_some, up_some, cont_some, k_call, k_mv, k_pick, k_bin, k_eqB, k_eqA, k_not, k_neg, k_conv, k_alloc, k_boxA, k_boxI, k_boxB, k_boxN, k_boxBs, k_ldR, k_ldA, k_ldI, k_ldB, k_stA, k_stI, k_stB, ldC_some, stC_some, k_mkfn, k_slc, k_slcA, k_ixA, k_ixBs, k_ixSl, k_fadr, k_fld, k_ext, k_len, k_app, k_mn, k_mx, k_nilck, k_build, k_bsl1, k_bsl2, b_add, b_sub, b_mul, b_eql, b_neq, b_lss, b_leq, b_gtr, b_geq, Dn.setLast, Dn.getLast, evalO, mapO, Dn.get, putE, keepE, TV.one, TV.isAgg, Dn.part, hlm, e1, hp, hv, hlX, x0, x1, hi1, hi2, e6, hp3, hv3, x2, a1', s1', hp2, hv2, e5, hsl, c18, b1', e2]

theorem l6_3_all {pg : Pg} (hF : Free pg) {X : List Obs} {g : Nat} (hm : Market X g) {m : List Nat} (hmst : Mst X m) {A S : TV} (hA : A.idOf = some 0) (hz : S.idOf ≠ some 0) : ∀ (d i : Nat) (H : Heap), i + d = X.length → elB.Arr H A (metOf X.length (nI m) m.length) → (elS false).Own H S (sub X m) →
    ∃ e H', den pg l6_3 [(5, (elS false).lt false X), (21, A), (22, S), (27, .i .i64 (i : Int))] H = some ⟨.exit 2, e, H'⟩
  | 0, i, H, h, hM, hS => by
    obtain rfl : i = X.length := by omega
    have hlX := El.lt_len (E := elS false) false X
    refine ⟨[(5, (elS false).lt false X), (21, A), (22, S), (27, .i .i64 (X.length : Int)), (212, .b false)], H, ?_⟩
    rw [l6_3, den_loop]
    simp [b6_2, go_nil, go_last, go_past, go_pastR, go_blkN, go_blkR, go_blkE, go_skip, go_exit, go_ret, go_scope, go_seq, go_reg, go_block, go_cond, cnd_b, go_opsN, go_ops, go_opsG, grd_b, grd_u, stp_some, fin_some, up_some, cont_some, k_call, k_mv, k_pick, k_bin, k_eqB, k_eqA, k_not, k_neg, k_conv, k_alloc, k_boxA, k_boxI, k_boxB, k_boxN, k_boxBs, k_ldR, k_ldA, k_ldI, k_ldB, k_stA, k_stI, k_stB, ldC_some, stC_some, k_mkfn, k_slc, k_slcA, k_ixA, k_ixBs, k_ixSl, k_fadr, k_fld, k_ext, k_len, k_app, k_mn, k_mx, k_nilck, k_build, k_bsl1, k_bsl2, b_add, b_sub, b_mul, b_eql, b_neq, b_lss, b_leq, b_gtr, b_geq, Dn.setLast, Dn.getLast, evalO, mapO, Dn.get, putE, keepE, TV.one, TV.isAgg, Dn.part, hlX]
  | d + 1, i, H, h, hM, hS => by
    have hn5 := hm.n5
    have hi : i < X.length := by omega
    have hml := hmst.le
    have e1 : ((i : Int) < (X.length : Int)) := by omega
    have e2 := wrap_nat1 (i := i) (by omega)
    have hlX := El.lt_len (E := elS false) false X
    obtain ⟨q, a1, a2, _, _⟩ := hM.at (pg := pg) (R := den pg) (metOf_get (l := nI m) (i := m.length) hi) .i64
    have a2' := a2.ld (pg := pg) (R := den pg)
    have ha1 : dkc pg (den pg) (.ixS 1 false) [A, .i .i64 (i : Int)] H = some (q, H) := a1
    have ha2 : dkc pg (den pg) (.ld 1 false) [q] H = some (.b (decide ((i : Int) ∈ (nI m).take m.length)), H) := a2'
    have hmem : ((i : Int) ∈ (nI m).take m.length) ↔ i ∈ m := by
      rw [List.take_of_length_le (by rw [nI_len]; exact Nat.le_refl _)]
      unfold nI
      rw [List.mem_map]
      exact ⟨fun ⟨x, hx, he⟩ => by have : x = i := by omega
                                   subst this; exact hx, fun hx => ⟨i, hx, rfl⟩⟩
    have hdec : decide ((i : Int) ∈ (nI m).take m.length) = decide (i ∈ m) := by rw [decide_eq_decide]; exact hmem
    rw [hdec] at ha2
    by_cases hin : i ∈ m
    · have hd : decide (i ∈ m) = true := by simpa using hin
      rw [hd] at ha2
      obtain ⟨e, H', k1⟩ := l6_3_all hF hm hmst hA hz d (i + 1) H (by omega) hM hS
      refine ⟨e, H', Eq.trans ?_ k1⟩
      generalize ((i + 1 : Nat) : Int) = i1 at *
      rw [l6_3, den_loop]
      simp [l6_3, b6_2, go_nil, go_last, go_past, go_pastR, go_blkN, go_blkR, go_blkE, go_skip, go_exit, go_ret, go_scope, go_seq, go_reg, go_block, go_cond, cnd_b, go_opsN, go_ops, go_opsG, grd_b, grd_u, stp_some, fin_some, up_some, cont_some, k_call, k_mv, k_pick, k_bin, k_eqB, k_eqA, k_not, k_neg, k_conv, k_alloc, k_boxA, k_boxI, k_boxB, k_boxN, k_boxBs, k_ldR, k_ldA, k_ldI, k_ldB, k_stA, k_stI, k_stB, ldC_some, stC_some, k_mkfn, k_slc, k_slcA, k_ixA, k_ixBs, k_ixSl, k_fadr, k_fld, k_ext, k_len, k_app, k_mn, k_mx, k_nilck, k_build, k_bsl1, k_bsl2, b_add, b_sub, b_mul, b_eql, b_neq, b_lss, b_leq, b_gtr, b_geq, Dn.setLast, Dn.getLast, evalO, mapO, Dn.get, putE, keepE, TV.one, TV.isAgg, Dn.part, hlX, e1, ha1, ha2, e2]
    · have hd : decide (i ∈ m) = false := by simpa using hin
      rw [hd] at ha2
      have hH : 0 < H.length := by have := hM.lt 0 hA; omega
      obtain ⟨S1, H1, b1, b2, b3, b4, b5⟩ := El.app (E := elS false) (bytes := 48) (t := .nilsl) (l := []) (.inl ⟨rfl, rfl⟩) hS.view (by simp [sub_len]; omega)
      rw [List.nil_append] at b2
      have b1' : appRun 2 true 48 .nilsl S H = some (S1, H1) := b1
      have hz1 : S1.idOf ≠ some 0 := by
        rcases b5 with rfl | b5
        · simp [TV.idOf]
        · intro he; have := b5 0 he; omega
      have hsl := slc_one (pg := pg) (R := den pg) hi H1
      have c18 := call18m hF (one_market hm hi) H1
      obtain ⟨S2, H2, d1, d2, d3, d4, d5⟩ := El.app (E := elS false) (bytes := 48) b2 (El.lt_view false (sub X [i]) H1) (by rw [sub_len, sub_len]; simp; omega)
      have d1' : appRun 2 true 48 S1 ((elS false).lt false (sub X [i])) H1 = some (S2, H2) := d1
      rw [← sub_append] at d2
      have hY : Market (sub X (m ++ [i])) g := sub_market hm (by
          rw [List.nodup_append]
          exact ⟨hmst.nodup, by simp, fun a ha b hb => by simp at hb; subst hb; rintro rfl; exact hin ha⟩) (by
          intro x hx
          rcases List.mem_append.1 hx with h | h
          · exact hmst.lt x h
          · simp at h; subst h; exact hi) (by simp)
      obtain ⟨r, c25, r1⟩ := call25o hF hY d2
      have hne : r ≠ [] := fun hr => r1.1 hr (hmst.more i hi hin)
      have hd' : decide (r ≠ []) = true := by simpa using hne
      rw [hd'] at c25
      obtain ⟨e, H', k1⟩ := l6_3_all hF hm hmst hA hz d (i + 1) H2 (by omega) (hM.mono fun id hid => by rw [hA] at hid; cases hid; rw [d4 0 (by omega) hz1, b4 0 hH (by simp [TV.idOf])])
        (hS.mono fun id hid => by
          have hl := hS.lt id hid
          have h1 : S1.idOf ≠ some id := by
            rcases b5 with rfl | b5
            · simp [TV.idOf]
            · intro he; have := b5 id he; omega
          rw [d4 id (by omega) h1, b4 id hl (by simp [TV.idOf])])
      refine ⟨e, H', Eq.trans ?_ k1⟩
      generalize ((i + 1 : Nat) : Int) = i1 at *
      rw [l6_3, den_loop]
      simp [l6_3, b6_2, go_nil, go_last, go_past, go_pastR, go_blkN, go_blkR, go_blkE, go_skip, go_exit, go_ret, go_scope, go_seq, go_reg, go_block, go_cond, cnd_b, go_opsN, go_ops, go_opsG, grd_b, grd_u, stp_some, fin_some, up_some, cont_some, k_call, k_mv, k_pick, k_bin, k_eqB, k_eqA, k_not, k_neg, k_conv, k_alloc, k_boxA, k_boxI, k_boxB, k_boxN, k_boxBs, k_ldR, k_ldA, k_ldI, k_ldB, k_stA, k_stI, k_stB, ldC_some, stC_some, k_mkfn, k_slc, k_slcA, k_ixA, k_ixBs, k_ixSl, k_fadr, k_fld, k_ext, k_len, k_app, k_mn, k_mx, k_nilck, k_build, k_bsl1, k_bsl2, b_add, b_sub, b_mul, b_eql, b_neq, b_lss, b_leq, b_gtr, b_geq, Dn.setLast, Dn.getLast, evalO, mapO, Dn.get, putE, keepE, TV.one, TV.isAgg, Dn.part, hlX, e1, ha1, ha2, b1', e2, hsl, c18, d1', c25]

end Go.Proofs.Tryd.Dn

