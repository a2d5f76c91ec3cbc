/-
  Observations turned round: in plain terms.
-/
import Derived.Test.YtgmlmmgpcbollaaDoorQq
set_option linter.unusedSimpArgs false
set_option linter.unusedVariables false

namespace Go.Proofs.Tryd.Dn
open Go.Dn

def maxF (l : List Int) : Int := l.foldl (fun m p => if p > m then p else m) 0

theorem foldl_max : ∀ (l : List Int) (m : Int), m ≤ l.foldl (fun m p => if p > m then p else m) m ∧ (∀ p ∈ l, p ≤ l.foldl (fun m p => if p > m then p else m) m) ∧ (l.foldl (fun m p => if p > m then p else m) m = m ∨ l.foldl (fun m p => if p > m then p else m) m ∈ l)
  | [], m => ⟨Int.le_refl _, fun p h => (by cases h), .inl rfl⟩
  | x :: l, m => by
    obtain ⟨h1, h2, h3⟩ := foldl_max l (if x > m then x else m)
    simp only [List.foldl_cons]
    have hm : m ≤ (if x > m then x else m) ∧ x ≤ (if x > m then x else m) ∧ ((if x > m then x else m) = m ∨ (if x > m then x else m) = x) := by
      split <;> refine ⟨by omega, by omega, ?_⟩
      · exact .inr rfl
      · exact .inl rfl
    refine ⟨by omega, fun p hp => ?_, ?_⟩
    · rcases List.mem_cons.1 hp with rfl | hp
      · omega
      · exact h2 p hp
    · rcases h3 with h3 | h3
      · rcases hm.2.2 with h4 | h4
        · exact .inl (h3.trans h4)
        · exact .inr (by rw [h3, h4]; simp)
      · exact .inr (by simp [h3])

theorem maxF_range {l : List Int} (hne : l ≠ []) (h : ∀ p ∈ l, 1 ≤ p ∧ p ≤ 20) : 1 ≤ maxF l ∧ maxF l ≤ 20 ∧ ∀ p ∈ l, p ≤ maxF l := by
  obtain ⟨h1, h2, h3⟩ := foldl_max l 0
  cases l with
  | nil => exact absurd rfl hne
  | cons x l =>
    have hx := h x (by simp)
    have hx2 := h2 x (by simp)
    refine ⟨by unfold maxF; omega, ?_, h2⟩
    rcases h3 with h3 | h3
    · unfold maxF; omega
    · exact (h _ h3).2

/-- how often the prices of an observation are taken -/
def tmO (b : Int) (x : Obs) : Int := 1 + (IntKind.wrap .u64 b).tmod (Int.tdiv 20 (maxF x.1))

theorem tmO_range {b : Int} {x : Obs} (hne : x.1 ≠ []) (h : ∀ p ∈ x.1, 1 ≤ p ∧ p ≤ 20) : 1 ≤ tmO b x ∧ tmO b x ≤ 20 ∧ 1 ≤ Int.tdiv 20 (maxF x.1) ∧ Int.tdiv 20 (maxF x.1) ≤ 20 ∧ 0 ≤ (IntKind.wrap .u64 b).tmod (Int.tdiv 20 (maxF x.1)) ∧ ∀ p ∈ x.1, 1 ≤ tmO b x * p ∧ tmO b x * p ≤ 20 := by
  obtain ⟨m1, m2, m3⟩ := maxF_range hne h
  have hw := wrap_u64 b
  unfold tmO
  rw [Int.tdiv_eq_ediv_of_nonneg (by omega), Int.tmod_eq_emod_of_nonneg hw]
  generalize maxF x.1 = m at *
  generalize IntKind.wrap .u64 b = w at *
  have q1 : 1 ≤ 20 / m := by
    rw [Int.le_ediv_iff_mul_le (by omega)]; omega
  have q2 : (20 / m) * m ≤ 20 := Int.ediv_mul_le _ (by omega)
  have q3 : 20 / m ≤ 20 := Int.ediv_le_self _ (by omega)
  have q4 := Int.emod_nonneg w (show 20 / m ≠ 0 by omega)
  have q5 := Int.emod_lt_of_pos w (show 0 < 20 / m by omega)
  generalize hq : 20 / m = q at *
  generalize w % q = r at *
  refine ⟨by omega, by omega, q1, q3, q4, fun p hp => ?_⟩
  have hp1 := h p hp
  have hp2 := m3 p hp
  have h1 : 1 * 1 ≤ (1 + r) * p := Int.mul_le_mul (by omega) (by omega) (by omega) (by omega)
  have h2 : (1 + r) * p ≤ q * m := Int.mul_le_mul (by omega) hp2 (by omega) (by omega)
  omega

def turnO (t : Int) (x : Obs) : Obs := ((x.1.map (t * ·)).reverse, x.2.reverse)

theorem dot_app : ∀ {a b : List Int} (p q : Int), a.length = b.length → dot (a ++ [p]) (b ++ [q]) = dot a b + p * q
  | [], [], p, q, _ => by simp [dot]
  | [], _ :: _, _, _, h => by simp at h
  | _ :: _, [], _, _, h => by simp at h
  | x :: a, y :: b, p, q, h => by
    have := dot_app (a := a) (b := b) p q (by simpa using h)
    simp only [List.cons_append, dot, this]
    omega

theorem dot_rev : ∀ {a b : List Int} (t : Int), a.length = b.length → dot ((a.map (t * ·)).reverse) b.reverse = t * dot a b
  | [], [], t, _ => by simp [dot]
  | [], _ :: _, _, h => by simp at h
  | _ :: _, [], _, h => by simp at h
  | x :: a, y :: b, t, h => by
    have := dot_rev (a := a) (b := b) t (by simpa using h)
    simp only [List.map_cons, List.reverse_cons]
    rw [dot_app _ _ (by simpa using h), this]
    simp only [dot]
    rw [Int.mul_add, Int.mul_assoc, Int.add_comm]

theorem turn_ok {g : Nat} (hg : 1 ≤ g) {b : Int} {x : Obs} (h : okObs g x = true) : okObs g (turnO (tmO b x) x) = true := by
  obtain ⟨a1, a2, a3, a4, q, hq, h0⟩ := okObs_iff.1 h
  have hne : x.1 ≠ [] := by intro he; rw [he] at a1; simp at a1; omega
  obtain ⟨_, _, _, _, _, h6⟩ := tmO_range (b := b) hne a3
  refine okObs_iff.2 ⟨by simp [turnO, a1], by simp [turnO, a2], fun p hp => ?_, fun p hp => ?_, q, by simp [turnO, hq], h0⟩
  · simp only [turnO, List.mem_reverse, List.mem_map] at hp
    obtain ⟨r, hr, rfl⟩ := hp
    exact h6 r hr
  · simp only [turnO, List.mem_reverse] at hp
    exact a4 p hp

def turned (b : Int) (X : List Obs) : List Obs := X.map fun x => turnO (tmO b x) x
theorem turned_len (b : Int) (X : List Obs) : (turned b X).length = X.length := by simp [turned]

theorem turned_market {X : List Obs} {g : Nat} (hm : Market X g) (b : Int) : Market (turned b X) g where
  n1 := by rw [turned_len]; exact hm.n1
  n5 := by rw [turned_len]; exact hm.n5
  g1 := hm.g1
  g3 := hm.g3
  ok x hx := by
    obtain ⟨y, hy, rfl⟩ := List.mem_map.1 hx
    exact turn_ok hm.g1 (hm.ok y hy)

theorem turned_cost {X : List Obs} {g : Nat} (hm : Market X g) (b : Int) {i k : Nat} (hi : i < X.length) (hk : k < X.length) : costOf (turned b X) i k = tmO b X[i] * costOf X i k := by
  obtain ⟨a1, _, _, _, _⟩ := okObs_iff.1 (hm.ok X[i] (List.getElem_mem hi))
  obtain ⟨_, b2, _, _, _⟩ := okObs_iff.1 (hm.ok X[k] (List.getElem_mem hk))
  unfold costOf turned
  simp only [List.getElem?_map, List.getElem?_eq_getElem hi, List.getElem?_eq_getElem hk, Option.map_some, Option.getD_some, turnO]
  exact dot_rev _ (by rw [a1, b2])

theorem turned_pref {X : List Obs} {g : Nat} (hm : Market X g) (b : Int) {c d : Int} {i k : Nat} (hi : i < X.length) (hk : k < X.length) : pref (turned b X) c d i k = pref X c d i k := by
  obtain ⟨a1, _, a3, _, _⟩ := okObs_iff.1 (hm.ok X[i] (List.getElem_mem hi))
  have hg1 := hm.g1
  have hne : X[i].1 ≠ [] := by intro he; rw [he] at a1; simp at a1; omega
  obtain ⟨t1, _⟩ := tmO_range (b := b) hne a3
  unfold pref
  rw [turned_cost hm b hi hk, turned_cost hm b hi hi]
  generalize tmO b X[i] = t at *
  generalize costOf X i k = u
  generalize costOf X i i = v
  have h1 : d * (t * u) = t * (d * u) := by rw [← Int.mul_assoc, Int.mul_comm d t, Int.mul_assoc]
  have h2 : c * (t * v) = t * (c * v) := by rw [← Int.mul_assoc, Int.mul_comm c t, Int.mul_assoc]
  rw [h1, h2]
  have k1 : t * (d * u) < t * (c * v) ↔ d * u < c * v := Int.mul_lt_mul_left (by omega)
  have k2 : t * (d * u) = t * (c * v) ↔ d * u = c * v := ⟨fun h => Int.eq_of_mul_eq_mul_left (by omega) h, fun h => by rw [h]⟩
  simp only [k1, k2]

theorem turned_prefs {X : List Obs} {g : Nat} (hm : Market X g) (b c d : Int) : prefs (turned b X) c d = prefs X c d := by
  rw [prefs_tab, prefs_tab, turned_len]
  exact tabl_congr fun i k hi hk => turned_pref hm b hi hk

theorem turned_fT {X : List Obs} {g : Nat} (hm : Market X g) (b : Int) (t : Frc) : fT (turned b X).length (qF (turned b X)) t = fT X.length (qF X) t := by
  rw [← tE_fT (turned_market hm b) t, ← tE_fT hm t, turned_len]
  funext i k
  unfold tE
  by_cases hi : i < X.length
  · by_cases hk : k < X.length
    · rw [turned_pref hm b hi hk]
    · simp [hk]
  · simp [hi]

theorem turned_share {X : List Obs} {g : Nat} (hm : Market X g) (b : Int) {s u : Frc} (hs : IsShare X.length (qF X) s) (hu : IsShare (turned b X).length (qF (turned b X)) u) : s = u :=
  hs.unique hu fun t _ => by rw [turned_fT hm b t, turned_len]

/-! the same observations in another order -/

theorem rev_set (X : List Obs) : IsSet X (List.range X.length).reverse (2 ^ X.length - 1) where
  nodup := List.pairwise_reverse.2 (List.Pairwise.imp (fun h he => h he.symm) List.nodup_range)
  lt x hx := by simpa using hx
  bit x hx := by rw [all_bits]; simp [hx]

theorem sub_cyc {X : List Obs} {g : Nat} (hm : Market X g) {l : List Nat} (h : IsSet X l (2 ^ X.length - 1)) (hall : ∀ x, x < X.length → x ∈ l) (hne : l ≠ []) (t : Frc) : Cyc (fT X.length (qF X) t) X.length ↔ Cyc (fT (sub X l).length (qF (sub X l)) t) (sub X l).length := by
  have hmY := sub_market hm h.nodup h.lt hne
  rw [← tE_fT hm t, ← tE_fT hmY t]
  have c1 : ∀ {a b : Nat}, Rch (tE X.length (pref X t.1 t.2)) a b ↔ Rch (wE X (2 ^ X.length - 1) t.1 t.2) a b := ⟨Rch.congr fun a b => (wE_all a b).symm, Rch.congr wE_all⟩
  have c2 : ∀ {a b : Nat}, Rch (tE (sub X l).length (pref (sub X l) t.1 t.2)) a b ↔ Rch (wE (sub X l) (2 ^ (sub X l).length - 1) t.1 t.2) a b := ⟨Rch.congr fun a b => (wE_all a b).symm, Rch.congr wE_all⟩
  constructor
  · rintro ⟨x, y, hx, hy, hxy, r1, r2⟩
    obtain ⟨i, hi, rfl⟩ := List.getElem_of_mem (hall x hx)
    obtain ⟨k, hk, rfl⟩ := List.getElem_of_mem (hall y hy)
    obtain ⟨j, hj, ej, r3⟩ := rch_sub h hi (c1.1 r1)
    obtain rfl : j = k := (List.getElem_inj h.nodup).1 ej
    obtain ⟨j', hj', ej', r4⟩ := rch_sub h hk (c1.1 r2)
    obtain rfl : j' = i := (List.getElem_inj h.nodup).1 ej'
    exact ⟨j', j, by rw [sub_len]; exact hi, by rw [sub_len]; exact hk, fun he => hxy (by subst he; rfl), c2.2 r3, c2.2 r4⟩
  · rintro ⟨i, k, hi, hk, hne, r1, r2⟩
    rw [sub_len] at hi hk
    obtain ⟨_, r3⟩ := sub_rch h hi (c2.1 r1)
    obtain ⟨_, r4⟩ := sub_rch h hk (c2.1 r2)
    exact ⟨l[i], l[k], h.lt _ (List.getElem_mem hi), h.lt _ (List.getElem_mem hk), fun he => hne ((List.getElem_inj h.nodup).1 he), c1.2 r3, c1.2 r4⟩

end Go.Proofs.Tryd.Dn

/-
  PriceTurned: the loops.
-/

namespace Go.Proofs.Tryd.Dn
open Go.Dn

/-- the share, as a function of values -/
theorem fn19 {pg : Pg} (hF : Free pg) {X : List Obs} {g : Nat} (hm : Market X g) : ∃ s : Frc, IsShare X.length (qF X) s ∧ PFn pg 19 [(elS true).lt true X] (.tup [.i .i64 (s.1 : Int), .i .i64 (s.2 : Int), .i .i64 0]) := by
  have hn5 := hm.n5
  obtain ⟨H1, h1, h2, h3, h4⟩ := body53 hF hm (P := .nilsl) (P' := .nilsl) (ps := []) (elS_RV true true X) (.inl ⟨rfl, rfl⟩) (by simp) (by simp) (H := []) (sn_nil _ _)
  simp only [List.length_nil] at h1 h2
  have hne : H1.length ≠ 0 := by have := (List.getElem?_eq_some_iff.1 h2).1; omega
  have hs0 : SM19 X (H1 ++ [.cells [.i .i64 ((1 : Nat) : Int), .i .i64 ((1 : Nat) : Int)] true]) H1.length (1, 1) := ⟨by rw [List.getElem?_append_left (by omega)]; exact h2, getLast _ _, hne⟩
  have st0 := st2 (pg := pg) (R := den pg) H1 0 0 ((1 : Nat) : Int) ((1 : Nat) : Int)
  have hN := ld_mN (pg := pg) (R := den pg) hs0.m
  obtain ⟨e, H', s, k1, k2, k3, k4⟩ := l19_3_all hF hm (B := H1.length) X.length 0 _ (1, 1) (by omega) hs0 (BInv.init _ _)
  refine ⟨s, k4.share (qF_pos hm) (fun i _ => qF_one X i), ?_⟩
  obtain ⟨r1, r2⟩ := ldp (pg := pg) (R := den pg) k3.b
  simp only [Int.natCast_zero] at k1
  have st0' : dkc pg (den pg) (.st 2) [.ref H1.length 0, .agg [.i .i64 1, .i .i64 1]] (H1 ++ [.cells [.i .i64 0, .i .i64 0] true]) = some (.undef, H1 ++ [.cells [.i .i64 ((1 : Nat) : Int), .i .i64 ((1 : Nat) : Int)] true]) := st0
  generalize (H1 ++ [.cells [.i .i64 ((1 : Nat) : Int), .i .i64 ((1 : Nat) : Int)] true]) = HB at *
  generalize (s.1 : Int) = q1 at *
  generalize (s.2 : Int) = q2 at *
  refine .of2 (x := .ret) (e := [(2, .i .i64 q1), (3, .i .i64 q2), (4, .i .i64 0)]) (H' := H') (vs := [.i .i64 q1, .i .i64 q2, .i .i64 0]) (hF.S _ _ (by decide)) (d := d19) (by rw [hF.F]; rfl) rfl ?_ (.inl rfl) rfl (by simp) (by simp [sn_i, sn_b, sn_nil, sn8_i, sn8_b, sn8_nil, sn7_i, sn7_b, sn_sl, sn8_sl, slB_some, sn_tup, sn_agg, sn8_agg, mapO, elems])
  simp [d19, c19, zipE, go_nil, go_last, go_past, go_pastR, go_blkN, go_blkR, go_blkE, go_skip, go_exit, go_ret, go_scope, go_seq, go_reg, go_block, go_cond, cnd_b, go_opsN, go_ops, go_opsG, grd_b, grd_u, stp_some, fin_some, up_some, cont_some, k_call, k_mv, k_pick, k_bin, k_eqB, k_eqA, k_not, k_neg, k_conv, k_alloc, k_boxA, k_boxI, k_boxB, k_boxN, k_boxBs, k_ldR, k_ldA, k_ldI, k_ldB, k_stA, k_stI, k_stB, ldC_some, stC_some, k_mkfn, k_slc, k_slcA, k_ixA, k_ixBs, k_ixSl, k_fadr, k_fld, k_ext, k_len, k_app, k_mn, k_mx, k_nilck, k_build, k_bsl1, k_bsl2, b_add, b_sub, b_mul, b_eql, b_neq, b_lss, b_leq, b_gtr, b_geq, Dn.setLast, Dn.getLast, evalO, mapO, Dn.get, putE, keepE, TV.one, TV.isAgg, Dn.part, sh_fn, h1, hF.G, st0', hN, go_denK (c := l19_3) rfl, k1, k2, r1, r2]

theorem NestP.bor {H : Heap} {out : TV} {X : List Obs} (h : NestP H out X) (f : Nat) : Dn.snap .borrow H (f + 5) out = some ((elS true).lt true X) := by
  obtain ⟨ts, h1, h2, h3⟩ := h
  refine h1.to (m := .borrow) (by decide) (E' := elS true) rfl ?_
  have : ∀ (ts : List ({t : TV // t.one = true} × {t : TV // t.one = true})) (X : List Obs), ts.length = X.length → (∀ (i : Nat) t x, ts[i]? = some t → X[i]? = some x → elI.Own H t.1.1 x.1 ∧ elI.Own H t.2.1 x.2) → mapO (Dn.snap .borrow H (f + 4)) (ts.map elCC.val) = some (X.map (elS true).val) := by
    intro ts
    induction ts with
    | nil => intro X hl _; cases X with
      | nil => rfl
      | cons x l => simp at hl
    | cons t ts ih =>
      intro X hl hk
      cases X with
      | nil => simp at hl
      | cons x X =>
        obtain ⟨ht, ht'⟩ := hk 0 t x rfl rfl
        have hv : Dn.snap .borrow H (f + 3) t.1.1 = some (elI.lt true x.1) := ht.to (by decide) (E' := elI) rfl (elI_flat.mapO .borrow H f x.1)
        have hv' : Dn.snap .borrow H (f + 3) t.2.1 = some (elI.lt true x.2) := ht'.to (by decide) (E' := elI) rfl (elI_flat.mapO .borrow H f x.2)
        have hv2 : Dn.snap .borrow H (f + 4) (elCC.val t) = some ((elS true).val x) := by
          rw [show elCC.val t = .agg [t.1.1, t.2.1] from rfl, snS_agg]
          simp only [mapO, hv, hv', Option.bind_some, Option.map_some]
          rfl
        rw [List.map_cons, mapO, hv2, Option.bind_some, ih X (by simpa using hl) fun i t x h1 h2 => hk (i + 1) t x h1 h2]
        rfl
  exact this ts X h2 fun i t x ht hx => (h3 i t x ht hx).1

/-! all, from the last one on -/

def revL (n j : Nat) : List Nat := ((List.range n).drop j).reverse

theorem revL_step {n j : Nat} (h : j < n) : revL n j = revL n (j + 1) ++ [j] := by
  unfold revL
  rw [range_drop h, List.reverse_cons]

theorem l8_1_all {pg : Pg} (hF : Free pg) {X : List Obs} {g : Nat} (hm : Market X g) {B Y : TV} : ∀ (j : Nat) (S : TV) (H : Heap), j ≤ X.length → (elS false).Own H S (sub X (revL X.length j)) →
    ∃ e S' H', den pg l8_1 [(2, B), (7, (elS false).lt false X), (8, Y), (9, S), (10, .nilsl), (11, .i .i64 ((j : Int) - 1))] H = some ⟨.exit 0, e, H'⟩ ∧
      keepE [2, 7, 8, 9, 10] e = [(2, B), (7, (elS false).lt false X), (8, Y), (9, S'), (10, .nilsl)] ∧ (elS false).Own H' S' (sub X (revL X.length 0))
  | 0, S, H, h, hS => by
    refine ⟨[(2, B), (7, (elS false).lt false X), (8, Y), (9, S), (10, .nilsl), (11, .i .i64 (((0 : Nat) : Int) - 1)), (49, .b false)], S, H, ?_, rfl, hS⟩
    rw [l8_1, den_loop]
    simp [b8_0, go_nil, go_last, go_past, go_pastR, go_blkN, go_blkR, go_blkE, go_skip, go_exit, go_ret, go_scope, go_seq, go_reg, go_block, go_cond, cnd_b, go_opsN, go_ops, go_opsG, grd_b, grd_u, stp_some, fin_some, up_some, cont_some, k_call, k_mv, k_pick, k_bin, k_eqB, k_eqA, k_not, k_neg, k_conv, k_alloc, k_boxA, k_boxI, k_boxB, k_boxN, k_boxBs, k_ldR, k_ldA, k_ldI, k_ldB, k_stA, k_stI, k_stB, ldC_some, stC_some, k_mkfn, k_slc, k_slcA, k_ixA, k_ixBs, k_ixSl, k_fadr, k_fld, k_ext, k_len, k_app, k_mn, k_mx, k_nilck, k_build, k_bsl1, k_bsl2, b_add, b_sub, b_mul, b_eql, b_neq, b_lss, b_leq, b_gtr, b_geq, Dn.setLast, Dn.getLast, evalO, mapO, Dn.get, putE, keepE, TV.one, TV.isAgg, Dn.part]
  | j + 1, S, H, h, hS => by
    have hn5 := hm.n5
    have hj : j < X.length := by omega
    have e1 : (0 : Int) ≤ (((j + 1 : Nat) : Int) - 1) := by omega
    have e0 : ((j + 1 : Nat) : Int) - 1 = (j : Int) := by omega
    have e2 := wrap_nat1 (i := j) (by omega)
    have e3 : wrapR .i64 ((j : Int) - 1) = .i .i64 ((j : Int) - 1) := wrapR_i64 (by omega)
    have hsl := slc_one (pg := pg) (R := den pg) hj H
    have c18 := call18m hF (one_market hm hj) H
    obtain ⟨S', H1, b1, b2, b3, b4, b5⟩ := El.app (E := elS false) (bytes := 48) hS (El.lt_view false (sub X [j]) H) (by rw [sub_len, sub_len]; simp [revL]; omega)
    have b1' : appRun 2 true 48 S ((elS false).lt false (sub X [j])) H = some (S', H1) := b1
    rw [← sub_append, ← revL_step hj] at b2
    obtain ⟨e, S2, H2, k1, k2, k3⟩ := l8_1_all hF hm (B := B) (Y := Y) j S' H1 (by omega) b2
    refine ⟨e, S2, H2, Eq.trans ?_ k1, k2, k3⟩
    have e4 : (0 : Int) ≤ (j : Int) := by omega
    rw [e0]
    generalize ((j + 1 : Nat) : Int) = j1 at *
    generalize hjj : (j : Int) = jj at *
    rw [l8_1, den_loop]
    simp [l8_1, b8_0, go_nil, go_last, go_past, go_pastR, go_blkN, go_blkR, go_blkE, go_skip, go_exit, go_ret, go_scope, go_seq, go_reg, go_block, go_cond, cnd_b, go_opsN, go_ops, go_opsG, grd_b, grd_u, stp_some, fin_some, up_some, cont_some, k_call, k_mv, k_pick, k_bin, k_eqB, k_eqA, k_not, k_neg, k_conv, k_alloc, k_boxA, k_boxI, k_boxB, k_boxN, k_boxBs, k_ldR, k_ldA, k_ldI, k_ldB, k_stA, k_stI, k_stB, ldC_some, stC_some, k_mkfn, k_slc, k_slcA, k_ixA, k_ixBs, k_ixSl, k_fadr, k_fld, k_ext, k_len, k_app, k_mn, k_mx, k_nilck, k_build, k_bsl1, k_bsl2, b_add, b_sub, b_mul, b_eql, b_neq, b_lss, b_leq, b_gtr, b_geq, Dn.setLast, Dn.getLast, evalO, mapO, Dn.get, putE, keepE, TV.one, TV.isAgg, Dn.part, e4, e2, e3, hsl, c18, b1']

/-! prices at most -/

theorem l8_3_all {pg : Pg} {X : List Obs} {i : Nat} {x : Obs} (hx : X[i]? = some x) (hxl : x.1.length ≤ 3) {B Y S O Q : TV} {H : Heap} : ∀ (d k : Nat) (m : Int), k + d = x.1.length →
    ∃ e, den pg l8_3 [(2, B), (7, (elS false).lt false X), (8, Y), (9, S), (10, O), (12, .i .i64 (i : Int)), (13, Q), (14, .i .i64 (x.1.length : Int)), (15, .i .i64 m), (16, .i .i64 (k : Int))] H = some ⟨.exit 4, e, H⟩ ∧
      keepE [2, 7, 8, 9, 10, 12, 13, 14, 15] e = [(2, B), (7, (elS false).lt false X), (8, Y), (9, S), (10, O), (12, .i .i64 (i : Int)), (13, Q), (14, .i .i64 (x.1.length : Int)), (15, .i .i64 ((x.1.drop k).foldl (fun m p => if p > m then p else m) m))]
  | 0, k, m, h => by
    have e1 : ¬ ((k : Int) < (x.1.length : Int)) := by omega
    refine ⟨[(2, B), (7, (elS false).lt false X), (8, Y), (9, S), (10, O), (12, .i .i64 (i : Int)), (13, Q), (14, .i .i64 (x.1.length : Int)), (15, .i .i64 m), (16, .i .i64 (k : Int)), (74, .b false)], ?_, ?_⟩
    · rw [l8_3, den_loop]
      simp [b8_2, go_nil, go_last, go_past, go_pastR, go_blkN, go_blkR, go_blkE, go_skip, go_exit, go_ret, go_scope, go_seq, go_reg, go_block, go_cond, cnd_b, go_opsN, go_ops, go_opsG, grd_b, grd_u, stp_some, fin_some, up_some, cont_some, k_call, k_mv, k_pick, k_bin, k_eqB, k_eqA, k_not, k_neg, k_conv, k_alloc, k_boxA, k_boxI, k_boxB, k_boxN, k_boxBs, k_ldR, k_ldA, k_ldI, k_ldB, k_stA, k_stI, k_stB, ldC_some, stC_some, k_mkfn, k_slc, k_slcA, k_ixA, k_ixBs, k_ixSl, k_fadr, k_fld, k_ext, k_len, k_app, k_mn, k_mx, k_nilck, k_build, k_bsl1, k_bsl2, b_add, b_sub, b_mul, b_eql, b_neq, b_lss, b_leq, b_gtr, b_geq, Dn.setLast, Dn.getLast, evalO, mapO, Dn.get, putE, keepE, TV.one, TV.isAgg, Dn.part, e1]
    · rw [List.drop_eq_nil_of_le (by omega)]; rfl
  | d + 1, k, m, h => by
    have hk : k < x.1.length := by omega
    have e1 : ((k : Int) < (x.1.length : Int)) := by omega
    have e2 : wrapR .i64 ((k : Int) + 1) = .i .i64 ((k : Int) + 1) := wrapR_i64 (by omega)
    obtain ⟨bo, a, c, hix, ha, hc⟩ := (elS_RV false false X).ix (pg := pg) (R := den pg) hx H
    obtain ⟨f1, _⟩ := k_fadrP (pg := pg) (R := den pg) bo a c ha.noagg hc.noagg H
    have d1 := k_ldV (pg := pg) (R := den pg) bo a ha.one H
    obtain ⟨p, hp, hv⟩ := ixI (pg := pg) (R := den pg) (ha.view H) (List.getElem?_eq_getElem hk)
    obtain ⟨e, h1, h2⟩ := l8_3_all (pg := pg) hx hxl (B := B) (Y := Y) (S := S) (O := O) (Q := Q) (H := H) d (k + 1) (if x.1[k] > m then x.1[k] else m) (by omega)
    refine ⟨e, Eq.trans ?_ h1, by rw [h2, List.drop_eq_getElem_cons hk]; rfl⟩
    rw [l8_3, den_loop]
    simp [l8_3, b8_2, go_nil, go_last, go_past, go_pastR, go_blkN, go_blkR, go_blkE, go_skip, go_exit, go_ret, go_scope, go_seq, go_reg, go_block, go_cond, cnd_b, go_opsN, go_ops, go_opsG, grd_b, grd_u, stp_some, fin_some, up_some, cont_some, k_call, k_mv, k_pick, k_bin, k_eqB, k_eqA, k_not, k_neg, k_conv, k_alloc, k_boxA, k_boxI, k_boxB, k_boxN, k_boxBs, k_ldR, k_ldA, k_ldI, k_ldB, k_stA, k_stI, k_stB, ldC_some, stC_some, k_mkfn, k_slc, k_slcA, k_ixA, k_ixBs, k_ixSl, k_fadr, k_fld, k_ext, k_len, k_app, k_mn, k_mx, k_nilck, k_build, k_bsl1, k_bsl2, b_add, b_sub, b_mul, b_eql, b_neq, b_lss, b_leq, b_gtr, b_geq, Dn.setLast, Dn.getLast, evalO, mapO, Dn.get, putE, keepE, TV.one, TV.isAgg, Dn.part, e1, e2, hix, f1, d1, hp, hv]

/-! the goods from the last one on -/

theorem l8_5_all {pg : Pg} {X : List Obs} {i : Nat} {x : Obs} (hx : X[i]? = some x) (hl : x.1.length ≤ 3 ∧ x.2.length = x.1.length) {t : Int} (ht : ∀ p ∈ x.1, 1 ≤ t * p ∧ t * p ≤ 20) {B Y S O : TV} {xid : Nat} {H0 : Heap} : ∀ (j : Nat) (a c : TV) (H : Heap), j ≤ x.1.length → PairInv xid H0 H a c (((x.1.map (t * ·)).drop j).reverse) ((x.2.drop j).reverse) →
    ∃ e a' c' H', den pg l8_5 [(2, B), (7, (elS false).lt false X), (8, Y), (9, S), (10, O), (12, .i .i64 (i : Int)), (13, .ref xid 0), (17, .i .i64 t), (18, .i .i64 ((j : Int) - 1))] H = some ⟨.exit 6, e, H'⟩ ∧
      keepE [2, 7, 8, 9, 10, 12, 13] e = [(2, B), (7, (elS false).lt false X), (8, Y), (9, S), (10, O), (12, .i .i64 (i : Int)), (13, .ref xid 0)] ∧ PairInv xid H0 H' a' c' (turnO t x).1 (turnO t x).2
  | 0, a, c, H, h, hp => by
    refine ⟨[(2, B), (7, (elS false).lt false X), (8, Y), (9, S), (10, O), (12, .i .i64 (i : Int)), (13, .ref xid 0), (17, .i .i64 t), (18, .i .i64 (((0 : Nat) : Int) - 1)), (98, .b false)], a, c, H, ?_, rfl, hp⟩
    rw [l8_5, den_loop]
    simp [b8_4, go_nil, go_last, go_past, go_pastR, go_blkN, go_blkR, go_blkE, go_skip, go_exit, go_ret, go_scope, go_seq, go_reg, go_block, go_cond, cnd_b, go_opsN, go_ops, go_opsG, grd_b, grd_u, stp_some, fin_some, up_some, cont_some, k_call, k_mv, k_pick, k_bin, k_eqB, k_eqA, k_not, k_neg, k_conv, k_alloc, k_boxA, k_boxI, k_boxB, k_boxN, k_boxBs, k_ldR, k_ldA, k_ldI, k_ldB, k_stA, k_stI, k_stB, ldC_some, stC_some, k_mkfn, k_slc, k_slcA, k_ixA, k_ixBs, k_ixSl, k_fadr, k_fld, k_ext, k_len, k_app, k_mn, k_mx, k_nilck, k_build, k_bsl1, k_bsl2, b_add, b_sub, b_mul, b_eql, b_neq, b_lss, b_leq, b_gtr, b_geq, Dn.setLast, Dn.getLast, evalO, mapO, Dn.get, putE, keepE, TV.one, TV.isAgg, Dn.part]
  | j + 1, a, c, H, h, hp => by
    have hj : j < x.1.length := by omega
    have hj2 : j < x.2.length := by omega
    have e0 : ((j + 1 : Nat) : Int) - 1 = (j : Int) := by omega
    have e4 : (0 : Int) ≤ (j : Int) := by omega
    have e3 : wrapR .i64 ((j : Int) - 1) = .i .i64 ((j : Int) - 1) := wrapR_i64 (by omega)
    have hb := ht _ (List.getElem_mem hj)
    have e5 : wrapR .i64 (t * x.1[j]) = .i .i64 (t * x.1[j]) := wrapR_i64 (by omega)
    have rd : ∀ K : Heap, ∃ bo a c, dkc pg (den pg) (.ixS 2 true) [(elS false).lt false X, .i .i64 (i : Int)] K = some (.bp bo (.agg [a, c]), K) ∧
        (∃ p, dkc pg (den pg) (.fadr 0 1 false) [.bp bo (.agg [a, c])] K = some (.bp bo a, K) ∧ dkc pg (den pg) (.ld 1 false) [.bp bo a] K = some (a, K) ∧ dkc pg (den pg) (.ixS 1 false) [a, .i .i64 (j : Int)] K = some (p, K) ∧ dkc pg (den pg) (.ld 1 false) [p] K = some (.i .i64 x.1[j], K)) ∧
        (∃ p, dkc pg (den pg) (.fadr 1 1 false) [.bp bo (.agg [a, c])] K = some (.bp bo c, K) ∧ dkc pg (den pg) (.ld 1 false) [.bp bo c] K = some (c, K) ∧ dkc pg (den pg) (.ixS 1 false) [c, .i .i64 (j : Int)] K = some (p, K) ∧ dkc pg (den pg) (.ld 1 false) [p] K = some (.i .i64 x.2[j], K)) := by
      intro K
      obtain ⟨bo, a, c, hix, ha, hc⟩ := (elS_RV false false X).ix (pg := pg) (R := den pg) hx K
      obtain ⟨f1, f2⟩ := k_fadrP (pg := pg) (R := den pg) bo a c ha.noagg hc.noagg K
      obtain ⟨p, hp, hv⟩ := ixI (pg := pg) (R := den pg) (ha.view K) (List.getElem?_eq_getElem hj)
      obtain ⟨q, hq, hw⟩ := ixI (pg := pg) (R := den pg) (hc.view K) (List.getElem?_eq_getElem hj2)
      exact ⟨bo, a, c, hix, ⟨p, f1, k_ldV bo a ha.one K, hp, hv⟩, ⟨q, f2, k_ldV bo c hc.one K, hq, hw⟩⟩
    obtain ⟨ld0, ld1, _⟩ := hp.ld (pg := pg) (R := den pg)
    obtain ⟨a', H1, H2, c', H3, H4, p1, p2, p3, p4, p5⟩ := hp.push (pg := pg) (R := den pg) (t * x.1[j]) x.2[j] (by simp; omega)
    have s1 : ((x.1.map (t * ·)).drop j).reverse = ((x.1.map (t * ·)).drop (j + 1)).reverse ++ [t * x.1[j]] := by
      rw [List.drop_eq_getElem_cons (by simpa using hj), List.reverse_cons, List.getElem_map]
    have s2 : (x.2.drop j).reverse = (x.2.drop (j + 1)).reverse ++ [x.2[j]] := by
      rw [List.drop_eq_getElem_cons hj2, List.reverse_cons]
    rw [← s1, ← s2] at p5
    obtain ⟨bo1, a1, c1, i1, ⟨q1, w1, w2, w3, w4⟩, _⟩ := rd H
    obtain ⟨bo2, a2, c2, i2, _, ⟨q2, v1, v2, v3, v4⟩⟩ := rd H2
    obtain ⟨e, a3, c3, H5, k1, k2, k3⟩ := l8_5_all (pg := pg) hx hl ht (B := B) (Y := Y) (S := S) (O := O) j a' c' H4 (by omega) p5
    refine ⟨e, a3, c3, H5, Eq.trans ?_ k1, k2, k3⟩
    rw [e0]
    generalize hjj : (j : Int) = jj at *
    generalize x.1[j] = xj at *
    generalize x.2[j] = yj at *
    rw [l8_5, den_loop]
    simp [l8_5, b8_4, go_nil, go_last, go_past, go_pastR, go_blkN, go_blkR, go_blkE, go_skip, go_exit, go_ret, go_scope, go_seq, go_reg, go_block, go_cond, cnd_b, go_opsN, go_ops, go_opsG, grd_b, grd_u, stp_some, fin_some, up_some, cont_some, k_call, k_mv, k_pick, k_bin, k_eqB, k_eqA, k_not, k_neg, k_conv, k_alloc, k_boxA, k_boxI, k_boxB, k_boxN, k_boxBs, k_ldR, k_ldA, k_ldI, k_ldB, k_stA, k_stI, k_stB, ldC_some, stC_some, k_mkfn, k_slc, k_slcA, k_ixA, k_ixBs, k_ixSl, k_fadr, k_fld, k_ext, k_len, k_app, k_mn, k_mx, k_nilck, k_build, k_bsl1, k_bsl2, b_add, b_sub, b_mul, b_eql, b_neq, b_lss, b_leq, b_gtr, b_geq, Dn.setLast, Dn.getLast, evalO, mapO, Dn.get, putE, keepE, TV.one, TV.isAgg, Dn.part, e4, e3, ld0, ld1, i1, w1, w2, w3, w4, e5, p1, p2, i2, v1, v2, v3, v4, p3, p4]

end Go.Proofs.Tryd.Dn

