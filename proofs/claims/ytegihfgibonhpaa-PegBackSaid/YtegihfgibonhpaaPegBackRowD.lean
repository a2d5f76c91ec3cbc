/-
  PegBack: games turned round; the whole run.
-/
import Derived.Test.YtegihfgibonhpaaPf
import Derived.Test.YtegihfgibonhpaaPe
set_option linter.unusedSimpArgs false
set_option linter.unusedVariables false

namespace Go.Proofs.Try.Dn
open Go.Dn

theorem nd_bit {m k i : Nat} (hm : m < 65536) : (nd m k).testBit i = (m.testBit i && !k.testBit i) := by
  unfold nd
  rw [BitVec.testBit_toNat, BitVec.getLsbD_and, BitVec.getLsbD_not, BitVec.getLsbD_ofNat, BitVec.getLsbD_ofNat]
  by_cases hi : i < 64
  · simp [hi]
  · have : m.testBit i = false := Nat.testBit_lt_two_pow (Nat.lt_of_lt_of_le hm (Nat.le_trans (by decide : 65536 ≤ 2 ^ 64) (Nat.pow_le_pow_right (by decide) (by omega))))
    simp [hi, this]

theorem two_bit (a i : Nat) : (2 ^ a).testBit i = decide (a = i) := Nat.testBit_two_pow

theorem leap_bit {m : Nat} {j : Line} (hm : m < 65536) (i : Nat) : (leap m j).testBit i = ((m.testBit i && !(decide (j.1.toNat = i) || decide (j.2.1.toNat = i))) || decide (j.2.2.toNat = i)) := by
  unfold leap
  rw [Nat.testBit_or, nd_bit hm, Nat.testBit_or, two_bit, two_bit, two_bit]

theorem leap_ltn {m k : Nat} {j : Line} (hm : m < 2 ^ k) (hj : j.2.2.toNat < k) : leap m j < 2 ^ k := by
  have h1 := nd_le m (2 ^ j.1.toNat ||| 2 ^ j.2.1.toNat)
  exact Nat.or_lt_two_pow (by omega) (Nat.pow_lt_pow_right (by decide) hj)

theorem Reach.ltn {k : Nat} {l : List Line} {p q : Nat} (hf : ∀ x ∈ l, Fits (k : Int) x) (hp : p < 2 ^ k) (h : Reach l p q) : q < 2 ^ k := by
  induction h with
  | here => exact hp
  | jump h hj hc ih =>
    have := js_fits hf _ hj
    unfold FitsJ at this
    exact leap_ltn ih (by omega)

theorem Reach.head {l : List Line} {p q : Nat} {j : Line} (hj : j ∈ js l) (hc : can p j = true) (h : Reach l (leap p j) q) : Reach l p q := by
  induction h with
  | here => exact .jump .here hj hc
  | jump _ hj' hc' ih => exact .jump ih hj' hc'

/-- the holes without a peg -/
def comp (k m : Nat) : Nat := nd (2 ^ k - 1) m

theorem comp_bit {k m i : Nat} (hk : k ≤ 16) : (comp k m).testBit i = (decide (i < k) && !m.testBit i) := by
  have h1 : 2 ^ k ≤ 2 ^ 16 := Nat.pow_le_pow_right (by decide) hk
  have h2 : 0 < 2 ^ k := Nat.two_pow_pos k
  unfold comp
  rw [nd_bit (by omega), Nat.testBit_two_pow_sub_one]

theorem comp_lt (k m : Nat) : comp k m < 2 ^ k := by
  have := nd_le (2 ^ k - 1) m
  have h2 : 0 < 2 ^ k := Nat.two_pow_pos k
  unfold comp
  omega

theorem comp_comp {k m : Nat} (hk : k ≤ 16) (hm : m < 2 ^ k) : comp k (comp k m) = m := by
  apply Nat.eq_of_testBit_eq
  intro i
  rw [comp_bit hk, comp_bit hk]
  by_cases hi : i < k
  · simp [hi]
  · have : m.testBit i = false := Nat.testBit_lt_two_pow (Nat.lt_of_lt_of_le hm (Nat.pow_le_pow_right (by decide) (by omega)))
    simp [hi, this]

theorem back_jump {k m : Nat} {j : Line} (hk : k ≤ 16) (hm : m < 2 ^ k) (hj : FitsJ (k : Int) j) (hc : can m j = true) : can (comp k (leap m j)) j = true ∧ leap (comp k (leap m j)) j = comp k m := by
  obtain ⟨a, b, c⟩ := j
  unfold FitsJ at hj
  simp only at hj
  have h16 : 2 ^ k ≤ 2 ^ 16 := Nat.pow_le_pow_right (by decide) hk
  have hm16 : m < 65536 := by omega
  have hcl : comp k (leap m (a, b, c)) < 65536 := by have := comp_lt k (leap m (a, b, c)); omega
  simp only [can, Bool.and_eq_true, Bool.not_eq_true'] at hc
  obtain ⟨⟨ha, hb⟩, hcc⟩ := hc
  have hak : a.toNat < k := by omega
  have hbk : b.toNat < k := by omega
  have hck : c.toNat < k := by omega
  have hac : ¬ c.toNat = a.toNat := by omega
  have hbc : ¬ c.toNat = b.toNat := by omega
  have hca : ¬ a.toNat = c.toNat := by omega
  have hcb : ¬ b.toNat = c.toNat := by omega
  constructor
  · simp only [can, comp_bit hk, leap_bit hm16]
    simp [hak, hbk, hck, hac, hbc, ha, hb, hcc]
  · apply Nat.eq_of_testBit_eq
    intro i
    rw [leap_bit hcl, comp_bit hk, comp_bit hk, leap_bit hm16]
    simp only
    by_cases hic : c.toNat = i
    · subst hic
      simp [hck, hcc]
    · by_cases hia : a.toNat = i
      · subst hia; simp [hic, ha]
      · by_cases hib : b.toNat = i
        · subst hib; simp [hic, hb]
        · simp [hic, hia, hib]

theorem back_reach {k : Nat} {l : List Line} {p q : Nat} (hk : k ≤ 16) (hf : ∀ x ∈ l, Fits (k : Int) x) (hp : p < 2 ^ k) (h : Reach l p q) : Reach l (comp k q) (comp k p) := by
  induction h with
  | here => exact .here
  | jump h hj hc ih =>
    obtain ⟨h1, h2⟩ := back_jump hk (h.ltn hf hp) (js_fits hf _ hj) hc
    exact Reach.head hj h1 (by rw [h2]; exact ih)

theorem back_iff {k : Nat} {l : List Line} {p q : Nat} (hk : k ≤ 16) (hf : ∀ x ∈ l, Fits (k : Int) x) (hp : p < 2 ^ k) (hq : q < 2 ^ k) : Reach l p q ↔ Reach l (comp k q) (comp k p) := by
  refine ⟨back_reach hk hf hp, fun h => ?_⟩
  have := back_reach hk hf (comp_lt k q) h
  rwa [comp_comp hk hp, comp_comp hk hq] at this

theorem out_false {k m : Nat} (hm : m < 2 ^ k) : outOf (k : Int) (m : Int) = false := by
  have h : ((2 ^ k : Nat) : Int) = (2 : Int) ^ k := by simp
  simp only [outOf, Int.toNat_natCast, ← h]
  simp
  omega

theorem mem_posList {S : Nat → Bool} {x : Int} (h : x ∈ posList S) : ∃ m : Nat, x = (m : Int) ∧ S m = true := by
  unfold posList at h
  obtain ⟨m, hm, rfl⟩ := List.mem_map.1 h
  exact ⟨m, rfl, (List.mem_filter.1 hm).2⟩

theorem posList_mem {S : Nat → Bool} {m : Nat} (hm : m < 65536) (h : S m = true) : (m : Int) ∈ posList S :=
  List.mem_map.2 ⟨m, List.mem_filter.2 ⟨List.mem_range.2 hm, h⟩, rfl⟩

theorem posList_len (S : Nat → Bool) : (posList S).length ≤ 65536 := by
  unfold posList
  rw [List.length_map]
  exact Nat.le_trans (List.length_filter_le _ _) (by simp)

theorem idx_big {S : Int} {k : Nat} (h0 : 0 < k) (hk : k ≤ 1000000) : ∃ i : Nat, i < k ∧ binI .rem (.i .u64 (IntKind.wrap .u64 S)) (.i .u64 (k : Int)) = some (.i .u64 (i : Int)) := by
  have hs : 0 ≤ IntKind.wrap .u64 S := by simp [IntKind.wrap, IntKind.signed, IntKind.bits]; omega
  refine ⟨(IntKind.wrap .u64 S % (k : Int)).toNat, ?_, ?_⟩
  · have := Int.emod_lt_of_pos (IntKind.wrap .u64 S) (by omega : (0 : Int) < k)
    have := Int.emod_nonneg (IntKind.wrap .u64 S) (by omega : (k : Int) ≠ 0)
    omega
  · rw [b_rem, if_neg (by omega), Int.tmod_eq_emod_of_nonneg hs]
    have := Int.emod_nonneg (IntKind.wrap .u64 S) (by omega : (k : Int) ≠ 0)
    congr 2
    omega

def RT (S : Nat → Bool) : TV := elI.lt false (posList S)

theorem l6_round {pg : Pg} (hF : Free pg) {k : Nat} {l : List Line} (hc : chk (k : Int) l = 0) {p q : Nat} (hp : p < 2 ^ k) (hq : q < 2 ^ k) {S : Nat → Bool} (hS : ∀ q, S q = true ↔ Reach l p q) {r P Q : Int} (hr : 0 ≤ r ∧ r < 2) {H : Heap} (hH : H[0]? = some (.cells [.i .i64 P, .i .i64 Q] true)) :
    ∃ q' : Nat, q' < 2 ^ k ∧ den pg l6_1 [(0, .i .i64 (k : Int)), (5, .ref 0 0), (7, LT false l), (8, .i .i64 ((2 ^ k - 1 : Nat) : Int)), (9, .i .i64 (p : Int)), (10, .i .i64 (q : Int)), (11, RT S), (13, .i .i64 r)] H =
      den pg l6_1 [(0, .i .i64 (k : Int)), (5, .ref 0 0), (7, LT false l), (8, .i .i64 ((2 ^ k - 1 : Nat) : Int)), (9, .i .i64 (p : Int)), (10, .i .i64 (q' : Int)), (11, RT S), (13, .i .i64 (r + 1))] H := by
  obtain ⟨hn1, hn2, hl, hf⟩ := chk_ok hc
  have hk : k ≤ 16 := by omega
  have h16 : 2 ^ k ≤ 2 ^ 16 := Nat.pow_le_pow_right (by decide) hk
  have e0 : r < 2 := hr.2
  have e2 : wrapR .i64 (r + 1) = .i .i64 (r + 1) := wrapR_i64 (by omega)
  obtain ⟨ok, g, o1, _, _, f20⟩ := fn20 (pg := pg) hF hc (p := p) (q := q) (by omega) (by omega) (out_false hp) (out_false hq)
  obtain ⟨ok', g', o1', _, _, f20'⟩ := fn20 (pg := pg) hF hc (p := comp k q) (q := comp k p) (by have := comp_lt k q; omega) (by have := comp_lt k p; omega) (out_false (comp_lt k q)) (out_false (comp_lt k p))
  have hok : ok' = ok := by
    rw [Bool.eq_iff_iff, o1, o1']
    exact (back_iff hk hf hp hq).symm
  subst hok
  have c20 := fun H => Fn.call f20 (args := [.i .i64 (k : Int), LT false l, .i .i64 (p : Int), .i .i64 (q : Int)]) (ks := []) (fs := []) (cs := []) (H := H) (by simp [snapArgs, sn_i, LW_snap0])
  have c20' := fun H => Fn.call f20' (args := [.i .i64 (k : Int), LT false l, .i .i64 (comp k q : Int), .i .i64 (comp k p : Int)]) (ks := []) (fs := []) (cs := []) (H := H) (by simp [snapArgs, sn_i, LW_snap0])
  have hall : 2 ^ k - 1 < 65536 := by have := Nat.two_pow_pos k; omega
  have n1 : binI .andNot (.i .i64 ((2 ^ k - 1 : Nat) : Int)) (.i .i64 (q : Int)) = some (.i .i64 ((comp k q : Nat) : Int)) := nd_eq hall
  have n2 : binI .andNot (.i .i64 ((2 ^ k - 1 : Nat) : Int)) (.i .i64 (p : Int)) = some (.i .i64 ((comp k p : Nat) : Int)) := nd_eq hall
  have hVR : elI.View H (RT S) (posList S) := El.lt_view _ _ _
  have hlenR := hVR.lenK
  have hR0 : 0 < (posList S).length := List.length_pos_iff.2 (List.ne_nil_of_mem (posList_mem (m := p) (by omega) ((hS p).2 .here)))
  have hRl := posList_len S
  obtain ⟨ix, hix, hrem⟩ := idx_big (S := Q) hR0 (by omega)
  have e10 : wrapR .u64 Q = .i .u64 (IntKind.wrap .u64 Q) := rfl
  have e11 : wrapR .u64 ((posList S).length : Int) = .i .u64 ((posList S).length : Int) := by unfold wrapR; simp [IntKind.wrap, IntKind.signed, IntKind.bits]; omega
  have e12 : wrapR .i64 (ix : Int) = .i .i64 (ix : Int) := wrapR_i64 (by omega)
  have hg : (posList S)[ix]? = some (posList S)[ix] := List.getElem?_eq_getElem hix
  obtain ⟨m, hm1, hm2⟩ := mem_posList (List.getElem_mem hix)
  rw [hm1] at hg
  have hm : m < 2 ^ k := ((hS m).1 hm2).ltn hf hp
  obtain ⟨a, ha, hv⟩ := ixI (pg := pg) (R := den pg) hVR hg
  have hq1 : dkc pg (den pg) (.ld 1 false) [.ref 0 1] H = some (.i .i64 Q, H) := by rw [k_ldR, hH]; rfl
  have hle : ¬ ((2 ^ k - 1 : Nat) : Int) < (m : Int) := by omega
  have hm0 : ¬ (m : Int) < 0 := by omega
  refine ⟨m, hm, ?_⟩
  generalize ((2 ^ k - 1 : Nat) : Int) = ALL at n1 n2 hle ⊢
  rw [l6_1, den_loop]
  simp [l6_1, b6_0, go_nil, go_last, go_past, go_pastR, go_blkN, go_blkR, go_blkE, go_skip, go_exit, go_ret, go_scope, go_seq, go_reg, go_block, go_cond, cnd_b, go_opsN, go_ops, go_opsG, grd_b, grd_u, stp_some, fin_some, up_some, cont_some, k_call, k_mv, k_pick, k_bin, k_eqB, k_eqA, k_not, k_neg, k_conv, k_alloc, k_boxA, k_boxI, k_boxB, k_boxN, k_boxBs, k_ldR, k_ldA, k_ldI, k_ldB, k_stA, k_stI, k_stB, ldC_some, stC_some, k_mkfn, k_slc, k_slcA, k_ixA, k_ixBs, k_ixSl, k_fadr, k_fld, k_ext, k_len, k_app, k_mn, k_mx, k_nilck, k_build, k_bsl1, k_bsl2, b_add, b_sub, b_mul, b_eql, b_neq, b_lss, b_leq, b_gtr, b_geq, Dn.setLast, Dn.getLast, evalO, mapO, Dn.get, putE, keepE, TV.one, TV.isAgg, Dn.part, e0, e2, c20, c20', n1, n2, negb, hq1, e10, hlenR, e11, hrem, e12, ha, hv, hle, hm0]


theorem run6 {pg : Pg} (hF : Free pg) (h22 : Fn pg 22 [] (.b true)) (n : Int) (t : TV) (l : List Line) (P Q : Int) (ht : IsLines t l) :
    ∃ H, bodyRun pg (den pg) 6 [.i .i64 n, t, .agg [.i .i64 P, .i .i64 Q]] [] = some (.b true, H) := by
  obtain ⟨N, m, hN1, hN2, hm, hc, h18⟩ := call18 hF (n := n) (most := 12) (many := 20) (by omega) ht (by omega)
  simp only [Int.cast_ofNat_Int] at h18
  obtain ⟨k, rfl⟩ : ∃ k : Nat, N = (k : Int) := ⟨N.toNat, by omega⟩
  obtain ⟨hn1, hn2, hl, hf⟩ := chk_ok hc
  have hk : k ≤ 16 := by omega
  have e3 : ∀ v, wrapR .u64 v = .i .u64 (IntKind.wrap .u64 v) := fun _ => rfl
  have h16 : 2 ^ k ≤ 2 ^ 16 := Nat.pow_le_pow_right (by decide) hk
  have h0 : 0 < 2 ^ k := Nat.two_pow_pos k
  have hsh := shl_eq (k := .i64) (a := (k : Int)) (by omega) (by omega)
  simp only [Int.toNat_natCast] at hsh
  have es : wrapR .i64 (((2 ^ k : Nat) : Int) - 1) = .i .i64 ((2 ^ k - 1 : Nat) : Int) := by rw [wrapR_i64 (by omega)]; congr 1; omega
  have ea : wrapR .i64 (((2 ^ k - 1 : Nat) : Int) + 1) = .i .i64 ((2 ^ k : Nat) : Int) := by rw [wrapR_i64 (by omega)]; congr 1; omega
  have eu : wrapR .u64 ((2 ^ k : Nat) : Int) = .i .u64 ((2 ^ k : Nat) : Int) := by
    generalize 2 ^ k = w at h16 ⊢
    unfold wrapR; simp [IntKind.wrap, IntKind.signed, IntKind.bits]; omega
  have hz : ¬ ((2 ^ k : Nat) : Int) = 0 := by omega
  have hcast : ((2 ^ k : Nat) : Int) = (2 : Int) ^ k := by simp
  obtain ⟨p, hp, hpe⟩ : ∃ p : Nat, p < 2 ^ k ∧ wrapR .i64 (Int.tmod (IntKind.wrap .u64 P) ((2 ^ k : Nat) : Int)) = .i .i64 (p : Int) := by
    have h1 := posOf_range hk P
    refine ⟨(posOf k P).toNat, by omega, ?_⟩
    rw [hcast, posOf_i64 hk]; congr 1; omega
  obtain ⟨q, hq, hqe⟩ : ∃ q : Nat, q < 2 ^ k ∧ wrapR .i64 (Int.tmod (IntKind.wrap .u64 Q) ((2 ^ k : Nat) : Int)) = .i .i64 (q : Int) := by
    have h1 := posOf_range hk Q
    refine ⟨(posOf k Q).toNat, by omega, ?_⟩
    rw [hcast, posOf_i64 hk]; congr 1; omega
  obtain ⟨S, hS, f24⟩ := fn24 (pg := pg) hF hc (p := p) (by omega) (out_false hp)
  have c24 := fun H => Fn.call f24 (args := [.i .i64 (k : Int), LT false m, .i .i64 (p : Int)]) (ks := []) (fs := []) (cs := []) (H := H) (by simp [snapArgs, sn_i, LW_snap0])
  have hVR : ∀ H, elI.View H (RT S) (posList S) := El.lt_view _ _
  have hlenR := fun H H' => (hVR H).lenK H'
  have hR0 : 0 < (posList S).length := List.length_pos_iff.2 (List.ne_nil_of_mem (posList_mem (m := p) (by omega) ((hS p).2 .here)))
  have hlt1 : ¬ ((posList S).length : Int) < 1 := by omega
  have hrt : elI.lt false (posList S) = RT S := rfl
  rw [hrt] at c24
  obtain ⟨q1, hq1, r1⟩ := l6_round (pg := pg) hF hc hp hq hS (r := 0) (P := P) (Q := Q) (H := [.cells [.i .i64 P, .i .i64 Q] true]) (by omega) rfl
  obtain ⟨q2, hq2, r2⟩ := l6_round (pg := pg) hF hc hp hq1 hS (r := 1) (P := P) (Q := Q) (H := [.cells [.i .i64 P, .i .i64 Q] true]) (by omega) rfl
  have c22 := fun H => Fn.call h22 (args := []) (ks := []) (fs := []) (cs := []) (H := H) (by simp [snapArgs])
  refine ⟨[.cells [.i .i64 P, .i .i64 Q] true], bodyRun_of (o := ⟨.ret, [(6, .b true)], [.cells [.i .i64 P, .i .i64 Q] true]⟩) (vs := [.b true]) (d := d6) (by rw [hF.F]; rfl) rfl ?_ (by simp) rfl⟩
  rw [runC_go]
  generalize ((2 ^ k - 1 : Nat) : Int) = ALL at r1 r2 es ea
  generalize ((2 ^ k : Nat) : Int) = PW at hsh es ea eu hz hpe hqe
  have r3 : den pg l6_1 [(0, .i .i64 (k : Int)), (5, .ref 0 0), (7, LT false m), (8, .i .i64 ALL), (9, .i .i64 (p : Int)), (10, .i .i64 (q2 : Int)), (11, RT S), (13, .i .i64 2)] [.cells [.i .i64 P, .i .i64 Q] true] = some ⟨.exit 0, [(0, .i .i64 (k : Int)), (5, .ref 0 0), (7, LT false m), (8, .i .i64 ALL), (9, .i .i64 (p : Int)), (10, .i .i64 (q2 : Int)), (11, RT S), (13, .i .i64 2), (60, .b false)], [.cells [.i .i64 P, .i .i64 Q] true]⟩ := by
    rw [l6_1, den_loop]
    simp [b6_0, go_nil, go_last, go_past, go_pastR, go_blkN, go_blkR, go_blkE, go_skip, go_exit, go_ret, go_scope, go_seq, go_reg, go_block, go_cond, cnd_b, go_opsN, go_ops, go_opsG, grd_b, grd_u, stp_some, fin_some, up_some, cont_some, k_call, k_mv, k_pick, k_bin, k_eqB, k_eqA, k_not, k_neg, k_conv, k_alloc, k_boxA, k_boxI, k_boxB, k_boxN, k_boxBs, k_ldR, k_ldA, k_ldI, k_ldB, k_stA, k_stI, k_stB, ldC_some, stC_some, k_mkfn, k_slc, k_slcA, k_ixA, k_ixBs, k_ixSl, k_fadr, k_fld, k_ext, k_len, k_app, k_mn, k_mx, k_nilck, k_build, k_bsl1, k_bsl2, b_add, b_sub, b_mul, b_eql, b_neq, b_lss, b_leq, b_gtr, b_geq, Dn.setLast, Dn.getLast, evalO, mapO, Dn.get, putE, keepE, TV.one, TV.isAgg, Dn.part]
  have hr := r1.trans (r2.trans r3)
  have eP : wrapR .u64 P = .i .u64 (IntKind.wrap .u64 P) := rfl
  have eQ : wrapR .u64 Q = .i .u64 (IntKind.wrap .u64 Q) := rfl
  simp [d6, c6, zipE, go_nil, go_last, go_past, go_pastR, go_blkN, go_blkR, go_blkE, go_skip, go_exit, go_ret, go_scope, go_seq, go_reg, go_block, go_cond, cnd_b, go_opsN, go_ops, go_opsG, grd_b, grd_u, stp_some, fin_some, up_some, cont_some, k_call, k_mv, k_pick, k_bin, k_eqB, k_eqA, k_not, k_neg, k_conv, k_alloc, k_boxA, k_boxI, k_boxB, k_boxN, k_boxBs, k_ldR, k_ldA, k_ldI, k_ldB, k_stA, k_stI, k_stB, ldC_some, stC_some, k_mkfn, k_slc, k_slcA, k_ixA, k_ixBs, k_ixSl, k_fadr, k_fld, k_ext, k_len, k_app, k_mn, k_mx, k_nilck, k_build, k_bsl1, k_bsl2, b_add, b_sub, b_mul, b_eql, b_neq, b_lss, b_leq, b_gtr, b_geq, Dn.setLast, Dn.getLast, evalO, mapO, Dn.get, putE, keepE, TV.one, TV.isAgg, Dn.part, h18, hsh, es, ea, eu, eP, eQ, b_rem, hz, hpe, hqe, c24, hlenR [], hlt1, go_denK (c := l6_1) rfl, hr, c22]

end Go.Proofs.Try.Dn

