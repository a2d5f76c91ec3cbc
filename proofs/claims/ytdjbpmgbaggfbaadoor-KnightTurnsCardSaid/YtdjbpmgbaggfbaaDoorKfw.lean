/-
  Knight: all turns of a closed tour have one turn that counts.
-/
import Derived.Test.YtdjbpmgbaggfbaaDoorKfv
import Derived.Test.YtdjbpmgbaggfbaaDoorKfi
set_option linter.unusedSimpArgs false
set_option linter.unusedVariables false

namespace Go.Proofs.Tryd.Dn
open Go.Dn

theorem modA (s x e n : Nat) : (s + x % n * e) % n = (s + x * e) % n := by
  rw [Nat.add_mod, Nat.mul_mod, Nat.mod_mod, ← Nat.mul_mod, ← Nat.add_mod]
theorem modB (x k m : Nat) (hm : 1 ≤ m) : (x + k * m * m) % (m + 1) = (x + k) % (m + 1) := by
  obtain ⟨j, rfl⟩ : ∃ j, m = j + 1 := ⟨m - 1, by omega⟩
  have : k * (j + 1) * (j + 1) = k + (j + 1 + 1) * (k * j) := by
    rw [Nat.mul_assoc, show (j + 1) * (j + 1) = 1 + (j + 1 + 1) * j by simp only [Nat.add_mul, Nat.mul_add, Nat.mul_one, Nat.one_mul]; omega, Nat.mul_add, Nat.mul_one, Nat.mul_left_comm]
  rw [this, ← Nat.add_assoc, Nat.add_mul_mod_self_left]
theorem modC (x k m : Nat) (hk : k ≤ m + 1) : (x + k * m) % (m + 1) = (x + (m + 1 - k)) % (m + 1) := by
  cases k with
  | zero => simp
  | succ k =>
    have : (k + 1) * m = (m + 1 - (k + 1)) + (m + 1) * k := by
      rw [Nat.add_mul, Nat.add_mul, Nat.mul_comm m k]
      omega
    rw [this, ← Nat.add_assoc, Nat.add_mul_mod_self_left]

def Turned (n e s : Nat) (l l' : List Int) : Prop := l'.length = n ∧ ∀ k, k < n → l'.getD k 0 = l.getD ((s + k * e) % n) 0

theorem nodup_getD {l : List Int} (h : l.Nodup) {i j : Nat} (hi : i < l.length) (hj : j < l.length) (he : l.getD i 0 = l.getD j 0) : i = j := by
  have h1 := getD_some hi
  have h2 := getD_some hj
  rw [List.getElem?_eq_getElem hi] at h1
  rw [List.getElem?_eq_getElem hj] at h2
  have : l[i] = l[j] := by
    have a := Option.some.inj h1
    have b := Option.some.inj h2
    rw [a, b, he]
  exact (List.getElem_inj h).1 this

theorem nodup_of {l : List Int} (h : ∀ i j, i < l.length → j < l.length → l.getD i 0 = l.getD j 0 → i = j) : l.Nodup := by
  unfold List.Nodup
  rw [List.pairwise_iff_getElem]
  intro i j hi hj hij he
  have h1 := getD_some hi
  have h2 := getD_some hj
  rw [List.getElem?_eq_getElem hi] at h1
  rw [List.getElem?_eq_getElem hj] at h2
  have := h i j hi hj (by rw [← Option.some.inj h1, ← Option.some.inj h2, he])
  omega

theorem turn_is {l : List Int} {i : Nat} (hl : 3 ≤ l.length) (hi : i < l.length) : turnS l i = turnR l i (turnD l i) := by
  obtain ⟨m, hm⟩ : ∃ m, l.length = m + 1 := ⟨l.length - 1, by omega⟩
  have ho : ∀ k, k < l.length → (turnO l i)[k]? = some (l.getD ((i + k) % l.length) 0) := fun k hk => by
    unfold turnO
    by_cases h1 : k < l.length - i
    · rw [List.getElem?_append_left (by simp; omega), List.getElem?_drop, Nat.mod_eq_of_lt (by omega)]
      exact getD_some (by omega)
    · rw [List.getElem?_append_right (by simp; omega), List.length_drop, List.getElem?_take, if_pos (by omega)]
      rw [show i + k = (k - (l.length - i)) + l.length by omega, Nat.add_mod_right, Nat.mod_eq_of_lt (by omega)]
      exact getD_some (by omega)
  have hg : ∀ k, k < l.length → (turnO l i).getD k 0 = l.getD ((i + k) % l.length) 0 := fun k hk => by rw [List.getD_eq_getElem?_getD, ho k hk]; rfl
  have hol := turnO_len (l := l) (i := i) (by omega)
  unfold turnS turnD
  rw [hg _ (by omega), hg 1 (by omega), hg 0 (by omega), show i + (l.length - 1) = i + l.length - 1 by omega]
  have hR : ∀ d k, k < l.length → (turnR l i d)[k]? = some (l.getD ((i + k * d) % l.length) 0) := fun d k hk => by unfold turnR; rw [List.getElem?_map, List.getElem?_range hk]; rfl
  have hRl : ∀ d, (turnR l i d).length = l.length := fun d => by simp [turnR]
  split
  · apply List.ext_getElem?
    intro k
    by_cases hk : k < l.length
    · rw [hR _ _ hk]
      cases k with
      | zero => simp
      | succ k =>
        rw [List.getElem?_append_right (by simp), List.length_singleton, Nat.add_sub_cancel, List.getElem?_reverse (by simp; omega), List.length_drop, hol, List.getElem?_drop, ho _ (by omega)]
        rw [hm, Nat.add_sub_cancel, modC i (k + 1) m (by omega)]
        congr 3
        omega
    · rw [List.getElem?_eq_none (by simp [hol]; omega), List.getElem?_eq_none (by rw [hRl]; omega)]
  · apply List.ext_getElem?
    intro k
    by_cases hk : k < l.length
    · rw [hR _ _ hk, ho _ hk, Nat.mul_one]
    · rw [List.getElem?_eq_none (by omega), List.getElem?_eq_none (by rw [hRl]; omega)]

theorem turned_law {n e s : Nat} {l l' : List Int} (hn : 3 ≤ n) (hl : l.length = n) (hnd : l.Nodup) (hs : s < 1000) (he : e = 1 ∨ e = n - 1) (ht : Turned n e s l l') {i i' : Nat} (hi : i < n) (hi' : i' < n) (h0 : l.getD i 0 = l'.getD i' 0) : turnR l' i' (turnD l' i') = turnR l i (turnD l i) := by
  obtain ⟨m, rfl⟩ : ∃ m, n = m + 1 := ⟨n - 1, by omega⟩
  obtain ⟨t1, t2⟩ := ht
  rw [Nat.add_sub_cancel] at he
  have hmod : ∀ x, x % (m + 1) < m + 1 := fun x => Nat.mod_lt _ (by omega)
  have hii : (s + i' * e) % (m + 1) = i := by
    rw [t2 i' hi'] at h0
    exact (nodup_getD hnd (by omega) (by rw [hl]; exact hmod _) h0).symm
  have hat : ∀ x, l'.getD ((i' + x) % (m + 1)) 0 = l.getD ((i + x * e) % (m + 1)) 0 := fun x => by
    have : (s + i' * e + x * e) % (m + 1) = (i + x * e) % (m + 1) := by rw [Nat.add_mod, hii, Nat.add_mod i (x * e), Nat.mod_eq_of_lt hi]
    rw [t2 _ (hmod _), modA, Nat.add_mul, ← Nat.add_assoc, this]
  have hRR : ∀ d d', (∀ k, (i + k * d' * e) % (m + 1) = (i + k * d) % (m + 1)) → turnR l' i' d' = turnR l i d := fun d d' h => by
    unfold turnR
    rw [t1, hl]
    refine List.map_congr_left fun k _ => ?_
    rw [hat, h k]
  have hD : turnD l i = if l.getD ((i + m) % (m + 1)) 0 < l.getD ((i + 1) % (m + 1)) 0 then m else 1 := by
    unfold turnD
    rw [hl, Nat.add_sub_cancel, show i + (m + 1) - 1 = i + m by omega]
  have hD' : turnD l' i' = if l.getD ((i + m * e) % (m + 1)) 0 < l.getD ((i + 1 * e) % (m + 1)) 0 then m else 1 := by
    unfold turnD
    rw [t1, Nat.add_sub_cancel, show i' + (m + 1) - 1 = i' + m by omega, hat, hat]
  rw [hD, hD']
  rcases he with rfl | rfl
  · rw [Nat.mul_one, Nat.one_mul]
    split
    · exact hRR _ _ fun k => by rw [Nat.mul_one]
    · exact hRR _ _ fun k => by rw [Nat.mul_one]
  · have e1 : (i + e * e) % (e + 1) = (i + 1) % (e + 1) := by have := modB i 1 e (by omega); rwa [Nat.one_mul] at this
    rw [e1, Nat.one_mul]
    have hne : l.getD ((i + e) % (e + 1)) 0 ≠ l.getD ((i + 1) % (e + 1)) 0 := fun hc => by
      have h1 := nodup_getD hnd (by rw [hl]; exact hmod _) (by rw [hl]; exact hmod _) hc
      by_cases hi0 : i = 0
      · rw [hi0, Nat.mod_eq_of_lt (by omega), Nat.mod_eq_of_lt (by omega)] at h1
        omega
      · rw [show i + e = (i - 1) + (e + 1) by omega, Nat.add_mod_right, Nat.mod_eq_of_lt (by omega)] at h1
        by_cases hie : i = e
        · rw [hie, Nat.mod_self] at h1
          omega
        · rw [Nat.mod_eq_of_lt (by omega)] at h1
          omega
    by_cases hlt : l.getD ((i + e) % (e + 1)) 0 < l.getD ((i + 1) % (e + 1)) 0
    · rw [if_pos hlt, if_neg (by omega)]
      exact hRR _ _ fun k => by rw [Nat.mul_one]
    · rw [if_neg hlt, if_pos (by omega)]
      exact hRR _ _ fun k => by rw [modB _ _ _ (by omega), Nat.mul_one]

end Go.Proofs.Tryd.Dn

/-
  Knight: a closed tour turned is a closed tour.
-/

namespace Go.Proofs.Tryd.Dn
open Go.Dn

theorem modInj {X a b n : Nat} (h1 : a < b + n) (h2 : b < a + n) (h : (X + a) % n = (X + b) % n) : a = b := by
  have e1 := Nat.div_add_mod (X + a) n
  have e2 := Nat.div_add_mod (X + b) n
  rw [h] at e1
  generalize (X + b) % n = y at *
  rcases Nat.lt_trichotomy ((X + a) / n) ((X + b) / n) with hq | hq | hq
  · have := Nat.mul_le_mul_left n (show (X + a) / n + 1 ≤ (X + b) / n by omega)
    rw [Nat.mul_add, Nat.mul_one] at this
    omega
  · rw [hq] at e1
    omega
  · have := Nat.mul_le_mul_left n (show (X + b) / n + 1 ≤ (X + a) / n by omega)
    rw [Nat.mul_add, Nat.mul_one] at this
    omega

theorem turned_closed {r c n e s : Nat} {l l' : List Int} (h : Brd r c) (hc : closedB r c l = true) (hn : n = r * c) (he : e = 1 ∨ e = n - 1) (ht : Turned n e s l l') : closedB r c l' = true := by
  obtain ⟨hl3, hln⟩ := closed_long h hc
  have hc' := hc
  unfold closedB at hc
  rw [Bool.and_eq_true] at hc
  obtain ⟨hT, hE⟩ := hc
  obtain ⟨m, hm⟩ : ∃ m, n = m + 1 := ⟨n - 1, by omega⟩
  obtain ⟨t1, t2⟩ := ht
  have hmod : ∀ x, x % n < n := fun x => Nat.mod_lt _ (by omega)
  have hnd : l.Nodup := by
    unfold tourB at hT
    rw [Bool.and_eq_true] at hT
    exact of_decide_eq_true hT.2
  -- the ring
  obtain ⟨g, hg⟩ : ∃ g : Nat → Nat, ∀ x, l.getD (x % n) 0 = (g x : Int) ∧ g x < n := by
    refine ⟨fun x => (l.getD (x % n) 0).toNat, fun x => ?_⟩
    obtain ⟨a, a1, a2, a3⟩ := tourB_at hT (i := x % n) (by rw [hln, ← hn]; exact hmod x)
    show l.getD (x % n) 0 = ((l.getD (x % n) 0).toNat : Int) ∧ (l.getD (x % n) 0).toNat < n
    rw [a3, Int.toNat_natCast]
    exact ⟨rfl, by omega⟩
  have gmod : ∀ x y, x % n = y % n → g x = g y := fun x y hxy => by
    have h1 := (hg x).1
    have h2 := (hg y).1
    rw [hxy] at h1
    omega
  have cyc : ∀ x, near c (g x) (g (x + 1)) = true := fun x => by
    by_cases hx : x % n + 1 < n
    · have hx1 : (x + 1) % n = x % n + 1 := by rw [Nat.add_mod, Nat.mod_eq_of_lt (show 1 < n by omega), Nat.mod_eq_of_lt hx]
      refine tourB_near hT (i := x % n) (by omega) (hg x).1 ?_
      rw [← hx1]; exact (hg (x + 1)).1
    · have hx0 : x % n = n - 1 := by have := hmod x; omega
      have hx1 : (x + 1) % n = 0 := by rw [Nat.add_mod, hx0, Nat.mod_eq_of_lt (show 1 < n by omega), show n - 1 + 1 = n by omega, Nat.mod_self]
      unfold endsB at hE
      have e1 := (hg x).1
      have e2 := (hg (x + 1)).1
      rw [hx0] at e1
      rw [hx1] at e2
      rw [show l.length - 1 = n - 1 by omega, e1, e2, Int.toNat_natCast, Int.toNat_natCast] at hE
      rw [near_comm]; exact hE
  have hg' : ∀ k, k < n → l'.getD k 0 = (g (s + k * e) : Int) := fun k hk => by rw [t2 k hk]; exact (hg _).1
  have step : ∀ k, near c (g (s + k * e)) (g (s + (k + 1) * e)) = true := fun k => by
    rcases he with rfl | rfl
    · rw [Nat.mul_one, Nat.mul_one, ← Nat.add_assoc]; exact cyc _
    · have h1 := cyc (s + (k + 1) * (n - 1))
      rw [near_comm, gmod (s + (k + 1) * (n - 1) + 1) (s + k * (n - 1)) ?_] at h1
      · exact h1
      · rw [Nat.add_mul, Nat.one_mul, show s + (k * (n - 1) + (n - 1)) + 1 = s + k * (n - 1) + n by omega, Nat.add_mod_right]
  unfold closedB
  rw [Bool.and_eq_true]
  constructor
  · unfold tourB
    rw [Bool.and_eq_true, Bool.and_eq_true]
    refine ⟨⟨decide_eq_true (by rw [t1, hn]), ?_⟩, decide_eq_true ?_⟩
    · unfold isWay
      rw [t1, dT (show 0 < n by omega), Bool.and_true, List.all_eq_true]
      intro k hk
      have hk := List.mem_range.1 hk
      unfold wayAt
      have hb := (hg (s + k * e)).2
      rw [hg' k hk, dT (by omega), dT (by omega), Bool.true_and, Bool.true_and]
      cases k with
      | zero => rfl
      | succ j =>
        rw [Bool.or_eq_true]
        refine .inr ?_
        rw [Nat.add_sub_cancel, hg' j (by omega), Int.toNat_natCast, Int.toNat_natCast]
        exact step j
    · refine nodup_of fun a b ha hb hab => ?_
      rw [t1] at ha hb
      rw [t2 a ha, t2 b hb] at hab
      have hidx := nodup_getD hnd (by rw [hln, ← hn]; exact hmod _) (by rw [hln, ← hn]; exact hmod _) hab
      rcases he with rfl | rfl
      · rw [Nat.mul_one, Nat.mul_one] at hidx
        exact modInj (by omega) (by omega) hidx
      · subst hm
        rw [Nat.add_sub_cancel, modC _ _ _ (by omega), modC _ _ _ (by omega)] at hidx
        have := modInj (by omega) (by omega) hidx
        omega
  · unfold endsB
    rw [t1, hg' 0 (by omega), hg' (n - 1) (by omega), Int.toNat_natCast, Int.toNat_natCast]
    rcases he with rfl | rfl
    · have h1 := cyc (s + (n - 1))
      rw [near_comm, gmod (s + (n - 1) + 1) s (by rw [show s + (n - 1) + 1 = s + n by omega, Nat.add_mod_right])] at h1
      simpa using h1
    · have h1 := cyc s
      rw [gmod (s + 1) (s + (n - 1) * (n - 1)) ?_] at h1
      · simpa using h1
      · subst hm
        have := modB s 1 m (by omega)
        rw [Nat.one_mul] at this
        rw [Nat.add_sub_cancel]; exact this.symm

end Go.Proofs.Tryd.Dn

/-
  Knight: the law of turns, run.
-/

namespace Go.Proofs.Tryd.Dn
open Go.Dn

theorem zero_at {r c : Nat} {l : List Int} (h : Brd r c) (hc : closedB r c l = true) : ∃ i, l[i]? = some 0 ∧ (∀ j, j < i → l[j]? ≠ some 0) ∧ i < l.length := by
  obtain ⟨hl3, hln⟩ := closed_long h hc
  unfold closedB at hc
  rw [Bool.and_eq_true] at hc
  have hnd : l.Nodup := by
    have := hc.1
    unfold tourB at this
    rw [Bool.and_eq_true] at this
    exact of_decide_eq_true this.2
  have hin : ∀ x, x ∈ l → 0 ≤ x ∧ x < ((r * c : Nat) : Int) := by
    have := hc.1
    unfold tourB at this
    rw [Bool.and_eq_true, Bool.and_eq_true] at this
    have hw := this.1.2
    unfold isWay at hw
    simp only [Bool.and_eq_true, List.all_eq_true, List.mem_range] at hw
    exact all_in hw.1
  have h0 := (all_there (n := r * c) hnd hin).2 hln 0 (by omega)
  obtain ⟨i, hi, hx⟩ := List.getElem_of_mem h0
  have hi0 : l[i]? = some 0 := by rw [List.getElem?_eq_getElem hi, hx]; rfl
  refine ⟨i, hi0, fun j hj hj0 => ?_, hi⟩
  have := nodup_getD hnd (i := j) (j := i) (by omega) hi (by rw [List.getD_eq_getElem?_getD, List.getD_eq_getElem?_getD, hi0, hj0])
  omega

def rotI (n s k : Nat) (fl : Bool) : Nat := if fl = true then s + n - k else s + k
def rotL (l : List Int) (s : Nat) (fl : Bool) : List Int := (List.range l.length).map fun k => l.getD (rotI l.length s k fl % l.length) 0

theorem l14_1_all {pg : Pg} {r c : Int} {A1 A : TV} {l : List Int} (hA : SV A1 l) (hl : l.length ≤ 1000) {s : Nat} (hs : s < l.length) {kk : Int} {fl : Bool} : ∀ (d k : Nat) (O : TV) (H : Heap), k + d = l.length → elI.Own H O ((rotL l s fl).take k) → H[0]? = some (.cells [A, .i .i64 kk, .b fl] true) → O.idOf ≠ some 0 →
    ∃ e H' O', den pg l14_1 [(0, .i .i64 r), (1, .i .i64 c), (5, .ref 0 0), (10, A1), (13, O), (14, .i .i64 (l.length : Int)), (15, .i .i64 (s : Int)), (16, .i .i64 (k : Int))] H = some ⟨.exit 0, e, H'⟩ ∧ keepE [0, 1, 10, 13] e = [(0, .i .i64 r), (1, .i .i64 c), (10, A1), (13, O')] ∧ elI.Own H' O' (rotL l s fl)
  | 0, k, O, H, hd, hO, h0, hO0 => by
    have hlen : (rotL l s fl).length = l.length := by simp [rotL]
    rw [List.take_of_length_le (by omega)] at hO
    have key : ∃ e, den pg l14_1 [(0, .i .i64 r), (1, .i .i64 c), (5, .ref 0 0), (10, A1), (13, O), (14, .i .i64 (l.length : Int)), (15, .i .i64 (s : Int)), (16, .i .i64 (k : Int))] H = some ⟨.exit 0, e, H⟩ ∧ keepE [0, 1, 10, 13] e = [(0, .i .i64 r), (1, .i .i64 c), (10, A1), (13, O)] := ⟨_, by
      rw [l14_1, den_loop]
      simp (disch := omega) [b14_0, go_nil, go_last, go_past, go_pastR, go_blkN, go_blkR, go_blkE, go_skip, go_exit, go_ret, go_scope, go_seq, go_reg, go_regd, go_opdN, go_opd, go_opdG, grdd_b, grdd_u, stpd_some, find_some, go_block, go_cond, cnd_b, go_opsN, go_ops, go_opsG, grd_b, grd_u, stp_some, fin_some, up_some, cont_some, k_call, k_mv, k_pick, k_bin, k_eqB, k_eqA, k_not, k_neg, k_conv, k_alloc, k_boxA, k_boxI, k_boxB, k_boxN, k_boxBs, k_ldR, k_ldA, k_ldI, k_ldB, k_stA, k_stI, k_stB, ldC_some, stC_some, k_mkfn, k_slc, k_slcA, k_ixA, k_ixBs, k_ixSl, k_fadr, k_fld, k_ext, k_len, k_app, k_mn, k_mx, k_nilck, k_build, k_bsl1, k_bsl2, b_add, b_sub, b_mul, b_eql, b_neq, b_lss, b_leq, b_gtr, b_geq, Dn.setLast, Dn.getLast, evalO, mapO, Dn.get, putE, keepE_nil, keepE_cons, kp_some, kp_none, TV.one, TV.isAgg, Dn.part, k_boxR, negb, at0, at1, at2, at3, at4, dT, dF, wrapR_i64, Option.bind_some, Option.map_some]
      rfl, rfl⟩
    obtain ⟨e, k1, k2⟩ := key
    exact ⟨e, H, O, k1, k2, hO⟩
  | d + 1, k, O, H, hd, hO, h0, hO0 => by
    have hkl : k < l.length := by omega
    have hm : rotI l.length s k fl % l.length < l.length := Nat.mod_lt _ (by omega)
    obtain ⟨p, p1, p2⟩ := ixI (pg := pg) (R := den pg) (hA.view H) (getD_some hm)
    have w1 : wrapR .i64 ((s : Int) + (k : Int)) = .i .i64 ((s + k : Nat) : Int) := by rw [← Int.natCast_add]; exact wrapR_i64 (by omega)
    have w2 : wrapR .i64 ((s : Int) + (l.length : Int)) = .i .i64 ((s + l.length : Nat) : Int) := by rw [← Int.natCast_add]; exact wrapR_i64 (by omega)
    have w3 : wrapR .i64 (((s + l.length : Nat) : Int) - (k : Int)) = .i .i64 ((s + l.length - k : Nat) : Int) := by rw [show ((s + l.length : Nat) : Int) - (k : Int) = ((s + l.length - k : Nat) : Int) by omega]; exact wrapR_i64 (by omega)
    have wk : wrapR .i64 ((k : Int) + 1) = .i .i64 ((k + 1 : Nat) : Int) := by rw [← Int.natCast_succ]; exact wrapR_i64 (by omega)
    have rm := remN (rotI l.length s k fl) (n := l.length) (by omega)
    have htk : (rotL l s fl).take (k + 1) = (rotL l s fl).take k ++ [l.getD (rotI l.length s k fl % l.length) 0] := take_snoc (by unfold rotL; rw [List.getElem?_map, List.getElem?_range hkl]; rfl)
    have hlen : (rotL l s fl).length = l.length := by simp [rotL]
    have hlt : decide ((k : Int) < (l.length : Int)) = true := dT (by omega)
    have lf : dkc pg (den pg) (.ld 1 false) [.ref 0 2] H = some (.b fl, H) := by simp [dkc, dk, h0, Dn.part, TV.isAgg]
    generalize l.getD (rotI l.length s k fl % l.length) 0 = v at *
    obtain ⟨H1, hH1⟩ : ∃ H1, H1 = H ++ [AObj.cells [.i .i64 v] false] := ⟨_, rfl⟩
    have h0l := (List.getElem?_eq_some_iff.1 h0).1
    have kbs : dkc pg (den pg) (.bsl false [.i .i64 0] false 1 [0]) [.i .i64 v] H = some (.sl H.length 0 1 false 1 (some 1), H1) := by rw [k_bsl1, hH1]
    have hO1 : elI.Own H1 O ((rotL l s fl).take k) := hO.mono fun j hj => by rw [hH1, List.getElem?_append_left (hO.lt j hj)]
    obtain ⟨O2, H2, a1, a2, a3, a4, a5⟩ := appI hO1 (by rw [hH1]; exact one_view H v) (by simp; omega)
    rw [← htk] at a2
    have lH1 : H1.length = H.length + 1 := by rw [hH1]; simp
    have h02 : H2[0]? = some (.cells [A, .i .i64 kk, .b fl] true) := by rw [a4 0 (by omega) hO0, hH1, List.getElem?_append_left h0l]; exact h0
    obtain ⟨e, H', O', k1, k2, k3⟩ := l14_1_all (pg := pg) (r := r) (c := c) hA hl hs d (k + 1) O2 H2 (by omega) a2 h02 (by rcases a5 with rfl | a5; exact hO0; intro he; have := a5 0 he; omega)
    refine ⟨e, H', O', Eq.trans ?_ k1, k2, k3⟩
    cases fl with
    | false =>
      have hI : rotI l.length s k false = s + k := rfl
      rw [hI] at rm p1
      generalize (((s + k) % l.length : Nat) : Int) = IX at *
      generalize ((s + k : Nat) : Int) = I1 at *
      generalize ((k + 1 : Nat) : Int) = K1 at *
      rw [l14_1, den_loop]
      simp (disch := omega) [l14_1, b14_0, go_nil, go_last, go_past, go_pastR, go_blkN, go_blkR, go_blkE, go_skip, go_exit, go_ret, go_scope, go_seq, go_reg, go_regd, go_opdN, go_opd, go_opdG, grdd_b, grdd_u, stpd_some, find_some, go_block, go_cond, cnd_b, go_opsN, go_ops, go_opsG, grd_b, grd_u, stp_some, fin_some, up_some, cont_some, k_call, k_mv, k_pick, k_bin, k_eqB, k_eqA, k_not, k_neg, k_conv, k_alloc, k_boxA, k_boxI, k_boxB, k_boxN, k_boxBs, k_ldR, k_ldA, k_ldI, k_ldB, k_stA, k_stI, k_stB, ldC_some, stC_some, k_mkfn, k_slc, k_slcA, k_ixA, k_ixBs, k_ixSl, k_fadr, k_fld, k_ext, k_len, k_app, k_mn, k_mx, k_nilck, k_build, k_bsl1, k_bsl2, b_add, b_sub, b_mul, b_eql, b_neq, b_lss, b_leq, b_gtr, b_geq, Dn.setLast, Dn.getLast, evalO, mapO, Dn.get, putE, keepE_nil, keepE_cons, kp_some, kp_none, TV.one, TV.isAgg, Dn.part, k_boxR, negb, at0, at1, at2, at3, at4, dT, dF, wrapR_i64, Option.bind_some, Option.map_some, k_fadr, hlt, w1, lf, rm, p1, p2, kbs, a1, wk]
    | true =>
      have hI : rotI l.length s k true = s + l.length - k := rfl
      rw [hI] at rm p1
      generalize (((s + l.length - k) % l.length : Nat) : Int) = IX at *
      generalize ((s + l.length - k : Nat) : Int) = I1 at *
      generalize ((s + l.length : Nat) : Int) = I2 at *
      generalize ((s + k : Nat) : Int) = I3 at *
      generalize ((k + 1 : Nat) : Int) = K1 at *
      rw [l14_1, den_loop]
      simp (disch := omega) [l14_1, b14_0, go_nil, go_last, go_past, go_pastR, go_blkN, go_blkR, go_blkE, go_skip, go_exit, go_ret, go_scope, go_seq, go_reg, go_regd, go_opdN, go_opd, go_opdG, grdd_b, grdd_u, stpd_some, find_some, go_block, go_cond, cnd_b, go_opsN, go_ops, go_opsG, grd_b, grd_u, stp_some, fin_some, up_some, cont_some, k_call, k_mv, k_pick, k_bin, k_eqB, k_eqA, k_not, k_neg, k_conv, k_alloc, k_boxA, k_boxI, k_boxB, k_boxN, k_boxBs, k_ldR, k_ldA, k_ldI, k_ldB, k_stA, k_stI, k_stB, ldC_some, stC_some, k_mkfn, k_slc, k_slcA, k_ixA, k_ixBs, k_ixSl, k_fadr, k_fld, k_ext, k_len, k_app, k_mn, k_mx, k_nilck, k_build, k_bsl1, k_bsl2, b_add, b_sub, b_mul, b_eql, b_neq, b_lss, b_leq, b_gtr, b_geq, Dn.setLast, Dn.getLast, evalO, mapO, Dn.get, putE, keepE_nil, keepE_cons, kp_some, kp_none, TV.one, TV.isAgg, Dn.part, k_boxR, negb, at0, at1, at2, at3, at4, dT, dF, wrapR_i64, Option.bind_some, Option.map_some, k_fadr, hlt, w1, w2, w3, lf, rm, p1, p2, kbs, a1, wk]

theorem rot_turned {l : List Int} {s : Nat} (fl : Bool) (hl : 3 ≤ l.length) : ∃ e, (e = 1 ∨ e = l.length - 1) ∧ Turned l.length e s l (rotL l s fl) := by
  have hg : ∀ k, k < l.length → (rotL l s fl).getD k 0 = l.getD (rotI l.length s k fl % l.length) 0 := fun k hk => by
    unfold rotL
    rw [List.getD_eq_getElem?_getD, List.getElem?_map, List.getElem?_range hk]
    rfl
  cases fl with
  | false => exact ⟨1, .inl rfl, by simp [rotL], fun k hk => by rw [hg k hk, Nat.mul_one]; rfl⟩
  | true =>
    refine ⟨l.length - 1, .inr rfl, by simp [rotL], fun k hk => ?_⟩
    rw [hg k hk]
    obtain ⟨m, hm⟩ : ∃ m, l.length = m + 1 := ⟨l.length - 1, by omega⟩
    rw [hm, Nat.add_sub_cancel, modC _ _ _ (by omega)]
    show l.getD ((s + (m + 1) - k) % (m + 1)) 0 = _
    rw [show s + (m + 1) - k = s + (m + 1 - k) by omega]

theorem turns_meet {r c n e s : Nat} {l l' : List Int} (h : Brd r c) (hc : closedB r c l = true) (hn : n = r * c) (hs : s < 1000) (he : e = 1 ∨ e = n - 1) (ht : Turned n e s l l') {i i' : Nat} (hi : l[i]? = some 0) (hi' : l'[i']? = some 0) : turnS l' i' = turnR l i (turnD l i) := by
  obtain ⟨hl3, hln⟩ := closed_long h hc
  have hil := (List.getElem?_eq_some_iff.1 hi).1
  have hil' := (List.getElem?_eq_some_iff.1 hi').1
  have hnd : l.Nodup := by
    unfold closedB tourB at hc
    rw [Bool.and_eq_true, Bool.and_eq_true] at hc
    exact of_decide_eq_true hc.1.2
  have t1 := ht.1
  rw [turn_is (by omega) hil']
  exact turned_law (by omega) (by omega) hnd hs he ht (by omega) (by omega) (by rw [List.getD_eq_getElem?_getD, List.getD_eq_getElem?_getD, hi, hi'])

end Go.Proofs.Tryd.Dn

/-
  Knight: the law of turns, run: the end.
-/

namespace Go.Proofs.Tryd.Dn
open Go.Dn

theorem sv_one {A : TV} {l : List Int} (h : SV A l) : A.one = true ∧ A.isAgg = false := by
  rcases h with ⟨rfl, _⟩ | ⟨b, rfl⟩ <;> exact ⟨rfl, rfl⟩

set_option maxRecDepth 100000 in
theorem run14 {pg : Pg} (hF : Free pg) (h25 : PFn pg 25 [] (.b true)) (x y : Int) {A : TV} {l : List Int} (hA : SV A l) (h64 : l.length ≤ 9223372036854775807) (kk : Int) (fl : Bool) : ∃ H, bodyRun pg (den pg) 14 [.i .i64 x, .i .i64 y, .agg [A, .i .i64 kk, .b fl]] [] = some (.b true, H) := by
  obtain ⟨r, c, h, c18⟩ := call18 hF x y
  have hn := h.n36
  have c25 := fun H => PFn.call h25 (args := []) (ks := []) (fs := []) (cs := []) (H := H) (by simp [snapArgs])
  obtain ⟨A', sA, hA'⟩ := sv_snapB hA
  obtain ⟨hone, hagg⟩ := sv_one hA
  have c50 := fun H => PFn.call (fn50 hF hA' h64) (args := [A]) (ks := []) (fs := []) (cs := []) (H := H) (by simp [snapArgs, sA])
  obtain ⟨lt, hlt⟩ : ∃ lt, lt = l.take 37 := ⟨_, rfl⟩
  have hl37 : lt.length ≤ 37 := by rw [hlt, List.length_take]; omega
  rw [← hlt] at c50
  have hs := fun H => snap_ints false H 7 lt
  have sv := SV.lt true lt
  have c23 := fun H => PFn.call (fn23 hF h sv (by omega)) (args := [.i .i64 (r : Int), .i .i64 (c : Int), elI.lt false lt]) (ks := []) (fs := []) (cs := []) (H := H) (by simp [snapArgs, sn_i, hs])
  -- the ride's cell
  obtain ⟨H0, hH0⟩ : ∃ H0 : Heap, H0 = [.cells [A, .i .i64 kk, .b fl] true] := ⟨_, rfl⟩
  have kb : dkc pg (den pg) (.box true) [.agg [A, .i .i64 kk, .b fl]] [] = some (.ref 0 0, H0) := by rw [k_boxA _ _ (by simp only [List.all_cons, List.all_nil, hone]; rfl), hH0]; rfl
  have g0 : H0[0]? = some (.cells [A, .i .i64 kk, .b fl] true) := by rw [hH0]; rfl
  have ld0 : dkc pg (den pg) (.ld 1 false) [.ref 0 0] H0 = some (A, H0) := by simp [dkc, dk, g0, Dn.part, hagg]
  have ld1 : dkc pg (den pg) (.ld 1 false) [.ref 0 1] H0 = some (.i .i64 kk, H0) := by simp [dkc, dk, g0, Dn.part, TV.isAgg]
  obtain ⟨L1, l1, p19, e1, t1, n1, b1⟩ := fn19 (pg := pg) hF h
  have c19 := fun H => PFn.at p19 (fun H => sa_I (sa_I sa_0)) H
  obtain ⟨RD, hRD⟩ : ∃ RD, RD = TV.agg [A, .i .i64 kk, .b fl] := ⟨_, rfl⟩
  rw [← hRD] at kb ⊢
  -- what the first half asks
  have first : (closedB r c lt = false ∧ (∀ H, callRun pg (den pg) (.pu []) [.fn 52 [] [], .i .i64 (r : Int), .i .i64 (c : Int), elI.lt false lt] H = some (.tup [.nilsl, .i .i64 60], H)) ∧ (tourB r c lt = false ∨ tourB r c lt = true ∧ ∀ H, callRun pg (den pg) (.pu []) [.fn 24 [] [], .i .i64 (c : Int), elI.lt false lt] H = some (.b false, H))) ∨
      (tourB r c lt = true ∧ (∀ H, callRun pg (den pg) (.pu []) [.fn 24 [] [], .i .i64 (c : Int), elI.lt false lt] H = some (.b true, H)) ∧ ∃ T, (∀ H, callRun pg (den pg) (.pu []) [.fn 52 [] [], .i .i64 (r : Int), .i .i64 (c : Int), elI.lt false lt] H = some (.tup [T, .i .i64 0], H)) ∧ ∃ T2, (∀ H, callRun pg (den pg) (.pu []) [.fn 53 [] [], elI.lt false lt] H = some (T2, H)) ∧ ∀ H, callRun pg (den pg) (.pu []) [.fn 32 [] [], T, T2] H = some (.b true, H)) := by
    cases hc : closedB r c lt with
    | false =>
      refine .inl ⟨rfl, fun H => PFn.call (fn52_no hF h sv (by omega) hc) (args := [.i .i64 (r : Int), .i .i64 (c : Int), elI.lt false lt]) (ks := []) (fs := []) (cs := []) (H := H) (by simp [snapArgs, sn_i, hs]), ?_⟩
      cases ht : tourB r c lt with
      | false => exact .inl rfl
      | true =>
        refine .inr ⟨rfl, fun H => ?_⟩
        have he : endsB c lt = false := by unfold closedB at hc; rw [ht] at hc; exact hc
        have := PFn.call (fn24 hF h sv ht) (args := [.i .i64 (c : Int), elI.lt false lt]) (ks := []) (fs := []) (cs := []) (H := H) (by simp [snapArgs, sn_i, hs])
        rwa [he] at this
    | true =>
      have hc2 := hc
      unfold closedB at hc2
      rw [Bool.and_eq_true] at hc2
      obtain ⟨i, i0, ib, il⟩ := zero_at h hc
      obtain ⟨hl3, hln⟩ := closed_long h hc
      refine .inr ⟨hc2.1, fun H => ?_, elI.lt false (turnS lt i), fun H => PFn.call (fn52_yes hF h sv (by omega) hc i0 ib) (args := [.i .i64 (r : Int), .i .i64 (c : Int), elI.lt false lt]) (ks := []) (fs := []) (cs := []) (H := H) (by simp [snapArgs, sn_i, hs]), elI.lt false (turnR lt i (turnD lt i)), fun H => PFn.call (fn53 hF sv (by omega) hl3 i0 ib) (args := [elI.lt false lt]) (ks := []) (fs := []) (cs := []) (H := H) (by simp [snapArgs, hs]), fun H => ?_⟩
      · have := PFn.call (fn24 hF h sv hc2.1) (args := [.i .i64 (c : Int), elI.lt false lt]) (ks := []) (fs := []) (cs := []) (H := H) (by simp [snapArgs, sn_i, hs])
        rwa [hc2.2] at this
      · have hR : (turnR lt i (turnD lt i)).length ≤ 37 := by simp [turnR]; omega
        have := call32 (pg := pg) hF (b := false) (b' := false) (l := turnS lt i) (l' := turnR lt i (turnD lt i)) (by rw [turn_is hl3 il]; omega) (by omega) H
        rwa [dT (turn_is hl3 il)] at this
  have lnil : ∀ K, lenK 0 TV.nilsl K = some 0 := fun _ => rfl
  have fin : ∃ H', go pg (den pg) [.c c14] .normal [(0, .i .i64 x), (1, .i .i64 y), (2, RD)] [] = some ⟨.ret, [(6, .b true)], H'⟩ := by
    cases hc : hasCl r c with
    | false =>
      rw [hc] at c19
      generalize elI.lt false lt = L7 at *
      refine ⟨H0, ?_⟩
      rcases first with ⟨_, f52, f1 | ⟨f1, f24⟩⟩ | ⟨f1, f24, T, f52, T2, f53, f32⟩
      · rw [f1] at c23
        simp (disch := omega) [c14, go_nil, go_last, go_past, go_pastR, go_blkN, go_blkR, go_blkE, go_skip, go_exit, go_ret, go_scope, go_seq, go_reg, go_regd, go_opdN, go_opd, go_opdG, grdd_b, grdd_u, stpd_some, find_some, go_block, go_cond, cnd_b, go_opsN, go_ops, go_opsG, grd_b, grd_u, stp_some, fin_some, up_some, cont_some, k_call, k_mv, k_pick, k_bin, k_eqB, k_eqA, k_not, k_neg, k_conv, k_alloc, k_boxA, k_boxI, k_boxB, k_boxN, k_boxBs, k_ldR, k_ldA, k_ldI, k_ldB, k_stA, k_stI, k_stB, ldC_some, stC_some, k_mkfn, k_slc, k_slcA, k_ixA, k_ixBs, k_ixSl, k_fadr, k_fld, k_ext, k_len, k_app, k_mn, k_mx, k_nilck, k_build, k_bsl1, k_bsl2, b_add, b_sub, b_mul, b_eql, b_neq, b_lss, b_leq, b_gtr, b_geq, Dn.setLast, Dn.getLast, evalO, mapO, Dn.get, putE, keepE_nil, keepE_cons, kp_some, kp_none, TV.one, TV.isAgg, Dn.part, k_boxR, negb, at0, at1, at2, at3, at4, dT, dF, wrapR_i64, Option.bind_some, Option.map_some, k_fadr, kb, c18, ld0, c50, c23, f52, c25, lnil, c19]
      · rw [f1] at c23
        simp (disch := omega) [c14, go_nil, go_last, go_past, go_pastR, go_blkN, go_blkR, go_blkE, go_skip, go_exit, go_ret, go_scope, go_seq, go_reg, go_regd, go_opdN, go_opd, go_opdG, grdd_b, grdd_u, stpd_some, find_some, go_block, go_cond, cnd_b, go_opsN, go_ops, go_opsG, grd_b, grd_u, stp_some, fin_some, up_some, cont_some, k_call, k_mv, k_pick, k_bin, k_eqB, k_eqA, k_not, k_neg, k_conv, k_alloc, k_boxA, k_boxI, k_boxB, k_boxN, k_boxBs, k_ldR, k_ldA, k_ldI, k_ldB, k_stA, k_stI, k_stB, ldC_some, stC_some, k_mkfn, k_slc, k_slcA, k_ixA, k_ixBs, k_ixSl, k_fadr, k_fld, k_ext, k_len, k_app, k_mn, k_mx, k_nilck, k_build, k_bsl1, k_bsl2, b_add, b_sub, b_mul, b_eql, b_neq, b_lss, b_leq, b_gtr, b_geq, Dn.setLast, Dn.getLast, evalO, mapO, Dn.get, putE, keepE_nil, keepE_cons, kp_some, kp_none, TV.one, TV.isAgg, Dn.part, k_boxR, negb, at0, at1, at2, at3, at4, dT, dF, wrapR_i64, Option.bind_some, Option.map_some, k_fadr, kb, c18, ld0, c50, c23, f24, f52, c25, lnil, c19]
      · rw [f1] at c23
        simp (disch := omega) [c14, go_nil, go_last, go_past, go_pastR, go_blkN, go_blkR, go_blkE, go_skip, go_exit, go_ret, go_scope, go_seq, go_reg, go_regd, go_opdN, go_opd, go_opdG, grdd_b, grdd_u, stpd_some, find_some, go_block, go_cond, cnd_b, go_opsN, go_ops, go_opsG, grd_b, grd_u, stp_some, fin_some, up_some, cont_some, k_call, k_mv, k_pick, k_bin, k_eqB, k_eqA, k_not, k_neg, k_conv, k_alloc, k_boxA, k_boxI, k_boxB, k_boxN, k_boxBs, k_ldR, k_ldA, k_ldI, k_ldB, k_stA, k_stI, k_stB, ldC_some, stC_some, k_mkfn, k_slc, k_slcA, k_ixA, k_ixBs, k_ixSl, k_fadr, k_fld, k_ext, k_len, k_app, k_mn, k_mx, k_nilck, k_build, k_bsl1, k_bsl2, b_add, b_sub, b_mul, b_eql, b_neq, b_lss, b_leq, b_gtr, b_geq, Dn.setLast, Dn.getLast, evalO, mapO, Dn.get, putE, keepE_nil, keepE_cons, kp_some, kp_none, TV.one, TV.isAgg, Dn.part, k_boxR, negb, at0, at1, at2, at3, at4, dT, dF, wrapR_i64, Option.bind_some, Option.map_some, k_fadr, kb, c18, ld0, c50, c23, f24, f52, f53, f32, c25, c19]
    | true =>
      rw [hc] at c19
      obtain ⟨ht1, he1⟩ := t1 hc
      have hcl : closedB r c l1 = true := by unfold closedB; rw [ht1, he1]; rfl
      obtain ⟨hl3, hln⟩ := closed_long h hcl
      have hs1 := fun H => snap_ints false H 7 l1
      have sv1 := SV.lt true l1
      have c23b := fun H => PFn.call (fn23 hF h sv1 (by omega)) (args := [.i .i64 (r : Int), .i .i64 (c : Int), elI.lt false l1]) (ks := []) (fs := []) (cs := []) (H := H) (by simp [snapArgs, sn_i, hs1])
      rw [ht1] at c23b
      have c24b := fun H => PFn.call (fn24 hF h sv1 ht1) (args := [.i .i64 (c : Int), elI.lt false l1]) (ks := []) (fs := []) (cs := []) (H := H) (by simp [snapArgs, sn_i, hs1])
      rw [he1] at c24b
      obtain ⟨i, i0, ib, il⟩ := zero_at h hcl
      have c53b := fun H => PFn.call (fn53 hF sv1 (by omega) hl3 i0 ib) (args := [elI.lt false l1]) (ks := []) (fs := []) (cs := []) (H := H) (by simp [snapArgs, hs1])
      have hlen1 := fun K => ((SV.lt false l1).view K).lenK K
      obtain ⟨w, m, q1, q2, q3, q4⟩ := conv_remB kk (n := l1.length) (by omega) (by omega)
      have wn := wrap_u (m := l1.length) (by omega)
      obtain ⟨e, H', O', k1, k2, k3⟩ := l14_1_all (pg := pg) (r := (r : Int)) (c := (c : Int)) (A := A) (SV.lt false l1) (by omega) q3 (kk := kk) (fl := fl) l1.length 0 .nilsl H0 (by omega) (.inl ⟨rfl, rfl⟩) g0 (by simp [TV.idOf])
      simp only [Int.natCast_zero] at k1
      have y0 := keep_get k2 (s := 0) (by simp) rfl
      have y1 := keep_get k2 (s := 1) (by simp) rfl
      have y10 := keep_get k2 (s := 10) (by simp) rfl
      have y13 := keep_get k2 (s := 13) (by simp) rfl
      obtain ⟨e', he', hT'⟩ := rot_turned (l := l1) (s := m) fl hl3
      have hcl' := turned_closed h hcl hln he' hT'
      obtain ⟨i', j0, jb, jl⟩ := zero_at h hcl'
      have hm1 := turns_meet h hcl hln (by omega) he' hT' i0 j0
      obtain ⟨l2, hl2⟩ : ∃ l2, l2 = rotL l1 m fl := ⟨_, rfl⟩
      rw [← hl2] at k3 hcl' j0 jb jl hm1 hT'
      have hsO := k3.snap elI_flat
      have c52b := PFn.call (fn52_yes hF h (SV.lt true l2) (by rw [hT'.1]; omega) hcl' j0 jb) (args := [.i .i64 (r : Int), .i .i64 (c : Int), O']) (ks := []) (fs := []) (cs := []) (H := H') (by simp [snapArgs, sn_i, hsO])
      -- the turn that counts, turned again
      obtain ⟨T, hT⟩ : ∃ T, T = turnR l1 i (turnD l1 i) := ⟨_, rfl⟩
      rw [hm1, ← hT] at c52b
      rw [← hT] at c53b
      have hD : turnD l1 i = 1 ∨ turnD l1 i = l1.length - 1 := by unfold turnD; split; exact .inr rfl; exact .inl rfl
      have hTt : Turned l1.length (turnD l1 i) i l1 T := ⟨by rw [hT]; simp [turnR], fun k hk => by rw [hT]; unfold turnR; rw [List.getD_eq_getElem?_getD, List.getElem?_map, List.getElem?_range hk]; rfl⟩
      have hclT := turned_closed h hcl hln hD hTt
      have hT0 : T[0]? = some 0 := by
        rw [hT]
        unfold turnR
        rw [List.getElem?_map, List.getElem?_range (by omega)]
        simp only [Option.map_some, Nat.zero_mul, Nat.add_zero]
        rw [Nat.mod_eq_of_lt il, List.getD_eq_getElem?_getD, i0]
        rfl
      have hm2 := turns_meet h hcl hln (by omega) hD hTt i0 hT0
      rw [← hT] at hm2
      have hsT := fun H => snap_ints false H 7 T
      have hTl : T.length = l1.length := hTt.1
      have c52c := fun H => PFn.call (fn52_yes hF h (SV.lt true T) (by omega) hclT hT0 (fun j hj => by omega)) (args := [.i .i64 (r : Int), .i .i64 (c : Int), elI.lt false T]) (ks := []) (fs := []) (cs := []) (H := H) (by simp [snapArgs, sn_i, hsT])
      rw [hm2] at c52c
      have c32 := fun H => call32 (pg := pg) hF (b := false) (b' := false) (l := T) (l' := T) (by omega) (by omega) H
      rw [dT rfl] at c32
      rw [← e1] at c23b c24b c53b hlen1 k1 y10
      refine ⟨H', ?_⟩
      generalize elI.lt false T = TT at *
      generalize elI.lt false lt = L7 at *
      rcases first with ⟨_, f52, f1 | ⟨f1, f24⟩⟩ | ⟨f1, f24, T, f52, T2, f53, f32⟩
      · rw [f1] at c23
        simp (disch := omega) [c14, go_nil, go_last, go_past, go_pastR, go_blkN, go_blkR, go_blkE, go_skip, go_exit, go_ret, go_scope, go_seq, go_reg, go_regd, go_opdN, go_opd, go_opdG, grdd_b, grdd_u, stpd_some, find_some, go_block, go_cond, cnd_b, go_opsN, go_ops, go_opsG, grd_b, grd_u, stp_some, fin_some, up_some, cont_some, k_call, k_mv, k_pick, k_bin, k_eqB, k_eqA, k_not, k_neg, k_conv, k_alloc, k_boxA, k_boxI, k_boxB, k_boxN, k_boxBs, k_ldR, k_ldA, k_ldI, k_ldB, k_stA, k_stI, k_stB, ldC_some, stC_some, k_mkfn, k_slc, k_slcA, k_ixA, k_ixBs, k_ixSl, k_fadr, k_fld, k_ext, k_len, k_app, k_mn, k_mx, k_nilck, k_build, k_bsl1, k_bsl2, b_add, b_sub, b_mul, b_eql, b_neq, b_lss, b_leq, b_gtr, b_geq, Dn.setLast, Dn.getLast, evalO, mapO, Dn.get, putE, keepE_nil, keepE_cons, kp_some, kp_none, TV.one, TV.isAgg, Dn.part, k_boxR, negb, at0, at1, at2, at3, at4, dT, dF, wrapR_i64, Option.bind_some, Option.map_some, k_fadr, kb, c18, ld0, c50, c23, f52, c25, lnil, c19, c23b, c24b, hlen1, ld1, q1, wn, q2, q4, go_denK (c := l14_1) rfl, k1, y0, y1, y10, y13, c52b, c52c, c53b, c32]
      · rw [f1] at c23
        simp (disch := omega) [c14, go_nil, go_last, go_past, go_pastR, go_blkN, go_blkR, go_blkE, go_skip, go_exit, go_ret, go_scope, go_seq, go_reg, go_regd, go_opdN, go_opd, go_opdG, grdd_b, grdd_u, stpd_some, find_some, go_block, go_cond, cnd_b, go_opsN, go_ops, go_opsG, grd_b, grd_u, stp_some, fin_some, up_some, cont_some, k_call, k_mv, k_pick, k_bin, k_eqB, k_eqA, k_not, k_neg, k_conv, k_alloc, k_boxA, k_boxI, k_boxB, k_boxN, k_boxBs, k_ldR, k_ldA, k_ldI, k_ldB, k_stA, k_stI, k_stB, ldC_some, stC_some, k_mkfn, k_slc, k_slcA, k_ixA, k_ixBs, k_ixSl, k_fadr, k_fld, k_ext, k_len, k_app, k_mn, k_mx, k_nilck, k_build, k_bsl1, k_bsl2, b_add, b_sub, b_mul, b_eql, b_neq, b_lss, b_leq, b_gtr, b_geq, Dn.setLast, Dn.getLast, evalO, mapO, Dn.get, putE, keepE_nil, keepE_cons, kp_some, kp_none, TV.one, TV.isAgg, Dn.part, k_boxR, negb, at0, at1, at2, at3, at4, dT, dF, wrapR_i64, Option.bind_some, Option.map_some, k_fadr, kb, c18, ld0, c50, c23, f24, f52, c25, lnil, c19, c23b, c24b, hlen1, ld1, q1, wn, q2, q4, go_denK (c := l14_1) rfl, k1, y0, y1, y10, y13, c52b, c52c, c53b, c32]
      · rw [f1] at c23
        simp (disch := omega) [c14, go_nil, go_last, go_past, go_pastR, go_blkN, go_blkR, go_blkE, go_skip, go_exit, go_ret, go_scope, go_seq, go_reg, go_regd, go_opdN, go_opd, go_opdG, grdd_b, grdd_u, stpd_some, find_some, go_block, go_cond, cnd_b, go_opsN, go_ops, go_opsG, grd_b, grd_u, stp_some, fin_some, up_some, cont_some, k_call, k_mv, k_pick, k_bin, k_eqB, k_eqA, k_not, k_neg, k_conv, k_alloc, k_boxA, k_boxI, k_boxB, k_boxN, k_boxBs, k_ldR, k_ldA, k_ldI, k_ldB, k_stA, k_stI, k_stB, ldC_some, stC_some, k_mkfn, k_slc, k_slcA, k_ixA, k_ixBs, k_ixSl, k_fadr, k_fld, k_ext, k_len, k_app, k_mn, k_mx, k_nilck, k_build, k_bsl1, k_bsl2, b_add, b_sub, b_mul, b_eql, b_neq, b_lss, b_leq, b_gtr, b_geq, Dn.setLast, Dn.getLast, evalO, mapO, Dn.get, putE, keepE_nil, keepE_cons, kp_some, kp_none, TV.one, TV.isAgg, Dn.part, k_boxR, negb, at0, at1, at2, at3, at4, dT, dF, wrapR_i64, Option.bind_some, Option.map_some, k_fadr, kb, c18, ld0, c50, c23, f24, f52, f53, f32, c25, c19, c23b, c24b, hlen1, ld1, q1, wn, q2, q4, go_denK (c := l14_1) rfl, k1, y0, y1, y10, y13, c52b, c52c, c53b, c32]
  obtain ⟨H', hgo⟩ := fin
  exact ⟨H', body_of (x := .ret) (e := [(6, .b true)]) (d := d14) (by rw [hF.F]; rfl) rfl (by simpa [d14, zipE] using hgo) (.inl rfl) rfl⟩

end Go.Proofs.Tryd.Dn

