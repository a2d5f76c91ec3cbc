/-
  Knight: the number of walks, in the program.
-/
import Derived.Test.YtdjbpmgbaggfbaaDoorKb
import Derived.Test.YtdjbpmgbaggfbaaDoorKc
set_option linter.unusedSimpArgs false
set_option linter.unusedVariables false

namespace Go.Proofs.Tryd.Dn
open Go.Dn

/-- the sum over the first squares near one -/
def psum (c : Nat) (f : Nat → Nat) (t : Nat) : Nat → Nat
  | 0 => 0
  | s + 1 => psum c f t s + if near c s t then f s else 0

def wStep (r c : Nat) (f : Nat → Nat) : Nat → Nat := fun t => if t < r * c then psum c f t (r * c) else 0
def walks (r c a : Nat) : Nat → Nat → Nat
  | 0 => fun t => if t = a then 1 else 0
  | k + 1 => wStep r c (walks r c a k)

theorem psum_le {c b : Nat} {f : Nat → Nat} (hf : ∀ i, f i ≤ b) (t : Nat) : ∀ n, psum c f t n ≤ ((List.range n).countP fun s => near c s t) * b
  | 0 => by simp [psum]
  | n + 1 => by
    have ih := psum_le (c := c) hf t n
    rw [psum, List.range_succ, List.countP_append]
    simp only [List.countP_cons, List.countP_nil, Nat.zero_add]
    have := hf n
    cases near c n t with
    | true => simp only [if_true]; rw [Nat.add_mul]; omega
    | false => simp; exact ih

theorem psum_mono (c : Nat) (f : Nat → Nat) (t : Nat) {m n : Nat} (h : m ≤ n) : psum c f t m ≤ psum c f t n := by
  induction h with
  | refl => exact Nat.le_refl _
  | step _ ih => rw [psum]; omega

theorem near_count {r c t : Nat} (h : Brd r c) (ht : t < r * c) : ((List.range (r * c)).countP fun s => near c s t) ≤ 8 := by
  refine Nat.le_trans ?_ (mv_few h ht)
  rw [pop_count]
  have hn := h.n36
  have : (List.range (r * c)).countP (fun s => near c s t) = (List.range (r * c)).countP (fun s => (mv r c t).testBit s) := by
    apply List.countP_congr
    intro s hs
    rw [List.mem_range] at hs
    rw [mv_near h ht hs, near_comm]
  rw [this]
  have hs : (List.range (r * c)).Sublist (List.range 64) := List.range_sublist.2 (by omega)
  exact hs.countP_le

theorem walks_le {r c a : Nat} (h : Brd r c) : ∀ (k t : Nat), walks r c a k t ≤ 8 ^ k
  | 0, t => by unfold walks; split <;> simp
  | k + 1, t => by
    unfold walks wStep
    split
    · rename_i ht
      refine Nat.le_trans (psum_le (walks_le h k) t _) ?_
      rw [Nat.pow_succ, Nat.mul_comm]
      exact Nat.mul_le_mul_left _ (near_count h ht)
    · exact Nat.zero_le _

/-- an array of 36 numbers -/
def aC (f : Nat → Nat) : List TV := (List.range 36).map fun i => .i .i64 (f i : Int)
theorem aC_len (f : Nat → Nat) : (aC f).length = 36 := by simp [aC]
theorem aC_at (f : Nat → Nat) {s : Nat} (h : s < 36) : (aC f)[s]? = some (.i .i64 (f s : Int)) := by simp [aC, h]
theorem aC_put (f : Nat → Nat) {s : Nat} (h : s < 36) (v : Nat) : put2 (aC f) s [.i .i64 (v : Int)] = aC (upd f s v) := by
  rw [El.put2_set _ (by rw [aC_len]; omega)]
  apply List.ext_getElem?
  intro i
  by_cases hi : i = s
  · subst hi
    rw [List.getElem?_set_self (by rw [aC_len]; omega), aC_at _ h]
    simp [upd]
  · rw [List.getElem?_set_ne (by omega)]
    by_cases h2 : i < 36
    · rw [aC_at _ h2, aC_at _ h2]
      simp only [upd, if_neg hi]
    · rw [List.getElem?_eq_none (by rw [aC_len]; omega), List.getElem?_eq_none (by rw [aC_len]; omega)]

section
variable {pg : Pg} {R : Rec}
theorem ld_a {f : Nat → Nat} {M : Nat} {H : Heap} (h : H[M]? = some (.cells (aC f) true)) {s : Nat} (hs : s < 36) : dkc pg R (.ld 1 false) [.ref M s] H = some (.i .i64 (f s : Int), H) := by
  rw [k_ldR, h, ldC_some, part_one (aC_at f hs) (by rfl)]; rfl
theorem st_a {f : Nat → Nat} {M : Nat} {H : Heap} (h : H[M]? = some (.cells (aC f) true)) {s : Nat} (hs : s < 36) (v : Nat) : dkc pg R (.st 1) [.ref M s, .i .i64 (v : Int)] H = some (.undef, H.set M (.cells (aC (upd f s v)) true)) := by
  rw [k_stI, h, stC_some, if_pos ⟨rfl, rfl, by rw [aC_len]; omega⟩, aC_put f hs v]
theorem ix_a {M : Nat} {k : IntKind} {s : Nat} (hs : s < 36) (H : Heap) : dkc pg R (.ixA 36 1 false) [.ref M 0, .i k (s : Int)] H = some (.ref M s, H) := by
  rw [k_ixA _ _ _ _ _ _ _ _ (by omega) (by omega)]; simp
theorem aC_one (f : Nat → Nat) : (aC f).all TV.one = true := by simp [aC, TV.one]
theorem ld_all {f : Nat → Nat} {M : Nat} {H : Heap} (h : H[M]? = some (.cells (aC f) true)) : dkc pg R (.ld 36 true) [.ref M 0] H = some (.agg (aC f), H) := by
  rw [k_ldR, h, ldC_some]; unfold Dn.part; rw [if_pos rfl, if_pos (by rw [aC_len]; omega), List.drop_zero, ← aC_len f, List.take_length]; rfl
theorem st_all {f g : Nat → Nat} {M : Nat} {H : Heap} (h : H[M]? = some (.cells (aC g) true)) : dkc pg R (.st 36) [.ref M 0, .agg (aC f)] H = some (.undef, H.set M (.cells (aC f) true)) := by
  rw [k_stA, h, stC_some, if_pos ⟨aC_len f, aC_one f, by rw [aC_len]; omega⟩]
  have : put2 (aC g) 0 (aC f) = aC f := by
    unfold put2
    rw [List.take_zero, List.nil_append, List.drop_eq_nil_of_le (by rw [aC_len, aC_len]; omega), List.append_nil]
  rw [this]
end

theorem mem64_nodup (x : Nat) : (mem64 x).Nodup := List.Nodup.sublist List.filter_sublist List.nodup_range

/-- the sums while a square's moves are taken one by one -/
def nxt (c : Nat) (f : Nat → Nat) (s m : Nat) (l : List Nat) : Nat → Nat := fun t => psum c f t s + if m.testBit t && !l.contains t then f s else 0

theorem l26_3_round {pg : Pg} (hF : Free pg) {r c s B M N : Nat} (h : Brd r c) (hs : s < r * c) (hBN : B ≠ N) (hMN : M ≠ N) {f : Nat → Nat} (hf : ∀ t, psum c f t (r * c) < 9223372036854775808) (hf2 : ∀ t, f t < 9223372036854775808) {T K Z : TV} {H : Heap}
    (hB : H[B]? = some (.cells (bM r c) true)) (hM : H[M]? = some (.cells (aC f) true)) (hN : H[N]? = some (.cells (aC fun t => if t < r * c then psum c f t s else 0) true)) :
    ∃ H', den pg l26_3 [(3, T), (12, .ref B 0), (14, .ref M 0), (15, .ref N 0), (39, K), (40, Z), (46, .sl M 0 1 false (r * c) (some 36)), (47, .i .i64 ((r * c : Nat) : Int)), (48, .i .i64 (s : Int))] H =
        den pg l26_3 [(3, T), (12, .ref B 0), (14, .ref M 0), (15, .ref N 0), (39, K), (40, Z), (46, .sl M 0 1 false (r * c) (some 36)), (47, .i .i64 ((r * c : Nat) : Int)), (48, .i .i64 ((s + 1 : Nat) : Int))] H' ∧
      H'[N]? = some (.cells (aC fun t => if t < r * c then psum c f t (s + 1) else 0) true) ∧ H.length ≤ H'.length ∧ ∀ m, m < H.length → m ≠ N → H'[m]? = H[m]? := by
  have hn := h.n36
  have hNl := (List.getElem?_eq_some_iff.1 hN).1
  have hMl := (List.getElem?_eq_some_iff.1 hM).1
  have hBl := (List.getElem?_eq_some_iff.1 hB).1
  have e1 : ((s : Int) < ((r * c : Nat) : Int)) := by omega
  have e2 : wrapR .i64 ((s : Int) + 1) = .i .i64 ((s : Int) + 1) := wrapR_i64 (by omega)
  have hix : dkc pg (den pg) (.ixS 1 false) [.sl M 0 1 false (r * c) (some 36), .i .i64 (s : Int)] H = some (.ref M s, H) := by
    rw [k_ixSl _ _ _ _ _ _ _ _ _ _ (by omega) (by omega)]; simp
  have lda := ld_a (pg := pg) (R := den pg) hM (s := s) (by omega)
  obtain ⟨H1, hH1⟩ : ∃ H1, H1 = H ++ [.cells [.i .i64 (f s : Int)] false] := ⟨_, rfl⟩
  have hH1l : H1.length = H.length + 1 := by rw [hH1]; simp
  have stV := st_box (pg := pg) (R := den pg) (H := H ++ [.cells [.i .i64 0] false]) (id := H.length) (v := .i .i64 (f s : Int)) (getLast _ _) rfl
  rw [Dn.setLast, ← hH1] at stV
  have k1 : ∀ m, m < H.length → H1[m]? = H[m]? := fun m hm => by rw [hH1, List.getElem?_append_left hm]
  have hB1 : H1[B]? = some (.cells (bC r c (mvTo r c (r * c))) true) := by rw [k1 B hBl]; exact hB
  have lm := ld_m (pg := pg) (R := den pg) hB1 (s := s) (by omega)
  rw [show mvTo r c (r * c) s = mv r c s by unfold mvTo; rw [if_pos hs]] at lm
  have ixm := fun K => ix_m (pg := pg) (R := den pg) (M := B) (k := .i64) (s := s) (by omega) K
  have hmv := mv_bound h hs
  have hmv64 : mv r c s < 18446744073709551616 := Nat.lt_trans hmv (by have := Nat.pow_le_pow_right (n := 2) (by decide) hn; omega)
  obtain ⟨m, hm⟩ : ∃ m, m = mv r c s := ⟨_, rfl⟩
  rw [← hm] at lm hmv64 hmv
  have hbit : ∀ t, m.testBit t = true → t < r * c := fun t ht => by
    apply Classical.byContradiction
    intro hge
    rw [Nat.testBit_lt_two_pow (Nat.lt_of_lt_of_le hmv (Nat.pow_le_pow_right (by decide) (by omega)))] at ht
    cases ht
  obtain ⟨H2, hH2⟩ : ∃ H2, H2 = H1 ++ [.cells [.i .u64 (m : Int)] false] := ⟨_, rfl⟩
  have hH2l : H2.length = H.length + 2 := by rw [hH2]; simp [hH1l]
  have b63 := body63 hF m H1
  rw [hH1l, ← hH2] at b63
  obtain ⟨E, hE⟩ : ∃ E : Env, E = [(3, T), (12, .ref B 0), (14, .ref M 0), (15, .ref N 0), (17, .ref H.length 0), (39, K), (40, Z), (46, .sl M 0 1 false (r * c) (some 36)), (47, .i .i64 ((r * c : Nat) : Int)), (48, .i .i64 (s : Int)), (59, .fn 93 [] [.ref (H.length + 1) 0])] := ⟨_, rfl⟩
  obtain ⟨L, hL⟩ : ∃ L, L = lp1 a26_0 b26_1 60 [3, 12, 14, 15, 17, 39, 40, 46, 47, 48] E := ⟨_, rfl⟩
  let nz : List Nat → Nat → Nat := fun l t => if t < r * c then nxt c f s m l t else 0
  let P : List Nat → Heap → Prop := fun l H' => l.Nodup ∧ (∀ k ∈ l, m.testBit k = true) ∧ H'[N]? = some (.cells (aC (nz l)) true) ∧ H'[H.length]? = some (.cells [.i .i64 (f s : Int)] false) ∧ H'.length = H.length + 3 ∧ ∀ j, j < H.length → j ≠ N → H'[j]? = H[j]?
  have hz0 : nz (mem64 m) = fun t => if t < r * c then psum c f t s else 0 := by
    funext t
    show (if t < r * c then nxt c f s m (mem64 m) t else 0) = _
    unfold nxt
    by_cases ht : m.testBit t = true
    · have : t ∈ mem64 m := (mem_mem64 hmv64).2 ht
      simp [this]
    · simp [ht]
  have hz1 : nz [] = fun t => if t < r * c then psum c f t (s + 1) else 0 := by
    funext t
    show (if t < r * c then nxt c f s m [] t else 0) = _
    unfold nxt
    by_cases ht : t < r * c
    · rw [if_pos ht, if_pos ht, psum, hm, mv_near h hs ht]; simp
    · rw [if_neg ht, if_neg ht]
  have hinit : P (mem64 m) (H2 ++ [.loop L]) := by
    refine ⟨mem64_nodup m, fun k hk => (mem_mem64 hmv64).1 hk, ?_, ?_, by simp [hH2l], fun j hj hne => ?_⟩
    · rw [hz0, List.getElem?_append_left (by omega), hH2, List.getElem?_append_left (by omega), k1 N hNl]; exact hN
    · rw [List.getElem?_append_left (by omega), hH2, List.getElem?_append_left (by omega), hH1]; exact getLast _ _
    · rw [List.getElem?_append_left (by omega), hH2, List.getElem?_append_left (by omega), k1 j hj]
  have hset : ∀ l H' o, P l H' → P l (H'.set (H.length + 1) o) := by
    rintro l H' o ⟨p1, p2, p3, p4, p5, p6⟩
    exact ⟨p1, p2, by rw [List.getElem?_set_ne (by omega)]; exact p3, by rw [List.getElem?_set_ne (by omega)]; exact p4, by simpa using p5, fun j hj hne => by rw [List.getElem?_set_ne (by omega)]; exact p6 j hj hne⟩
  have hR : Rnd pg (H.length + 2) (H.length + 1) L P (fun _ _ => False) := by
    rintro k rest H3 ⟨p1, p2, p3, p4, p5, p6⟩ hlp hk
    have hkb := p2 k (by simp)
    have hkn := hbit k hkb
    obtain ⟨HB, hHB⟩ : ∃ HB, HB = H3.set (H.length + 2) (.loop { L with st := .busy }) := ⟨_, rfl⟩
    have q3 : HB[N]? = some (.cells (aC (nz (k :: rest))) true) := by rw [hHB, List.getElem?_set_ne (by omega)]; exact p3
    have q4 : HB[H.length]? = some (.cells [.i .i64 (f s : Int)] false) := by rw [hHB, List.getElem?_set_ne (by omega)]; exact p4
    have hlB : HB[H.length + 2]? = some (.loop { L with st := .busy }) := by rw [hHB, List.getElem?_set_self (by omega)]
    have la := ld_a (pg := pg) (R := den pg) q3 (s := k) (by omega)
    have lv := ld_box (pg := pg) (R := den pg) q4 rfl
    have hval : nz (k :: rest) k + f s = nz rest k := by
      show (if k < r * c then nxt c f s m (k :: rest) k else 0) + f s = (if k < r * c then nxt c f s m rest k else 0)
      have hkr : k ∉ rest := (List.nodup_cons.1 p1).1
      rw [if_pos hkn, if_pos hkn]; unfold nxt; simp [hkb, hkr]
    have hle : nz rest k ≤ psum c f k (r * c) := by
      show (if k < r * c then nxt c f s m rest k else 0) ≤ _
      rw [if_pos hkn]
      refine Nat.le_trans ?_ (psum_mono c f k (show s + 1 ≤ r * c by omega))
      unfold nxt
      rw [psum, ← mv_near h hs hkn, ← hm, hkb]
      simp; split <;> omega
    have hfk := hf k
    have wa : wrapR .i64 ((nz (k :: rest) k : Int) + (f s : Int)) = .i .i64 ((nz rest k : Nat) : Int) := by
      rw [show (nz (k :: rest) k : Int) + (f s : Int) = ((nz (k :: rest) k + f s : Nat) : Int) by simp, hval]
      exact wrapR_i64 (by omega)
    have ixa := fun K => ix_a (pg := pg) (R := den pg) (M := N) (k := .i64) (s := k) (by omega) K
    have sta := st_a (pg := pg) (R := den pg) q3 (s := k) (by omega) (nz rest k)
    have hupd : upd (nz (k :: rest)) k (nz rest k) = nz rest := by
      have hkr : k ∉ rest := (List.nodup_cons.1 p1).1
      funext t
      unfold upd
      by_cases ht : t = k
      · rw [if_pos ht, ht]
      · rw [if_neg ht]
        show (if t < r * c then nxt c f s m (k :: rest) t else 0) = (if t < r * c then nxt c f s m rest t else 0)
        unfold nxt; simp [ht]
    rw [hupd] at sta
    have ha : den pg a26_0 ((([60] : List Nat).zip [.i .i64 (k : Int)]).reverse ++ keepE [3, 12, 14, 15, 17, 39, 40, 46, 47, 48] E) H3 = some ⟨.normal, [(15, .ref N 0), (17, .ref H.length 0), (18, .i .i64 (k : Int))], H3⟩ := by
      rw [den_eq, runC_go, hE]
      generalize ((r * c : Nat) : Int) = NN at *
      simp [a26_0, go_nil, go_last, go_past, go_pastR, go_blkN, go_blkR, go_blkE, go_skip, go_exit, go_ret, go_scope, go_seq, go_reg, go_regd, go_opdN, go_opd, go_opdG, grdd_b, grdd_u, stpd_some, find_some, go_block, go_cond, cnd_b, go_opsN, go_ops, go_opsG, grd_b, grd_u, stp_some, fin_some, up_some, cont_some, k_call, k_mv, k_pick, k_bin, k_eqB, k_eqA, k_not, k_neg, k_conv, k_alloc, k_boxA, k_boxI, k_boxB, k_boxN, k_boxBs, k_ldR, k_ldA, k_ldI, k_ldB, k_stA, k_stI, k_stB, ldC_some, stC_some, k_mkfn, k_slc, k_slcA, k_ixA, k_ixBs, k_ixSl, k_fadr, k_fld, k_ext, k_len, k_app, k_mn, k_mx, k_nilck, k_build, k_bsl1, k_bsl2, b_add, b_sub, b_mul, b_eql, b_neq, b_lss, b_leq, b_gtr, b_geq, Dn.setLast, Dn.getLast, evalO, mapO, Dn.get, putE, keepE, TV.one, TV.isAgg, Dn.part]
    have hb : den pg b26_1 [(15, .ref N 0), (17, .ref H.length 0), (18, .i .i64 (k : Int))] HB = some ⟨.normal, [], HB.set N (.cells (aC (nz rest)) true)⟩ := by
      rw [den_eq, runC_go]
      generalize nz rest k = v1 at *
      generalize nz (k :: rest) k = v2 at *
      simp [b26_1, go_nil, go_last, go_past, go_pastR, go_blkN, go_blkR, go_blkE, go_skip, go_exit, go_ret, go_scope, go_seq, go_reg, go_regd, go_opdN, go_opd, go_opdG, grdd_b, grdd_u, stpd_some, find_some, go_block, go_cond, cnd_b, go_opsN, go_ops, go_opsG, grd_b, grd_u, stp_some, fin_some, up_some, cont_some, k_call, k_mv, k_pick, k_bin, k_eqB, k_eqA, k_not, k_neg, k_conv, k_alloc, k_boxA, k_boxI, k_boxB, k_boxN, k_boxBs, k_ldR, k_ldA, k_ldI, k_ldB, k_stA, k_stI, k_stB, ldC_some, stC_some, k_mkfn, k_slc, k_slcA, k_ixA, k_ixBs, k_ixSl, k_fadr, k_fld, k_ext, k_len, k_app, k_mn, k_mx, k_nilck, k_build, k_bsl1, k_bsl2, b_add, b_sub, b_mul, b_eql, b_neq, b_lss, b_leq, b_gtr, b_geq, Dn.setLast, Dn.getLast, evalO, mapO, Dn.get, putE, keepE, TV.one, TV.isAgg, Dn.part, ixa, la, lv, wa, sta]
    refine .inl ⟨(HB.set N (.cells (aC (nz rest)) true)).set (H.length + 2) (.loop L), Body.of (e1 := [(15, .ref N 0), (17, .ref H.length 0), (18, .i .i64 (k : Int))]) (e2 := []) (by rw [hL]; exact ha) hlp (by rw [← hHB, hL]; exact hb) (by rw [List.getElem?_set_ne (by omega)]; exact hlB),
      ⟨(List.nodup_cons.1 p1).2, fun k' hk' => p2 k' (by simp [hk']), ?_, ?_, by rw [hHB]; simpa using p5, fun j hj hne => ?_⟩, ?_⟩
    · rw [List.getElem?_set_ne (by omega), List.getElem?_set_self (by rw [hHB]; simp; omega)]
    · rw [List.getElem?_set_ne (by omega), List.getElem?_set_ne (by omega)]; exact q4
    · rw [List.getElem?_set_ne (by omega), List.getElem?_set_ne (by omega), hHB, List.getElem?_set_ne (by omega)]; exact p6 j hj hne
    · rw [List.getElem?_set_ne (by omega), List.getElem?_set_ne (by omega), hHB, List.getElem?_set_ne (by omega)]
  rcases rng hF (f := 59) (s := H.length + 1) (p := 60) (as_ := a26_0) (bd := b26_1) (ks := [3, 12, 14, 15, 17, 39, 40, 46, 47, 48]) (e := E) (H := H2) (by rw [hE]; rfl) (by rw [hH2, ← hH1l]; exact getLast _ _) hmv64
      (P := P) (Q := fun _ _ => False) (by rw [← hL]; exact hinit) hset (by rw [hH2l, ← hL]; exact hR) with ⟨H3, r1, r2⟩ | ⟨_, _, _, _, h⟩
  · rw [hH2l, ← hL] at r1
    obtain ⟨_, _, p3, p4, p5, p6⟩ := r2
    refine ⟨H3.set (H.length + 2) (.loop { L with st := .exhausted }), ?_, by rw [List.getElem?_set_ne (by omega), ← hz1]; exact p3, by simp [p5], fun j hj hne => by rw [List.getElem?_set_ne (by omega)]; exact p6 j hj hne⟩
    have hk : keepE [3, 12, 14, 15, 17, 39, 40, 46, 47, 48] E = [(3, T), (12, .ref B 0), (14, .ref M 0), (15, .ref N 0), (17, .ref H.length 0), (39, K), (40, Z), (46, .sl M 0 1 false (r * c) (some 36)), (47, .i .i64 ((r * c : Nat) : Int)), (48, .i .i64 (s : Int))] := by rw [hE]; rfl
    rw [hk, hE] at r1
    generalize ((r * c : Nat) : Int) = NN at *
    rw [l26_3, den_loop]
    simp [l26_3, b26_2, go_nil, go_last, go_past, go_pastR, go_blkN, go_blkR, go_blkE, go_skip, go_exit, go_ret, go_scope, go_seq, go_reg, go_regd, go_opdN, go_opd, go_opdG, grdd_b, grdd_u, stpd_some, find_some, go_block, go_cond, cnd_b, go_opsN, go_ops, go_opsG, grd_b, grd_u, stp_some, fin_some, up_some, cont_some, k_call, k_mv, k_pick, k_bin, k_eqB, k_eqA, k_not, k_neg, k_conv, k_alloc, k_boxA, k_boxI, k_boxB, k_boxN, k_boxBs, k_ldR, k_ldA, k_ldI, k_ldB, k_stA, k_stI, k_stB, ldC_some, stC_some, k_mkfn, k_slc, k_slcA, k_ixA, k_ixBs, k_ixSl, k_fadr, k_fld, k_ext, k_len, k_app, k_mn, k_mx, k_nilck, k_build, k_bsl1, k_bsl2, b_add, b_sub, b_mul, b_eql, b_neq, b_lss, b_leq, b_gtr, b_geq, Dn.setLast, Dn.getLast, evalO, mapO, Dn.get, putE, keepE, TV.one, TV.isAgg, Dn.part, e1, e2, hix, lda, stV, ixm, lm, sh_fn, b63, r1]
  · exact h.elim

end Go.Proofs.Tryd.Dn

/-
  Knight: the number of walks, in the program; Walks.
-/

namespace Go.Proofs.Tryd.Dn
open Go.Dn

theorem l26_3_all {pg : Pg} (hF : Free pg) {r c B M N : Nat} (h : Brd r c) (hBN : B ≠ N) (hMN : M ≠ N) {f : Nat → Nat} (hf : ∀ t, psum c f t (r * c) < 9223372036854775808) (hf2 : ∀ t, f t < 9223372036854775808) {T K Z : TV} : ∀ (d s : Nat) (H : Heap), s + d = r * c →
    H[B]? = some (.cells (bM r c) true) → H[M]? = some (.cells (aC f) true) → H[N]? = some (.cells (aC fun t => if t < r * c then psum c f t s else 0) true) →
    ∃ e H', den pg l26_3 [(3, T), (12, .ref B 0), (14, .ref M 0), (15, .ref N 0), (39, K), (40, Z), (46, .sl M 0 1 false (r * c) (some 36)), (47, .i .i64 ((r * c : Nat) : Int)), (48, .i .i64 (s : Int))] H = some ⟨.exit 2, e, H'⟩ ∧
      keepE [3, 12, 14, 15, 39, 40] e = [(3, T), (12, .ref B 0), (14, .ref M 0), (15, .ref N 0), (39, K), (40, Z)] ∧ H'[N]? = some (.cells (aC (wStep r c f)) true) ∧ H.length ≤ H'.length ∧ ∀ m, m < H.length → m ≠ N → H'[m]? = H[m]?
  | 0, s, H, hd, hB, hM, hN => by
    obtain rfl : s = r * c := by omega
    have e1 : ¬ (((r * c : Nat) : Int) < ((r * c : Nat) : Int)) := by omega
    refine ⟨[(3, T), (12, .ref B 0), (14, .ref M 0), (15, .ref N 0), (39, K), (40, Z), (46, .sl M 0 1 false (r * c) (some 36)), (47, .i .i64 ((r * c : Nat) : Int)), (48, .i .i64 ((r * c : Nat) : Int)), (49, .b false)], H, ?_, rfl, hN, Nat.le_refl _, fun _ _ _ => rfl⟩
    generalize ((r * c : Nat) : Int) = NN at *
    rw [l26_3, den_loop]
    simp [b26_2, go_nil, go_last, go_past, go_pastR, go_blkN, go_blkR, go_blkE, go_skip, go_exit, go_ret, go_scope, go_seq, go_reg, go_regd, go_opdN, go_opd, go_opdG, grdd_b, grdd_u, stpd_some, find_some, go_block, go_cond, cnd_b, go_opsN, go_ops, go_opsG, grd_b, grd_u, stp_some, fin_some, up_some, cont_some, k_call, k_mv, k_pick, k_bin, k_eqB, k_eqA, k_not, k_neg, k_conv, k_alloc, k_boxA, k_boxI, k_boxB, k_boxN, k_boxBs, k_ldR, k_ldA, k_ldI, k_ldB, k_stA, k_stI, k_stB, ldC_some, stC_some, k_mkfn, k_slc, k_slcA, k_ixA, k_ixBs, k_ixSl, k_fadr, k_fld, k_ext, k_len, k_app, k_mn, k_mx, k_nilck, k_build, k_bsl1, k_bsl2, b_add, b_sub, b_mul, b_eql, b_neq, b_lss, b_leq, b_gtr, b_geq, Dn.setLast, Dn.getLast, evalO, mapO, Dn.get, putE, keepE, TV.one, TV.isAgg, Dn.part, e1]
  | d + 1, s, H, hd, hB, hM, hN => by
    have hBl := (List.getElem?_eq_some_iff.1 hB).1
    have hMl := (List.getElem?_eq_some_iff.1 hM).1
    obtain ⟨H1, a1, a2, a3, a4⟩ := l26_3_round (pg := pg) hF h (s := s) (by omega) hBN hMN hf hf2 (T := T) (K := K) (Z := Z) hB hM hN
    obtain ⟨e, H2, b1, b2, b3, b4, b5⟩ := l26_3_all hF h hBN hMN hf hf2 (T := T) (K := K) (Z := Z) d (s + 1) H1 (by omega) (by rw [a4 _ hBl hBN]; exact hB) (by rw [a4 _ hMl hMN]; exact hM) a2
    exact ⟨e, H2, Eq.trans a1 b1, b2, b3, by omega, fun m hm hne => by rw [b5 m (by omega) hne, a4 m hm hne]⟩

def zeros36 : List TV := List.replicate 36 (.i .i64 0)
theorem z36 : List.replicate 36 (TV.i .i64 0) = zeros36 := rfl

theorem aC_zero : aC (fun _ => 0) = zeros36 := by
  unfold zeros36
  apply List.ext_getElem?
  intro i
  by_cases h : i < 36
  · rw [aC_at _ h, List.getElem?_replicate, if_pos h]; rfl
  · rw [List.getElem?_eq_none (by rw [aC_len]; omega), List.getElem?_eq_none (by simp; omega)]

theorem pow15 {k : Nat} (h : k ≤ 15) : 8 ^ k ≤ 35184372088832 := by
  have := Nat.pow_le_pow_right (n := 8) (by decide) h
  omega

theorem slcA36 {M n : Nat} {f : Nat → Nat} {H : Heap} (h : H[M]? = some (.cells (aC f) true)) (hn : n ≤ 36) : slcARun false true false 36 1 false (.ref M 0) [.i .i64 (n : Int)] H = some (.sl M 0 1 false n (some 36)) := by
  have hb3 : bounds3 false true false 36 [.i .i64 (n : Int)] = some (0, n, none) := by simp [bounds3, bound]
  have hl := aC_len f
  simp [slcARun, hb3, h, hl, hn]

theorem l26_5_all {pg : Pg} (hF : Free pg) {r c B M a q : Nat} (h : Brd r c) (hBM : B ≠ M) (hq : q ≤ 15) {T : TV} : ∀ (d k : Nat) (H : Heap), k + d = q → H[B]? = some (.cells (bM r c) true) → H[M]? = some (.cells (aC (walks r c a k)) true) →
    ∃ e H', den pg l26_5 [(3, T), (12, .ref B 0), (14, .ref M 0), (39, .i .i64 (q : Int)), (40, .i .i64 (k : Int))] H = some ⟨.exit 0, e, H'⟩ ∧ keepE [3, 14] e = [(3, T), (14, .ref M 0)] ∧ H'[M]? = some (.cells (aC (walks r c a q)) true) ∧ H.length ≤ H'.length ∧ ∀ m, m < H.length → m ≠ M → H'[m]? = H[m]?
  | 0, k, H, hd, hB, hM => by
    obtain rfl : k = q := by omega
    refine ⟨[(3, T), (12, .ref B 0), (14, .ref M 0), (39, .i .i64 (k : Int)), (40, .i .i64 (k : Int)), (41, .b false)], H, ?_, rfl, hM, Nat.le_refl _, fun _ _ _ => rfl⟩
    rw [l26_5, den_loop]
    simp [b26_4, go_nil, go_last, go_past, go_pastR, go_blkN, go_blkR, go_blkE, go_skip, go_exit, go_ret, go_scope, go_seq, go_reg, go_regd, go_opdN, go_opd, go_opdG, grdd_b, grdd_u, stpd_some, find_some, go_block, go_cond, cnd_b, go_opsN, go_ops, go_opsG, grd_b, grd_u, stp_some, fin_some, up_some, cont_some, k_call, k_mv, k_pick, k_bin, k_eqB, k_eqA, k_not, k_neg, k_conv, k_alloc, k_boxA, k_boxI, k_boxB, k_boxN, k_boxBs, k_ldR, k_ldA, k_ldI, k_ldB, k_stA, k_stI, k_stB, ldC_some, stC_some, k_mkfn, k_slc, k_slcA, k_ixA, k_ixBs, k_ixSl, k_fadr, k_fld, k_ext, k_len, k_app, k_mn, k_mx, k_nilck, k_build, k_bsl1, k_bsl2, b_add, b_sub, b_mul, b_eql, b_neq, b_lss, b_leq, b_gtr, b_geq, Dn.setLast, Dn.getLast, evalO, mapO, Dn.get, putE, keepE, TV.one, TV.isAgg, Dn.part]
  | d + 1, k, H, hd, hB, hM => by
    have hn := h.n36
    have e1 : ((k : Int) < (q : Int)) := by omega
    have e2 : wrapR .i64 ((k : Int) + 1) = .i .i64 ((k : Int) + 1) := wrapR_i64 (by omega)
    have hBl := (List.getElem?_eq_some_iff.1 hB).1
    have hMl := (List.getElem?_eq_some_iff.1 hM).1
    have hk8 := fun t => walks_le (a := a) h k t
    have hk8' := fun t => walks_le (a := a) h (k + 1) t
    have p1 := pow15 (k := k) (by omega)
    have p2 := pow15 (k := k + 1) (by omega)
    have hf2 : ∀ t, walks r c a k t < 9223372036854775808 := fun t => by have := hk8 t; omega
    have hf : ∀ t, psum c (walks r c a k) t (r * c) < 9223372036854775808 := fun t => by
      have h1 := psum_le (c := c) hk8 t (r * c)
      have h2 : ((List.range (r * c)).countP fun s => near c s t) ≤ 36 := Nat.le_trans List.countP_le_length (by simp; exact hn)
      have h3 := Nat.mul_le_mul h2 p1
      omega
    obtain ⟨H1, hH1⟩ : ∃ H1 : Heap, H1 = H ++ [.cells zeros36 true] := ⟨_, rfl⟩
    have hH1l : H1.length = H.length + 1 := by rw [hH1]; simp
    have k1 : ∀ m, m < H.length → H1[m]? = H[m]? := fun m hm => by rw [hH1, List.getElem?_append_left hm]
    have hB1 : H1[B]? = some (.cells (bM r c) true) := by rw [k1 B hBl]; exact hB
    have hM1 : H1[M]? = some (.cells (aC (walks r c a k)) true) := by rw [k1 M hMl]; exact hM
    have hN1 : H1[H.length]? = some (.cells (aC fun t => if t < r * c then psum c (walks r c a k) t 0 else 0) true) := by
      have : (fun t => if t < r * c then psum c (walks r c a k) t 0 else 0) = fun _ => 0 := by funext t; split <;> rfl
      rw [this, aC_zero, hH1]; exact getLast _ _
    have ln := ld_n (pg := pg) (R := den pg) (r := r) (c := c) (f := mvTo r c (r * c)) hB1
    have sl := slcA36 hM1 hn
    have hlen : lenK 0 (.sl M 0 1 false (r * c) (some 36)) H1 = some (r * c) := rfl
    obtain ⟨e, H2, r1, r2, r3, r4, r5⟩ := l26_3_all (pg := pg) hF (N := H.length) h (by omega) (by omega) hf hf2 (T := T) (K := .i .i64 (q : Int)) (Z := .i .i64 (k : Int)) (r * c) 0 H1 (by omega) hB1 hM1 hN1
    simp only [Int.natCast_zero] at r1
    have g3 := keep_get r2 (s := 3) (by simp) rfl
    have g12 := keep_get r2 (s := 12) (by simp) rfl
    have g14 := keep_get r2 (s := 14) (by simp) rfl
    have g15 := keep_get r2 (s := 15) (by simp) rfl
    have g39 := keep_get r2 (s := 39) (by simp) rfl
    have g40 := keep_get r2 (s := 40) (by simp) rfl
    have hM2 : H2[M]? = some (.cells (aC (walks r c a k)) true) := by rw [r5 M (by omega) (by omega)]; exact hM1
    have la := ld_all (pg := pg) (R := den pg) r3
    have sa := st_all (pg := pg) (R := den pg) (f := wStep r c (walks r c a k)) hM2
    obtain ⟨e', H3, q1, q2, q3, q4, q5⟩ := l26_5_all hF h hBM hq (T := T) d (k + 1) (H2.set M (.cells (aC (wStep r c (walks r c a k))) true)) (by omega) (by rw [List.getElem?_set_ne (by omega), r5 B (by omega) (by omega)]; exact hB1) (by rw [List.getElem?_set_self (by omega)]; rfl)
    refine ⟨e', H3, Eq.trans ?_ q1, q2, q3, by simp at q4; omega, fun m hm hne => by rw [q5 m (by simp; omega) hne, List.getElem?_set_ne (by omega), r5 m (by omega) (by omega), k1 m hm]⟩
    generalize aC (wStep r c (walks r c a k)) = cs at *
    generalize hNN : ((r * c : Nat) : Int) = NN at *
    have hlen' : dkc pg (den pg) (.len 0) [.sl M 0 1 false (r * c) (some 36)] H1 = some (.i .i64 NN, H1) := by rw [k_len, hlen, ← hNN]; rfl
    rw [l26_5, den_loop]
    simp [l26_5, b26_4, go_nil, go_last, go_past, go_pastR, go_blkN, go_blkR, go_blkE, go_skip, go_exit, go_ret, go_scope, go_seq, go_reg, go_regd, go_opdN, go_opd, go_opdG, grdd_b, grdd_u, stpd_some, find_some, go_block, go_cond, cnd_b, go_opsN, go_ops, go_opsG, grd_b, grd_u, stp_some, fin_some, up_some, cont_some, k_call, k_mv, k_pick, k_bin, k_eqB, k_eqA, k_not, k_neg, k_conv, k_alloc, k_boxA, k_boxI, k_boxB, k_boxN, k_boxBs, k_ldR, k_ldA, k_ldI, k_ldB, k_stA, k_stI, k_stB, ldC_some, stC_some, k_mkfn, k_slc, k_slcA, k_ixA, k_ixBs, k_ixSl, k_fadr, k_fld, k_ext, k_len, k_app, k_mn, k_mx, k_nilck, k_build, k_bsl1, k_bsl2, b_add, b_sub, b_mul, b_eql, b_neq, b_lss, b_leq, b_gtr, b_geq, Dn.setLast, Dn.getLast, evalO, mapO, Dn.get, putE, keepE, TV.one, TV.isAgg, Dn.part, e1, e2, z36, ← hH1, ln, sl, hlen', hlen, hNN, go_denK (c := l26_3) rfl, r1, g3, g12, g14, g15, g39, g40, la, sa]

theorem inB {n v : Nat} (h : v < n) : outB (n : Int) (v : Int) = false := by
  unfold outB
  rw [decide_eq_false (by omega), decide_eq_false (by omega)]
  rfl

theorem two_view (H : Heap) (a b : Int) : elI.View (H ++ [.cells [.i .i64 a, .i .i64 b] false]) (.sl H.length 0 1 false 2 (some 2)) [a, b] :=
  .inr (.inr ⟨H.length, 0, some 2, _, false, rfl, by simp, getLast _ _, by simp [elI], by simp [elI, El.flat]⟩)

/-- the program's Walks -/
theorem fn26 {pg : Pg} (hF : Free pg) {r c a b : Nat} (h : Brd r c) (ha : a < r * c) (hb : b < r * c) (q : Int) :
    PFn pg 26 [.i .i64 (r : Int), .i .i64 (c : Int), .i .i64 (a : Int), .i .i64 (b : Int), .i .i64 q] (if q < 0 ∨ 15 < q then .tup [.i .i64 0, .i .i64 1] else .tup [.i .i64 (walks r c a q.toNat b : Int), .i .i64 0]) := by
  have hn := h.n36
  obtain ⟨H0, hH0⟩ : ∃ H0 : Heap, H0 = [.cells [.i .i64 (a : Int), .i .i64 (b : Int)] false] := ⟨_, rfl⟩
  have hv : elI.View H0 (.sl 0 0 1 false 2 (some 2)) [(a : Int), (b : Int)] := by rw [hH0]; exact two_view [] _ _
  obtain ⟨H1, h1, h2, h3, h4⟩ := body59 hF h hv (by simp)
  have hno : [(a : Int), (b : Int)].any (outB ((r * c : Nat) : Int)) = false := by rw [List.any_cons, List.any_cons, inB ha, inB hb]; rfl
  have hl0 : H0.length = 1 := by rw [hH0]; rfl
  rw [hno, hl0] at h1
  rw [hl0] at h2 h3
  simp only [Bool.false_eq_true, if_false] at h1
  have hd : pg.F 26 = some d26 := by rw [hF.F]; rfl
  have kb : dkc pg (den pg) (.bsl false [.i .i64 0] false 2 [0, 1]) [.i .i64 (a : Int), .i .i64 (b : Int)] [] = some (.sl 0 0 1 false 2 (some 2), H0) := by rw [k_bsl2, hH0]; rfl
  by_cases hq : q < 0 ∨ 15 < q
  · rw [if_pos hq]
    refine .of2 (x := .ret) (e := [(10, .i .i64 0), (11, .i .i64 1)]) (H' := H1) (vs := [.i .i64 0, .i .i64 1]) (hF.S _ _ (by decide)) hd rfl ?_ (.inl rfl) rfl (by simp) (by simp [sn_i, sn_b, sn_nil, sn8_i, sn8_b, sn8_nil, sn7_i, sn7_b, sn_sl, sn8_sl, slB_some, sn_tup, sn_agg, sn8_agg, mapO, elems])
    by_cases q1 : q < 0
    · simp [d26, c26, zipE, go_nil, go_last, go_past, go_pastR, go_blkN, go_blkR, go_blkE, go_skip, go_exit, go_ret, go_scope, go_seq, go_reg, go_regd, go_opdN, go_opd, go_opdG, grdd_b, grdd_u, stpd_some, find_some, go_block, go_cond, cnd_b, go_opsN, go_ops, go_opsG, grd_b, grd_u, stp_some, fin_some, up_some, cont_some, k_call, k_mv, k_pick, k_bin, k_eqB, k_eqA, k_not, k_neg, k_conv, k_alloc, k_boxA, k_boxI, k_boxB, k_boxN, k_boxBs, k_ldR, k_ldA, k_ldI, k_ldB, k_stA, k_stI, k_stB, ldC_some, stC_some, k_mkfn, k_slc, k_slcA, k_ixA, k_ixBs, k_ixSl, k_fadr, k_fld, k_ext, k_len, k_app, k_mn, k_mx, k_nilck, k_build, k_bsl1, k_bsl2, b_add, b_sub, b_mul, b_eql, b_neq, b_lss, b_leq, b_gtr, b_geq, Dn.setLast, Dn.getLast, evalO, mapO, Dn.get, putE, keepE, TV.one, TV.isAgg, Dn.part, kb, sh_fn, h1, q1]
    · have q2 : 15 < q := by omega
      simp [d26, c26, zipE, go_nil, go_last, go_past, go_pastR, go_blkN, go_blkR, go_blkE, go_skip, go_exit, go_ret, go_scope, go_seq, go_reg, go_regd, go_opdN, go_opd, go_opdG, grdd_b, grdd_u, stpd_some, find_some, go_block, go_cond, cnd_b, go_opsN, go_ops, go_opsG, grd_b, grd_u, stp_some, fin_some, up_some, cont_some, k_call, k_mv, k_pick, k_bin, k_eqB, k_eqA, k_not, k_neg, k_conv, k_alloc, k_boxA, k_boxI, k_boxB, k_boxN, k_boxBs, k_ldR, k_ldA, k_ldI, k_ldB, k_stA, k_stI, k_stB, ldC_some, stC_some, k_mkfn, k_slc, k_slcA, k_ixA, k_ixBs, k_ixSl, k_fadr, k_fld, k_ext, k_len, k_app, k_mn, k_mx, k_nilck, k_build, k_bsl1, k_bsl2, b_add, b_sub, b_mul, b_eql, b_neq, b_lss, b_leq, b_gtr, b_geq, Dn.setLast, Dn.getLast, evalO, mapO, Dn.get, putE, keepE, TV.one, TV.isAgg, Dn.part, kb, sh_fn, h1, q1, q2]
  · rw [if_neg hq]
    have q1 : ¬ q < 0 := by omega
    have q2 : ¬ 15 < q := by omega
    obtain ⟨k, hk⟩ : ∃ k : Nat, q = (k : Int) := ⟨q.toNat, by omega⟩
    subst hk
    rw [Int.toNat_natCast]
    obtain ⟨H2, hH2⟩ : ∃ H2 : Heap, H2 = H1 ++ [.cells zeros36 true] := ⟨_, rfl⟩
    have hH2l : H2.length = H1.length + 1 := by rw [hH2]; simp
    have hM2 : H2[H1.length]? = some (.cells (aC fun _ => 0) true) := by rw [aC_zero, hH2]; exact getLast _ _
    have ixa := fun K => ix_a (pg := pg) (R := den pg) (M := H1.length) (k := .i64) (s := a) (by omega) K
    have ixb := fun K => ix_a (pg := pg) (R := den pg) (M := H1.length) (k := .i64) (s := b) (by omega) K
    have sta := st_a (pg := pg) (R := den pg) hM2 (s := a) (by omega) 1
    have hw0 : upd (fun _ => 0) a 1 = walks r c a 0 := by funext t; unfold upd walks; rfl
    rw [hw0] at sta
    obtain ⟨H3, hH3⟩ : ∃ H3, H3 = H2.set H1.length (.cells (aC (walks r c a 0)) true) := ⟨_, rfl⟩
    rw [← hH3] at sta
    have hM3 : H3[H1.length]? = some (.cells (aC (walks r c a 0)) true) := by rw [hH3, List.getElem?_set_self (by omega)]
    have hB3 : H3[1]? = some (.cells (bM r c) true) := by rw [hH3, List.getElem?_set_ne (by omega), hH2, List.getElem?_append_left (by omega)]; exact h2
    obtain ⟨e, H4, r1, r2, r3, r4, r5⟩ := l26_5_all (pg := pg) hF (B := 1) (M := H1.length) (a := a) (q := k) h (by omega) (by omega) (T := .i .i64 (b : Int)) k 0 H3 (by omega) hB3 hM3
    simp only [Int.natCast_zero] at r1
    have g3 := keep_get r2 (s := 3) (by simp) rfl
    have g14 := keep_get r2 (s := 14) (by simp) rfl
    have lb := ld_a (pg := pg) (R := den pg) r3 (s := b) (by omega)
    simp only [Int.cast_ofNat_Int] at sta
    refine .of2 (x := .ret) (e := [(10, .i .i64 (walks r c a k b : Int)), (11, .i .i64 0)]) (H' := H4) (vs := [.i .i64 (walks r c a k b : Int), .i .i64 0]) (hF.S _ _ (by decide)) hd rfl ?_ (.inl rfl) rfl (by simp) (by simp [sn_i, sn_b, sn_nil, sn8_i, sn8_b, sn8_nil, sn7_i, sn7_b, sn_sl, sn8_sl, slB_some, sn_tup, sn_agg, sn8_agg, mapO, elems])
    generalize walks r c a k b = res at *
    simp [d26, c26, zipE, go_nil, go_last, go_past, go_pastR, go_blkN, go_blkR, go_blkE, go_skip, go_exit, go_ret, go_scope, go_seq, go_reg, go_regd, go_opdN, go_opd, go_opdG, grdd_b, grdd_u, stpd_some, find_some, go_block, go_cond, cnd_b, go_opsN, go_ops, go_opsG, grd_b, grd_u, stp_some, fin_some, up_some, cont_some, k_call, k_mv, k_pick, k_bin, k_eqB, k_eqA, k_not, k_neg, k_conv, k_alloc, k_boxA, k_boxI, k_boxB, k_boxN, k_boxBs, k_ldR, k_ldA, k_ldI, k_ldB, k_stA, k_stI, k_stB, ldC_some, stC_some, k_mkfn, k_slc, k_slcA, k_ixA, k_ixBs, k_ixSl, k_fadr, k_fld, k_ext, k_len, k_app, k_mn, k_mx, k_nilck, k_build, k_bsl1, k_bsl2, b_add, b_sub, b_mul, b_eql, b_neq, b_lss, b_leq, b_gtr, b_geq, Dn.setLast, Dn.getLast, evalO, mapO, Dn.get, putE, keepE, TV.one, TV.isAgg, Dn.part, kb, sh_fn, h1, q1, q2, z36, ← hH2, ixa, ixb, sta, go_denK (c := l26_5) rfl, r1, g3, g14, lb]

end Go.Proofs.Tryd.Dn

