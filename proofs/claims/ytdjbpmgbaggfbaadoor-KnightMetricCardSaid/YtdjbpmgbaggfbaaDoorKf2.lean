/-
  Knight: words in a list; a list of words that grows in a cell.
-/
import Derived.Test.YtdjbpmgbaggfbaaDoorKf1
set_option linter.unusedSimpArgs false
set_option linter.unusedVariables false

namespace Go.Proofs.Tryd.Dn
open Go.Dn

/-- words of 64 bits -/
def elU : El Nat where
  sz := 1
  ag := false
  enc n := [.i .u64 (n : Int)]
  pos := by decide
  len _ := rfl
  one _ := rfl
  sc := .inr rfl

theorem appU {H : Heap} {t x : TV} {l k : List Nat} (h : elU.Own H t l) (hx : elU.View H x k) (hb : l.length + k.length ≤ 1000000) :
    ∃ t' H', appRun 1 false 8 t x H = some (t', H') ∧ elU.Own H' t' (l ++ k) ∧ H.length ≤ H'.length ∧ (∀ j, j < H.length → t.idOf ≠ some j → H'[j]? = H[j]?) ∧ (t' = t ∨ ∀ id, t'.idOf = some id → H.length ≤ id) := El.app (E := elU) (bytes := 8) h hx (by omega)

theorem one_viewU (H : Heap) (v : Nat) : elU.View (H ++ [.cells [.i .u64 (v : Int)] false]) (.sl H.length 0 1 false 1 (some 1)) [v] :=
  .inr (.inr ⟨H.length, 0, some 1, _, false, rfl, by simp, getLast _ _, by simp [elU], by simp [elU, El.flat]⟩)

/-- a list that grows in a cell -/
structure AccU (A lp : Nat) (H0 H : Heap) (m : List Nat) : Prop where
  cell : ∃ R, H[A]? = some (.cells [R] false) ∧ elU.Own H R m ∧ ∀ id, R.idOf = some id → lp < id
  len : lp < H.length
  old : ∀ j, j < A → H[j]? = H0[j]?

theorem AccU.set {A lp : Nat} {H0 H : Heap} {m : List Nat} (h : AccU A lp H0 H m) {s : Nat} (h1 : A < s) (h2 : s ≤ lp) (o : AObj) : AccU A lp H0 (H.set s o) m := by
  obtain ⟨R, r1, r2, r3⟩ := h.cell
  exact ⟨⟨R, by rw [List.getElem?_set_ne (by omega)]; exact r1, r2.mono fun id hid => by have := r3 id hid; rw [List.getElem?_set_ne (by omega)], r3⟩, by have := h.len; simpa using this, fun j hj => by rw [List.getElem?_set_ne (by omega)]; exact h.old j hj⟩

theorem AccU.push {pg : Pg} {A lp : Nat} {H0 H : Heap} {m : List Nat} (h : AccU A lp H0 H m) (hA : A < lp) (v : Nat) (hb : m.length + 1 ≤ 1000000) : ∃ R R' H' H2, dkc pg (den pg) (.ld 1 false) [.ref A 0] H = some (R, H) ∧ appRun 1 false 8 R (.sl H.length 0 1 false 1 (some 1)) (H ++ [.cells [.i .u64 (v : Int)] false]) = some (R', H') ∧ dkc pg (den pg) (.st 1) [.ref A 0, R'] H' = some (.undef, H2) ∧
    AccU A lp H0 H2 (m ++ [v]) ∧ (∀ j, j < H.length → j ≠ A → (∀ R, H[A]? = some (.cells [R] false) → R.idOf ≠ some j) → H2[j]? = H[j]?) ∧ H.length ≤ H2.length ∧ (∀ j, j ≤ lp → j ≠ A → H2[j]? = H[j]?) := by
  obtain ⟨R, r1, r2, r3⟩ := h.cell
  have hAl := (List.getElem?_eq_some_iff.1 r1).1
  have hl := h.len
  obtain ⟨R', H', h1, h2, h3, h4, h5⟩ := appU (r2.mono (H' := H ++ [.cells [.i .u64 (v : Int)] false]) fun id hid => by rw [List.getElem?_append_left (r2.lt id hid)]) (one_viewU H v) (by simpa using hb)
  have hl' : H.length + 1 ≤ H'.length := by simpa using h3
  have kj : ∀ j, j < H.length → R.idOf ≠ some j → H'[j]? = H[j]? := fun j hj hne => by
    rw [h4 j (by simp; omega) hne, List.getElem?_append_left hj]
  have r3' : ∀ id, R'.idOf = some id → lp < id := fun id hid => by
    rcases h5 with rfl | h5
    · exact r3 id hid
    · have := h5 id hid; simp at this; omega
  have hA' : H'[A]? = some (.cells [R] false) := by rw [kj A hAl (fun he => by have := r3 A he; omega)]; exact r1
  refine ⟨R, R', H', H'.set A (.cells [R'] false), ld_box r1 (by rcases r2 with ⟨rfl, _⟩ | ⟨_, id, ag, c, rfl, _⟩ <;> rfl), h1, st_box hA' (by rcases h2 with ⟨rfl, _⟩ | ⟨_, id, ag, c, rfl, _⟩ <;> rfl), ⟨⟨R', ?_, ?_, r3'⟩, by simp; omega, fun j hj => ?_⟩, fun j hj hne hR => ?_, by simp; omega, fun j hj hne => ?_⟩
  · rw [List.getElem?_set_self (by omega)]
  · exact h2.mono fun id hid => by have := r3' id hid; rw [List.getElem?_set_ne (by omega)]
  · rw [List.getElem?_set_ne (by omega), kj j (by omega) (fun he => by have := r3 j he; omega)]; exact h.old j hj
  · rw [List.getElem?_set_ne (by omega), kj j hj (hR R r1)]
  · rw [List.getElem?_set_ne (by omega), kj j (by omega) (fun he => by have := r3 j he; omega)]

end Go.Proofs.Tryd.Dn

/-
  Knight: the levels around a square, collected until one holds another square.
-/

namespace Go.Proofs.Tryd.Dn
open Go.Dn

def front (r c a n : Nat) : Nat := (lv r c a n).2
def fronts (r c a n : Nat) : List Nat := (List.range n).map (front r c a)
theorem fronts_succ (r c a n : Nat) : fronts r c a (n + 1) = fronts r c a n ++ [front r c a n] := by unfold fronts; rw [List.range_succ, List.map_append]; rfl
theorem fronts_len (r c a n : Nat) : (fronts r c a n).length = n := by simp [fronts]

/-- what is known while the levels are collected -/
structure Col (r c a b : Nat) (bo : Bool) (lp : Nat) (H : Heap) (n : Nat) : Prop where
  acc : AccU 1 lp [.cells [.i .i64 (b : Int)] false] H (fronts r c a n)
  board : H[3]? = some (.cells [.bp bo (.agg (bM r c))] false)

theorem Col.set {r c a b : Nat} {bo : Bool} {lp : Nat} {H : Heap} {n : Nat} (h : Col r c a b bo lp H n) {s : Nat} (h1 : 1 < s) (h3 : s ≠ 3) (h2 : s ≤ lp) (o : AObj) : Col r c a b bo lp (H.set s o) n :=
  ⟨h.acc.set h1 h2 o, by rw [List.getElem?_set_ne (by omega)]; exact h.board⟩

theorem cnt_lt {α : Type} {p q : α → Bool} : ∀ {l : List α}, (∀ x, x ∈ l → p x = true → q x = true) → (∃ x, x ∈ l ∧ q x = true ∧ p x = false) → l.countP p + 1 ≤ l.countP q
  | [], _, ⟨x, hx, _⟩ => by cases hx
  | y :: l, h, ⟨x, hx, h1, h2⟩ => by
    have hle : l.countP p ≤ l.countP q := List.countP_mono_left fun z hz => h z (List.mem_cons_of_mem _ hz)
    rw [List.countP_cons, List.countP_cons]
    rcases List.mem_cons.1 hx with rfl | hx
    · rw [h1, h2]; simp; exact hle
    · have := cnt_lt (l := l) (fun z hz => h z (List.mem_cons_of_mem _ hz)) ⟨x, hx, h1, h2⟩
      have hy := h y (List.mem_cons_self ..)
      cases hp : p y with
      | true => rw [hy hp]; simp; exact this
      | false => simp; omega

theorem lv_disj {r c a : Nat} (h : Brd r c) (ha : a < r * c) (n i : Nat) (hi : (lv r c a n).2.testBit i = true) : (lv r c a n).1.testBit i = false := by
  cases n with
  | zero => simp [lv]
  | succ n =>
    have hn := h.n36
    have h64 : 2 ^ (r * c) ≤ 18446744073709551616 := by have := Nat.pow_le_pow_right (n := 2) (by decide) (show r * c ≤ 64 by omega); omega
    have h3 := around_lt h (lv_lt h ha n).2
    simp only [lv] at hi ⊢
    rw [andN_bit (by omega)] at hi
    simp only [Bool.and_eq_true, Bool.not_eq_true'] at hi
    exact hi.2

theorem lv_many {r c a : Nat} (h : Brd r c) (ha : a < r * c) : ∀ n, (∀ k, k < n → (lv r c a k).2 ≠ 0) → n ≤ pop 64 (lv r c a n).1
  | 0, _ => Nat.zero_le _
  | n + 1, hk => by
    have ih := lv_many h ha n fun k hkn => hk k (by omega)
    have hn := h.n36
    obtain ⟨i, hi⟩ := Nat.exists_testBit_of_ne_zero (hk n (by omega))
    have hdis := lv_disj h ha n i hi
    have hi64 : i < 64 := by
      apply Classical.byContradiction
      intro hc
      have := Nat.testBit_lt_two_pow (i := i) (Nat.lt_of_lt_of_le (lv_lt h ha n).2 (Nat.pow_le_pow_right (by decide) (by omega)))
      rw [this] at hi
      cases hi
    rw [pop_count] at ih ⊢
    have := cnt_lt (l := List.range 64) (p := fun s => (lv r c a n).1.testBit s) (q := fun s => (lv r c a (n + 1)).1.testBit s) (fun x _ hx => by simp only [lv, Nat.testBit_or]; rw [hx]; rfl) ⟨i, List.mem_range.2 hi64, by simp only [lv, Nat.testBit_or]; rw [hi, Bool.or_true], hdis⟩
    omega

theorem lv_end {r c a : Nat} (h : Brd r c) (ha : a < r * c) : ∃ N, N ≤ 64 ∧ (lv r c a N).2 = 0 := by
  apply Classical.byContradiction
  intro hc
  have := lv_many h ha 65 fun k hk hz => hc ⟨k, by omega, hz⟩
  have := pop_le 64 (lv r c a 65).1
  omega

theorem col_round {pg : Pg} (hF : Free pg) {r c a b : Nat} {bo : Bool} (h : Brd r c) (ha : a < r * c) (hb : b < r * c) {L : ALoop} (hL : L = lp2 a65_0 b65_1 [16, 17] [0, 5, 7, 8] [(0, .bp bo (.agg (bM r c))), (5, .ref 0 0), (7, .ref 1 0), (8, .ref 2 0), (15, .fn 95 [] [.ref 4 0, .ref 3 0])]) :
    RndL pg 5 3 (.bp bo (.agg (bM r c))) L (fun n => (lv r c a n).2)
      (fun n H => Col r c a b bo 5 H n ∧ H[2]? = some (.cells [.b false] false) ∧ (∀ k, k < n → front r c a k ≠ 0) ∧ (∀ k, k < n → (front r c a k).testBit b = false))
      (fun x H => x = .exit 0 ∧ ∃ n, Col r c a b bo 5 H (n + 1) ∧ H[2]? = some (.cells [.b true] false) ∧ (front r c a n).testBit b = true ∧ ∀ k, k < n → (front r c a k).testBit b = false) := by
  rintro n H ⟨p1, p2, p3, p4⟩ hlp hne
  have hn := h.n36
  have h64 : 2 ^ (r * c) ≤ 18446744073709551616 := by have := Nat.pow_le_pow_right (n := 2) (by decide) (show r * c ≤ 64 by omega); omega
  have hlt := (lv_lt h ha n).2
  have hn64 : n ≤ 64 := Nat.le_trans (lv_many h ha n p3) (pop_le _ _)
  have hT : (lv r c a n).2 = front r c a n := rfl
  rw [hT] at hlt
  have hne : front r c a n ≠ 0 := hne
  show (∃ H2, Body pg 5 L [.i .i64 (n : Int), .i .u64 (front r c a n : Int)] H .normal H2 ∧ _) ∨ (∃ x H2, x ≠ .normal ∧ Body pg 5 L [.i .i64 (n : Int), .i .u64 (front r c a n : Int)] H x H2 ∧ _)
  have h5 := p1.acc.len
  obtain ⟨HB, hHB⟩ : ∃ HB, HB = H.set 5 (.loop { L with st := .busy }) := ⟨_, rfl⟩
  have pB : Col r c a b bo 5 HB n := by rw [hHB]; exact p1.set (by omega) (by omega) (by omega) _
  have hlB : HB[5]? = some (.loop { L with st := .busy }) := by rw [hHB, List.getElem?_set_self h5]
  obtain ⟨R, R', H4, H5, q1, q2, q3, q4, _, q5, q6⟩ := pB.acc.push (pg := pg) (by omega) (front r c a n) (by rw [fronts_len]; omega)
  have hb5 : H5[0]? = some (.cells [.i .i64 (b : Int)] false) := q4.old 0 (by omega)
  have h25 : H5[2]? = some (.cells [.b false] false) := by rw [q6 2 (by omega) (by omega), hHB, List.getElem?_set_ne (by omega)]; exact p2
  have h35 : H5[3]? = some (.cells [.bp bo (.agg (bM r c))] false) := by rw [q6 3 (by omega) (by omega)]; exact pB.board
  have h55 : H5[5]? = some (.loop { L with st := .busy }) := by rw [q6 5 (by omega) (by omega)]; exact hlB
  have c5 : Col r c a b bo 5 H5 (n + 1) := ⟨by rw [fronts_succ]; exact q4, h35⟩
  have ldb := ld_box (pg := pg) (R := den pg) hb5 rfl
  have wb := wrap_sq (a := b) (by omega)
  have sh := Dn.shr_u (k := .u64) (m := front r c a n) (c := b) (by omega)
  have hdv : front r c a n / 2 ^ b < 18446744073709551616 := Nat.lt_of_le_of_lt (Nat.div_le_self _ _) (by omega)
  have an := and_uu (m := front r c a n / 2 ^ b) (k := 1) hdv (by omega)
  rw [bit_and1] at an
  have ha : den pg a65_0 ((([16, 17] : List Nat).zip [.i .i64 (n : Int), .i .u64 (front r c a n : Int)]).reverse ++ [(0, .bp bo (.agg (bM r c))), (5, .ref 0 0), (7, .ref 1 0), (8, .ref 2 0)]) H = some ⟨.normal, [(5, .ref 0 0), (7, .ref 1 0), (8, .ref 2 0), (10, .i .u64 (front r c a n : Int))], H⟩ := by
    rw [den_eq, runC_go]
    simp [a65_0, go_nil, go_last, go_past, go_pastR, go_blkN, go_blkR, go_blkE, go_skip, go_exit, go_ret, go_scope, go_seq, go_reg, go_regd, go_opdN, go_opd, go_opdG, grdd_b, grdd_u, stpd_some, find_some, go_block, go_cond, cnd_b, go_opsN, go_ops, go_opsG, grd_b, grd_u, stp_some, fin_some, up_some, cont_some, k_call, k_mv, k_pick, k_bin, k_eqB, k_eqA, k_not, k_neg, k_conv, k_alloc, k_boxA, k_boxI, k_boxB, k_boxN, k_boxBs, k_ldR, k_ldA, k_ldI, k_ldB, k_stA, k_stI, k_stB, ldC_some, stC_some, k_mkfn, k_slc, k_slcA, k_ixA, k_ixBs, k_ixSl, k_fadr, k_fld, k_ext, k_len, k_app, k_mn, k_mx, k_nilck, k_build, k_bsl1, k_bsl2, b_add, b_sub, b_mul, b_eql, b_neq, b_lss, b_leq, b_gtr, b_geq, Dn.setLast, Dn.getLast, evalO, mapO, Dn.get, putE, keepE, TV.one, TV.isAgg, Dn.part]
  have hLa : L.assign = a65_0 := by rw [hL]; rfl
  cases hbit : (front r c a n).testBit b with
  | false =>
    rw [hbit] at an
    have an' : binI .and (.i .u64 ((front r c a n / 2 ^ b : Nat) : Int)) (.i .u64 1) = some (.i .u64 0) := an
    have hbd : den pg b65_1 [(5, .ref 0 0), (7, .ref 1 0), (8, .ref 2 0), (10, .i .u64 (front r c a n : Int))] HB = some ⟨.normal, [(8, .ref 2 0), (27, .b false)], H5⟩ := by
      rw [den_eq, runC_go]
      generalize front r c a n / 2 ^ b = D at *
      generalize (front r c a n : Int) = T at *
      simp [b65_1, go_nil, go_last, go_past, go_pastR, go_blkN, go_blkR, go_blkE, go_skip, go_exit, go_ret, go_scope, go_seq, go_reg, go_regd, go_opdN, go_opd, go_opdG, grdd_b, grdd_u, stpd_some, find_some, go_block, go_cond, cnd_b, go_opsN, go_ops, go_opsG, grd_b, grd_u, stp_some, fin_some, up_some, cont_some, k_call, k_mv, k_pick, k_bin, k_eqB, k_eqA, k_not, k_neg, k_conv, k_alloc, k_boxA, k_boxI, k_boxB, k_boxN, k_boxBs, k_ldR, k_ldA, k_ldI, k_ldB, k_stA, k_stI, k_stB, ldC_some, stC_some, k_mkfn, k_slc, k_slcA, k_ixA, k_ixBs, k_ixSl, k_fadr, k_fld, k_ext, k_len, k_app, k_mn, k_mx, k_nilck, k_build, k_bsl1, k_bsl2, b_add, b_sub, b_mul, b_eql, b_neq, b_lss, b_leq, b_gtr, b_geq, Dn.setLast, Dn.getLast, evalO, mapO, Dn.get, putE, keepE, TV.one, TV.isAgg, Dn.part, q1, q2, q3, ldb, wb, sh, an']
    refine .inl ⟨H5.set 5 (.loop L), Body.of (e1 := [(5, .ref 0 0), (7, .ref 1 0), (8, .ref 2 0), (10, .i .u64 (front r c a n : Int))]) (e2 := [(8, .ref 2 0), (27, .b false)]) (by rw [hL]; exact ha) hlp (by rw [← hHB, hL]; exact hbd) h55,
      ⟨c5.set (by omega) (by omega) (by omega) _, by rw [List.getElem?_set_ne (by omega)]; exact h25, fun k hk => ?_, fun k hk => ?_⟩, by rw [List.getElem?_set_ne (by omega)]; exact h35⟩
    · by_cases hkn : k = n
      · subst hkn; exact hne
      · exact p3 k (by omega)
    · by_cases hkn : k = n
      · subst hkn; exact hbit
      · exact p4 k (by omega)
  | true =>
    rw [hbit] at an
    have an' : binI .and (.i .u64 ((front r c a n / 2 ^ b : Nat) : Int)) (.i .u64 1) = some (.i .u64 1) := an
    have st2 := st_box (pg := pg) (R := den pg) (v := .b true) h25 rfl
    have hbd : den pg b65_1 [(5, .ref 0 0), (7, .ref 1 0), (8, .ref 2 0), (10, .i .u64 (front r c a n : Int))] HB = some ⟨.exit 0, [], H5.set 2 (.cells [.b true] false)⟩ := by
      rw [den_eq, runC_go]
      generalize front r c a n / 2 ^ b = D at *
      generalize (front r c a n : Int) = T at *
      simp [b65_1, go_nil, go_last, go_past, go_pastR, go_blkN, go_blkR, go_blkE, go_skip, go_exit, go_ret, go_scope, go_seq, go_reg, go_regd, go_opdN, go_opd, go_opdG, grdd_b, grdd_u, stpd_some, find_some, go_block, go_cond, cnd_b, go_opsN, go_ops, go_opsG, grd_b, grd_u, stp_some, fin_some, up_some, cont_some, k_call, k_mv, k_pick, k_bin, k_eqB, k_eqA, k_not, k_neg, k_conv, k_alloc, k_boxA, k_boxI, k_boxB, k_boxN, k_boxBs, k_ldR, k_ldA, k_ldI, k_ldB, k_stA, k_stI, k_stB, ldC_some, stC_some, k_mkfn, k_slc, k_slcA, k_ixA, k_ixBs, k_ixSl, k_fadr, k_fld, k_ext, k_len, k_app, k_mn, k_mx, k_nilck, k_build, k_bsl1, k_bsl2, b_add, b_sub, b_mul, b_eql, b_neq, b_lss, b_leq, b_gtr, b_geq, Dn.setLast, Dn.getLast, evalO, mapO, Dn.get, putE, keepE, TV.one, TV.isAgg, Dn.part, q1, q2, q3, ldb, wb, sh, an', st2]
    have l25 := (List.getElem?_eq_some_iff.1 h25).1
    refine .inr ⟨.exit 0, (H5.set 2 (.cells [.b true] false)).set 5 (.loop L), by simp, Body.of (e1 := [(5, .ref 0 0), (7, .ref 1 0), (8, .ref 2 0), (10, .i .u64 (front r c a n : Int))]) (e2 := []) (by rw [hL]; exact ha) hlp (by rw [← hHB, hL]; exact hbd) (by rw [List.getElem?_set_ne (by omega)]; exact h55),
      rfl, n, (c5.set (by omega) (by omega) (by omega) _).set (by omega) (by omega) (by omega) _, by rw [List.getElem?_set_ne (by omega), List.getElem?_set_self l25], hbit, p4⟩

end Go.Proofs.Tryd.Dn

/-
  Knight: the way between two squares: the levels up to the goal.
-/

namespace Go.Proofs.Tryd.Dn
open Go.Dn

/-- the heap that the search starts from -/
def h65 (r c a b : Nat) (bo : Bool) : Heap := [.cells [.i .i64 (b : Int)] false, .cells [.nilsl] false, .cells [.b false] false, .cells [.bp bo (.agg (bM r c))] false, .cells [.i .i64 (a : Int)] false]

def e65 (r c : Nat) (bo : Bool) : Env := [(0, .bp bo (.agg (bM r c))), (5, .ref 0 0), (7, .ref 1 0), (8, .ref 2 0), (15, .fn 95 [] [.ref 4 0, .ref 3 0])]
def k65 (r c : Nat) (bo : Bool) : Env := [(0, .bp bo (.agg (bM r c))), (5, .ref 0 0), (7, .ref 1 0), (8, .ref 2 0)]

/-- the first loop: the goal in a level, or in none -/
theorem half65 {pg : Pg} (hF : Free pg) {r c a b : Nat} {bo : Bool} (h : Brd r c) (ha : a < r * c) (hb : b < r * c) :
    ∃ H2, (∀ K, go pg (den pg) (.c (.block 0 (.rfunc (.t 15) [16, 17] a65_0 b65_1 [0, 5, 7, 8])) :: K) .normal (e65 r c bo) (h65 r c a b bo) = go pg (den pg) K .normal (k65 r c bo) H2) ∧
      ((∃ m, Col r c a b bo 5 H2 (m + 1) ∧ H2[2]? = some (.cells [.b true] false) ∧ (front r c a m).testBit b = true ∧ ∀ k, k < m → (front r c a k).testBit b = false) ∨
       (∃ m, Col r c a b bo 5 H2 m ∧ H2[2]? = some (.cells [.b false] false) ∧ front r c a m = 0 ∧ ∀ k, k < m → (front r c a k).testBit b = false)) := by
  obtain ⟨N, hN, hz⟩ := lv_end h ha
  obtain ⟨L, hL⟩ : ∃ L, L = lp2 a65_0 b65_1 [16, 17] [0, 5, 7, 8] (e65 r c bo) := ⟨_, rfl⟩
  have hk : keepE [0, 5, 7, 8] (e65 r c bo) = k65 r c bo := rfl
  have hlen : (h65 r c a b bo).length = 5 := rfl
  have hc0 : Col r c a b bo 5 (h65 r c a b bo ++ [.loop L]) 0 :=
    ⟨⟨⟨.nilsl, rfl, .inl ⟨rfl, rfl⟩, fun id hid => by cases hid⟩, by simp [h65], fun j hj => by have : j = 0 := (by omega); subst this; rfl⟩, rfl⟩
  rcases rngL hF (f := 15) (s := 4) (bc := 3) (p := 16) (q := 17) (bo := bo) (as_ := a65_0) (bd := b65_1) (ks := [0, 5, 7, 8]) (e := e65 r c bo) (H := h65 r c a b bo) h ha (N := N) (by omega) hz rfl rfl rfl
      (P := fun n H => Col r c a b bo 5 H n ∧ H[2]? = some (.cells [.b false] false) ∧ (∀ k, k < n → front r c a k ≠ 0) ∧ (∀ k, k < n → (front r c a k).testBit b = false))
      (Q := fun x H => x = .exit 0 ∧ ∃ n, Col r c a b bo 5 H (n + 1) ∧ H[2]? = some (.cells [.b true] false) ∧ (front r c a n).testBit b = true ∧ ∀ k, k < n → (front r c a k).testBit b = false)
      (by rw [← hL]; exact ⟨hc0, rfl, fun k hk => by omega, fun k hk => by omega⟩) (by rw [hlen, ← hL]; exact col_round hF h ha hb hL) with ⟨H2, m, r1, ⟨p1, p2, p3, p4⟩, p5⟩ | ⟨x, H2, hx, r1, rfl, m, p1, p2, p3, p4⟩
  · rw [hlen, ← hL, hk] at r1
    refine ⟨H2.set 5 (.loop { L with st := .exhausted }), fun K => ?_, .inr ⟨m, p1.set (by omega) (by omega) (by omega) _, by rw [List.getElem?_set_ne (by omega)]; exact p2, p5, p4⟩⟩
    simp [go_block, r1, go_blkN]
  · rw [hlen, ← hL, hk] at r1
    refine ⟨H2.set 5 (.loop { L with st := .exhausted, pend := some (.exit 0) }), fun K => ?_, .inl ⟨m, p1.set (by omega) (by omega) (by omega) _, by rw [List.getElem?_set_ne (by omega)]; exact p2, p3, p4⟩⟩
    simp [go_block, r1, go_blkE]

end Go.Proofs.Tryd.Dn

