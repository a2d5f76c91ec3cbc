/-
  Plans: numbers at holes, and what a plan takes.
-/
import Derived.Test.YtegihfgibonhpaaPe
import Derived.Test.YtegihfgibonhpaaDe
import Derived.Test.YtegihfgibonhpaaPf
import Derived.Test.YtegihfgibonhpaaPc
set_option linter.unusedSimpArgs false
set_option linter.unusedVariables false

namespace Go.Proofs.Try.Dn
open Go.Dn

/-- pairs of numbers as elements -/
def elP : El (Int × Int) where
  sz := 2
  ag := true
  enc x := [.i .i64 x.1, .i .i64 x.2]
  pos := by decide
  len _ := rfl
  one _ := rfl
  sc := .inl rfl

theorem elP_flat : elP.Flat := by
  intro m H a f
  show snap m H (f + 2) (.agg [.i .i64 a.1, .i .i64 a.2]) = some (.agg [.i .i64 a.1, .i .i64 a.2])
  simp [snap, mapO]

section
variable {pg : Pg} {R : Rec}
theorem ixP {H : Heap} {t : TV} {l : List (Int × Int)} (h : elP.View H t l) {i : Nat} {x : Int × Int} (hx : l[i]? = some x) : ∃ p, dkc pg R (.ixS 2 true) [t, .i .i64 (i : Int)] H = some (p, H) ∧ elP.At H p x ∧ (∀ id o, p = .ref id o → t.idOf = some id) := h.ix hx .i64
theorem cellP {H : Heap} {p : TV} {x : Int × Int} (h : elP.At H p x) {j : Nat} {v : TV} (hv : [TV.i .i64 x.1, .i .i64 x.2][j]? = some v) : ∃ q, dkc pg R (.ixA 2 1 false) [p, .i .i64 (j : Int)] H = some (q, H) ∧ dkc pg R (.ld 1 false) [q] H = some (v, H) := h.cell rfl hv .i64
end

/-- a number for each hole -/
def tabI (n : Nat) (f : Nat → Int) : List Int := (List.range n).map f

theorem tabI_len (n : Nat) (f : Nat → Int) : (tabI n f).length = n := by simp [tabI]
theorem tabI_at {n : Nat} {f : Nat → Int} {a : Int} (h0 : 0 ≤ a) (h1 : a < n) : wAt (tabI n f) a = f a.toNat := by
  unfold wAt tabI
  rw [List.getD_eq_getElem?_getD, List.getElem?_map, List.getElem?_range (by omega)]
  rfl
theorem tabI_set {n : Nat} {f : Nat → Int} {i : Nat} (v : Int) : (tabI n f).set i v = tabI n (fun h => if h = i then v else f h) := by
  apply List.ext_getElem?
  intro j
  unfold tabI
  by_cases hj : j < n
  · rw [List.getElem?_map, List.getElem?_range hj]
    by_cases hij : j = i
    · subst hij
      rw [List.getElem?_set_self (by simpa using hj)]
      simp
    · rw [List.getElem?_set_ne (fun h => hij h.symm), List.getElem?_map, List.getElem?_range hj]
      simp [hij]
  · rw [List.getElem?_eq_none (by simp; omega), List.getElem?_eq_none (by simp; omega)]
theorem tabI_congr {n : Nat} {f g : Nat → Int} (h : ∀ i, i < n → f i = g i) : tabI n f = tabI n g := by
  unfold tabI
  apply List.map_congr_left
  intro i hi
  exact h i (by simpa using hi)

theorem tabI_cell {pg : Pg} {R : Rec} {H : Heap} {t : TV} {n : Nat} {f : Nat → Int} (ho : elI.Arr H t (tabI n f)) {a : Int} (h0 : 0 ≤ a) (h1 : a < n) :
    ∃ p, dkc pg R (.ixS 1 false) [t, .i .i64 a] H = some (p, H) ∧ dkc pg R (.ld 1 false) [p] H = some (.i .i64 (f a.toNat), H) ∧
      ∀ v, ∃ H', dkc pg R (.st 1) [p, .i .i64 v] H = some (.undef, H') ∧ elI.Arr H' t (tabI n (fun h => if (h : Int) = a then v else f h)) ∧ H'.length = H.length ∧ (∀ j, t.idOf ≠ some j → H'[j]? = H[j]?) := by
  have hx : (tabI n f)[a.toNat]? = some (f a.toNat) := by
    unfold tabI
    rw [List.getElem?_map, List.getElem?_range (by omega)]; rfl
  obtain ⟨p, hp, hat, hst, _⟩ := ho.at (pg := pg) (R := R) hx .i64
  rw [show ((a.toNat : Nat) : Int) = a by omega] at hp
  refine ⟨p, hp, hat.ld, fun v => ?_⟩
  obtain ⟨H', hs, ho', hl, hf⟩ := hst v
  refine ⟨H', hs, ?_, hl, hf⟩
  rw [tabI_set] at ho'
  rw [tabI_congr (g := fun h => if h = a.toNat then v else f h)]
  · exact ho'
  · intro i hi
    by_cases h : i = a.toNat
    · rw [if_pos h, if_pos (by omega)]
    · rw [if_neg h, if_neg (by omega)]

/-- how often a jump is made -/
def cntAt (J : List (Int × Int)) (k : Nat) : Int := if k % 2 = 0 then (J.getD (k / 2) (0, 0)).1 else (J.getD (k / 2) (0, 0)).2
def okC (c : Int × Int) : Bool := decide (0 ≤ c.1) && decide (c.1 ≤ 1000000) && decide (0 ≤ c.2) && decide (c.2 ≤ 1000000)
/-- what a jump takes from a hole -/
def effJ (x : Int) (j : Line) (h : Nat) : Int := (if (h : Int) = j.1 then x else 0) + (if (h : Int) = j.2.1 then x else 0) - (if (h : Int) = j.2.2 then x else 0)
def jAt (l : List Line) (k : Nat) : Line := (js l).getD k (0, 0, 0)
def lossS (l : List Line) (J : List (Int × Int)) : Nat → Nat → Int
  | 0, _ => 0
  | k + 1, h => lossS l J k h + effJ (cntAt J k) (jAt l k) h

theorem jAt_some {l : List Line} {k : Nat} {j : Line} (h : (js l)[k]? = some j) : jAt l k = j := by
  unfold jAt; rw [List.getD_eq_getElem?_getD, h]; rfl

theorem effJ_range {x : Int} (h0 : 0 ≤ x) (h1 : x ≤ 1000000) (j : Line) (h : Nat) : -2000000 ≤ effJ x j h ∧ effJ x j h ≤ 2000000 := by
  unfold effJ
  split <;> split <;> split <;> omega

theorem cnt_range {J : List (Int × Int)} {k : Nat} (h : ∀ i, i ≤ k / 2 → okC (J.getD i (0, 0)) = true) : 0 ≤ cntAt J k ∧ cntAt J k ≤ 1000000 := by
  have := h (k / 2) (Nat.le_refl _)
  simp [okC] at this
  unfold cntAt
  split <;> simp only [List.getD_eq_getElem?_getD] <;> omega

theorem loss_range {l : List Line} {J : List (Int × Int)} : ∀ {k : Nat}, (∀ i, i < k → 0 ≤ cntAt J i ∧ cntAt J i ≤ 1000000) → ∀ h, -2000000 * (k : Int) ≤ lossS l J k h ∧ lossS l J k h ≤ 2000000 * (k : Int)
  | 0, hc, h => by simp [lossS]
  | k + 1, hc, h => by
    have h1 := loss_range (l := l) (k := k) (fun i hi => hc i (by omega)) h
    obtain ⟨c1, c2⟩ := hc k (by omega)
    have h2 := effJ_range c1 c2 (jAt l k) h
    unfold lossS
    omega

/-- whether numbers are a plan -/
def planB (n : Nat) (l : List Line) (p q m : Int) (J : List (Int × Int)) : Bool :=
  decide (1 ≤ m) && (decide (m ≤ 1000000) && (decide (J.length = l.length) && (J.all okC && (List.range n).all fun h => decide (lossS l J (2 * l.length) h = m * (bt p h - bt q h)))))

theorem bt_diff {p q m : Int} {h : Nat} (h0 : 1 ≤ m) (h1 : m ≤ 1000000) : -1000000 ≤ m * (bt p h - bt q h) ∧ m * (bt p h - bt q h) ≤ 1000000 := by
  have a := bt_range p h
  have b := bt_range q h
  rcases (by omega : bt p h - bt q h = 0 ∨ bt p h - bt q h = 1 ∨ bt p h - bt q h = -1) with e | e | e <;> rw [e] <;> omega

/-- pairs as an argument -/
def PT (b : Bool) (J : List (Int × Int)) : TV := elP.lt b J
theorem PT_view (b : Bool) (J : List (Int × Int)) (H : Heap) : elP.View H (PT b J) J := El.lt_view b J H
theorem PT_snap (b : Bool) (J : List (Int × Int)) (H : Heap) : snap .borrow H 9 (PT b J) = some (PT true J) := El.lt_snap elP_flat b J H
theorem PT_noagg (b : Bool) (J : List (Int × Int)) : (PT b J).isAgg = false := by cases J <;> rfl

theorem tab_mksl (H : Heap) (n : Nat) : elI.Arr (H ++ [.cells (repl [.i .i64 0] n) false]) (.sl H.length 0 1 false n (some n)) (tabI n fun _ => 0) := by
  have h := El.arr_mksl elI H 0 n
  have : List.replicate n (0 : Int) = tabI n fun _ => 0 := by
    unfold tabI
    apply List.ext_getElem <;> simp
  rw [this] at h
  exact h

end Go.Proofs.Try.Dn

/-
  Plans: the reference's test.
-/

namespace Go.Proofs.Try.Dn
open Go.Dn

/-- a number in its place -/
def upd (f : Nat → Int) (a v : Int) : Nat → Int := fun h => if (h : Int) = a then v else f h
theorem upd_ne {f : Nat → Int} {a v b : Int} (h0 : 0 ≤ b) (h : b ≠ a) : upd f a v b.toNat = f b.toNat := by unfold upd; rw [if_neg (by omega)]

theorem cnt_even {J : List (Int × Int)} {i : Nat} {c : Int × Int} (h : J[i]? = some c) : cntAt J (2 * i) = c.1 ∧ cntAt J (2 * i + 1) = c.2 := by
  unfold cntAt
  rw [if_pos (by omega), if_neg (by omega), show 2 * i / 2 = i by omega, show (2 * i + 1) / 2 = i by omega, List.getD_eq_getElem?_getD, h]
  exact ⟨rfl, rfl⟩

theorem loss_two {l : List Line} {J : List (Int × Int)} {i : Nat} {x : Line} {c : Int × Int} (hx : l[i]? = some x) (hc : J[i]? = some c) (h : Nat) :
    lossS l J (2 * (i + 1)) h = lossS l J (2 * i) h + effJ c.1 x h + effJ c.2 (rev x) h := by
  obtain ⟨j0, j1⟩ := js_even l i x hx
  obtain ⟨c0, c1⟩ := cnt_even hc
  show lossS l J (2 * i) h + effJ (cntAt J (2 * i)) (jAt l (2 * i)) h + effJ (cntAt J (2 * i + 1)) (jAt l (2 * i + 1)) h = _
  rw [c0, c1, jAt_some j0, jAt_some j1]

theorem okC_iff (c : Int × Int) : okC c = true ↔ 0 ≤ c.1 ∧ c.1 ≤ 1000000 ∧ 0 ≤ c.2 ∧ c.2 ≤ 1000000 := by
  simp [okC]; omega

theorem cnt_all {J : List (Int × Int)} (h : J.all okC = true) (k : Nat) : 0 ≤ cntAt J k ∧ cntAt J k ≤ 1000000 := by
  refine cnt_range fun i _ => ?_
  rw [List.getD_eq_getElem?_getD]
  cases hg : J[i]? with
  | none => rfl
  | some v => exact List.all_eq_true.1 h v (List.mem_of_getElem? hg)

theorem loss_take {J : List (Int × Int)} {i : Nat} (hl : i ≤ J.length) (h : (J.take i).all okC = true) : ∀ k, k < 2 * i → 0 ≤ cntAt J k ∧ cntAt J k ≤ 1000000 := by
  intro k hk
  have := cnt_all h k
  have hg : (J.take i).getD (k / 2) (0, 0) = J.getD (k / 2) (0, 0) := by
    rw [List.getD_eq_getElem?_getD, List.getD_eq_getElem?_getD, List.getElem?_take, if_pos (by omega)]
  unfold cntAt at this ⊢
  rw [hg] at this
  exact this

theorem l37_1_round {pg : Pg} {n : Nat} {l : List Line} {J : List (Int × Int)} {p q m : TV} {T : TV} {i : Nat} {x : Line} {c : Int × Int} {H : Heap} (hl : l.length ≤ 40) (hx : l[i]? = some x) (hc : J[i]? = some c) (hf : Fits n x) (hJ : J.length = l.length)
    (hok : (J.take i).all okC = true) (ho : elI.Arr H T (tabI n (lossS l J (2 * i)))) :
    (okC c = true → ∃ H', den pg l37_1 [(0, .i .i64 (n : Int)), (1, LT true l), (2, p), (3, q), (4, m), (5, PT true J), (13, T), (14, .i .i64 (i : Int))] H =
      den pg l37_1 [(0, .i .i64 (n : Int)), (1, LT true l), (2, p), (3, q), (4, m), (5, PT true J), (13, T), (14, .i .i64 ((i + 1 : Nat) : Int))] H' ∧ elI.Arr H' T (tabI n (lossS l J (2 * (i + 1))))) ∧
    (okC c = false → den pg l37_1 [(0, .i .i64 (n : Int)), (1, LT true l), (2, p), (3, q), (4, m), (5, PT true J), (13, T), (14, .i .i64 (i : Int))] H = some ⟨.ret, [(12, .b false)], H⟩) := by
  have hi := (List.getElem?_eq_some_iff.1 hx).1
  have e1 : ((i : Int) < (l.length : Int)) := by omega
  have e2 : wrapR .i64 ((i : Int) + 1) = .i .i64 ((i : Int) + 1) := wrapR_i64 (by omega)
  obtain ⟨f1, f2, f3, f4, f5, f6, f7, f8, f9⟩ := hf
  have hlen := LT_len true l
  have hV : elL.View H (LT true l) l := by rw [LT_lt]; exact El.lt_view _ _ _
  obtain ⟨r, hr, hat, _⟩ := ixL (pg := pg) (R := den pg) hV hx
  obtain ⟨q0, hq0, hr0⟩ := cellL (pg := pg) (R := den pg) hat (j := 0) (v := .i .i64 x.1) rfl
  obtain ⟨q1, hq1, hr1⟩ := cellL (pg := pg) (R := den pg) hat (j := 1) (v := .i .i64 x.2.1) rfl
  obtain ⟨q2, hq2, hr2⟩ := cellL (pg := pg) (R := den pg) hat (j := 2) (v := .i .i64 x.2.2) rfl
  obtain ⟨s, hs, hats, _⟩ := ixP (pg := pg) (R := den pg) (PT_view true J H) hc
  obtain ⟨s0, hs0, ht0⟩ := cellP (pg := pg) (R := den pg) hats (j := 0) (v := .i .i64 c.1) rfl
  obtain ⟨s1, hs1, ht1⟩ := cellP (pg := pg) (R := den pg) hats (j := 1) (v := .i .i64 c.2) rfl
  simp only [Int.cast_ofNat_Int, Int.natCast_zero, Int.natCast_one] at hq0 hq1 hq2 hs0 hs1
  constructor
  · intro hcok
    rw [okC_iff] at hcok
    obtain ⟨g1, g2, g3, g4⟩ := hcok
    have n1 : ¬ c.1 < 0 := by omega
    have n2 : ¬ 1000000 < c.1 := by omega
    have n3 : ¬ c.2 < 0 := by omega
    have n4 : ¬ 1000000 < c.2 := by omega
    have hrg := loss_range (l := l) (J := J) (k := 2 * i) (loss_take (by omega) hok)
    obtain ⟨p1, a1, a2, a3⟩ := tabI_cell (pg := pg) (R := den pg) ho f1 (by omega)
    have r1 := hrg x.1.toNat
    generalize hF : lossS l J (2 * i) = F at *
    have w1 : wrapR .i64 (F x.1.toNat + c.1) = .i .i64 (F x.1.toNat + c.1) := wrapR_i64 (by omega)
    have w2 : wrapR .i64 (F x.1.toNat + c.1 - c.2) = .i .i64 (F x.1.toNat + c.1 - c.2) := wrapR_i64 (by omega)
    obtain ⟨H1, a4, o1, l1, k1⟩ := a3 (F x.1.toNat + c.1 - c.2)
    change elI.Arr H1 T (tabI n (upd F x.1 (F x.1.toNat + c.1 - c.2))) at o1
    obtain ⟨p2, b1, b2, b3⟩ := tabI_cell (pg := pg) (R := den pg) o1 f3 (by omega)
    rw [upd_ne f3 (by omega)] at b2
    have r2 := hrg x.2.1.toNat
    have w3 : wrapR .i64 (F x.2.1.toNat + c.1) = .i .i64 (F x.2.1.toNat + c.1) := wrapR_i64 (by omega)
    have w4 : wrapR .i64 (F x.2.1.toNat + c.1 + c.2) = .i .i64 (F x.2.1.toNat + c.1 + c.2) := wrapR_i64 (by omega)
    obtain ⟨H2, b4, o2, l2, k2⟩ := b3 (F x.2.1.toNat + c.1 + c.2)
    change elI.Arr H2 T (tabI n (upd (upd F x.1 _) x.2.1 (F x.2.1.toNat + c.1 + c.2))) at o2
    obtain ⟨p3, c1, c2, c3⟩ := tabI_cell (pg := pg) (R := den pg) o2 f5 (by omega)
    rw [upd_ne f5 (by omega), upd_ne f5 (by omega)] at c2
    have r3 := hrg x.2.2.toNat
    have w5 : wrapR .i64 (F x.2.2.toNat + c.2) = .i .i64 (F x.2.2.toNat + c.2) := wrapR_i64 (by omega)
    have w6 : wrapR .i64 (F x.2.2.toNat + c.2 - c.1) = .i .i64 (F x.2.2.toNat + c.2 - c.1) := wrapR_i64 (by omega)
    obtain ⟨H3, c4, o3, l3, k3⟩ := c3 (F x.2.2.toNat + c.2 - c.1)
    refine ⟨H3, ?_, ?_⟩
    · rw [l37_1, den_loop]
      simp [l37_1, b37_0, go_nil, go_last, go_past, go_pastR, go_blkN, go_blkR, go_blkE, go_skip, go_exit, go_ret, go_scope, go_seq, go_reg, go_block, go_cond, cnd_b, go_opsN, go_ops, go_opsG, grd_b, grd_u, stp_some, fin_some, up_some, cont_some, k_call, k_mv, k_pick, k_bin, k_eqB, k_eqA, k_not, k_neg, k_conv, k_alloc, k_boxA, k_boxI, k_boxB, k_boxN, k_boxBs, k_ldR, k_ldA, k_ldI, k_ldB, k_stA, k_stI, k_stB, ldC_some, stC_some, k_mkfn, k_slc, k_slcA, k_ixA, k_ixBs, k_ixSl, k_fadr, k_fld, k_ext, k_len, k_app, k_mn, k_mx, k_nilck, k_build, k_bsl1, k_bsl2, b_add, b_sub, b_mul, b_eql, b_neq, b_lss, b_leq, b_gtr, b_geq, Dn.setLast, Dn.getLast, evalO, mapO, Dn.get, putE, keepE, TV.one, TV.isAgg, Dn.part, hlen, e1, e2, hr, hq0, hr0, hq1, hr1, hq2, hr2, hs, hs0, ht0, hs1, ht1, n1, n2, n3, n4, a1, a2, a4, b1, b2, b4, c1, c2, c4, w1, w2, w3, w4, w5, w6]
    · refine (tabI_congr (fun h hh => ?_)) ▸ o3
      rw [loss_two hx hc, hF]
      simp only [upd, effJ, rev]
      by_cases ha : (h : Int) = x.1
      · have hb : ¬ (h : Int) = x.2.1 := by omega
        have hcc : ¬ (h : Int) = x.2.2 := by omega
        have : x.1.toNat = h := by omega
        rw [this]
        simp only [if_pos ha, if_neg hb, if_neg hcc]
        omega
      · by_cases hb : (h : Int) = x.2.1
        · have hcc : ¬ (h : Int) = x.2.2 := by omega
          have : x.2.1.toNat = h := by omega
          rw [this]
          simp only [if_neg ha, if_pos hb, if_neg hcc]
          omega
        · by_cases hcc : (h : Int) = x.2.2
          · have : x.2.2.toNat = h := by omega
            rw [this]
            simp only [if_neg ha, if_neg hb, if_pos hcc]
            omega
          · simp only [if_neg ha, if_neg hb, if_neg hcc]
            omega
  · intro hcok
    have hcok' : ¬ okC c = true := by simp [hcok]
    rw [okC_iff] at hcok'
    by_cases n1 : c.1 < 0
    · rw [l37_1, den_loop]
      simp [l37_1, b37_0, go_nil, go_last, go_past, go_pastR, go_blkN, go_blkR, go_blkE, go_skip, go_exit, go_ret, go_scope, go_seq, go_reg, go_block, go_cond, cnd_b, go_opsN, go_ops, go_opsG, grd_b, grd_u, stp_some, fin_some, up_some, cont_some, k_call, k_mv, k_pick, k_bin, k_eqB, k_eqA, k_not, k_neg, k_conv, k_alloc, k_boxA, k_boxI, k_boxB, k_boxN, k_boxBs, k_ldR, k_ldA, k_ldI, k_ldB, k_stA, k_stI, k_stB, ldC_some, stC_some, k_mkfn, k_slc, k_slcA, k_ixA, k_ixBs, k_ixSl, k_fadr, k_fld, k_ext, k_len, k_app, k_mn, k_mx, k_nilck, k_build, k_bsl1, k_bsl2, b_add, b_sub, b_mul, b_eql, b_neq, b_lss, b_leq, b_gtr, b_geq, Dn.setLast, Dn.getLast, evalO, mapO, Dn.get, putE, keepE, TV.one, TV.isAgg, Dn.part, hlen, e1, e2, hr, hq0, hr0, hq1, hr1, hq2, hr2, hs, hs0, ht0, hs1, ht1, n1]
    · by_cases n2 : 1000000 < c.1
      · rw [l37_1, den_loop]
        simp [l37_1, b37_0, go_nil, go_last, go_past, go_pastR, go_blkN, go_blkR, go_blkE, go_skip, go_exit, go_ret, go_scope, go_seq, go_reg, go_block, go_cond, cnd_b, go_opsN, go_ops, go_opsG, grd_b, grd_u, stp_some, fin_some, up_some, cont_some, k_call, k_mv, k_pick, k_bin, k_eqB, k_eqA, k_not, k_neg, k_conv, k_alloc, k_boxA, k_boxI, k_boxB, k_boxN, k_boxBs, k_ldR, k_ldA, k_ldI, k_ldB, k_stA, k_stI, k_stB, ldC_some, stC_some, k_mkfn, k_slc, k_slcA, k_ixA, k_ixBs, k_ixSl, k_fadr, k_fld, k_ext, k_len, k_app, k_mn, k_mx, k_nilck, k_build, k_bsl1, k_bsl2, b_add, b_sub, b_mul, b_eql, b_neq, b_lss, b_leq, b_gtr, b_geq, Dn.setLast, Dn.getLast, evalO, mapO, Dn.get, putE, keepE, TV.one, TV.isAgg, Dn.part, hlen, e1, e2, hr, hq0, hr0, hq1, hr1, hq2, hr2, hs, hs0, ht0, hs1, ht1, n1, n2]
      · by_cases n3 : c.2 < 0
        · rw [l37_1, den_loop]
          simp [l37_1, b37_0, go_nil, go_last, go_past, go_pastR, go_blkN, go_blkR, go_blkE, go_skip, go_exit, go_ret, go_scope, go_seq, go_reg, go_block, go_cond, cnd_b, go_opsN, go_ops, go_opsG, grd_b, grd_u, stp_some, fin_some, up_some, cont_some, k_call, k_mv, k_pick, k_bin, k_eqB, k_eqA, k_not, k_neg, k_conv, k_alloc, k_boxA, k_boxI, k_boxB, k_boxN, k_boxBs, k_ldR, k_ldA, k_ldI, k_ldB, k_stA, k_stI, k_stB, ldC_some, stC_some, k_mkfn, k_slc, k_slcA, k_ixA, k_ixBs, k_ixSl, k_fadr, k_fld, k_ext, k_len, k_app, k_mn, k_mx, k_nilck, k_build, k_bsl1, k_bsl2, b_add, b_sub, b_mul, b_eql, b_neq, b_lss, b_leq, b_gtr, b_geq, Dn.setLast, Dn.getLast, evalO, mapO, Dn.get, putE, keepE, TV.one, TV.isAgg, Dn.part, hlen, e1, e2, hr, hq0, hr0, hq1, hr1, hq2, hr2, hs, hs0, ht0, hs1, ht1, n1, n2, n3]
        · have n4 : 1000000 < c.2 := by omega
          rw [l37_1, den_loop]
          simp [l37_1, b37_0, go_nil, go_last, go_past, go_pastR, go_blkN, go_blkR, go_blkE, go_skip, go_exit, go_ret, go_scope, go_seq, go_reg, go_block, go_cond, cnd_b, go_opsN, go_ops, go_opsG, grd_b, grd_u, stp_some, fin_some, up_some, cont_some, k_call, k_mv, k_pick, k_bin, k_eqB, k_eqA, k_not, k_neg, k_conv, k_alloc, k_boxA, k_boxI, k_boxB, k_boxN, k_boxBs, k_ldR, k_ldA, k_ldI, k_ldB, k_stA, k_stI, k_stB, ldC_some, stC_some, k_mkfn, k_slc, k_slcA, k_ixA, k_ixBs, k_ixSl, k_fadr, k_fld, k_ext, k_len, k_app, k_mn, k_mx, k_nilck, k_build, k_bsl1, k_bsl2, b_add, b_sub, b_mul, b_eql, b_neq, b_lss, b_leq, b_gtr, b_geq, Dn.setLast, Dn.getLast, evalO, mapO, Dn.get, putE, keepE, TV.one, TV.isAgg, Dn.part, hlen, e1, e2, hr, hq0, hr0, hq1, hr1, hq2, hr2, hs, hs0, ht0, hs1, ht1, n1, n2, n3, n4]

theorem l37_1_all {pg : Pg} {n : Nat} {l : List Line} {J : List (Int × Int)} {p q m : TV} {T : TV} (hl : l.length ≤ 40) (hf : ∀ x ∈ l, Fits n x) (hJ : J.length = l.length) : ∀ (k i : Nat) (H : Heap), i + k = l.length → (J.take i).all okC = true → elI.Arr H T (tabI n (lossS l J (2 * i))) →
    ∃ x e H', den pg l37_1 [(0, .i .i64 (n : Int)), (1, LT true l), (2, p), (3, q), (4, m), (5, PT true J), (13, T), (14, .i .i64 (i : Int))] H = some ⟨x, e, H'⟩ ∧
      (x = .exit 0 ∧ get e 0 = some (.i .i64 (n : Int)) ∧ get e 2 = some p ∧ get e 3 = some q ∧ get e 4 = some m ∧ get e 13 = some T ∧ J.all okC = true ∧ elI.Arr H' T (tabI n (lossS l J (2 * l.length))) ∨ x = .ret ∧ e = [(12, .b false)] ∧ J.all okC = false)
  | 0, i, H, h, hok, ho => by
    obtain rfl : i = l.length := by omega
    have hlen := LT_len true l
    refine ⟨.exit 0, [(0, .i .i64 (n : Int)), (1, LT true l), (2, p), (3, q), (4, m), (5, PT true J), (13, T), (14, .i .i64 (l.length : Int)), (39, .b false)], H, ?_, .inl ⟨rfl, rfl, rfl, rfl, rfl, rfl, by rwa [List.take_of_length_le (by omega)] at hok, ho⟩⟩
    rw [l37_1, den_loop]
    simp [b37_0, go_nil, go_last, go_past, go_pastR, go_blkN, go_blkR, go_blkE, go_skip, go_exit, go_ret, go_scope, go_seq, go_reg, go_block, go_cond, cnd_b, go_opsN, go_ops, go_opsG, grd_b, grd_u, stp_some, fin_some, up_some, cont_some, k_call, k_mv, k_pick, k_bin, k_eqB, k_eqA, k_not, k_neg, k_conv, k_alloc, k_boxA, k_boxI, k_boxB, k_boxN, k_boxBs, k_ldR, k_ldA, k_ldI, k_ldB, k_stA, k_stI, k_stB, ldC_some, stC_some, k_mkfn, k_slc, k_slcA, k_ixA, k_ixBs, k_ixSl, k_fadr, k_fld, k_ext, k_len, k_app, k_mn, k_mx, k_nilck, k_build, k_bsl1, k_bsl2, b_add, b_sub, b_mul, b_eql, b_neq, b_lss, b_leq, b_gtr, b_geq, Dn.setLast, Dn.getLast, evalO, mapO, Dn.get, putE, keepE, TV.one, TV.isAgg, Dn.part, hlen]
  | k + 1, i, H, h, hok, ho => by
    have hi : i < l.length := by omega
    have hx : l[i]? = some l[i] := List.getElem?_eq_getElem hi
    have hj : J[i]? = some (J[i]'(by omega)) := List.getElem?_eq_getElem (by omega)
    have hr := l37_1_round (pg := pg) (p := p) (q := q) (m := m) hl hx hj (hf _ (List.getElem_mem hi)) hJ hok ho
    by_cases hc : okC (J[i]'(by omega)) = true
    · obtain ⟨H1, h1, o1⟩ := hr.1 hc
      obtain ⟨x, e, H', h2, h3⟩ := l37_1_all (pg := pg) (p := p) (q := q) (m := m) hl hf hJ k (i + 1) H1 (by omega) (by rw [List.take_add_one, hj, List.all_append, hok]; simp [hc]) o1
      exact ⟨x, e, H', h1.trans h2, h3⟩
    · have hc' : okC (J[i]'(by omega)) = false := by simpa using hc
      exact ⟨_, _, _, hr.2 hc', .inr ⟨rfl, rfl, List.all_eq_false.2 ⟨_, List.mem_of_getElem? hj, hc⟩⟩⟩

theorem l37_3_all {pg : Pg} {n : Nat} (hn : n ≤ 16) {f : Nat → Int} {p q m : Int} {T : TV} {H : Heap} (hm : 1 ≤ m ∧ m ≤ 1000000) (hp : 0 ≤ p) (hq : 0 ≤ q) (ho : elI.Arr H T (tabI n f)) : ∀ (k i : Nat), i + k = n →
    ∃ x e, den pg l37_3 [(0, .i .i64 (n : Int)), (2, .i .i64 p), (3, .i .i64 q), (4, .i .i64 m), (13, T), (20, .i .i64 (i : Int))] H = some ⟨x, e, H⟩ ∧
      (x = .exit 2 ∧ (∀ h, i ≤ h → h < n → f h = m * (bt p h - bt q h)) ∨ x = .ret ∧ e = [(12, .b false)] ∧ ∃ h, h < n ∧ f h ≠ m * (bt p h - bt q h))
  | 0, i, h => by
    obtain rfl : i = n := by omega
    refine ⟨.exit 2, [(0, .i .i64 (i : Int)), (2, .i .i64 p), (3, .i .i64 q), (4, .i .i64 m), (13, T), (20, .i .i64 (i : Int)), (116, .b false)], ?_, .inl ⟨rfl, fun h h1 h2 => by omega⟩⟩
    rw [l37_3, den_loop]
    simp [b37_2, go_nil, go_last, go_past, go_pastR, go_blkN, go_blkR, go_blkE, go_skip, go_exit, go_ret, go_scope, go_seq, go_reg, go_block, go_cond, cnd_b, go_opsN, go_ops, go_opsG, grd_b, grd_u, stp_some, fin_some, up_some, cont_some, k_call, k_mv, k_pick, k_bin, k_eqB, k_eqA, k_not, k_neg, k_conv, k_alloc, k_boxA, k_boxI, k_boxB, k_boxN, k_boxBs, k_ldR, k_ldA, k_ldI, k_ldB, k_stA, k_stI, k_stB, ldC_some, stC_some, k_mkfn, k_slc, k_slcA, k_ixA, k_ixBs, k_ixSl, k_fadr, k_fld, k_ext, k_len, k_app, k_mn, k_mx, k_nilck, k_build, k_bsl1, k_bsl2, b_add, b_sub, b_mul, b_eql, b_neq, b_lss, b_leq, b_gtr, b_geq, Dn.setLast, Dn.getLast, evalO, mapO, Dn.get, putE, keepE, TV.one, TV.isAgg, Dn.part]
  | k + 1, i, h => by
    have hi : i < n := by omega
    have e1 : ((i : Int) < (n : Int)) := by omega
    have e2 : wrapR .i64 ((i : Int) + 1) = .i .i64 ((i : Int) + 1) := wrapR_i64 (by omega)
    obtain ⟨r, a1, a2, _⟩ := tabI_cell (pg := pg) (R := den pg) ho (a := (i : Int)) (by omega) (by omega)
    simp only [Int.toNat_natCast] at a2
    have hs : ∀ p : Int, binI .shr (.i .i64 p) (.i .i64 (i : Int)) = some (.i .i64 (p / 2 ^ i)) := fun p => shr_eq (by omega)
    have hr : ∀ p : Int, 0 ≤ p → binI .rem (.i .i64 (p / 2 ^ i)) (.i .i64 2) = some (.i .i64 (bt p i)) := by
      intro p hp0
      have hnn : 0 ≤ p / 2 ^ i := Int.ediv_nonneg hp0 (Int.le_of_lt (Int.pow_pos (by decide)))
      rw [b_rem, if_neg (by decide), Int.tmod_eq_emod_of_nonneg hnn]; rfl
    have s1 := hs p
    have s2 := hs q
    have r1 := hr p hp
    have r2 := hr q hq
    have b1 := bt_range p i
    have b2 := bt_range q i
    have hmm : ∀ z : Int, 0 ≤ z → z ≤ 1 → 0 ≤ m * z ∧ m * z ≤ 1000000 := by
      intro z h0 h1
      rcases (by omega : z = 0 ∨ z = 1) with e | e <;> rw [e] <;> omega
    have m1 := hmm _ b1.1 b1.2
    have m2 := hmm _ b2.1 b2.2
    have w1 : wrapR .i64 (m * bt p i) = .i .i64 (m * bt p i) := wrapR_i64 (by omega)
    have w2 : wrapR .i64 (m * bt q i) = .i .i64 (m * bt q i) := wrapR_i64 (by omega)
    have w3 : wrapR .i64 (m * bt p i - m * bt q i) = .i .i64 (m * bt p i - m * bt q i) := wrapR_i64 (by omega)
    have hmul : m * (bt p i - bt q i) = m * bt p i - m * bt q i := Int.mul_sub ..
    by_cases hfi : f i = m * bt p i - m * bt q i
    · obtain ⟨x, e, h1, h2⟩ := l37_3_all (pg := pg) hn hm hp hq ho k (i + 1) (by omega)
      refine ⟨x, e, Eq.trans ?_ h1, ?_⟩
      · have hb : (f i != m * bt p i - m * bt q i) = false := by simp [hfi]
        rw [l37_3, den_loop]
        simp [l37_3, b37_2, go_nil, go_last, go_past, go_pastR, go_blkN, go_blkR, go_blkE, go_skip, go_exit, go_ret, go_scope, go_seq, go_reg, go_block, go_cond, cnd_b, go_opsN, go_ops, go_opsG, grd_b, grd_u, stp_some, fin_some, up_some, cont_some, k_call, k_mv, k_pick, k_bin, k_eqB, k_eqA, k_not, k_neg, k_conv, k_alloc, k_boxA, k_boxI, k_boxB, k_boxN, k_boxBs, k_ldR, k_ldA, k_ldI, k_ldB, k_stA, k_stI, k_stB, ldC_some, stC_some, k_mkfn, k_slc, k_slcA, k_ixA, k_ixBs, k_ixSl, k_fadr, k_fld, k_ext, k_len, k_app, k_mn, k_mx, k_nilck, k_build, k_bsl1, k_bsl2, b_add, b_sub, b_mul, b_eql, b_neq, b_lss, b_leq, b_gtr, b_geq, Dn.setLast, Dn.getLast, evalO, mapO, Dn.get, putE, keepE, TV.one, TV.isAgg, Dn.part, e1, e2, a1, a2, s1, s2, r1, r2, w1, w2, w3, hb]
      · rcases h2 with ⟨h2, h3⟩ | h2
        · refine .inl ⟨h2, fun h h4 h5 => ?_⟩
          by_cases he : h = i
          · subst he; rw [hmul]; exact hfi
          · exact h3 h (by omega) h5
        · exact .inr h2
    · refine ⟨.ret, [(12, .b false)], ?_, .inr ⟨rfl, rfl, i, hi, by rw [hmul]; exact hfi⟩⟩
      have hb : (f i != m * bt p i - m * bt q i) = true := by simp [hfi]
      rw [l37_3, den_loop]
      simp [l37_3, b37_2, go_nil, go_last, go_past, go_pastR, go_blkN, go_blkR, go_blkE, go_skip, go_exit, go_ret, go_scope, go_seq, go_reg, go_block, go_cond, cnd_b, go_opsN, go_ops, go_opsG, grd_b, grd_u, stp_some, fin_some, up_some, cont_some, k_call, k_mv, k_pick, k_bin, k_eqB, k_eqA, k_not, k_neg, k_conv, k_alloc, k_boxA, k_boxI, k_boxB, k_boxN, k_boxBs, k_ldR, k_ldA, k_ldI, k_ldB, k_stA, k_stI, k_stB, ldC_some, stC_some, k_mkfn, k_slc, k_slcA, k_ixA, k_ixBs, k_ixSl, k_fadr, k_fld, k_ext, k_len, k_app, k_mn, k_mx, k_nilck, k_build, k_bsl1, k_bsl2, b_add, b_sub, b_mul, b_eql, b_neq, b_lss, b_leq, b_gtr, b_geq, Dn.setLast, Dn.getLast, evalO, mapO, Dn.get, putE, keepE, TV.one, TV.isAgg, Dn.part, e1, e2, a1, a2, s1, s2, r1, r2, w1, w2, w3, hb]

theorem fn37 {pg : Pg} (hF : Free pg) {n : Nat} {l : List Line} (hc : chk (n : Int) l = 0) {p q m : Int} (hp : 0 ≤ p) (hq : 0 ≤ q) {J : List (Int × Int)} : Fn pg 37 [.i .i64 (n : Int), LT true l, .i .i64 p, .i .i64 q, .i .i64 m, PT true J] (.b (planB n l p q m J)) := by
  obtain ⟨hn1, hn2, hl, hf⟩ := chk_ok hc
  have hlJ := fun H => (PT_view true J H).lenK H
  have hlL := LT_len true l
  by_cases h1 : m < 1
  · have hb : planB n l p q m J = false := by simp [planB]; omega
    rw [hb]
    refine .of1 (x := .ret) (e := [(12, .b false)]) (H' := []) (hF.S _ _ (by decide)) (d := d37) (by rw [hF.F]; rfl) rfl ?_ (.inl rfl) rfl (by simp [sn_i, sn_b, sn_nil, sn8_i, sn8_b, sn8_nil, sn7_i, sn7_b, sn_sl, sn8_sl, slB_some, sn_tup, sn_agg, sn8_agg, mapO, elems])
    simp [d37, c37, zipE, go_nil, go_last, go_past, go_pastR, go_blkN, go_blkR, go_blkE, go_skip, go_exit, go_ret, go_scope, go_seq, go_reg, go_block, go_cond, cnd_b, go_opsN, go_ops, go_opsG, grd_b, grd_u, stp_some, fin_some, up_some, cont_some, k_call, k_mv, k_pick, k_bin, k_eqB, k_eqA, k_not, k_neg, k_conv, k_alloc, k_boxA, k_boxI, k_boxB, k_boxN, k_boxBs, k_ldR, k_ldA, k_ldI, k_ldB, k_stA, k_stI, k_stB, ldC_some, stC_some, k_mkfn, k_slc, k_slcA, k_ixA, k_ixBs, k_ixSl, k_fadr, k_fld, k_ext, k_len, k_app, k_mn, k_mx, k_nilck, k_build, k_bsl1, k_bsl2, b_add, b_sub, b_mul, b_eql, b_neq, b_lss, b_leq, b_gtr, b_geq, Dn.setLast, Dn.getLast, evalO, mapO, Dn.get, putE, keepE, TV.one, TV.isAgg, Dn.part, h1]
  by_cases h2 : 1000000 < m
  · have hb : planB n l p q m J = false := by simp [planB]; omega
    rw [hb]
    refine .of1 (x := .ret) (e := [(12, .b false)]) (H' := []) (hF.S _ _ (by decide)) (d := d37) (by rw [hF.F]; rfl) rfl ?_ (.inl rfl) rfl (by simp [sn_i, sn_b, sn_nil, sn8_i, sn8_b, sn8_nil, sn7_i, sn7_b, sn_sl, sn8_sl, slB_some, sn_tup, sn_agg, sn8_agg, mapO, elems])
    simp [d37, c37, zipE, go_nil, go_last, go_past, go_pastR, go_blkN, go_blkR, go_blkE, go_skip, go_exit, go_ret, go_scope, go_seq, go_reg, go_block, go_cond, cnd_b, go_opsN, go_ops, go_opsG, grd_b, grd_u, stp_some, fin_some, up_some, cont_some, k_call, k_mv, k_pick, k_bin, k_eqB, k_eqA, k_not, k_neg, k_conv, k_alloc, k_boxA, k_boxI, k_boxB, k_boxN, k_boxBs, k_ldR, k_ldA, k_ldI, k_ldB, k_stA, k_stI, k_stB, ldC_some, stC_some, k_mkfn, k_slc, k_slcA, k_ixA, k_ixBs, k_ixSl, k_fadr, k_fld, k_ext, k_len, k_app, k_mn, k_mx, k_nilck, k_build, k_bsl1, k_bsl2, b_add, b_sub, b_mul, b_eql, b_neq, b_lss, b_leq, b_gtr, b_geq, Dn.setLast, Dn.getLast, evalO, mapO, Dn.get, putE, keepE, TV.one, TV.isAgg, Dn.part, h1, h2]
  by_cases h3 : J.length = l.length
  · have h3' : ((J.length : Int) != (l.length : Int)) = false := by simp [h3]
    have hmk := k_mksl (pg := pg) (R := den pg) [.i .i64 0] false 8 .i64 .i64 n [] (by omega) (by omega)
    have ho := tab_mksl [] n
    simp only [List.length_nil, List.length_singleton, List.nil_append] at hmk ho
    obtain ⟨x, e, H', r1, r2⟩ := l37_1_all (pg := pg) (p := .i .i64 p) (q := .i .i64 q) (m := .i .i64 m) hl hf h3 l.length 0 _ (by omega) (by simp) ho
    simp only [Int.natCast_zero] at r1
    rcases r2 with ⟨rfl, g0, g2, g3, g4, g13, hall, o2⟩ | ⟨rfl, rfl, hall⟩
    · obtain ⟨x, e', s1, s2⟩ := l37_3_all (pg := pg) (by omega) (by omega) hp hq o2 (p := p) (q := q) (m := m) n 0 (by omega)
      simp only [Int.natCast_zero] at s1
      rcases s2 with ⟨rfl, s2⟩ | ⟨rfl, rfl, h, s2, s3⟩
      · have hb : planB n l p q m J = true := by
          simp only [planB, Bool.and_eq_true, decide_eq_true_eq, List.all_eq_true (p := fun h => decide _), List.mem_range]
          exact ⟨by omega, by omega, h3, hall, fun h hh => s2 h (Nat.zero_le _) hh⟩
        rw [hb]
        refine .of1 (x := .ret) (e := [(12, .b true)]) (H' := H') (hF.S _ _ (by decide)) (d := d37) (by rw [hF.F]; rfl) rfl ?_ (.inl rfl) rfl (by simp [sn_i, sn_b, sn_nil, sn8_i, sn8_b, sn8_nil, sn7_i, sn7_b, sn_sl, sn8_sl, slB_some, sn_tup, sn_agg, sn8_agg, mapO, elems])
        simp [d37, c37, zipE, go_nil, go_last, go_past, go_pastR, go_blkN, go_blkR, go_blkE, go_skip, go_exit, go_ret, go_scope, go_seq, go_reg, go_block, go_cond, cnd_b, go_opsN, go_ops, go_opsG, grd_b, grd_u, stp_some, fin_some, up_some, cont_some, k_call, k_mv, k_pick, k_bin, k_eqB, k_eqA, k_not, k_neg, k_conv, k_alloc, k_boxA, k_boxI, k_boxB, k_boxN, k_boxBs, k_ldR, k_ldA, k_ldI, k_ldB, k_stA, k_stI, k_stB, ldC_some, stC_some, k_mkfn, k_slc, k_slcA, k_ixA, k_ixBs, k_ixSl, k_fadr, k_fld, k_ext, k_len, k_app, k_mn, k_mx, k_nilck, k_build, k_bsl1, k_bsl2, b_add, b_sub, b_mul, b_eql, b_neq, b_lss, b_leq, b_gtr, b_geq, Dn.setLast, Dn.getLast, evalO, mapO, Dn.get, putE, keepE, TV.one, TV.isAgg, Dn.part, h1, h2, h3', hlJ, hlL, hmk, go_denK (c := l37_1) rfl, r1, g0, g2, g3, g4, g13, go_denK (c := l37_3) rfl, s1]
      · have hb : planB n l p q m J = false := by
          rw [Bool.eq_false_iff]
          intro hh
          simp only [planB, Bool.and_eq_true, decide_eq_true_eq, List.all_eq_true (p := fun h => decide _), List.mem_range] at hh
          exact s3 (hh.2.2.2.2 h s2)
        rw [hb]
        refine .of1 (x := .ret) (e := [(12, .b false)]) (H' := H') (hF.S _ _ (by decide)) (d := d37) (by rw [hF.F]; rfl) rfl ?_ (.inl rfl) rfl (by simp [sn_i, sn_b, sn_nil, sn8_i, sn8_b, sn8_nil, sn7_i, sn7_b, sn_sl, sn8_sl, slB_some, sn_tup, sn_agg, sn8_agg, mapO, elems])
        simp [d37, c37, zipE, go_nil, go_last, go_past, go_pastR, go_blkN, go_blkR, go_blkE, go_skip, go_exit, go_ret, go_scope, go_seq, go_reg, go_block, go_cond, cnd_b, go_opsN, go_ops, go_opsG, grd_b, grd_u, stp_some, fin_some, up_some, cont_some, k_call, k_mv, k_pick, k_bin, k_eqB, k_eqA, k_not, k_neg, k_conv, k_alloc, k_boxA, k_boxI, k_boxB, k_boxN, k_boxBs, k_ldR, k_ldA, k_ldI, k_ldB, k_stA, k_stI, k_stB, ldC_some, stC_some, k_mkfn, k_slc, k_slcA, k_ixA, k_ixBs, k_ixSl, k_fadr, k_fld, k_ext, k_len, k_app, k_mn, k_mx, k_nilck, k_build, k_bsl1, k_bsl2, b_add, b_sub, b_mul, b_eql, b_neq, b_lss, b_leq, b_gtr, b_geq, Dn.setLast, Dn.getLast, evalO, mapO, Dn.get, putE, keepE, TV.one, TV.isAgg, Dn.part, h1, h2, h3', hlJ, hlL, hmk, go_denK (c := l37_1) rfl, r1, g0, g2, g3, g4, g13, go_denK (c := l37_3) rfl, s1]
    · have hb : planB n l p q m J = false := by
        simp only [planB, hall, Bool.false_and, Bool.and_false]
      rw [hb]
      refine .of1 (x := .ret) (e := [(12, .b false)]) (H' := H') (hF.S _ _ (by decide)) (d := d37) (by rw [hF.F]; rfl) rfl ?_ (.inl rfl) rfl (by simp [sn_i, sn_b, sn_nil, sn8_i, sn8_b, sn8_nil, sn7_i, sn7_b, sn_sl, sn8_sl, slB_some, sn_tup, sn_agg, sn8_agg, mapO, elems])
      simp [d37, c37, zipE, go_nil, go_last, go_past, go_pastR, go_blkN, go_blkR, go_blkE, go_skip, go_exit, go_ret, go_scope, go_seq, go_reg, go_block, go_cond, cnd_b, go_opsN, go_ops, go_opsG, grd_b, grd_u, stp_some, fin_some, up_some, cont_some, k_call, k_mv, k_pick, k_bin, k_eqB, k_eqA, k_not, k_neg, k_conv, k_alloc, k_boxA, k_boxI, k_boxB, k_boxN, k_boxBs, k_ldR, k_ldA, k_ldI, k_ldB, k_stA, k_stI, k_stB, ldC_some, stC_some, k_mkfn, k_slc, k_slcA, k_ixA, k_ixBs, k_ixSl, k_fadr, k_fld, k_ext, k_len, k_app, k_mn, k_mx, k_nilck, k_build, k_bsl1, k_bsl2, b_add, b_sub, b_mul, b_eql, b_neq, b_lss, b_leq, b_gtr, b_geq, Dn.setLast, Dn.getLast, evalO, mapO, Dn.get, putE, keepE, TV.one, TV.isAgg, Dn.part, h1, h2, h3', hlJ, hlL, hmk, go_denK (c := l37_1) rfl, r1]
  · have h3' : ((J.length : Int) != (l.length : Int)) = true := by simp; omega
    have hb : planB n l p q m J = false := by simp [planB, h3]
    rw [hb]
    refine .of1 (x := .ret) (e := [(12, .b false)]) (H' := []) (hF.S _ _ (by decide)) (d := d37) (by rw [hF.F]; rfl) rfl ?_ (.inl rfl) rfl (by simp [sn_i, sn_b, sn_nil, sn8_i, sn8_b, sn8_nil, sn7_i, sn7_b, sn_sl, sn8_sl, slB_some, sn_tup, sn_agg, sn8_agg, mapO, elems])
    simp [d37, c37, zipE, go_nil, go_last, go_past, go_pastR, go_blkN, go_blkR, go_blkE, go_skip, go_exit, go_ret, go_scope, go_seq, go_reg, go_block, go_cond, cnd_b, go_opsN, go_ops, go_opsG, grd_b, grd_u, stp_some, fin_some, up_some, cont_some, k_call, k_mv, k_pick, k_bin, k_eqB, k_eqA, k_not, k_neg, k_conv, k_alloc, k_boxA, k_boxI, k_boxB, k_boxN, k_boxBs, k_ldR, k_ldA, k_ldI, k_ldB, k_stA, k_stI, k_stB, ldC_some, stC_some, k_mkfn, k_slc, k_slcA, k_ixA, k_ixBs, k_ixSl, k_fadr, k_fld, k_ext, k_len, k_app, k_mn, k_mx, k_nilck, k_build, k_bsl1, k_bsl2, b_add, b_sub, b_mul, b_eql, b_neq, b_lss, b_leq, b_gtr, b_geq, Dn.setLast, Dn.getLast, evalO, mapO, Dn.get, putE, keepE, TV.one, TV.isAgg, Dn.part, h1, h2, h3', hlJ, hlL]

end Go.Proofs.Try.Dn

/-
  Plans: IsPlan.
-/

namespace Go.Proofs.Try.Dn
open Go.Dn

def baseP (p q m : Int) (h : Nat) : Int := m * (bt p h - bt q h)

theorem k_stS {pg : Pg} {R : Rec} (id : Nat) (v : TV) (c : List TV) (ag : Bool) (H : Heap) (h : H[id]? = some (.cells c ag)) (h1 : v.isAgg = false) (h2 : v.one = true) (h3 : c.length = 1) :
    dkc pg R (.st 1) [.ref id 0, v] H = some (.undef, H.set id (.cells [v] ag)) := by
  have hv : v.cells = [v] := by cases v <;> simp_all [TV.cells, TV.isAgg]
  rw [El.k_st 1 id 0 v c ag H h (by rw [hv]; rfl) (by rw [hv]; simp [h2]) (by omega), hv]
  congr 3
  match c, h3 with
  | [a], _ => rfl

theorem l36_1_all {pg : Pg} {n : Nat} (hn : n ≤ 16) {L : TV} {p q m : Int} {T : TV} (hm : 1 ≤ m ∧ m ≤ 1000000) (hp : 0 ≤ p ∧ p < 65536) (hq : 0 ≤ q ∧ q < 65536) (hT : T.idOf = some 3) (hTa : T.isAgg = false) : ∀ (k i : Nat) (H : Heap), i + k = n → H[4]? = some (.cells [T] false) → elI.Arr H T (tabI n (fun h => if h < i then baseP p q m h else 0)) →
    ∃ e H', den pg l36_1 [(1, L), (2, .i .i64 p), (3, .i .i64 q), (4, .i .i64 m), (11, .ref 0 0), (12, .ref 1 0), (13, .ref 4 0), (43, .i .i64 (n : Int)), (44, .i .i64 (i : Int))] H = some ⟨.exit 0, e, H'⟩ ∧
      get e 1 = some L ∧ get e 11 = some (.ref 0 0) ∧ get e 12 = some (.ref 1 0) ∧ get e 13 = some (.ref 4 0) ∧ elI.Arr H' T (tabI n (baseP p q m)) ∧ H'.length = H.length ∧ ∀ j, j ≠ 3 → H'[j]? = H[j]?
  | 0, i, H, h, hb, ho => by
    obtain rfl : i = n := by omega
    refine ⟨[(1, L), (2, .i .i64 p), (3, .i .i64 q), (4, .i .i64 m), (11, .ref 0 0), (12, .ref 1 0), (13, .ref 4 0), (43, .i .i64 (i : Int)), (44, .i .i64 (i : Int)), (45, .b false)], H, ?_, rfl, rfl, rfl, rfl, ?_, rfl, fun _ _ => rfl⟩
    · rw [l36_1, den_loop]
      simp [b36_0, go_nil, go_last, go_past, go_pastR, go_blkN, go_blkR, go_blkE, go_skip, go_exit, go_ret, go_scope, go_seq, go_reg, go_block, go_cond, cnd_b, go_opsN, go_ops, go_opsG, grd_b, grd_u, stp_some, fin_some, up_some, cont_some, k_call, k_mv, k_pick, k_bin, k_eqB, k_eqA, k_not, k_neg, k_conv, k_alloc, k_boxA, k_boxI, k_boxB, k_boxN, k_boxBs, k_ldR, k_ldA, k_ldI, k_ldB, k_stA, k_stI, k_stB, ldC_some, stC_some, k_mkfn, k_slc, k_slcA, k_ixA, k_ixBs, k_ixSl, k_fadr, k_fld, k_ext, k_len, k_app, k_mn, k_mx, k_nilck, k_build, k_bsl1, k_bsl2, b_add, b_sub, b_mul, b_eql, b_neq, b_lss, b_leq, b_gtr, b_geq, Dn.setLast, Dn.getLast, evalO, mapO, Dn.get, putE, keepE, TV.one, TV.isAgg, Dn.part]
    · have := tabI_congr (n := i) (f := fun h => if h < i then baseP p q m h else 0) (g := baseP p q m) (fun h hh => by simp [hh])
      rwa [this] at ho
  | k + 1, i, H, h, hb, ho => by
    have hi : i < n := by omega
    have e1 : ((i : Int) < (n : Int)) := by omega
    have e2 : wrapR .i64 ((i : Int) + 1) = .i .i64 ((i : Int) + 1) := wrapR_i64 (by omega)
    have eu : wrapR .u64 (i : Int) = .i .u64 (i : Int) := by unfold wrapR; simp [IntKind.wrap, IntKind.signed, IntKind.bits]; omega
    have r1 := bt_range p i
    have r2 := bt_range q i
    have bd := bt_diff (p := p) (q := q) (h := i) hm.1 hm.2
    have e3 : wrapR .i64 (bt p i - bt q i) = .i .i64 (bt p i - bt q i) := wrapR_i64 (by omega)
    have e4 : wrapR .i64 (m * (bt p i - bt q i)) = .i .i64 (baseP p q m i) := wrapR_i64 (by omega)
    have hs1 := shr_eq (p := p) (i := i) (k := .u64) (by omega)
    have hs2 := shr_eq (p := q) (i := i) (k := .u64) (by omega)
    have hpow : (0 : Int) < 2 ^ i := Int.pow_pos (by decide)
    have n1 : 0 ≤ p / 2 ^ i := Int.ediv_nonneg hp.1 (Int.le_of_lt hpow)
    have n2 : 0 ≤ q / 2 ^ i := Int.ediv_nonneg hq.1 (Int.le_of_lt hpow)
    have m1 : p / 2 ^ i ≤ p := Int.ediv_le_self _ hp.1
    have m2 : q / 2 ^ i ≤ q := Int.ediv_le_self _ hq.1
    have ha1 : binI .and (.i .i64 (p / 2 ^ i)) (.i .i64 1) = some (.i .i64 (bt p i)) := and1_eq n1 (by omega)
    have ha2 : binI .and (.i .i64 (q / 2 ^ i)) (.i .i64 1) = some (.i .i64 (bt q i)) := and1_eq n2 (by omega)
    have hbox := ld_box (pg := pg) (R := den pg) hb hTa
    obtain ⟨r, a1, a2, a3⟩ := tabI_cell (pg := pg) (R := den pg) ho (a := (i : Int)) (by omega) (by omega)
    obtain ⟨H1, a4, o1, l1, k1⟩ := a3 (baseP p q m i)
    obtain ⟨e, H', h1, g1, g2, g3, g4, g5, g6, g7⟩ := l36_1_all (pg := pg) (L := L) hn hm hp hq hT hTa k (i + 1) H1 (by omega) (by rw [k1 4 (by rw [hT]; simp)]; exact hb) (by
      refine (tabI_congr fun h hh => ?_) ▸ o1
      by_cases he : h = i
      · subst he; rw [if_pos rfl, if_pos (by omega)]
      · rw [if_neg (by omega)]
        by_cases hlt : h < i
        · rw [if_pos hlt, if_pos (by omega)]
        · rw [if_neg hlt, if_neg (by omega)])
    refine ⟨e, H', Eq.trans ?_ h1, g1, g2, g3, g4, g5, by omega, fun j hj => by rw [g7 j hj, k1 j (by rw [hT]; simp; omega)]⟩
    rw [l36_1, den_loop]
    simp [l36_1, b36_0, go_nil, go_last, go_past, go_pastR, go_blkN, go_blkR, go_blkE, go_skip, go_exit, go_ret, go_scope, go_seq, go_reg, go_block, go_cond, cnd_b, go_opsN, go_ops, go_opsG, grd_b, grd_u, stp_some, fin_some, up_some, cont_some, k_call, k_mv, k_pick, k_bin, k_eqB, k_eqA, k_not, k_neg, k_conv, k_alloc, k_boxA, k_boxI, k_boxB, k_boxN, k_boxBs, k_ldR, k_ldA, k_ldI, k_ldB, k_stA, k_stI, k_stB, ldC_some, stC_some, k_mkfn, k_slc, k_slcA, k_ixA, k_ixBs, k_ixSl, k_fadr, k_fld, k_ext, k_len, k_app, k_mn, k_mx, k_nilck, k_build, k_bsl1, k_bsl2, b_add, b_sub, b_mul, b_eql, b_neq, b_lss, b_leq, b_gtr, b_geq, Dn.setLast, Dn.getLast, evalO, mapO, Dn.get, putE, keepE, TV.one, TV.isAgg, Dn.part, e1, e2, eu, hs1, hs2, ha1, ha2, e3, e4, hbox, a1, a4]

theorem half_eq {k : Nat} (hk : k ≤ 1000000) : binI .quo (.i .i64 (k : Int)) (.i .i64 2) = some (.i .i64 ((k / 2 : Nat) : Int)) ∧ binI .rem (.i .i64 (k : Int)) (.i .i64 2) = some (.i .i64 ((k % 2 : Nat) : Int)) := by
  constructor
  · have : wrapR .i64 ((k : Int) / 2) = .i .i64 ((k : Int) / 2) := wrapR_i64 (by omega)
    simp [binI, this]
  · rw [b_rem, if_neg (by decide), show Int.tmod (k : Int) 2 = ((k % 2 : Nat) : Int) from (Int.ofNat_tmod k 2).symm]

theorem b36_ok {pg : Pg} {n : Nat} {J : List (Int × Int)} {JT : TV} (hJV : ∀ H, elP.View H JT J) (hJa : JT.isAgg = false) {HB : Heap} {mm k : Nat} {j : Line} {T : TV} {f : Nat → Int} (hT : T.idOf = some 3) (hTa : T.isAgg = false) (hf : FitsJ n j) (hk : k < 2 * J.length) (hk2 : k ≤ 80) (hr : ∀ h, -200000000 ≤ f h ∧ f h ≤ 200000000)
    (h0 : HB[0]? = some (.cells [JT] false)) (h4 : HB[4]? = some (.cells [T] false)) (ho : elI.Arr HB T (tabI n f)) (hm3 : mm ≠ 3) (hm : HB[mm]? = some (cl j)) :
    (0 ≤ cntAt J k ∧ cntAt J k ≤ 1000000 → ∃ e2 H3, den pg b36_3 [(11, .ref 0 0), (12, .ref 1 0), (13, .ref 4 0), (15, .i .i64 (k : Int)), (16, .ref mm 0)] HB = some ⟨.normal, e2, H3⟩ ∧ elI.Arr H3 T (tabI n (fun h => f h - effJ (cntAt J k) j h)) ∧ H3.length = HB.length ∧ ∀ i, i ≠ 3 → H3[i]? = HB[i]?) ∧
    (¬ (0 ≤ cntAt J k ∧ cntAt J k ≤ 1000000) → ∀ v, HB[1]? = some (.cells [v] false) → ∃ e2, den pg b36_3 [(11, .ref 0 0), (12, .ref 1 0), (13, .ref 4 0), (15, .i .i64 (k : Int)), (16, .ref mm 0)] HB = some ⟨.ret, e2, HB.set 1 (.cells [.b false] false)⟩) := by
  obtain ⟨f1, f2, f3, f4, f5, f6, f7, f8, f9⟩ := hf
  have hbox0 := ld_box (pg := pg) (R := den pg) h0 hJa
  obtain ⟨hq, hrm⟩ := half_eq (k := k) (by omega)
  have hkJ : k / 2 < J.length := by omega
  have hj : J[k / 2]? = some J[k / 2] := List.getElem?_eq_getElem hkJ
  obtain ⟨s, hs, hats, _⟩ := ixP (pg := pg) (R := den pg) (hJV HB) hj
  obtain ⟨s0, hs0, ht0⟩ : ∃ s0, dkc pg (den pg) (.ixA 2 1 false) [s, .i .i64 ((k % 2 : Nat) : Int)] HB = some (s0, HB) ∧ dkc pg (den pg) (.ld 1 false) [s0] HB = some (.i .i64 (cntAt J k), HB) := by
    refine cellP hats ?_
    unfold cntAt
    rw [List.getD_eq_getElem?_getD, hj]
    rcases (by omega : k % 2 = 0 ∨ k % 2 = 1) with e | e <;> rw [e] <;> rfl
  generalize ((k % 2 : Nat) : Int) = kr at hrm hs0
  generalize ((k / 2 : Nat) : Int) = kq at hq hs
  generalize cntAt J k = c at *
  have hm0 : ∀ H : Heap, H[mm]? = some (cl j) → dkc pg (den pg) (.ld 1 false) [.ref mm 0] H = some (.i .i64 j.1, H) := fun H h => by rw [k_ldR, h]; rfl
  have hm1 : ∀ H : Heap, H[mm]? = some (cl j) → dkc pg (den pg) (.ld 1 false) [.ref mm 1] H = some (.i .i64 j.2.1, H) := fun H h => by rw [k_ldR, h]; rfl
  have hm2 : ∀ H : Heap, H[mm]? = some (cl j) → dkc pg (den pg) (.ld 1 false) [.ref mm 2] H = some (.i .i64 j.2.2, H) := fun H h => by rw [k_ldR, h]; rfl
  constructor
  · intro ⟨c0, c1⟩
    have n1 : ¬ c < 0 := by omega
    have n2 : ¬ 1000000 < c := by omega
    have r1 := hr j.1.toNat
    have r2 := hr j.2.1.toNat
    have r3 := hr j.2.2.toNat
    have w1 : wrapR .i64 (f j.1.toNat - c) = .i .i64 (f j.1.toNat - c) := wrapR_i64 (by omega)
    have w2 : wrapR .i64 (f j.2.1.toNat - c) = .i .i64 (f j.2.1.toNat - c) := wrapR_i64 (by omega)
    have w3 : wrapR .i64 (f j.2.2.toNat + c) = .i .i64 (f j.2.2.toNat + c) := wrapR_i64 (by omega)
    have hne : ∀ i, i ≠ 3 → T.idOf ≠ some i := fun i hi => by rw [hT]; simp; omega
    obtain ⟨p1, a1, a2, a3⟩ := tabI_cell (pg := pg) (R := den pg) ho f1 (by omega)
    obtain ⟨H1, a4, o1, l1, k1⟩ := a3 (f j.1.toNat - c)
    change elI.Arr H1 T (tabI n (upd f j.1 _)) at o1
    obtain ⟨p2, b1, b2, b3⟩ := tabI_cell (pg := pg) (R := den pg) o1 f3 (by omega)
    rw [upd_ne f3 (by omega)] at b2
    obtain ⟨H2, b4, o2, l2, k2⟩ := b3 (f j.2.1.toNat - c)
    change elI.Arr H2 T (tabI n (upd (upd f j.1 _) j.2.1 _)) at o2
    obtain ⟨p3, d1, d2, d3⟩ := tabI_cell (pg := pg) (R := den pg) o2 f5 (by omega)
    rw [upd_ne f5 (by omega), upd_ne f5 (by omega)] at d2
    obtain ⟨H3, d4, o3, l3, k3⟩ := d3 (f j.2.2.toNat + c)
    have hm' : H1[mm]? = some (cl j) := by rw [k1 mm (hne mm hm3)]; exact hm
    have hm'' : H2[mm]? = some (cl j) := by rw [k2 mm (hne mm hm3)]; exact hm'
    have h4' : H1[4]? = some (.cells [T] false) := by rw [k1 4 (hne 4 (by omega))]; exact h4
    have h4'' : H2[4]? = some (.cells [T] false) := by rw [k2 4 (hne 4 (by omega))]; exact h4'
    have bx := ld_box (pg := pg) (R := den pg) h4 hTa
    have bx1 := ld_box (pg := pg) (R := den pg) h4' hTa
    have bx2 := ld_box (pg := pg) (R := den pg) h4'' hTa
    refine ⟨[], H3, ?_, ?_, by omega, fun i hi => by rw [k3 i (hne i hi), k2 i (hne i hi), k1 i (hne i hi)]⟩
    · rw [den_eq, runC_go]
      simp [b36_3, go_nil, go_last, go_past, go_pastR, go_blkN, go_blkR, go_blkE, go_skip, go_exit, go_ret, go_scope, go_seq, go_reg, go_block, go_cond, cnd_b, go_opsN, go_ops, go_opsG, grd_b, grd_u, stp_some, fin_some, up_some, cont_some, k_call, k_mv, k_pick, k_bin, k_eqB, k_eqA, k_not, k_neg, k_conv, k_alloc, k_boxA, k_boxI, k_boxB, k_boxN, k_boxBs, k_ldR, k_ldA, k_ldI, k_ldB, k_stA, k_stI, k_stB, ldC_some, stC_some, k_mkfn, k_slc, k_slcA, k_ixA, k_ixBs, k_ixSl, k_fadr, k_fld, k_ext, k_len, k_app, k_mn, k_mx, k_nilck, k_build, k_bsl1, k_bsl2, b_add, b_sub, b_mul, b_eql, b_neq, b_lss, b_leq, b_gtr, b_geq, Dn.setLast, Dn.getLast, evalO, mapO, Dn.get, putE, keepE, TV.one, TV.isAgg, Dn.part, hbox0, hq, hrm, hs, hs0, ht0, n1, n2, bx, bx1, bx2, hm0 HB hm, hm1 H1 hm', hm2 H2 hm'', a1, a2, a4, b1, b2, b4, d1, d2, d4, w1, w2, w3]
    · refine (tabI_congr (fun h hh => ?_)) ▸ o3
      simp only [upd, effJ]
      by_cases ha : (h : Int) = j.1
      · have hb : ¬ (h : Int) = j.2.1 := by omega
        have hcc : ¬ (h : Int) = j.2.2 := by omega
        have : j.1.toNat = h := by omega
        rw [this]
        simp only [if_pos ha, if_neg hb, if_neg hcc]
        omega
      · by_cases hb : (h : Int) = j.2.1
        · have hcc : ¬ (h : Int) = j.2.2 := by omega
          have : j.2.1.toNat = h := by omega
          rw [this]
          simp only [if_neg ha, if_pos hb, if_neg hcc]
          omega
        · by_cases hcc : (h : Int) = j.2.2
          · have : j.2.2.toNat = h := by omega
            rw [this]
            simp only [if_neg ha, if_neg hb, if_pos hcc]
            omega
          · simp only [if_neg ha, if_neg hb, if_neg hcc]
            omega
  · intro hc v hv
    by_cases n1 : c < 0
    · refine ⟨[], ?_⟩
      rw [den_eq, runC_go]
      simp [b36_3, go_nil, go_last, go_past, go_pastR, go_blkN, go_blkR, go_blkE, go_skip, go_exit, go_ret, go_scope, go_seq, go_reg, go_block, go_cond, cnd_b, go_opsN, go_ops, go_opsG, grd_b, grd_u, stp_some, fin_some, up_some, cont_some, k_call, k_mv, k_pick, k_bin, k_eqB, k_eqA, k_not, k_neg, k_conv, k_alloc, k_boxA, k_boxI, k_boxB, k_boxN, k_boxBs, k_ldR, k_ldA, k_ldI, k_ldB, k_stA, k_stI, k_stB, ldC_some, stC_some, k_mkfn, k_slc, k_slcA, k_ixA, k_ixBs, k_ixSl, k_fadr, k_fld, k_ext, k_len, k_app, k_mn, k_mx, k_nilck, k_build, k_bsl1, k_bsl2, b_add, b_sub, b_mul, b_eql, b_neq, b_lss, b_leq, b_gtr, b_geq, Dn.setLast, Dn.getLast, evalO, mapO, Dn.get, putE, keepE, TV.one, TV.isAgg, Dn.part, hbox0, hq, hrm, hs, hs0, ht0, n1, hv, put2]
    · have n2 : 1000000 < c := by omega
      refine ⟨[], ?_⟩
      rw [den_eq, runC_go]
      simp [b36_3, go_nil, go_last, go_past, go_pastR, go_blkN, go_blkR, go_blkE, go_skip, go_exit, go_ret, go_scope, go_seq, go_reg, go_block, go_cond, cnd_b, go_opsN, go_ops, go_opsG, grd_b, grd_u, stp_some, fin_some, up_some, cont_some, k_call, k_mv, k_pick, k_bin, k_eqB, k_eqA, k_not, k_neg, k_conv, k_alloc, k_boxA, k_boxI, k_boxB, k_boxN, k_boxBs, k_ldR, k_ldA, k_ldI, k_ldB, k_stA, k_stI, k_stB, ldC_some, stC_some, k_mkfn, k_slc, k_slcA, k_ixA, k_ixBs, k_ixSl, k_fadr, k_fld, k_ext, k_len, k_app, k_mn, k_mx, k_nilck, k_build, k_bsl1, k_bsl2, b_add, b_sub, b_mul, b_eql, b_neq, b_lss, b_leq, b_gtr, b_geq, Dn.setLast, Dn.getLast, evalO, mapO, Dn.get, putE, keepE, TV.one, TV.isAgg, Dn.part, hbox0, hq, hrm, hs, hs0, ht0, n1, n2, hv, put2]

/-- the loop of IsPlan, as an object -/
def L36 : ALoop := { env := [(11, .ref 0 0), (12, .ref 1 0), (13, .ref 4 0)], params := [66, 67], assign := a36_2, body := b36_3, st := .ready, pend := none }

theorem over36 {pg : Pg} {n : Nat} {l : List Line} {J : List (Int × Int)} {JT : TV} (hJV : ∀ H, elP.View H JT J) (hJa : JT.isAgg = false) {T : TV} {p q m : Int} (hm : 1 ≤ m ∧ m ≤ 1000000) (hT : T.idOf = some 3) (hTa : T.isAgg = false) (hf : ∀ x ∈ l, Fits n x) (hl : l.length ≤ 40) (hJ : J.length = l.length) :
    Over pg 6 L36 l (fun k H => H[0]? = some (.cells [JT] false) ∧ (∃ v, H[1]? = some (.cells [v] false)) ∧ H[4]? = some (.cells [T] false) ∧ elI.Arr H T (tabI n (fun h => baseP p q m h - lossS l J k h)) ∧ H[6]? = some (.loop L36) ∧ ∀ i, i < k → 0 ≤ cntAt J i ∧ cntAt J i ≤ 1000000)
      (fun k x H => x = .ret ∧ H[1]? = some (.cells [.b false] false) ∧ k < 2 * l.length ∧ ¬ (0 ≤ cntAt J k ∧ cntAt J k ≤ 1000000)) where
  ready := rfl
  pend := rfl
  two := rfl
  step := by
    intro k j H X hj ⟨h0, ⟨v, h1⟩, h4, ho, h6, hall⟩ hL
    have hk : k < 2 * l.length := by have := (List.getElem?_eq_some_iff.1 hj).1; rwa [js_len] at this
    have hfit := js_fits hf j (List.mem_of_getElem? hj)
    have hlt := (List.getElem?_eq_some_iff.1 h6).1
    have hassign : den pg a36_2 [(67, lineTV j), (66, .i .i64 (k : Int)), (11, .ref 0 0), (12, .ref 1 0), (13, .ref 4 0)] (H ++ X) = some ⟨.normal, [(11, .ref 0 0), (12, .ref 1 0), (13, .ref 4 0), (15, .i .i64 (k : Int)), (16, .ref (H ++ X).length 0)], H ++ X ++ [cl j]⟩ := by
      rw [den_eq, runC_go]
      generalize H ++ X = HX
      simp [a36_2, go_nil, go_last, go_past, go_pastR, go_blkN, go_blkR, go_blkE, go_skip, go_exit, go_ret, go_scope, go_seq, go_reg, go_block, go_cond, cnd_b, go_opsN, go_ops, go_opsG, grd_b, grd_u, stp_some, fin_some, up_some, cont_some, k_call, k_mv, k_pick, k_bin, k_eqB, k_eqA, k_not, k_neg, k_conv, k_alloc, k_boxA, k_boxI, k_boxB, k_boxN, k_boxBs, k_ldR, k_ldA, k_ldI, k_ldB, k_stA, k_stI, k_stB, ldC_some, stC_some, k_mkfn, k_slc, k_slcA, k_ixA, k_ixBs, k_ixSl, k_fadr, k_fld, k_ext, k_len, k_app, k_mn, k_mx, k_nilck, k_build, k_bsl1, k_bsl2, b_add, b_sub, b_mul, b_eql, b_neq, b_lss, b_leq, b_gtr, b_geq, Dn.setLast, Dn.getLast, evalO, mapO, Dn.get, putE, keepE, TV.one, TV.isAgg, Dn.part, lineTV, put2, cl]
    have hpre : ∀ (i : Nat) (o : AObj), H[i]? = some o → (H ++ X ++ [cl j])[i]? = some o := by
      intro i o h
      have := (List.getElem?_eq_some_iff.1 h).1
      rw [List.append_assoc, List.getElem?_append_left this, h]
    have hset : ∀ (i : Nat) (o : AObj), i ≠ 6 → (H ++ X ++ [cl j])[i]? = some o → ((H ++ X ++ [cl j]).set 6 (.loop { L36 with st := .busy }))[i]? = some o := by
      intro i o hi h
      rw [List.getElem?_set_ne (by omega), h]
    have h6' : (H ++ X ++ [cl j])[6]? = some (.loop L36) := hpre _ _ h6
    have hlen : 6 < (H ++ X ++ [cl j]).length := (List.getElem?_eq_some_iff.1 h6').1
    have hX : ∀ i y, X[i]? = some y → (H ++ X ++ [cl j])[H.length + i]? = some y := by
      intro i y hy
      have := (List.getElem?_eq_some_iff.1 hy).1
      rw [List.append_assoc, List.getElem?_append_right (by omega), Nat.add_sub_cancel_left, List.getElem?_append_left this, hy]
    have hor : elI.Arr ((H ++ X ++ [cl j]).set 6 (.loop { L36 with st := .busy })) T (tabI n (fun h => baseP p q m h - lossS l J k h)) := by
      refine ho.mono fun id hid => ?_
      have h3 := ho.lt id hid
      rw [hT] at hid
      cases hid
      rw [List.getElem?_set_ne (by omega), List.append_assoc, List.getElem?_append_left h3]
    have hB := b36_ok (pg := pg) (HB := (H ++ X ++ [cl j]).set 6 (.loop { L36 with st := .busy })) (mm := (H ++ X).length) (k := k) hJV hJa hT hTa hfit (by omega) (by omega)
      (fun h => by have a := bt_diff (p := p) (q := q) (h := h) hm.1 hm.2; have b := loss_range (l := l) hall h; unfold baseP; omega)
      (hset _ _ (by omega) (hpre _ _ h0)) (hset _ _ (by omega) (hpre _ _ h4)) hor (by simp; omega) (hset _ _ (by simp; omega) (getLast _ _))
    by_cases hc : 0 ≤ cntAt J k ∧ cntAt J k ≤ 1000000
    · obtain ⟨e2, H3, r1, o3, l3, k3⟩ := hB.1 hc
      rw [List.length_set] at l3
      have hback : ∀ i, i ≠ 3 → (H3.set 6 (.loop L36))[i]? = (H ++ X ++ [cl j])[i]? := by
        intro i hi
        by_cases h : i = 6
        · subst h; rw [List.getElem?_set_self (by omega), h6']
        · rw [List.getElem?_set_ne (by omega), k3 i hi, List.getElem?_set_ne (by omega)]
      refine ⟨.normal, H3.set 6 (.loop L36), ⟨_, _, e2, _, hassign, h6', r1, ?_, rfl⟩, ?_, .inl ⟨rfl, ?_, ⟨v, ?_⟩, ?_, ?_, ?_, ?_⟩⟩
      · rw [k3 6 (by omega), List.getElem?_set_self hlen]
      · intro i y hy
        rw [hback _ (by omega)]
        exact hX i y hy
      · rw [hback _ (by omega)]; exact hpre _ _ h0
      · rw [hback _ (by omega)]; exact hpre _ _ h1
      · rw [hback _ (by omega)]; exact hpre _ _ h4
      · have o4 : elI.Arr (H3.set 6 (.loop L36)) T _ := o3.mono fun id hid => by
          rw [hT] at hid
          cases hid
          rw [List.getElem?_set_ne (by omega)]
        refine (tabI_congr fun h hh => ?_) ▸ o4
        show _ = baseP p q m h - (lossS l J k h + effJ (cntAt J k) (jAt l k) h)
        rw [jAt_some hj]
        omega
      · rw [hback _ (by omega)]; exact h6'
      · intro i hi
        by_cases h : i = k
        · subst h; exact hc
        · exact hall i (by omega)
    · obtain ⟨e2, r1⟩ := hB.2 hc v (hset _ _ (by omega) (hpre _ _ h1))
      refine ⟨.ret, _, ⟨_, _, e2, _, hassign, h6', r1, ?_, rfl⟩, ?_, .inr ⟨by simp, rfl, ?_, hk, hc⟩⟩
      · rw [List.getElem?_set_ne (by omega), List.getElem?_set_self hlen]
      · intro i y hy
        rw [List.getElem?_set_ne (by omega), List.getElem?_set_ne (by omega), List.getElem?_set_ne (by omega)]
        exact hX i y hy
      · have h1 : 1 < (H ++ X ++ [cl j]).length := by omega
        rw [List.getElem?_set_ne (by omega), List.getElem?_set_self (by simpa using h1)]

theorem body63 {pg : Pg} (hF : Free pg) (v : Int) (H : Heap) : bodyRun pg (den pg) 63 [.i .i64 v] H = some (.b (v != 0), H) := by
  refine body_of (x := .ret) (e := [(2, .b (v != 0))]) (d := d63) (by rw [hF.F]; rfl) rfl ?_ (.inl rfl) rfl
  simp [d63, c63, zipE, go_nil, go_last, go_past, go_pastR, go_blkN, go_blkR, go_blkE, go_skip, go_exit, go_ret, go_scope, go_seq, go_reg, go_block, go_cond, cnd_b, go_opsN, go_ops, go_opsG, grd_b, grd_u, stp_some, fin_some, up_some, cont_some, k_call, k_mv, k_pick, k_bin, k_eqB, k_eqA, k_not, k_neg, k_conv, k_alloc, k_boxA, k_boxI, k_boxB, k_boxN, k_boxBs, k_ldR, k_ldA, k_ldI, k_ldB, k_stA, k_stI, k_stB, ldC_some, stC_some, k_mkfn, k_slc, k_slcA, k_ixA, k_ixBs, k_ixSl, k_fadr, k_fld, k_ext, k_len, k_app, k_mn, k_mx, k_nilck, k_build, k_bsl1, k_bsl2, b_add, b_sub, b_mul, b_eql, b_neq, b_lss, b_leq, b_gtr, b_geq, Dn.setLast, Dn.getLast, evalO, mapO, Dn.get, putE, keepE, TV.one, TV.isAgg, Dn.part]

end Go.Proofs.Try.Dn

/-
  Plans: IsPlan answers as the reference.
-/

namespace Go.Proofs.Try.Dn
open Go.Dn

theorem planB_iff (n : Nat) (l : List Line) (p q m : Int) (J : List (Int × Int)) : planB n l p q m J = true ↔ 1 ≤ m ∧ m ≤ 1000000 ∧ J.length = l.length ∧ J.all okC = true ∧ ∀ h, h < n → lossS l J (2 * l.length) h = m * (bt p h - bt q h) := by
  simp only [planB, Bool.and_eq_true, decide_eq_true_eq, List.all_eq_true (p := fun h => decide _), List.mem_range]

theorem okC_cnt {J : List (Int × Int)} : J.all okC = true ↔ ∀ k, k < 2 * J.length → 0 ≤ cntAt J k ∧ cntAt J k ≤ 1000000 := by
  constructor
  · intro h k _; exact cnt_all h k
  · intro h
    rw [List.all_eq_true]
    intro c hc
    obtain ⟨i, hi, rfl⟩ := List.getElem_of_mem hc
    obtain ⟨a, b⟩ := cnt_even (List.getElem?_eq_getElem hi)
    rw [okC_iff, ← a, ← b]
    have h1 := h (2 * i) (by omega)
    have h2 := h (2 * i + 1) (by omega)
    omega

def I36 (n : Nat) (l : List Line) (J : List (Int × Int)) (JT T : TV) (p q m : Int) (k : Nat) (H : Heap) : Prop :=
  H[0]? = some (.cells [JT] false) ∧ (∃ v, H[1]? = some (.cells [v] false)) ∧ H[4]? = some (.cells [T] false) ∧ elI.Arr H T (tabI n (fun h => baseP p q m h - lossS l J k h)) ∧ H[6]? = some (.loop L36) ∧ ∀ i, i < k → 0 ≤ cntAt J i ∧ cntAt J i ≤ 1000000
def Q36 (l : List Line) (J : List (Int × Int)) (k : Nat) (x : Ex) (H : Heap) : Prop := x = .ret ∧ H[1]? = some (.cells [.b false] false) ∧ k < 2 * l.length ∧ ¬ (0 ≤ cntAt J k ∧ cntAt J k ≤ 1000000)
theorem over36' {pg : Pg} {id : Nat} (hid : id = 6) {n : Nat} {l : List Line} {J : List (Int × Int)} {JT : TV} (hJV : ∀ H, elP.View H JT J) (hJa : JT.isAgg = false) {T : TV} {p q m : Int} (hm : 1 ≤ m ∧ m ≤ 1000000) (hT : T.idOf = some 3) (hTa : T.isAgg = false) (hf : ∀ x ∈ l, Fits n x) (hl : l.length ≤ 40) (hJ : J.length = l.length) :
    Over pg id L36 l (I36 n l J JT T p q m) (Q36 l J) := by
  subst hid; exact over36 hJV hJa hm hT hTa hf hl hJ

theorem fn36 {pg : Pg} (hF : Free pg) {n : Nat} {l : List Line} (hc : chk (n : Int) l = 0) {p q m : Int} (hp : 0 ≤ p ∧ p < 2 ^ n) (hq : 0 ≤ q ∧ q < 2 ^ n) {J : List (Int × Int)} {JT : TV} (hJV : ∀ H, elP.View H JT J) (hPa : JT.isAgg = false) (hPo : JT.one = true) : Fn pg 36 [.i .i64 (n : Int), LT true l, .i .i64 p, .i .i64 q, .i .i64 m, JT] (.b (planB n l p q m J)) := by
  obtain ⟨hn1, hn2, hl, hf⟩ := chk_ok hc
  have hpw := pow_le16 ⟨hn1, hn2⟩
  simp only [Int.toNat_natCast] at hpw
  have hlJ := fun H => (hJV H).lenK H
  have hlL := LT_len true l
  have ho2 := opn2 hF hc p q
  rw [if_neg (by simp [outOf]; omega)] at ho2
  have h00 := ho2.call2
  have hpb : ∀ H, dkc pg (den pg) (.box false) [JT] H = some (.ref H.length 0, H ++ [.cells [JT] false]) := fun H => k_box _ _ hPo
  have hag := hPa
  unfold TV.isAgg at hag
  by_cases h1 : m < 1
  · have hb : planB n l p q m J = false := by rw [Bool.eq_false_iff]; intro h; rw [planB_iff] at h; omega
    rw [hb]
    refine .of1 (x := .ret) (e := [(12, .ref 1 0)]) (H' := [.cells [JT] false, .cells [.b false] false, .cells [.i .i64 p, .i .i64 q] false]) (hF.S _ _ (by decide)) (d := d36) (by rw [hF.F]; rfl) rfl ?_ (.inl rfl) (by simp [d36, resRun, mapO, Dn.get, dk, Dn.part, TV.isAgg]) (by simp [sn_i, sn_b, sn_nil, sn8_i, sn8_b, sn8_nil, sn7_i, sn7_b, sn_sl, sn8_sl, slB_some, sn_tup, sn_agg, sn8_agg, mapO, elems])
    simp [d36, c36, zipE, go_nil, go_last, go_past, go_pastR, go_blkN, go_blkR, go_blkE, go_skip, go_exit, go_ret, go_scope, go_seq, go_reg, go_block, go_cond, cnd_b, go_opsN, go_ops, go_opsG, grd_b, grd_u, stp_some, fin_some, up_some, cont_some, k_call, k_mv, k_pick, k_bin, k_eqB, k_eqA, k_not, k_neg, k_conv, k_alloc, k_boxA, k_boxI, k_boxB, k_boxN, k_boxBs, k_ldR, k_ldA, k_ldI, k_ldB, k_stA, k_stI, k_stB, ldC_some, stC_some, k_mkfn, k_slc, k_slcA, k_ixA, k_ixBs, k_ixSl, k_fadr, k_fld, k_ext, k_len, k_app, k_mn, k_mx, k_nilck, k_build, k_bsl1, k_bsl2, b_add, b_sub, b_mul, b_eql, b_neq, b_lss, b_leq, b_gtr, b_geq, Dn.setLast, Dn.getLast, evalO, mapO, Dn.get, putE, keepE, TV.one, TV.isAgg, Dn.part, h00, h1, hpb, put2]
  by_cases h2 : 1000000 < m
  · have hb : planB n l p q m J = false := by rw [Bool.eq_false_iff]; intro h; rw [planB_iff] at h; omega
    rw [hb]
    refine .of1 (x := .ret) (e := [(12, .ref 1 0)]) (H' := [.cells [JT] false, .cells [.b false] false, .cells [.i .i64 p, .i .i64 q] false]) (hF.S _ _ (by decide)) (d := d36) (by rw [hF.F]; rfl) rfl ?_ (.inl rfl) (by simp [d36, resRun, mapO, Dn.get, dk, Dn.part, TV.isAgg]) (by simp [sn_i, sn_b, sn_nil, sn8_i, sn8_b, sn8_nil, sn7_i, sn7_b, sn_sl, sn8_sl, slB_some, sn_tup, sn_agg, sn8_agg, mapO, elems])
    simp [d36, c36, zipE, go_nil, go_last, go_past, go_pastR, go_blkN, go_blkR, go_blkE, go_skip, go_exit, go_ret, go_scope, go_seq, go_reg, go_block, go_cond, cnd_b, go_opsN, go_ops, go_opsG, grd_b, grd_u, stp_some, fin_some, up_some, cont_some, k_call, k_mv, k_pick, k_bin, k_eqB, k_eqA, k_not, k_neg, k_conv, k_alloc, k_boxA, k_boxI, k_boxB, k_boxN, k_boxBs, k_ldR, k_ldA, k_ldI, k_ldB, k_stA, k_stI, k_stB, ldC_some, stC_some, k_mkfn, k_slc, k_slcA, k_ixA, k_ixBs, k_ixSl, k_fadr, k_fld, k_ext, k_len, k_app, k_mn, k_mx, k_nilck, k_build, k_bsl1, k_bsl2, b_add, b_sub, b_mul, b_eql, b_neq, b_lss, b_leq, b_gtr, b_geq, Dn.setLast, Dn.getLast, evalO, mapO, Dn.get, putE, keepE, TV.one, TV.isAgg, Dn.part, h00, h1, h2, hpb, put2]
  by_cases h3 : J.length = l.length
  · have h3' : ((J.length : Int) != (l.length : Int)) = false := by simp [h3]
    let H3 : Heap := [.cells [JT] false, .cells [.b false] false, .cells [.i .i64 p, .i .i64 q] false]
    have hmk := k_mksl (pg := pg) (R := den pg) [.i .i64 0] false 8 .i64 .i64 n H3 (by omega) (by omega)
    have ho := tab_mksl H3 n
    simp only [List.length_singleton] at hmk
    have hT : (TV.sl H3.length 0 1 false n (some n)).idOf = some 3 := rfl
    have hTa : (TV.sl H3.length 0 1 false n (some n)).isAgg = false := rfl
    have hTl : ∀ H, lenK 0 (TV.sl H3.length 0 1 false n (some n)) H = some n := fun H => rfl
    obtain ⟨T, hTe⟩ : ∃ T, T = TV.sl H3.length 0 1 false n (some n) := ⟨_, rfl⟩
    rw [← hTe] at hmk ho hT hTa hTl
    have hTo : T.one = true := by rw [hTe]; rfl
    let H5 : Heap := H3 ++ [.cells (repl [.i .i64 0] n) false] ++ [.cells [T] false]
    have hst := k_stS (pg := pg) (R := den pg) 4 T [.nilsl] false (H3 ++ [.cells (repl [.i .i64 0] n) false] ++ [.cells [.nilsl] false]) rfl hTa hTo rfl
    have hset : (H3 ++ [AObj.cells (repl [.i .i64 0] n) false] ++ [AObj.cells [.nilsl] false]).set 4 (AObj.cells [T] false) = H5 := rfl
    rw [hset] at hst
    have ho5 : elI.Arr H5 T (tabI n (fun h => if h < 0 then baseP p q m h else 0)) := by
      have : elI.Arr H5 T (tabI n fun _ => 0) := ho.mono fun id hid => by rw [hT] at hid; cases hid; rfl
      simpa using this
    obtain ⟨e, H', r1, g1, g11, g12, g13, o1, l1, k1⟩ := l36_1_all (pg := pg) (L := LT true l) (p := p) (q := q) (m := m) (by omega) (by omega) (by omega) (by omega) hT hTa n 0 H5 (by omega) rfl ho5
    simp only [Int.natCast_zero] at r1
    have hbx5 := ld_box (pg := pg) (R := den pg) (H := H5) (id := 4) rfl hTa
    have h62 := fn62 hF true l H'
    have hl5 : H'.length = 5 := l1
    rw [hl5] at h62
    have hlen6 : (H' ++ [AObj.cells [LT true l] false]).length = 6 := by simp [hl5]
    have hov := over36' (pg := pg) hlen6 hJV hPa (T := T) (p := p) (q := q) (m := m) (by omega) hT hTa hf hl h3
    have hrf := rf_jumps (pg := pg) hF (L := L36) (s := .t 65) (e := [(11, .ref 0 0), (12, .ref 1 0), (13, .ref 4 0), (65, .fn 77 [] [.ref 5 0])]) (ps := [66, 67]) (as_ := a36_2) (bd := b36_3) (ks := [11, 12, 13]) (bid := 5) (b := true) (l := l)
      (H := H' ++ [AObj.cells [LT true l] false]) rfl hov hl rfl (by rw [List.getElem?_append_right (by omega), hl5]; rfl)
      ⟨by rw [List.append_assoc, List.getElem?_append_left (by omega), k1 0 (by omega)]; rfl, ⟨.b false, by rw [List.append_assoc, List.getElem?_append_left (by omega), k1 1 (by omega)]; rfl⟩, by rw [List.append_assoc, List.getElem?_append_left (by omega), k1 4 (by omega)]; rfl,
        (by
          have : elI.Arr (H' ++ [AObj.cells [LT true l] false] ++ [AObj.loop L36]) T (tabI n (baseP p q m)) := o1.mono fun id hid => by rw [hT] at hid; cases hid; rw [List.append_assoc, List.getElem?_append_left (by omega)]
          refine (tabI_congr fun h hh => ?_) ▸ this
          simp [lossS]), by rw [List.getElem?_append_right (by simp; omega)]; simp [hl5], fun i hi => by omega⟩
    rw [hlen6] at hrf
    rcases hrf with ⟨Hf, o, ⟨q0, ⟨v, q1⟩, q4, oa, q6, hall⟩, q7, q8⟩ | ⟨k, x, Hf, o, ⟨rfl, q1, hk, hbad⟩, q4, q5, q6⟩
    · have oG : elI.Arr (Hf.set 6 (.loop o)) T _ := oa.mono fun id hid => by rw [hT] at hid; cases hid; rw [List.getElem?_set_ne (by omega)]
      have q4' : (Hf.set 6 (.loop o))[4]? = some (.cells [T] false) := by rw [List.getElem?_set_ne (by omega), q4]
      have q1' : (Hf.set 6 (.loop o))[1]? = some (.cells [v] false) := by rw [List.getElem?_set_ne (by omega), q1]
      have hlt1 := (List.getElem?_eq_some_iff.1 q1').1
      generalize Hf.set 6 (.loop o) = HG at oG q4' q1' q8 hlt1
      have h55 := body55 hF (H := HG) (s := T) (f := .fn 63 [] []) (P := fun v => v != 0) oG.view (fun v => by rw [sh_fn]; exact body63 hF v HG) (by rw [tabI_len]; omega)
      have hbxG := ld_box (pg := pg) (R := den pg) q4' hTa
      have hany : planB n l p q m J = !((tabI n (fun h => baseP p q m h - lossS l J (2 * l.length) h)).any fun v => v != 0) := by
        rw [Bool.eq_iff_iff, planB_iff]
        simp only [tabI, List.any_map, Bool.not_eq_true', List.any_eq_false, Function.comp, List.mem_range]
        constructor
        · intro ⟨_, _, _, _, hh⟩ x hx
          have := hh x hx
          simp [baseP]
          omega
        · intro hh
          refine ⟨by omega, by omega, h3, okC_cnt.2 (by rw [h3]; exact hall), fun h hh' => ?_⟩
          have := hh h hh'
          simp [baseP] at this
          omega
      rw [hany]
      generalize (tabI n (fun h => baseP p q m h - lossS l J (2 * l.length) h)).any (fun v => v != 0) = ans at *
      refine .of1 (x := .ret) (e := [(12, .ref 1 0)]) (H' := HG.set 1 (.cells [.b !ans] false)) (hF.S _ _ (by decide)) (d := d36) (by rw [hF.F]; rfl) rfl ?_ (.inl rfl) ?_ (by simp [sn_i, sn_b, sn_nil, sn8_i, sn8_b, sn8_nil, sn7_i, sn7_b, sn_sl, sn8_sl, slB_some, sn_tup, sn_agg, sn8_agg, mapO, elems])
      · simp only [H3, H5, List.length_cons, List.length_nil, List.cons_append, List.nil_append, Nat.zero_add] at hmk hst hbx5 r1
        simp [d36, c36, zipE, go_nil, go_last, go_past, go_pastR, go_blkN, go_blkR, go_blkE, go_skip, go_exit, go_ret, go_scope, go_seq, go_reg, go_block, go_cond, cnd_b, go_opsN, go_ops, go_opsG, grd_b, grd_u, stp_some, fin_some, up_some, cont_some, k_call, k_mv, k_pick, k_bin, k_eqB, k_eqA, k_not, k_neg, k_conv, k_alloc, k_boxA, k_boxI, k_boxB, k_boxN, k_boxBs, k_ldR, k_ldA, k_ldI, k_ldB, k_stA, k_stI, k_stB, ldC_some, stC_some, k_mkfn, k_slc, k_slcA, k_ixA, k_ixBs, k_ixSl, k_fadr, k_fld, k_ext, k_len, k_app, k_mn, k_mx, k_nilck, k_build, k_bsl1, k_bsl2, b_add, b_sub, b_mul, b_eql, b_neq, b_lss, b_leq, b_gtr, b_geq, Dn.setLast, Dn.getLast, evalO, mapO, Dn.get, putE, keepE, TV.one, TV.isAgg, Dn.part, h00, h1, h2, h3', hlJ, hlL, hpb, put2, hag, hmk, hst, hbx5, hTl, go_denK (c := l36_1) rfl, r1, g1, g11, g12, g13, sh_fn, h62, hl5, q8, hbxG, h55, q1']
      · simp [d36, resRun, mapO, Dn.get, dk, Dn.part, TV.isAgg, hlt1]
    · have hb : planB n l p q m J = false := by
        rw [Bool.eq_false_iff]; intro h; rw [planB_iff, okC_cnt] at h; exact hbad (h.2.2.2.1 k (by omega))
      rw [hb]
      have q1' : (Hf.set 6 (.loop o))[1]? = some (.cells [.b false] false) := by rw [List.getElem?_set_ne (by omega), q1]
      generalize Hf.set 6 (.loop o) = HG at q1' q6
      refine .of1 (x := .ret) (e := [(11, .ref 0 0), (12, .ref 1 0), (13, .ref 4 0)]) (H' := HG) (hF.S _ _ (by decide)) (d := d36) (by rw [hF.F]; rfl) rfl ?_ (.inl rfl) ?_ (by simp [sn_i, sn_b, sn_nil, sn8_i, sn8_b, sn8_nil, sn7_i, sn7_b, sn_sl, sn8_sl, slB_some, sn_tup, sn_agg, sn8_agg, mapO, elems])
      · simp only [H3, H5, List.length_cons, List.length_nil, List.cons_append, List.nil_append, Nat.zero_add] at hmk hst hbx5 r1
        simp [d36, c36, zipE, go_nil, go_last, go_past, go_pastR, go_blkN, go_blkR, go_blkE, go_skip, go_exit, go_ret, go_scope, go_seq, go_reg, go_block, go_cond, cnd_b, go_opsN, go_ops, go_opsG, grd_b, grd_u, stp_some, fin_some, up_some, cont_some, k_call, k_mv, k_pick, k_bin, k_eqB, k_eqA, k_not, k_neg, k_conv, k_alloc, k_boxA, k_boxI, k_boxB, k_boxN, k_boxBs, k_ldR, k_ldA, k_ldI, k_ldB, k_stA, k_stI, k_stB, ldC_some, stC_some, k_mkfn, k_slc, k_slcA, k_ixA, k_ixBs, k_ixSl, k_fadr, k_fld, k_ext, k_len, k_app, k_mn, k_mx, k_nilck, k_build, k_bsl1, k_bsl2, b_add, b_sub, b_mul, b_eql, b_neq, b_lss, b_leq, b_gtr, b_geq, Dn.setLast, Dn.getLast, evalO, mapO, Dn.get, putE, keepE, TV.one, TV.isAgg, Dn.part, h00, h1, h2, h3', hlJ, hlL, hpb, put2, hag, hmk, hst, hbx5, hTl, go_denK (c := l36_1) rfl, r1, g1, g11, g12, g13, sh_fn, h62, hl5, q6]
      · simp [d36, resRun, mapO, Dn.get, dk, Dn.part, TV.isAgg, q1']
  · have h3' : ((J.length : Int) != (l.length : Int)) = true := by simp; omega
    have hb : planB n l p q m J = false := by rw [Bool.eq_false_iff]; intro h; rw [planB_iff] at h; omega
    rw [hb]
    refine .of1 (x := .ret) (e := [(12, .ref 1 0)]) (H' := [.cells [JT] false, .cells [.b false] false, .cells [.i .i64 p, .i .i64 q] false]) (hF.S _ _ (by decide)) (d := d36) (by rw [hF.F]; rfl) rfl ?_ (.inl rfl) (by simp [d36, resRun, mapO, Dn.get, dk, Dn.part, TV.isAgg]) (by simp [sn_i, sn_b, sn_nil, sn8_i, sn8_b, sn8_nil, sn7_i, sn7_b, sn_sl, sn8_sl, slB_some, sn_tup, sn_agg, sn8_agg, mapO, elems])
    simp [d36, c36, zipE, go_nil, go_last, go_past, go_pastR, go_blkN, go_blkR, go_blkE, go_skip, go_exit, go_ret, go_scope, go_seq, go_reg, go_block, go_cond, cnd_b, go_opsN, go_ops, go_opsG, grd_b, grd_u, stp_some, fin_some, up_some, cont_some, k_call, k_mv, k_pick, k_bin, k_eqB, k_eqA, k_not, k_neg, k_conv, k_alloc, k_boxA, k_boxI, k_boxB, k_boxN, k_boxBs, k_ldR, k_ldA, k_ldI, k_ldB, k_stA, k_stI, k_stB, ldC_some, stC_some, k_mkfn, k_slc, k_slcA, k_ixA, k_ixBs, k_ixSl, k_fadr, k_fld, k_ext, k_len, k_app, k_mn, k_mx, k_nilck, k_build, k_bsl1, k_bsl2, b_add, b_sub, b_mul, b_eql, b_neq, b_lss, b_leq, b_gtr, b_geq, Dn.setLast, Dn.getLast, evalO, mapO, Dn.get, putE, keepE, TV.one, TV.isAgg, Dn.part, h00, h1, h2, h3', hlJ, hlL, hpb, hag, put2]

end Go.Proofs.Try.Dn

/-
  Plans: jumps of a board are all different; a jump more in a plan.
-/

namespace Go.Proofs.Try.Dn
open Go.Dn

theorem lt3_trans {a b c : Line} (h1 : lt3 a b = true) (h2 : lt3 b c = true) : lt3 a c = true := by
  simp [lt3] at *; omega
theorem lt3_irrefl (a : Line) : lt3 a a = false := by simp [lt3]

theorem chk_from {n : Int} {l : List Line} (h : chk n l = 0) : chkFrom n none l = 0 := by
  unfold chk at h
  split at h
  · cases h
  · split at h
    · cases h
    · exact h

theorem sorted_from {n : Int} : ∀ {l : List Line} {p : Option Line}, chkFrom n p l = 0 → (∀ q, p = some q → ∀ x ∈ l, lt3 q x = true) ∧ l.Pairwise (fun a b => lt3 a b = true)
  | [], p, h => ⟨fun _ _ _ hx => (by cases hx), .nil⟩
  | y :: l, p, h => by
    rw [chkFrom_cons] at h
    split at h
    · cases h
    · rename_i hb
      simp only [Bool.or_eq_true, not_or, Bool.not_eq_true] at hb
      obtain ⟨h1, h2⟩ := sorted_from h
      refine ⟨fun q hq x hx => ?_, .cons (h1 y rfl) h2⟩
      subst hq
      have hqy : lt3 q y = true := by simpa [worse] using hb.2
      rcases List.mem_cons.1 hx with rfl | hx
      · exact hqy
      · exact lt3_trans hqy (h1 y rfl x hx)

theorem js_mem_le {j : Line} : ∀ {l : List Line}, j ∈ js l → ∃ x ∈ l, j = x ∨ j = rev x
  | [], h => by cases h
  | y :: l, h => by
    simp only [js, List.mem_cons] at h
    rcases h with rfl | rfl | h
    · exact ⟨_, by simp, .inl rfl⟩
    · exact ⟨y, by simp, .inr rfl⟩
    · obtain ⟨x, hx, h⟩ := js_mem_le h
      exact ⟨x, by simp [hx], h⟩

theorem js_nodup {n : Int} : ∀ {l : List Line}, (∀ x ∈ l, Fits n x) → l.Pairwise (fun a b => lt3 a b = true) → (js l).Nodup
  | [], _, _ => List.nodup_nil
  | y :: l, hf, hs => by
    have hy := hf y (by simp)
    obtain ⟨h1, h2⟩ := List.pairwise_cons.1 hs
    have ih := js_nodup (fun x hx => hf x (by simp [hx])) h2
    have hyn : y ∉ js l := by
      intro h
      obtain ⟨x, hx, h⟩ := js_mem_le h
      have hfx := hf x (by simp [hx])
      rcases h with h | h
      · subst h; have := h1 y hx; rw [lt3_irrefl] at this; cases this
      · rw [h] at hy; unfold Fits rev at hy; unfold Fits at hfx; dsimp only at hy; omega
    have hrn : rev y ∉ js l := by
      intro h
      obtain ⟨x, hx, h⟩ := js_mem_le h
      have hfx := hf x (by simp [hx])
      rcases h with h | h
      · rw [← h] at hfx; unfold Fits rev at hfx; unfold Fits at hy; dsimp only at hfx; omega
      · have : y = x := by have := congrArg rev h; simpa [rev_rev] using this
        subst this; have := h1 y hx; rw [lt3_irrefl] at this; cases this
    have hne : y ≠ rev y := by
      intro h
      have : y.1 = y.2.2 := congrArg Prod.fst h
      unfold Fits at hy; omega
    simp only [js, List.nodup_cons, List.mem_cons, not_or]
    exact ⟨⟨hne, hyn⟩, hrn, ih⟩

theorem effJ_add (c : Int) (j : Line) (h : Nat) : effJ (c + 1) j h = effJ c j h + effJ 1 j h := by
  unfold effJ
  split <;> split <;> split <;> omega

/-- a jump more in a plan -/
theorem loss_more {l : List Line} {J J' : List (Int × Int)} {z : Line} {k0 : Nat} (hn : (js l).Nodup) (h0 : (js l)[k0]? = some z) (hc : ∀ k, k < 2 * l.length → cntAt J' k = cntAt J k + (if jAt l k = z then 1 else 0)) (h : Nat) :
    ∀ K, K ≤ 2 * l.length → lossS l J' K h = lossS l J K h + (if k0 < K then effJ 1 z h else 0)
  | 0, _ => by simp [lossS]
  | K + 1, hK => by
    have ih := loss_more hn h0 hc h K (by omega)
    have hKl : K < (js l).length := by rw [js_len]; omega
    have hKe : (js l)[K]? = some (js l)[K] := List.getElem?_eq_getElem hKl
    have hj := jAt_some hKe
    unfold lossS
    rw [ih, hc K (by omega)]
    by_cases he : jAt l K = z
    · have : K = k0 := by
        have hk0 := (List.getElem?_eq_some_iff.1 h0).1
        have h1 : (js l)[K]'hKl = (js l)[k0]'hk0 := by rw [← hj, he]; exact ((List.getElem?_eq_some_iff.1 h0).2).symm
        exact (List.getElem_inj hn).1 h1
      subst this
      rw [if_pos he, if_neg (by omega), if_pos (by omega), effJ_add, he]
      omega
    · have : K ≠ k0 := by
        intro h
        subst h
        exact he (by rw [jAt_some h0])
      rw [if_neg he, Int.add_zero]
      by_cases hlt : k0 < K
      · rw [if_pos hlt, if_pos (by omega)]; omega
      · rw [if_neg hlt, if_neg (by omega)]; omega

/-- what a jump takes -/
theorem leap_eff {n m : Nat} {z : Line} (hm : m < 65536) (hf : FitsJ (n : Int) z) (hc : can m z = true) (h : Nat) : bt (leap m z : Int) h = bt (m : Int) h - effJ 1 z h := by
  obtain ⟨f1, f2, f3, f4, f5, f6, f7, f8, f9⟩ := hf
  rw [bt_test, bt_test, leap_bit hm]
  simp only [can, Bool.and_eq_true, Bool.not_eq_true'] at hc
  obtain ⟨⟨c1, c2⟩, c3⟩ := hc
  unfold effJ
  by_cases ha : (h : Int) = z.1
  · have e : z.1.toNat = h := by omega
    have e2 : ¬ z.2.1.toNat = h := by omega
    have e3 : ¬ z.2.2.toNat = h := by omega
    rw [e] at c1
    have hb' : ¬ (h : Int) = z.2.1 := by omega
    have hd' : ¬ (h : Int) = z.2.2 := by omega
    rw [if_pos ha, if_neg hb', if_neg hd']
    simp [e, e2, e3, c1]
  · by_cases hb : (h : Int) = z.2.1
    · have e : ¬ z.1.toNat = h := by omega
      have e2 : z.2.1.toNat = h := by omega
      have e3 : ¬ z.2.2.toNat = h := by omega
      rw [e2] at c2
      have hd' : ¬ (h : Int) = z.2.2 := by omega
      rw [if_neg ha, if_pos hb, if_neg hd']
      simp [e, e2, e3, c2]
    · by_cases hd : (h : Int) = z.2.2
      · have e : ¬ z.1.toNat = h := by omega
        have e2 : ¬ z.2.1.toNat = h := by omega
        have e3 : z.2.2.toNat = h := by omega
        rw [e3] at c3
        rw [if_neg ha, if_neg hb, if_pos hd]
        simp [e, e2, e3, c3]
      · have e : ¬ z.1.toNat = h := by omega
        have e2 : ¬ z.2.1.toNat = h := by omega
        have e3 : ¬ z.2.2.toNat = h := by omega
        simp [e, e2, e3, ha, hb, hd]

/-- many times a plan -/
theorem loss_times {l : List Line} {J J' : List (Int × Int)} {a : Int} (hc : ∀ k, cntAt J' k = a * cntAt J k) (h : Nat) : ∀ K, lossS l J' K h = a * lossS l J K h
  | 0 => by simp [lossS]
  | K + 1 => by
    unfold lossS
    rw [loss_times hc h K, hc, Int.mul_add]
    congr 1
    unfold effJ
    split <;> split <;> split <;> simp [Int.mul_sub, Int.mul_add, Int.mul_neg]

end Go.Proofs.Try.Dn

/-
  PegDrafts: the plan of a game.
-/

namespace Go.Proofs.Try.Dn
open Go.Dn

theorem arrP {pg : Pg} {R : Rec} {H : Heap} {t : TV} {l : List (Int × Int)} (h : elP.Arr H t l) {i : Nat} {x : Int × Int} (hx : l[i]? = some x) :
    ∃ p, dkc pg R (.ixS 2 true) [t, .i .i64 (i : Int)] H = some (p, H) ∧
      (∀ y : Int × Int, ∃ H', dkc pg R (.st 2) [p, .agg [.i .i64 y.1, .i .i64 y.2]] H = some (.undef, H') ∧ elP.Arr H' t (l.set i y) ∧ H'.length = H.length ∧ (∀ j, t.idOf ≠ some j → H'[j]? = H[j]?)) ∧
      (∃ q, dkc pg R (.ixA 2 1 false) [p, .i .i64 0] H = some (q, H) ∧ dkc pg R (.ld 1 false) [q] H = some (.i .i64 x.1, H) ∧ ∀ w, ∃ H', dkc pg R (.st 1) [q, .i .i64 w] H = some (.undef, H') ∧ elP.Arr H' t (l.set i (w, x.2)) ∧ H'.length = H.length ∧ (∀ j, t.idOf ≠ some j → H'[j]? = H[j]?)) ∧
      (∃ q, dkc pg R (.ixA 2 1 false) [p, .i .i64 1] H = some (q, H) ∧ dkc pg R (.ld 1 false) [q] H = some (.i .i64 x.2, H) ∧ ∀ w, ∃ H', dkc pg R (.st 1) [q, .i .i64 w] H = some (.undef, H') ∧ elP.Arr H' t (l.set i (x.1, w)) ∧ H'.length = H.length ∧ (∀ j, t.idOf ≠ some j → H'[j]? = H[j]?)) := by
  obtain ⟨p, h1, _, h2, h3⟩ := h.at (pg := pg) (R := R) hx .i64
  obtain ⟨q0, a0, b0, c0⟩ := h3 rfl 0 (.i .i64 x.1) rfl .i64
  obtain ⟨q1, a1, b1, c1⟩ := h3 rfl 1 (.i .i64 x.2) rfl .i64
  exact ⟨p, h1, h2, ⟨q0, a0, b0, fun w => c0 _ (w, x.2) rfl⟩, ⟨q1, a1, b1, fun w => c1 _ (x.1, w) rfl⟩⟩

theorem cnt_set {J : List (Int × Int)} {i : Nat} {c y : Int × Int} (hc : J[i]? = some c) (k : Nat) : cntAt (J.set i y) k = if k / 2 = i then (if k % 2 = 0 then y.1 else y.2) else cntAt J k := by
  have hi := (List.getElem?_eq_some_iff.1 hc).1
  unfold cntAt
  simp only [List.getD_eq_getElem?_getD]
  by_cases h : k / 2 = i
  · rw [if_pos h, h, List.getElem?_set_self hi]; rfl
  · rw [if_neg h, List.getElem?_set_ne (fun e => h e.symm)]

theorem jAt_half {l : List Line} {k i : Nat} {x : Line} (hx : l[i]? = some x) (h : k / 2 = i) : jAt l k = if k % 2 = 0 then x else rev x := by
  obtain ⟨a, b⟩ := js_even l i x hx
  rcases (by omega : k % 2 = 0 ∨ k % 2 = 1) with e | e
  · rw [if_pos e, show k = 2 * i by omega, jAt_some a]
  · rw [if_neg (by omega), show k = 2 * i + 1 by omega, jAt_some b]

theorem l9_1_round {pg : Pg} {l : List Line} {N P NOW I T : TV} {J : List (Int × Int)} {i xid : Nat} {x z : Line} {c : Int × Int} {H : Heap} (hl : l.length ≤ 40) (hx : l[i]? = some x) (hc : J[i]? = some c) (hxn : x.1 ≠ x.2.2) (hc1 : 0 ≤ c.1 ∧ c.1 ≤ 1000 ∧ 0 ≤ c.2 ∧ c.2 ≤ 1000)
    (ho : elP.Arr H T J) (hz : H[xid]? = some (cl z)) (hT : T.idOf ≠ some xid) :
    ∃ H' J', den pg l9_1 [(0, N), (5, .ref 0 0), (7, LT false l), (8, P), (11, T), (12, NOW), (13, I), (15, .ref xid 0), (16, .i .i64 (i : Int))] H =
      den pg l9_1 [(0, N), (5, .ref 0 0), (7, LT false l), (8, P), (11, T), (12, NOW), (13, I), (15, .ref xid 0), (16, .i .i64 ((i + 1 : Nat) : Int))] H' ∧ elP.Arr H' T J' ∧ J'.length = J.length ∧ H'.length = H.length ∧ (∀ j, T.idOf ≠ some j → H'[j]? = H[j]?) ∧
      ∀ k, cntAt J' k = cntAt J k + (if k / 2 = i ∧ jAt l k = z then 1 else 0) := by
  have hi := (List.getElem?_eq_some_iff.1 hx).1
  have e1 : ((i : Int) < (l.length : Int)) := by omega
  have e2 : wrapR .i64 ((i : Int) + 1) = .i .i64 ((i : Int) + 1) := wrapR_i64 (by omega)
  have hlen := LT_len false l
  have hV : ∀ H, elL.View H (LT false l) l := fun H => by rw [LT_lt]; exact El.lt_view _ _ _
  obtain ⟨r, hr, hat, _⟩ := ixL (pg := pg) (R := den pg) (hV H) hx
  have hld := ldL (pg := pg) (R := den pg) hat
  obtain ⟨z0, z1, z2, z3⟩ := ld_cl (pg := pg) (R := den pg) hz
  obtain ⟨p, a1, _, ⟨q0, b1, b2, b3⟩, ⟨q1, d1, d2, d3⟩⟩ := arrP (pg := pg) (R := den pg) ho hc
  have w1 : wrapR .i64 (c.1 + 1) = .i .i64 (c.1 + 1) := wrapR_i64 (by omega)
  have w2 : wrapR .i64 (c.2 + 1) = .i .i64 (c.2 + 1) := wrapR_i64 (by omega)
  have s1 := eqL3 x.1 x.2.1 x.2.2 z.1 z.2.1 z.2.2
  have s2 := eqL3 x.1 x.2.1 x.2.2 z.2.2 z.2.1 z.1
  have hsn : cntAt J (2 * i) = c.1 ∧ cntAt J (2 * i + 1) = c.2 := cnt_even hc
  have hck : ∀ k, k / 2 = i → cntAt J k = if k % 2 = 0 then c.1 else c.2 := by
    intro k hk
    rcases (by omega : k % 2 = 0 ∨ k % 2 = 1) with e | e
    · rw [if_pos e, show k = 2 * i by omega, hsn.1]
    · rw [if_neg (by omega), show k = 2 * i + 1 by omega, hsn.2]
  simp only [lineTV] at hld
  by_cases hxz : x = z
  · obtain ⟨H1, b4, o1, l1, k1⟩ := b3 (c.1 + 1)
    have hz' : H1[xid]? = some (cl z) := by rw [k1 xid hT]; exact hz
    obtain ⟨y0, y1, y2, y3⟩ := ld_cl (pg := pg) (R := den pg) hz'
    obtain ⟨r', hr', hat', _⟩ := ixL (pg := pg) (R := den pg) (hV H1) hx
    have hld' := ldL (pg := pg) (R := den pg) hat'
    simp only [lineTV] at hld'
    have t1 : same (x.1, x.2.1, x.2.2) (z.1, z.2.1, z.2.2) = true := by simp [same, hxz]
    have t2 : same (x.1, x.2.1, x.2.2) (z.2.2, z.2.1, z.1) = false := by
      simp only [same, Prod.mk.injEq, decide_eq_false_iff_not]
      intro h; rw [← hxz] at h; exact hxn h.1
    refine ⟨H1, _, ?_, o1, by simp, l1, k1, fun k => ?_⟩
    · rw [l9_1, den_loop]
      simp [l9_1, b9_0, go_nil, go_last, go_past, go_pastR, go_blkN, go_blkR, go_blkE, go_skip, go_exit, go_ret, go_scope, go_seq, go_reg, go_block, go_cond, cnd_b, go_opsN, go_ops, go_opsG, grd_b, grd_u, stp_some, fin_some, up_some, cont_some, k_call, k_mv, k_pick, k_bin, k_eqB, k_eqA, k_not, k_neg, k_conv, k_alloc, k_boxA, k_boxI, k_boxB, k_boxN, k_boxBs, k_ldR, k_ldA, k_ldI, k_ldB, k_stA, k_stI, k_stB, ldC_some, stC_some, k_mkfn, k_slc, k_slcA, k_ixA, k_ixBs, k_ixSl, k_fadr, k_fld, k_ext, k_len, k_app, k_mn, k_mx, k_nilck, k_build, k_bsl1, k_bsl2, b_add, b_sub, b_mul, b_eql, b_neq, b_lss, b_leq, b_gtr, b_geq, Dn.setLast, Dn.getLast, evalO, mapO, Dn.get, putE, keepE, TV.one, TV.isAgg, Dn.part, hlen, e1, e2, hr, hld, z0, s1, t1, a1, b1, b2, w1, b4, hr', hld', y1, y2, y3, fillP, TV.cells, put2, s2, t2, negb]
    · rw [cnt_set hc]
      by_cases hk : k / 2 = i
      · rw [if_pos hk, hck k hk, jAt_half hx hk]
        rcases (by omega : k % 2 = 0 ∨ k % 2 = 1) with e | e
        · simp [e, hk, hxz]
        · have : ¬ rev x = z := by intro h; rw [← hxz] at h; exact hxn (congrArg (fun y : Line => y.1) h).symm
          simp [e, hk, this]
      · simp [hk]
  · have t1 : same (x.1, x.2.1, x.2.2) (z.1, z.2.1, z.2.2) = false := by simp [same]; intro a b c; exact hxz (by rw [Prod.ext_iff, Prod.ext_iff]; exact ⟨a, b, c⟩)
    by_cases hxr : x = rev z
    · obtain ⟨H1, d4, o1, l1, k1⟩ := d3 (c.2 + 1)
      have t2 : same (x.1, x.2.1, x.2.2) (z.2.2, z.2.1, z.1) = true := by simp [same, hxr, rev]
      have hzr : rev x = z := by rw [hxr, rev_rev]
      refine ⟨H1, _, ?_, o1, by simp, l1, k1, fun k => ?_⟩
      · rw [l9_1, den_loop]
        simp [l9_1, b9_0, go_nil, go_last, go_past, go_pastR, go_blkN, go_blkR, go_blkE, go_skip, go_exit, go_ret, go_scope, go_seq, go_reg, go_block, go_cond, cnd_b, go_opsN, go_ops, go_opsG, grd_b, grd_u, stp_some, fin_some, up_some, cont_some, k_call, k_mv, k_pick, k_bin, k_eqB, k_eqA, k_not, k_neg, k_conv, k_alloc, k_boxA, k_boxI, k_boxB, k_boxN, k_boxBs, k_ldR, k_ldA, k_ldI, k_ldB, k_stA, k_stI, k_stB, ldC_some, stC_some, k_mkfn, k_slc, k_slcA, k_ixA, k_ixBs, k_ixSl, k_fadr, k_fld, k_ext, k_len, k_app, k_mn, k_mx, k_nilck, k_build, k_bsl1, k_bsl2, b_add, b_sub, b_mul, b_eql, b_neq, b_lss, b_leq, b_gtr, b_geq, Dn.setLast, Dn.getLast, evalO, mapO, Dn.get, putE, keepE, TV.one, TV.isAgg, Dn.part, hlen, e1, e2, hr, hld, z0, z1, z2, z3, s1, t1, a1, d1, d2, w2, d4, fillP, TV.cells, put2, s2, t2, negb]
      · rw [cnt_set hc]
        by_cases hk : k / 2 = i
        · rw [if_pos hk, hck k hk, jAt_half hx hk]
          rcases (by omega : k % 2 = 0 ∨ k % 2 = 1) with e | e
          · simp [e, hk, hxz]
          · simp [e, hk, hzr]
        · simp [hk]
    · have t2 : same (x.1, x.2.1, x.2.2) (z.2.2, z.2.1, z.1) = false := by simp [same]; intro a b c; exact hxr (by unfold rev; rw [Prod.ext_iff, Prod.ext_iff]; exact ⟨a, b, c⟩)
      refine ⟨H, J, ?_, ho, rfl, rfl, fun _ _ => rfl, fun k => ?_⟩
      · rw [l9_1, den_loop]
        simp [l9_1, b9_0, go_nil, go_last, go_past, go_pastR, go_blkN, go_blkR, go_blkE, go_skip, go_exit, go_ret, go_scope, go_seq, go_reg, go_block, go_cond, cnd_b, go_opsN, go_ops, go_opsG, grd_b, grd_u, stp_some, fin_some, up_some, cont_some, k_call, k_mv, k_pick, k_bin, k_eqB, k_eqA, k_not, k_neg, k_conv, k_alloc, k_boxA, k_boxI, k_boxB, k_boxN, k_boxBs, k_ldR, k_ldA, k_ldI, k_ldB, k_stA, k_stI, k_stB, ldC_some, stC_some, k_mkfn, k_slc, k_slcA, k_ixA, k_ixBs, k_ixSl, k_fadr, k_fld, k_ext, k_len, k_app, k_mn, k_mx, k_nilck, k_build, k_bsl1, k_bsl2, b_add, b_sub, b_mul, b_eql, b_neq, b_lss, b_leq, b_gtr, b_geq, Dn.setLast, Dn.getLast, evalO, mapO, Dn.get, putE, keepE, TV.one, TV.isAgg, Dn.part, hlen, e1, e2, hr, hld, z0, z1, z2, z3, s1, t1, fillP, TV.cells, put2, s2, t2, negb]
      · by_cases hk : k / 2 = i
        · rw [jAt_half hx hk]
          rcases (by omega : k % 2 = 0 ∨ k % 2 = 1) with e | e
          · simp [e, hxz]
          · have : ¬ rev x = z := by intro h; exact hxr (by rw [← h, rev_rev])
            simp [e, this]
        · simp [hk]

theorem l9_1_all {pg : Pg} {l : List Line} {N P NOW I T : TV} {xid : Nat} {z : Line} (hl : l.length ≤ 40) (hf : ∀ x ∈ l, x.1 ≠ x.2.2) (hT : T.idOf ≠ some xid) (b : Int) (hb : b < 1000) : ∀ (f i : Nat) (H : Heap) (J : List (Int × Int)), i + f = l.length → J.length = l.length → elP.Arr H T J → H[xid]? = some (cl z) → (∀ k, 0 ≤ cntAt J k) → (∀ k, 2 * i ≤ k → cntAt J k ≤ b) →
    ∃ e H' J', den pg l9_1 [(0, N), (5, .ref 0 0), (7, LT false l), (8, P), (11, T), (12, NOW), (13, I), (15, .ref xid 0), (16, .i .i64 (i : Int))] H = some ⟨.exit 2, e, H'⟩ ∧ get e 0 = some N ∧ get e 5 = some (.ref 0 0) ∧ get e 7 = some (LT false l) ∧ get e 8 = some P ∧ get e 11 = some T ∧ get e 12 = some NOW ∧ get e 13 = some I ∧ get e 15 = some (.ref xid 0) ∧
      elP.Arr H' T J' ∧ J'.length = l.length ∧ H'.length = H.length ∧ (∀ j, T.idOf ≠ some j → H'[j]? = H[j]?) ∧ ∀ k, cntAt J' k = cntAt J k + (if 2 * i ≤ k ∧ k < 2 * l.length ∧ jAt l k = z then 1 else 0)
  | 0, i, H, J, h, hJ, ho, hz, _, _ => by
    have e1 : ¬ ((i : Int) < (l.length : Int)) := by omega
    have hlen := LT_len false l
    refine ⟨[(0, N), (5, .ref 0 0), (7, LT false l), (8, P), (11, T), (12, NOW), (13, I), (15, .ref xid 0), (16, .i .i64 (i : Int)), (95, .b false)], H, J, ?_, rfl, rfl, rfl, rfl, rfl, rfl, rfl, rfl, ho, hJ, rfl, fun _ _ => rfl, fun k => by rw [if_neg (by omega)]; simp⟩
    rw [l9_1, den_loop]
    simp [b9_0, go_nil, go_last, go_past, go_pastR, go_blkN, go_blkR, go_blkE, go_skip, go_exit, go_ret, go_scope, go_seq, go_reg, go_block, go_cond, cnd_b, go_opsN, go_ops, go_opsG, grd_b, grd_u, stp_some, fin_some, up_some, cont_some, k_call, k_mv, k_pick, k_bin, k_eqB, k_eqA, k_not, k_neg, k_conv, k_alloc, k_boxA, k_boxI, k_boxB, k_boxN, k_boxBs, k_ldR, k_ldA, k_ldI, k_ldB, k_stA, k_stI, k_stB, ldC_some, stC_some, k_mkfn, k_slc, k_slcA, k_ixA, k_ixBs, k_ixSl, k_fadr, k_fld, k_ext, k_len, k_app, k_mn, k_mx, k_nilck, k_build, k_bsl1, k_bsl2, b_add, b_sub, b_mul, b_eql, b_neq, b_lss, b_leq, b_gtr, b_geq, Dn.setLast, Dn.getLast, evalO, mapO, Dn.get, putE, keepE, TV.one, TV.isAgg, Dn.part, hlen, e1]
  | f + 1, i, H, J, h, hJ, ho, hz, h0, hbk => by
    have hi : i < l.length := by omega
    have hx : l[i]? = some l[i] := List.getElem?_eq_getElem hi
    have hj : J[i]? = some (J[i]'(by omega)) := List.getElem?_eq_getElem (by omega)
    have hsn := cnt_even hj
    have b0 := h0 (2 * i)
    have b1 := h0 (2 * i + 1)
    have b2 := hbk (2 * i) (by omega)
    have b3 := hbk (2 * i + 1) (by omega)
    obtain ⟨H1, J1, r1, o1, lj, l1, k1, c1⟩ := l9_1_round (pg := pg) (N := N) (P := P) (NOW := NOW) (I := I) hl hx hj (hf _ (List.getElem_mem hi)) (by omega) ho hz hT
    obtain ⟨e, H', J', r2, g0, g5, g7, g8, g11, g12, g13, g15, o2, lj2, l2, k2, c2⟩ := l9_1_all (pg := pg) (N := N) (P := P) (NOW := NOW) (I := I) hl hf hT b hb f (i + 1) H1 J1 (by omega) (by omega) o1 (by rw [k1 xid hT]; exact hz)
      (fun k => by rw [c1 k]; have := h0 k; split <;> omega) (fun k hk => by rw [c1 k, if_neg (by omega)]; have := hbk k (by omega); omega)
    refine ⟨e, H', J', r1.trans r2, g0, g5, g7, g8, g11, g12, g13, g15, o2, lj2, by omega, fun j hj => by rw [k2 j hj, k1 j hj], fun k => ?_⟩
    rw [c2 k, c1 k]
    by_cases hz2 : jAt l k = z
    · by_cases hk : k / 2 = i
      · rw [if_pos ⟨hk, hz2⟩, if_neg (by omega), if_pos ⟨by omega, by omega, hz2⟩]; omega
      · rw [if_neg (by omega)]
        by_cases hk2 : 2 * (i + 1) ≤ k ∧ k < 2 * l.length
        · rw [if_pos ⟨hk2.1, hk2.2, hz2⟩, if_pos ⟨by omega, hk2.2, hz2⟩]; omega
        · rw [if_neg (by omega), if_neg (by omega)]; omega
    · simp [hz2]

theorem l9_3_all {pg : Pg} (hF : Free pg) {n : Nat} {l : List Line} (hc : chk (n : Int) l = 0) {P T : TV} {p : Int} {A B C : TV} {M : Int} : ∀ (f i m : Nat) (H : Heap) (J : List (Int × Int)), i + f = 16 → m < 2 ^ n → J.length = l.length → elP.Arr H T J → T.idOf ≠ some 0 → H[0]? = some (.cells [A, B, .i .i64 M, C] true) →
    (∀ k, 0 ≤ cntAt J k ∧ cntAt J k ≤ i) → (∀ h, lossS l J (2 * l.length) h = bt p h - bt (m : Int) h) →
    ∃ e H' J' m', den pg l9_3 [(0, .i .i64 (n : Int)), (5, .ref 0 0), (7, LT false l), (8, P), (11, T), (12, .i .i64 (m : Int)), (13, .i .i64 (i : Int))] H = some ⟨.exit 0, e, H'⟩ ∧ get e 0 = some (.i .i64 (n : Int)) ∧ get e 5 = some (.ref 0 0) ∧ get e 7 = some (LT false l) ∧ get e 8 = some P ∧ get e 11 = some T ∧ get e 12 = some (.i .i64 ((m' : Nat) : Int)) ∧
      elP.Arr H' T J' ∧ J'.length = l.length ∧ m' < 2 ^ n ∧ H'[0]? = some (.cells [A, B, .i .i64 M, C] true) ∧ (∀ k, 0 ≤ cntAt J' k ∧ cntAt J' k ≤ 16) ∧ (∀ h, lossS l J' (2 * l.length) h = bt p h - bt (m' : Int) h)
  | 0, i, m, H, J, h, hm, hJ, ho, hT0, hA, hcn, hls => by
    obtain rfl : i = 16 := by omega
    refine ⟨[(0, .i .i64 (n : Int)), (5, .ref 0 0), (7, LT false l), (8, P), (11, T), (12, .i .i64 (m : Int)), (13, .i .i64 16), (70, .b false)], H, J, m, ?_, rfl, rfl, rfl, rfl, rfl, rfl, ho, hJ, hm, hA, hcn, hls⟩
    rw [l9_3, den_loop]
    simp [b9_2, go_nil, go_last, go_past, go_pastR, go_blkN, go_blkR, go_blkE, go_skip, go_exit, go_ret, go_scope, go_seq, go_reg, go_block, go_cond, cnd_b, go_opsN, go_ops, go_opsG, grd_b, grd_u, stp_some, fin_some, up_some, cont_some, k_call, k_mv, k_pick, k_bin, k_eqB, k_eqA, k_not, k_neg, k_conv, k_alloc, k_boxA, k_boxI, k_boxB, k_boxN, k_boxBs, k_ldR, k_ldA, k_ldI, k_ldB, k_stA, k_stI, k_stB, ldC_some, stC_some, k_mkfn, k_slc, k_slcA, k_ixA, k_ixBs, k_ixSl, k_fadr, k_fld, k_ext, k_len, k_app, k_mn, k_mx, k_nilck, k_build, k_bsl1, k_bsl2, b_add, b_sub, b_mul, b_eql, b_neq, b_lss, b_leq, b_gtr, b_geq, Dn.setLast, Dn.getLast, evalO, mapO, Dn.get, putE, keepE, TV.one, TV.isAgg, Dn.part]
  | f + 1, i, m, H, J, h, hm, hJ, ho, hT0, hA, hcn, hls => by
    obtain ⟨hn1, hn2, hl, hf⟩ := chk_ok hc
    have hpw : 2 ^ n ≤ 65536 := by
      have : ∀ k : Nat, k ≤ 16 → 2 ^ k ≤ 65536 := by decide
      exact this n (by omega)
    have hm6 : m < 65536 := by omega
    have e1 : ((i : Int) < 16) := by omega
    have e2 : wrapR .i64 ((i : Int) + 1) = .i .i64 ((i : Int) + 1) := wrapR_i64 (by omega)
    obtain ⟨K, hK, hKl, f38⟩ := fn38i (pg := pg) hF hc hm6
    have c38 := fun H => Fn.call f38 (args := [LT false l, .i .i64 (m : Int)]) (ks := []) (fs := []) (cs := []) (H := H) (by simp [snapArgs, sn_i, LW_snap0])
    have hlK := LT_len false K
    by_cases hK0 : K = []
    · subst hK0
      have hl0 : ∀ H, lenK 0 (LT false []) H = some 0 := LT_len false []
      refine ⟨[(0, .i .i64 (n : Int)), (5, .ref 0 0), (7, LT false l), (8, P), (11, T), (12, .i .i64 (m : Int)), (13, .i .i64 (i : Int)), (14, LT false []), (78, .b true)], H, J, m, ?_, rfl, rfl, rfl, rfl, rfl, rfl, ho, hJ, hm, hA, fun k => by have := hcn k; omega, hls⟩
      rw [l9_3, den_loop]
      simp [b9_2, go_nil, go_last, go_past, go_pastR, go_blkN, go_blkR, go_blkE, go_skip, go_exit, go_ret, go_scope, go_seq, go_reg, go_block, go_cond, cnd_b, go_opsN, go_ops, go_opsG, grd_b, grd_u, stp_some, fin_some, up_some, cont_some, k_call, k_mv, k_pick, k_bin, k_eqB, k_eqA, k_not, k_neg, k_conv, k_alloc, k_boxA, k_boxI, k_boxB, k_boxN, k_boxBs, k_ldR, k_ldA, k_ldI, k_ldB, k_stA, k_stI, k_stB, ldC_some, stC_some, k_mkfn, k_slc, k_slcA, k_ixA, k_ixBs, k_ixSl, k_fadr, k_fld, k_ext, k_len, k_app, k_mn, k_mx, k_nilck, k_build, k_bsl1, k_bsl2, b_add, b_sub, b_mul, b_eql, b_neq, b_lss, b_leq, b_gtr, b_geq, Dn.setLast, Dn.getLast, evalO, mapO, Dn.get, putE, keepE, TV.one, TV.isAgg, Dn.part, e1, c38, hl0]
    · have hKn : 0 < K.length := List.length_pos_iff.2 hK0
      have hKne : ((K.length : Int) == 0) = false := by simp [hK0]
      have hAr : dkc pg (den pg) (.ld 1 false) [.ref 0 2] H = some (.i .i64 M, H) := by rw [k_ldR, hA]; rfl
      have e9 : wrapR .i64 (M + (i : Int)) = .i .i64 (IntKind.wrap .i64 (M + (i : Int))) := rfl
      have e10 : wrapR .u64 (IntKind.wrap .i64 (M + (i : Int))) = .i .u64 (IntKind.wrap .u64 (IntKind.wrap .i64 (M + (i : Int)))) := rfl
      have e11 : wrapR .u64 (K.length : Int) = .i .u64 (K.length : Int) := by unfold wrapR; simp [IntKind.wrap, IntKind.signed, IntKind.bits]; omega
      obtain ⟨ix, hix, hrem⟩ := idx_of (S := IntKind.wrap .i64 (M + (i : Int))) hKn (by omega)
      have e12 : wrapR .i64 (ix : Int) = .i .i64 (ix : Int) := wrapR_i64 (by omega)
      have hKi : K[ix]? = some K[ix] := List.getElem?_eq_getElem hix
      have hz := (hK _).1 (List.getElem_mem hix)
      generalize K[ix] = z at hKi hz
      obtain ⟨hzj, hcan⟩ := hz
      have hfj := js_fits hf z hzj
      have hhole : Hole3 z := Hole3.of hn2 hfj
      have hVK : elL.View H (LT false K) K := by rw [LT_lt]; exact El.lt_view _ _ _
      obtain ⟨r, hr, hat2, _⟩ := ixL (pg := pg) (R := den pg) hVK hKi
      have hldz := ldL (pg := pg) (R := den pg) hat2
      have hoz : elP.Arr (H ++ [cl z]) T J := ho.mono fun id h => by rw [List.getElem?_append_left (ho.lt id h)]
      have hTx : T.idOf ≠ some H.length := fun h => by have := ho.lt _ h; omega
      obtain ⟨e, H1, J1, r1, g0, g5, g7, g8, g11, g12, g13, g15, o1, lj1, l1, k1, c1⟩ := l9_1_all (pg := pg) (N := .i .i64 (n : Int)) (P := P) (NOW := .i .i64 (m : Int)) (I := .i .i64 (i : Int)) (xid := H.length) (z := z) hl
        (fun x hx => by have := hf x hx; unfold Fits at this; omega) hTx (i : Int) (by omega) l.length 0 (H ++ [cl z]) J (by omega) hJ hoz (getLast _ _) (fun k => (hcn k).1) (fun k _ => (hcn k).2)
      simp only [Int.natCast_zero] at r1
      have hcz : H1[H.length]? = some (cl z) := by rw [k1 _ hTx]; exact getLast _ _
      obtain ⟨rz, _⟩ := ld_cl (pg := pg) (R := den pg) hcz
      have c39 := fun H => Fn.call (fn39 hF hm6 hhole) (args := [.i .i64 (m : Int), lineTV z]) (ks := []) (fs := []) (cs := []) (H := H) (by simp [snapArgs, sn_i, snap_line _ _ 7])
      simp only [hcan, if_true] at c39
      obtain ⟨k0, hk0, hke⟩ := List.getElem_of_mem hzj
      have hk0' : (js l)[k0]? = some z := by rw [List.getElem?_eq_getElem hk0, hke]
      rw [js_len] at hk0
      have hnd := js_nodup hf (sorted_from (chk_from hc)).2
      have hc1' : ∀ k, k < 2 * l.length → cntAt J1 k = cntAt J k + (if jAt l k = z then 1 else 0) := by
        intro k hk
        rw [c1 k]
        by_cases hz2 : jAt l k = z
        · rw [if_pos ⟨by omega, hk, hz2⟩, if_pos hz2]
        · rw [if_neg (fun h => hz2 h.2.2), if_neg hz2]
      have hA1 : H1[0]? = some (.cells [A, B, .i .i64 M, C] true) := by
        rw [k1 0 hT0, List.getElem?_append_left (List.getElem?_eq_some_iff.1 hA).1]; exact hA
      obtain ⟨e', H', J', m', r2, rest⟩ := l9_3_all hF hc (P := P) (T := T) (p := p) (A := A) (B := B) (C := C) (M := M) f (i + 1) (leap m z) H1 J1 (by omega) (leap_ltn hm (by unfold FitsJ at hfj; omega)) lj1 o1 hT0 hA1
        (fun k => by rw [c1 k]; have := hcn k; split <;> omega)
        (fun h => by
          rw [loss_more hnd hk0' hc1' h _ (Nat.le_refl _), if_pos hk0, hls, leap_eff hm6 hfj hcan]
          omega)
      refine ⟨e', H', J', m', Eq.trans ?_ r2, rest⟩
      simp only [cl, lineTV] at r1 rz hldz c39
      rw [l9_3, den_loop]
      simp [l9_3, b9_2, go_nil, go_last, go_past, go_pastR, go_blkN, go_blkR, go_blkE, go_skip, go_exit, go_ret, go_scope, go_seq, go_reg, go_block, go_cond, cnd_b, go_opsN, go_ops, go_opsG, grd_b, grd_u, stp_some, fin_some, up_some, cont_some, k_call, k_mv, k_pick, k_bin, k_eqB, k_eqA, k_not, k_neg, k_conv, k_alloc, k_boxA, k_boxI, k_boxB, k_boxN, k_boxBs, k_ldR, k_ldA, k_ldI, k_ldB, k_stA, k_stI, k_stB, ldC_some, stC_some, k_mkfn, k_slc, k_slcA, k_ixA, k_ixBs, k_ixSl, k_fadr, k_fld, k_ext, k_len, k_app, k_mn, k_mx, k_nilck, k_build, k_bsl1, k_bsl2, b_add, b_sub, b_mul, b_eql, b_neq, b_lss, b_leq, b_gtr, b_geq, Dn.setLast, Dn.getLast, evalO, mapO, Dn.get, putE, keepE, TV.one, TV.isAgg, Dn.part, e1, e2, c38, hlK, hKne, hK0, hAr, e9, e10, e11, hrem, e12, hr, hldz, put2, go_denK (c := l9_1) rfl, r1, g0, g5, g7, g8, g11, g12, g13, g15, rz, c39]

theorem l9_5_all {pg : Pg} {l : List Line} {N P NOW T : TV} {a : Int} (ha : 1 ≤ a ∧ a ≤ 100) (hl : l.length ≤ 40) : ∀ (f i : Nat) (H : Heap) (J : List (Int × Int)), i + f = l.length → J.length = l.length → elP.Arr H T J → (∀ k, 2 * i ≤ k → 0 ≤ cntAt J k ∧ cntAt J k ≤ 16) →
    ∃ e H' J', den pg l9_5 [(0, N), (7, LT false l), (8, P), (11, T), (12, NOW), (17, .i .i64 a), (18, .i .i64 (i : Int))] H = some ⟨.exit 4, e, H'⟩ ∧ get e 0 = some N ∧ get e 7 = some (LT false l) ∧ get e 8 = some P ∧ get e 11 = some T ∧ get e 12 = some NOW ∧ get e 17 = some (.i .i64 a) ∧
      elP.Arr H' T J' ∧ J'.length = l.length ∧ ∀ k, cntAt J' k = if 2 * i ≤ k ∧ k < 2 * l.length then a * cntAt J k else cntAt J k
  | 0, i, H, J, h, hJ, ho, _ => by
    have e1 : ¬ ((i : Int) < (l.length : Int)) := by omega
    have hlen := LT_len false l
    refine ⟨[(0, N), (7, LT false l), (8, P), (11, T), (12, NOW), (17, .i .i64 a), (18, .i .i64 (i : Int)), (162, .b false)], H, J, ?_, rfl, rfl, rfl, rfl, rfl, rfl, ho, hJ, fun k => by rw [if_neg (by omega)]⟩
    rw [l9_5, den_loop]
    simp [b9_4, go_nil, go_last, go_past, go_pastR, go_blkN, go_blkR, go_blkE, go_skip, go_exit, go_ret, go_scope, go_seq, go_reg, go_block, go_cond, cnd_b, go_opsN, go_ops, go_opsG, grd_b, grd_u, stp_some, fin_some, up_some, cont_some, k_call, k_mv, k_pick, k_bin, k_eqB, k_eqA, k_not, k_neg, k_conv, k_alloc, k_boxA, k_boxI, k_boxB, k_boxN, k_boxBs, k_ldR, k_ldA, k_ldI, k_ldB, k_stA, k_stI, k_stB, ldC_some, stC_some, k_mkfn, k_slc, k_slcA, k_ixA, k_ixBs, k_ixSl, k_fadr, k_fld, k_ext, k_len, k_app, k_mn, k_mx, k_nilck, k_build, k_bsl1, k_bsl2, b_add, b_sub, b_mul, b_eql, b_neq, b_lss, b_leq, b_gtr, b_geq, Dn.setLast, Dn.getLast, evalO, mapO, Dn.get, putE, keepE, TV.one, TV.isAgg, Dn.part, hlen, e1]
  | f + 1, i, H, J, h, hJ, ho, hb => by
    have hi : i < l.length := by omega
    have e1 : ((i : Int) < (l.length : Int)) := by omega
    have e2 : wrapR .i64 ((i : Int) + 1) = .i .i64 ((i : Int) + 1) := wrapR_i64 (by omega)
    have hlen := LT_len false l
    have hj : J[i]? = some (J[i]'(by omega)) := List.getElem?_eq_getElem (by omega)
    generalize (J[i]'(by omega)) = c at hj
    have hsn := cnt_even hj
    have b0 := hb (2 * i) (by omega)
    have b1 := hb (2 * i + 1) (by omega)
    rw [hsn.1] at b0
    rw [hsn.2] at b1
    have hmm : ∀ z : Int, 0 ≤ z → z ≤ 16 → 0 ≤ a * z ∧ a * z ≤ 1600 := by
      intro z h0 h1
      refine ⟨Int.mul_nonneg (by omega) h0, ?_⟩
      have := Int.mul_le_mul (a := a) (b := z) (c := 100) (d := 16) ha.2 h1 h0 (by omega)
      omega
    have m1 := hmm _ b0.1 b0.2
    have m2 := hmm _ b1.1 b1.2
    have w1 : wrapR .i64 (a * c.1) = .i .i64 (a * c.1) := wrapR_i64 (by omega)
    have w2 : wrapR .i64 (a * c.2) = .i .i64 (a * c.2) := wrapR_i64 (by omega)
    obtain ⟨p, a1, a2, ⟨q0, d1, d2, _⟩, ⟨q1, d3, d4, _⟩⟩ := arrP (pg := pg) (R := den pg) ho hj
    obtain ⟨H1, a3, o1, l1, k1⟩ := a2 (a * c.1, a * c.2)
    obtain ⟨e, H', J', r2, g0, g7, g8, g11, g12, g17, o2, lj2, c2⟩ := l9_5_all (pg := pg) (N := N) (P := P) (NOW := NOW) ha hl f (i + 1) H1 _ (by omega) (by rw [List.length_set]; exact hJ) o1 (fun k hk => by rw [cnt_set hj, if_neg (by omega)]; exact hb k (by omega))
    refine ⟨e, H', J', Eq.trans ?_ r2, g0, g7, g8, g11, g12, g17, o2, lj2, fun k => ?_⟩
    · rw [l9_5, den_loop]
      simp [l9_5, b9_4, go_nil, go_last, go_past, go_pastR, go_blkN, go_blkR, go_blkE, go_skip, go_exit, go_ret, go_scope, go_seq, go_reg, go_block, go_cond, cnd_b, go_opsN, go_ops, go_opsG, grd_b, grd_u, stp_some, fin_some, up_some, cont_some, k_call, k_mv, k_pick, k_bin, k_eqB, k_eqA, k_not, k_neg, k_conv, k_alloc, k_boxA, k_boxI, k_boxB, k_boxN, k_boxBs, k_ldR, k_ldA, k_ldI, k_ldB, k_stA, k_stI, k_stB, ldC_some, stC_some, k_mkfn, k_slc, k_slcA, k_ixA, k_ixBs, k_ixSl, k_fadr, k_fld, k_ext, k_len, k_app, k_mn, k_mx, k_nilck, k_build, k_bsl1, k_bsl2, b_add, b_sub, b_mul, b_eql, b_neq, b_lss, b_leq, b_gtr, b_geq, Dn.setLast, Dn.getLast, evalO, mapO, Dn.get, putE, keepE, TV.one, TV.isAgg, Dn.part, hlen, e1, e2, a1, d1, d2, d3, d4, w1, w2, fillP, TV.cells, TV.one, put2, a3]
    · rw [c2 k, cnt_set hj]
      by_cases hk : k / 2 = i
      · have hnc : ¬ (2 * (i + 1) ≤ k ∧ k < 2 * l.length) := by omega
        have hcd : 2 * i ≤ k ∧ k < 2 * l.length := by omega
        rw [if_neg hnc, if_pos hk, if_pos hcd]
        rcases (by omega : k % 2 = 0 ∨ k % 2 = 1) with e | e
        · rw [if_pos e, show k = 2 * i by omega, hsn.1]
        · rw [if_neg (by omega), show k = 2 * i + 1 by omega, hsn.2]
      · rw [if_neg hk]
        by_cases hk2 : 2 * (i + 1) ≤ k ∧ k < 2 * l.length
        · rw [if_pos hk2, if_pos (by omega)]
        · rw [if_neg hk2, if_neg (by omega)]

end Go.Proofs.Try.Dn

/-
  PegDrafts: the whole run.
-/

namespace Go.Proofs.Try.Dn
open Go.Dn

/-- a value that holds pairs, by value -/
def Pairs (A : TV) (J : List (Int × Int)) : Prop := (∀ H, elP.View H A J) ∧ A.isAgg = false ∧ A.one = true

theorem Pairs.lt (b : Bool) (J : List (Int × Int)) : Pairs (elP.lt b J) J := by
  refine ⟨fun H => El.lt_view b J H, ?_, ?_⟩ <;> cases J <;> rfl
theorem Pairs.bs (b : Bool) (J : List (Int × Int)) : Pairs (.bs b 2 (J.map elP.val)) J := ⟨fun H => .inr (.inl ⟨b, rfl⟩), rfl, rfl⟩

theorem cnt_zero (n k : Nat) : cntAt (List.replicate n (0, 0)) k = 0 := by
  unfold cntAt
  rw [List.getD_eq_getElem?_getD, List.getElem?_replicate]
  split <;> split <;> rfl

theorem loss_zero {l : List Line} {J : List (Int × Int)} (h : ∀ k, cntAt J k = 0) (i : Nat) : ∀ K, lossS l J K i = 0
  | 0 => rfl
  | K + 1 => by
    unfold lossS
    rw [loss_zero h i K, h]
    unfold effJ
    simp

theorem bits_eq {n p m : Nat} (hp : p < 2 ^ n) (hm : m < 2 ^ n) (h : ∀ i, i < n → bt (p : Int) i = bt (m : Int) i) : p = m := by
  apply Nat.eq_of_testBit_eq
  intro i
  by_cases hi : i < n
  · have := h i hi
    rw [bt_test, bt_test] at this
    cases hp' : p.testBit i <;> cases hm' : m.testBit i <;> simp_all
  · have h1 : p.testBit i = false := Nat.testBit_lt_two_pow (Nat.lt_of_lt_of_le hp (Nat.pow_le_pow_right (by decide) (by omega)))
    have h2 : m.testBit i = false := Nat.testBit_lt_two_pow (Nat.lt_of_lt_of_le hm (Nat.pow_le_pow_right (by decide) (by omega)))
    rw [h1, h2]

set_option maxRecDepth 8000 in
theorem run9 {pg : Pg} (hF : Free pg) (h22 : Fn pg 22 [] (.b true)) (n : Int) (t : TV) (l : List Line) (P Q M : Int) (W : TV) (ws : List (Int × Int)) (ht : IsLines t l) (hW : ∀ H, elP.View H W ws) (hW1 : W.one = true) (hWa : W.isAgg = false) :
    ∃ H, bodyRun pg (den pg) 9 [.i .i64 n, t, .agg [.i .i64 P, .i .i64 Q, .i .i64 M, W]] [] = some (.b true, H) := by
  obtain ⟨N, m, hN1, hN2, hm, hc, h18⟩ := call18 hF (n := n) (most := 16) (many := 20) (by omega) ht (by omega)
  simp only [Int.cast_ofNat_Int] at h18
  obtain ⟨k, rfl⟩ : ∃ k : Nat, N = (k : Int) := ⟨N.toNat, by omega⟩
  have hk : k ≤ 16 := by omega
  have e3 : ∀ v, wrapR .u64 v = .i .u64 (IntKind.wrap .u64 v) := fun _ => rfl
  have hrp := posOf_range hk P
  have hrq := posOf_range hk Q
  have h2 : ¬ (2 : Int) ^ k = 0 := by omega
  have hlenW := fun H H' => (hW H).lenK H'
  have hpp := posOf_i64 hk P
  have hpq := posOf_i64 hk Q
  have hsh := b_shlu hk
  have hcast : ((2 ^ k : Nat) : Int) = (2 : Int) ^ k := by simp
  obtain ⟨p, hp⟩ : ∃ p : Nat, posOf k P = (p : Int) := ⟨(posOf k P).toNat, by omega⟩
  obtain ⟨q, hq⟩ : ∃ q : Nat, posOf k Q = (q : Int) := ⟨(posOf k Q).toNat, by omega⟩
  rw [hp] at hrp hpp
  rw [hq] at hrq hpq
  have hpk : p < 2 ^ k := by omega
  obtain ⟨hn1, hn2, hl40, hfit⟩ := chk_ok hc
  let H0 : Heap := [.cells [.i .i64 P, .i .i64 Q, .i .i64 M, W] true]
  obtain ⟨kk, hkk⟩ : ∃ kk, kk = min ws.length 41 := ⟨_, rfl⟩
  obtain ⟨v, s1, w1, _⟩ := (hW H0).slc (lo := 0) (hi := kk) (bl := false) (bh := true) (vs := [.i .i64 (kk : Int)]) (Nat.zero_le _) (by omega) (by simp [bounds3, bound])
  obtain ⟨t1, H1, a1, o1, l1, k1, _⟩ := El.app (E := elP) (bytes := 16) (H := H0) (t := .nilsl) (l := []) (.inl ⟨rfl, rfl⟩) w1 (by simp; omega)
  have s1' : slcRun false true false 2 true W [.i .i64 (kk : Int)] = some v := s1
  have a1' : appRun 2 true 16 .nilsl v [.cells [.i .i64 P, .i .i64 Q, .i .i64 M, W] true] = some (t1, H1) := a1
  simp only [List.nil_append] at o1
  obtain ⟨J, hJe⟩ : ∃ J, J = List.drop 0 (List.take kk ws) := ⟨_, rfl⟩
  rw [← hJe] at o1
  have hmin2 : (if (41 : Int) < (ws.length : Int) then (41 : Int) else (ws.length : Int)) = (kk : Int) := by split <;> omega
  have c22 := fun H => Fn.call h22 (args := []) (ks := []) (fs := []) (cs := []) (H := H) (by simp [snapArgs])
  have hs1 := o1.snap elP_flat
  have hPJ := Pairs.lt true J
  have c36a := Fn.call (fn36 hF hc (p := p) (q := q) (m := M) (by omega) (by omega) hPJ.1 hPJ.2.1 hPJ.2.2) (args := [.i .i64 (k : Int), LT false m, .i .i64 (p : Int), .i .i64 (q : Int), .i .i64 M, t1]) (ks := []) (fs := []) (cs := []) (H := H1) (by simp [snapArgs, sn_i, LW_snap0, hs1])
  have c37 := Fn.call (fn37 hF hc (p := p) (q := q) (m := M) (J := J) (by omega) (by omega)) (args := [.i .i64 (k : Int), LT false m, .i .i64 (p : Int), .i .i64 (q : Int), .i .i64 M, t1]) (ks := []) (fs := []) (cs := []) (H := H1) (by simp [snapArgs, sn_i, LW_snap0, hs1, PT])
  -- the plan
  have hmk := k_mksl (pg := pg) (R := den pg) [.i .i64 0, .i .i64 0] true 16 .i64 .i64 m.length H1 (by omega) (by omega)
  have oT := El.arr_mksl elP H1 (0, 0) m.length
  have hlm := LT_len false m
  have hT0 : (TV.sl H1.length 0 2 true m.length (some m.length)).idOf ≠ some 0 := by
    have : 1 ≤ H1.length := l1
    simp [TV.idOf]; intro h; rw [h] at this; simp at this
  have hA1 : H1[0]? = some (.cells [.i .i64 P, .i .i64 Q, .i .i64 M, W] true) := by
    rw [k1 0 (by simp [H0]) (by simp [TV.idOf])]; rfl
  have hA2 : (H1 ++ [AObj.cells (repl [.i .i64 0, .i .i64 0] m.length) false])[0]? = some (.cells [.i .i64 P, .i .i64 Q, .i .i64 M, W] true) := by
    rw [List.getElem?_append_left (List.getElem?_eq_some_iff.1 hA1).1]; exact hA1
  obtain ⟨T, hTe⟩ : ∃ T, T = TV.sl H1.length 0 2 true m.length (some m.length) := ⟨_, rfl⟩
  have hmk' : dkc pg (den pg) (.mksl [.i .i64 0, .i .i64 0] true 16) [.i .i64 (m.length : Int), .i .i64 (m.length : Int)] H1 = some (T, H1 ++ [AObj.cells (repl [.i .i64 0, .i .i64 0] m.length) false]) := by rw [hTe]; exact hmk
  change elP.Arr (H1 ++ [AObj.cells (repl [.i .i64 0, .i .i64 0] m.length) false]) (.sl H1.length 0 2 true m.length (some m.length)) _ at oT
  rw [← hTe] at oT hT0
  obtain ⟨e, H2, J2, now, r2, g0, g5, g7, g8, g11, g12, o2, lj2, hnow, hA, hcn, hls⟩ := l9_3_all hF hc (P := .i .i64 (p : Int)) (T := T) (p := (p : Int)) 16 0 p _ _ (by omega) hpk (by simp) oT hT0 hA2 (fun k => by rw [cnt_zero]; omega) (fun h => by rw [loss_zero (fun k => cnt_zero _ k)]; omega)
  simp only [Int.natCast_zero] at r2
  have hs2 := o2.snap elP_flat
  have hP2 := Pairs.bs true J2
  have hnk : (now : Int) < (2 : Int) ^ k := by omega
  have c36 := fun (a : Int) => Fn.call (fn36 hF hc (p := p) (q := now) (m := a) (by omega) (by omega) hP2.1 hP2.2.1 hP2.2.2) (args := [.i .i64 (k : Int), LT false m, .i .i64 (p : Int), .i .i64 (now : Int), .i .i64 a, T]) (ks := []) (fs := []) (cs := []) (H := H2) (by simp [snapArgs, sn_i, LW_snap0, hs2, elP])
  have b1 : planB k m (p : Int) now 1 J2 = true := by
    rw [planB_iff]
    refine ⟨by omega, by omega, lj2, okC_cnt.2 fun i _ => by have := hcn i; omega, fun h _ => by rw [hls]; omega⟩
  have b0 : planB k m (p : Int) now 0 J2 = false := by rw [Bool.eq_false_iff]; intro h; rw [planB_iff] at h; omega
  have c1 := c36 1
  have c0 := c36 0
  rw [b1] at c1
  rw [b0] at c0
  -- many times
  have hu : 0 ≤ IntKind.wrap .u64 M := by simp [IntKind.wrap, IntKind.signed, IntKind.bits]; omega
  obtain ⟨z, hz0, hz1, hz⟩ : ∃ z : Int, 0 ≤ z ∧ z < 100 ∧ Int.tmod (IntKind.wrap .u64 M) 100 = z := by
    refine ⟨_, ?_, ?_, rfl⟩ <;> rw [Int.tmod_eq_emod_of_nonneg hu]
    · exact Int.emod_nonneg _ (by decide)
    · exact Int.emod_lt_of_pos _ (by decide)
  have hrm : binI .rem (.i .u64 (IntKind.wrap .u64 M)) (.i .u64 100) = some (.i .u64 z) := by rw [b_rem, if_neg (by decide), hz]
  have ez : wrapR .i64 z = .i .i64 z := wrapR_i64 (by omega)
  have ez1 : wrapR .i64 (1 + z) = .i .i64 (1 + z) := wrapR_i64 (by omega)
  have ez2 : wrapR .i64 (1 + z + 1) = .i .i64 (1 + z + 1) := wrapR_i64 (by omega)
  have hMr : dkc pg (den pg) (.ld 1 false) [.ref 0 2] H2 = some (.i .i64 M, H2) := by rw [k_ldR, hA]; rfl
  have hMr1 : dkc pg (den pg) (.ld 1 false) [.ref 0 2] H1 = some (.i .i64 M, H1) := by rw [k_ldR, hA1]; rfl
  obtain ⟨e', H3, J3, r3, q0, q7, q8, q11, q12, q17, o3, lj3, hc3⟩ := l9_5_all (pg := pg) (N := .i .i64 (k : Int)) (P := .i .i64 (p : Int)) (NOW := .i .i64 (now : Int)) (T := T) (a := 1 + z) (by omega) hl40 m.length 0 H2 J2 (by omega) lj2 o2 (fun i _ => hcn i)
  simp only [Int.natCast_zero] at r3
  have hc3' : ∀ i, cntAt J3 i = (1 + z) * cntAt J2 i := by
    intro i
    rw [hc3]
    by_cases hi : i < 2 * m.length
    · rw [if_pos ⟨by omega, hi⟩]
    · rw [if_neg (fun h => hi h.2)]
      have hg : J2[i / 2]? = none := List.getElem?_eq_none (by omega)
      have : cntAt J2 i = 0 := by unfold cntAt; rw [List.getD_eq_getElem?_getD, hg]; split <;> rfl
      rw [this]; simp
  have hs3 := o3.snap elP_flat
  have hP3 := Pairs.bs true J3
  have c36' := fun (a : Int) => Fn.call (fn36 hF hc (p := p) (q := now) (m := a) (by omega) (by omega) hP3.1 hP3.2.1 hP3.2.2) (args := [.i .i64 (k : Int), LT false m, .i .i64 (p : Int), .i .i64 (now : Int), .i .i64 a, T]) (ks := []) (fs := []) (cs := []) (H := H3) (by simp [snapArgs, sn_i, LW_snap0, hs3, elP])
  have hls3 : ∀ h, lossS m J3 (2 * m.length) h = (1 + z) * (bt (p : Int) h - bt (now : Int) h) := fun h => by rw [loss_times hc3', hls]
  have hmm : ∀ x : Int, 0 ≤ x → x ≤ 16 → 0 ≤ (1 + z) * x ∧ (1 + z) * x ≤ 1600 := by
    intro x h0 h1
    refine ⟨Int.mul_nonneg (by omega) h0, ?_⟩
    have := Int.mul_le_mul (a := 1 + z) (b := x) (c := 100) (d := 16) (by omega) h1 h0 (by omega)
    omega
  have b3 : planB k m (p : Int) now (1 + z) J3 = true := by
    rw [planB_iff]
    refine ⟨by omega, by omega, lj3, okC_cnt.2 fun i _ => by rw [hc3']; have := hcn i; have := hmm _ this.1 this.2; omega, fun h _ => hls3 h⟩
  have c3 := c36' (1 + z)
  rw [b3] at c3
  have hbox : ∀ H, dkc pg (den pg) (.box true) [.agg [.i .i64 P, .i .i64 Q, .i .i64 M, W]] H = some (.ref H.length 0, H ++ [.cells [.i .i64 P, .i .i64 Q, .i .i64 M, W] true]) := fun H => k_boxA _ _ (by rw [List.all_cons, List.all_cons, List.all_cons, List.all_cons, hW1]; rfl)
  have hag := hWa
  unfold TV.isAgg at hag
  refine ⟨H3, bodyRun_of (o := ⟨.ret, [(6, .b true)], H3⟩) (vs := [.b true]) (d := d9) (by rw [hF.F]; rfl) rfl ?_ (by simp) rfl⟩
  rw [runC_go]
  by_cases hpn : p = now
  · have hpn' : ((now : Int) == (p : Int)) = true := by simp [hpn]
    simp [d9, c9, zipE, go_nil, go_last, go_past, go_pastR, go_blkN, go_blkR, go_blkE, go_skip, go_exit, go_ret, go_scope, go_seq, go_reg, go_block, go_cond, cnd_b, go_opsN, go_ops, go_opsG, grd_b, grd_u, stp_some, fin_some, up_some, cont_some, k_call, k_mv, k_pick, k_bin, k_eqB, k_eqA, k_not, k_neg, k_conv, k_alloc, k_boxA, k_boxI, k_boxB, k_boxN, k_boxBs, k_ldR, k_ldA, k_ldI, k_ldB, k_stA, k_stI, k_stB, ldC_some, stC_some, k_mkfn, k_slc, k_slcA, k_ixA, k_ixBs, k_ixSl, k_fadr, k_fld, k_ext, k_len, k_app, k_mn, k_mx, k_nilck, k_build, k_bsl1, k_bsl2, b_add, b_sub, b_mul, b_eql, b_neq, b_lss, b_leq, b_gtr, b_geq, Dn.setLast, Dn.getLast, evalO, mapO, Dn.get, putE, keepE, TV.one, TV.isAgg, Dn.part, hbox, h18, e3, hsh, b_rem, h2, hpp, hpq, hlenW [], hag, hmin2, s1', a1', hMr1, c36a, c37, negb, hlm, hmk', go_denK (c := l9_3) rfl, r2, g0, g5, g7, g8, g11, g12, c1, c0, hMr, hz, ez, ez1, go_denK (c := l9_5) rfl, r3, q0, q7, q8, q11, q12, q17, c3, hpn', c22]
  · have hpn' : ((now : Int) == (p : Int)) = false := by simp; omega
    have b4 : planB k m (p : Int) now (1 + z + 1) J3 = false := by
      rw [Bool.eq_false_iff]
      intro h
      rw [planB_iff] at h
      apply hpn
      refine bits_eq hpk hnow fun i hi => ?_
      have h4 := h.2.2.2.2 i hi
      rw [hls3 i, Int.add_mul (1 + z) 1] at h4
      omega
    have c4 := c36' (1 + z + 1)
    rw [b4] at c4
    simp [d9, c9, zipE, go_nil, go_last, go_past, go_pastR, go_blkN, go_blkR, go_blkE, go_skip, go_exit, go_ret, go_scope, go_seq, go_reg, go_block, go_cond, cnd_b, go_opsN, go_ops, go_opsG, grd_b, grd_u, stp_some, fin_some, up_some, cont_some, k_call, k_mv, k_pick, k_bin, k_eqB, k_eqA, k_not, k_neg, k_conv, k_alloc, k_boxA, k_boxI, k_boxB, k_boxN, k_boxBs, k_ldR, k_ldA, k_ldI, k_ldB, k_stA, k_stI, k_stB, ldC_some, stC_some, k_mkfn, k_slc, k_slcA, k_ixA, k_ixBs, k_ixSl, k_fadr, k_fld, k_ext, k_len, k_app, k_mn, k_mx, k_nilck, k_build, k_bsl1, k_bsl2, b_add, b_sub, b_mul, b_eql, b_neq, b_lss, b_leq, b_gtr, b_geq, Dn.setLast, Dn.getLast, evalO, mapO, Dn.get, putE, keepE, TV.one, TV.isAgg, Dn.part, hbox, h18, e3, hsh, b_rem, h2, hpp, hpq, hlenW [], hag, hmin2, s1', a1', hMr1, c36a, c37, negb, hlm, hmk', go_denK (c := l9_3) rfl, r2, g0, g5, g7, g8, g11, g12, c1, c0, hMr, hz, ez, ez1, ez2, go_denK (c := l9_5) rfl, r3, q0, q7, q8, q11, q12, q17, c3, hpn', c4, c22]

end Go.Proofs.Try.Dn

/-
  Drafts, as arguments, by value.
-/

namespace Go.Proofs.Try.Dn
open Go.Dn Go.ChangeShapes Go.WideShapes Go.ChangeAt Go.RowKit

theorem allQ4 {Q1 Q2 Q3 Q4 : List TV → Prop} : ∀ {ls : List (List TV)}, AllQ [Q1, Q2, Q3, Q4] ls → ∃ a b c d, ls = [a, b, c, d] ∧ Q1 a ∧ Q2 b ∧ Q3 c ∧ Q4 d
  | [], h => by cases h
  | [a], h => by cases h.2
  | [a, b], h => by cases h.2.2
  | [a, b, c], h => by cases h.2.2.2
  | [a, b, c, d], h => ⟨a, b, c, d, rfl, h.1, h.2.1, h.2.2.1, h.2.2.2.1⟩
  | _ :: _ :: _ :: _ :: _ :: _, h => by cases h.2.2.2.2

theorem cells59 : Try.prog.cellsOf 59 = 1 := by kernel_rfl
theorem cells61 : Try.prog.cellsOf 61 = 4 := by kernel_rfl
theorem agg61 : aggT Try.prog 61 = true := by kernel_rfl

/-- pairs, as an argument -/
def IsPairs (t : TV) (l : List (Int × Int)) : Prop := (t = .nilsl ∧ l = [] ∨ t = .bs false 2 (l.map elP.val)) ∧ l.length ≤ maxLen

theorem IsPairs.view {t : TV} {l : List (Int × Int)} (h : IsPairs t l) (H : Heap) : elP.View H t l := by
  rcases h.1 with ⟨rfl, rfl⟩ | rfl
  · exact .inl ⟨rfl, rfl⟩
  · exact .inr (.inl ⟨false, rfl⟩)
theorem IsPairs.one {t : TV} {l : List (Int × Int)} (h : IsPairs t l) : t.one = true := by
  rcases h.1 with ⟨rfl, rfl⟩ | rfl <;> rfl
theorem IsPairs.noagg {t : TV} {l : List (Int × Int)} (h : IsPairs t l) : t.isAgg = false := by
  rcases h.1 with ⟨rfl, rfl⟩ | rfl <;> rfl

section
variable {H : Type} {enc : TypeId × Value → H} {w : World} {sp : Nat → Bool} {held : Bool}

theorem pairs_of : ∀ {l : List (List TV)}, (∀ x, x ∈ l → ∃ p q, x = [.i .i64 p, .i .i64 q]) → ∃ m : List (Int × Int), l.map TV.agg = m.map elP.val ∧ m.length = l.length
  | [], _ => ⟨[], rfl, rfl⟩
  | a :: l, h => by
    obtain ⟨p, q, rfl⟩ := h a (by simp)
    obtain ⟨m, h1, h2⟩ := pairs_of (l := l) fun x hx => h x (List.mem_cons_of_mem _ hx)
    exact ⟨(p, q) :: m, by simp only [List.map_cons, h1]; rfl, by simp [h2]⟩

theorem reads59 : Reads enc Try.prog w sp held 59 fun ts => ∃ t l, ts = [t] ∧ IsPairs t l := by
  intro fuel cs x h
  obtain ⟨ts, h1, h2⟩ := reads_slice (mk := TV.agg) Try.underlying59 (by rw [cells23]; decide) reads23 (fun ts _ => rfl) fuel cs x h
  rcases h2 with rfl | ⟨l, rfl, hl, h3⟩
  · exact ⟨_, h1, .nilsl, [], rfl, .inl ⟨rfl, rfl⟩, by simp⟩
  · obtain ⟨m, k1, k2⟩ := pairs_of fun x hx => (h3 x hx).1
    exact ⟨_, h1, _, m, rfl, .inr (by rw [← k1, cells23]), by omega⟩

theorem reads61 : Reads enc Try.prog w sp held 61 fun ts => ∃ p q m t l, ts = [.i .i64 p, .i .i64 q, .i .i64 m, t] ∧ IsPairs t l := by
  intro fuel cs x h
  obtain ⟨ts, h1, ls, h2, rfl⟩ := reads_struct (Qs := [_, _, _, _]) Try.underlying61 (by rw [cells61]; simp [Tile, cells3, cells59]) ⟨reads3, reads3, reads3, reads59, trivial⟩ fuel cs x h
  obtain ⟨a, b, c, d, rfl, ⟨n, rfl, _⟩, ⟨m, rfl, _⟩, ⟨k, rfl, _⟩, ⟨t, l, rfl, hl⟩⟩ := allQ4 h2
  exact ⟨_, h1, n, m, k, t, l, rfl, hl⟩
end

end Go.Proofs.Try.Dn

