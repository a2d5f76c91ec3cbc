/-
  Jumps: bits of positions; after and Jump.
-/
import Derived.Test.YtegihfgibonhpaaPd
set_option linter.unusedSimpArgs false
set_option linter.unusedVariables false

namespace Go.Proofs.Try.Dn
open Go.Dn

def nd (m k : Nat) : Nat := (BitVec.ofNat 64 m &&& ~~~BitVec.ofNat 64 k).toNat

theorem nd_le (m k : Nat) : nd m k ≤ m := by
  unfold nd
  rw [BitVec.toNat_and]
  refine Nat.le_trans Nat.and_le_left ?_
  simp
  exact Nat.mod_le _ _

theorem ofInt_nat (m : Nat) : BitVec.ofInt 64 (m : Int) = BitVec.ofNat 64 m := by simp

theorem and_eq {m k : Nat} (hm : m < 65536) (hk : k < 65536) : binI .and (.i .i64 (m : Int)) (.i .i64 (k : Int)) = some (.i .i64 ((m &&& k : Nat) : Int)) := by
  have h1 : (m &&& k) ≤ m := Nat.and_le_left
  have : ((BitVec.ofInt 64 (m : Int)) &&& (BitVec.ofInt 64 (k : Int))).toNat = m &&& k := by
    rw [ofInt_nat, ofInt_nat, BitVec.toNat_and]
    simp only [BitVec.toNat_ofNat]
    rw [Nat.mod_eq_of_lt (by omega : m < 2 ^ 64), Nat.mod_eq_of_lt (by omega : k < 2 ^ 64)]
  rw [show binI .and (.i .i64 (m : Int)) (.i .i64 (k : Int)) = some (wrapR .i64 ((BitVec.ofInt 64 (m : Int)) &&& (BitVec.ofInt 64 (k : Int))).toNat) from rfl, this, gX82 (by omega)]

theorem or_eq {m k : Nat} (hm : m < 65536) (hk : k < 65536) : binI .or (.i .i64 (m : Int)) (.i .i64 (k : Int)) = some (.i .i64 ((m ||| k : Nat) : Int)) := by
  have h1 : (m ||| k) < 2 ^ 16 := Nat.or_lt_two_pow hm hk
  have : ((BitVec.ofInt 64 (m : Int)) ||| (BitVec.ofInt 64 (k : Int))).toNat = m ||| k := by
    rw [ofInt_nat, ofInt_nat, BitVec.toNat_or]
    simp only [BitVec.toNat_ofNat]
    rw [Nat.mod_eq_of_lt (by omega : m < 2 ^ 64), Nat.mod_eq_of_lt (by omega : k < 2 ^ 64)]
  rw [show binI .or (.i .i64 (m : Int)) (.i .i64 (k : Int)) = some (wrapR .i64 ((BitVec.ofInt 64 (m : Int)) ||| (BitVec.ofInt 64 (k : Int))).toNat) from rfl, this, gX82 (by omega)]

theorem nd_eq {m k : Nat} (hm : m < 65536) : binI .andNot (.i .i64 (m : Int)) (.i .i64 (k : Int)) = some (.i .i64 ((nd m k : Nat) : Int)) := by
  have h1 := nd_le m k
  rw [show binI .andNot (.i .i64 (m : Int)) (.i .i64 (k : Int)) = some (wrapR .i64 ((BitVec.ofInt 64 (m : Int)) &&& ~~~(BitVec.ofInt 64 (k : Int))).toNat) from rfl, ofInt_nat, ofInt_nat, show (BitVec.ofNat 64 m &&& ~~~BitVec.ofNat 64 k).toNat = nd m k from rfl, gX82 (by omega)]

theorem bt_test (m i : Nat) : bt (m : Int) i = if m.testBit i then 1 else 0 := by
  have h : bt (m : Int) i = ((m / 2 ^ i % 2 : Nat) : Int) := by
    unfold bt
    simp
  rw [h, Nat.testBit_eq_decide_div_mod_eq]
  split
  · rename_i h; simp at h; rw [h]; rfl
  · rename_i h; simp at h; rw [h]; rfl

theorem two_lt {a : Nat} (h : a < 16) : 2 ^ a < 65536 := by
  have : ∀ k : Nat, k < 16 → 2 ^ k < 65536 := by decide
  exact this a h

theorem and_two {m a b : Nat} : m &&& (2 ^ a ||| 2 ^ b) = 2 ^ a ||| 2 ^ b ↔ m.testBit a = true ∧ m.testBit b = true := by
  constructor
  · intro h
    have h1 := congrArg (·.testBit a) h
    have h2 := congrArg (·.testBit b) h
    simp [Nat.testBit_and, Nat.testBit_or, Nat.testBit_two_pow_self] at h1 h2
    exact ⟨h1, h2⟩
  · intro ⟨h1, h2⟩
    apply Nat.eq_of_testBit_eq
    intro i
    rw [Nat.testBit_and]
    by_cases hi : (2 ^ a ||| 2 ^ b).testBit i = true
    · rw [hi, Bool.and_true]
      rw [Nat.testBit_or, Nat.testBit_two_pow, Nat.testBit_two_pow] at hi
      simp at hi
      rcases hi with rfl | rfl <;> assumption
    · simp only [Bool.not_eq_true] at hi
      rw [hi, Bool.and_false]

theorem and_one_bit {m c : Nat} : m &&& 2 ^ c = 0 ↔ m.testBit c = false := by
  constructor
  · intro h
    have h1 := congrArg (·.testBit c) h
    simpa [Nat.testBit_and, Nat.testBit_two_pow_self] using h1
  · intro h
    apply Nat.eq_of_testBit_eq
    intro i
    rw [Nat.testBit_and, Nat.testBit_two_pow]
    by_cases hi : c = i
    · subst hi; simp [h]
    · simp [hi]

def can (m : Nat) (j : Line) : Bool := m.testBit j.1.toNat && m.testBit j.2.1.toNat && !m.testBit j.2.2.toNat
def leap (m : Nat) (j : Line) : Nat := nd m (2 ^ j.1.toNat ||| 2 ^ j.2.1.toNat) ||| 2 ^ j.2.2.toNat

theorem leap_lt {m : Nat} {j : Line} (hm : m < 65536) (hj : j.2.2.toNat < 16) : leap m j < 65536 := by
  have h1 := nd_le m (2 ^ j.1.toNat ||| 2 ^ j.2.1.toNat)
  exact Nat.or_lt_two_pow (n := 16) (by omega) (two_lt hj)

theorem shl_eq {k : IntKind} {a : Int} (h0 : 0 ≤ a) (h1 : a < 16) : binI .shl (.i .i64 1) (.i k a) = some (.i .i64 ((2 ^ a.toNat : Nat) : Int)) := by
  have h2 : ¬ a < 0 := by omega
  have h3 : min a.toNat 64 = a.toNat := by omega
  have h4 := two_lt (a := a.toNat) (by omega)
  have h5 : wrapR .i64 ((2 : Int) ^ a.toNat) = .i .i64 ((2 ^ a.toNat : Nat) : Int) := by
    rw [show ((2 : Int) ^ a.toNat) = ((2 ^ a.toNat : Nat) : Int) by simp]
    generalize 2 ^ a.toNat = z at h4 ⊢
    exact gX82 (by omega)
  simp only [binI, if_neg h2, IntKind.bits, h3, Int.one_mul, h5]

theorem u64_hole {a : Int} (h0 : 0 ≤ a) (h1 : a < 16) : wrapR .u64 a = .i .u64 a := by
  unfold wrapR; simp [IntKind.wrap, IntKind.signed, IntKind.bits]; omega

def Hole3 (j : Line) : Prop := 0 ≤ j.1 ∧ j.1 < 16 ∧ 0 ≤ j.2.1 ∧ j.2.1 < 16 ∧ 0 ≤ j.2.2 ∧ j.2.2 < 16

theorem Hole3.of {n : Int} {j : Line} (hn : n ≤ 16) (h : FitsJ n j) : Hole3 j := by
  unfold FitsJ at h; unfold Hole3; omega

theorem fn65 {pg : Pg} (hF : Free pg) {m : Nat} {j : Line} (hm : m < 65536) (hj : Hole3 j) : Fn pg 65 [lineTV j, .i .i64 (m : Int)] (.tup [.i .i64 (if can m j then (leap m j : Int) else 0), .b (can m j)]) := by
  obtain ⟨a, b, c⟩ := j
  obtain ⟨f1, f2, f3, f4, f5, f6⟩ := hj
  simp only at f1 f2 f3 f4 f5 f6
  have ta := two_lt (a := a.toNat) (by omega)
  have tb := two_lt (a := b.toNat) (by omega)
  have tc := two_lt (a := c.toNat) (by omega)
  have tab : 2 ^ a.toNat ||| 2 ^ b.toNat < 65536 := Nat.or_lt_two_pow (n := 16) ta tb
  have hor := or_eq ta tb
  have hand := and_eq hm tab
  have hand2 := and_eq hm tc
  have hnd := nd_eq (k := 2 ^ a.toNat ||| 2 ^ b.toNat) hm
  have hor2 := or_eq (m := nd m (2 ^ a.toNat ||| 2 ^ b.toNat)) (k := 2 ^ c.toNat) (by have := nd_le m (2 ^ a.toNat ||| 2 ^ b.toNat); omega) tc
  have ha := shl_eq (k := .u64) f1 f2
  have hb := shl_eq (k := .u64) f3 f4
  have hcc := shl_eq (k := .u64) f5 f6
  have ua := u64_hole f1 f2
  have ub := u64_hole f3 f4
  have uc := u64_hole f5 f6
  generalize hA : 2 ^ a.toNat ||| 2 ^ b.toNat = A at *
  generalize hC : 2 ^ c.toNat = C at *
  generalize hTA : 2 ^ a.toNat = TA at *
  generalize hTB : 2 ^ b.toNat = TB at *
  by_cases h1 : m &&& A = A
  · by_cases h2 : m &&& C = 0
    · have hcan : can m (a, b, c) = true := by
        have k1 := (and_two (m := m) (a := a.toNat) (b := b.toNat)).1 (by rw [hTA, hTB, hA]; exact h1)
        have k2 := (and_one_bit (m := m) (c := c.toNat)).1 (by rw [hC]; exact h2)
        simp [can, k1, k2]
      have hl : leap m (a, b, c) = nd m A ||| C := by simp only [leap, hTA, hTB, hA, hC]
      rw [hcan]
      have b1 : (((m &&& A : Nat) : Int) != ((A : Nat) : Int)) = false := by simp [h1]
      have b2 : (((m &&& C : Nat) : Int) != 0) = false := by simp [h2]
      refine .of2 (x := .ret) (e := [(4, .i .i64 ((nd m A ||| C : Nat) : Int)), (5, .b true)]) (H' := [.cells [.i .i64 a, .i .i64 b, .i .i64 c] true]) (hF.S _ _ (by decide)) (d := d65) (by rw [hF.F]; rfl) rfl ?_ (.inl rfl) (by simp [d65, mapO, resRun, Dn.get, hl]) (by simp) (by simp [sn_i, sn_b, gX92, gXa2, gXb2, gXc2, gXd2, gXe2, gXf2, gXg2, gXh2, gXi2, gXj2, gXk2, mapO, elems])
      simp [d65, c65, zipE, gX0, gX1, gX2, gX3, gX4, gX5, gX6, gX7, gX8, gX9, gXa, gXb, gXc, gXd, gXe, gXf, gXg, gXh, gXi, gXj, gXk, gXl, gXm, gXn, gXo, gXp, gXq, gXr, gXs, gXt, gXu, gXv, gXw, gXx, k_mv, gXy, gXz, gX01, gX11, gX21, gX31, gX41, gX51, gX61, gX71, gX81, gX91, gXa1, gXb1, gXc1, gXd1, gXe1, gXf1, gXg1, gXh1, gXi1, gXj1, gXk1, gXl1, gXm1, gXn1, gXo1, gXp1, gXq1, gXr1, gXs1, gXt1, gXu1, k_mn, k_mx, gXv1, gXw1, gXx1, gXy1, gXz1, gX02, gX12, gX22, gX32, gX42, gX52, gX62, gX72, Dn.setLast, Dn.getLast, evalO, mapO, Dn.get, putE, keepE, TV.one, TV.isAgg, Dn.part, lineTV, ua, ub, uc, ha, hb, hcc, hor, hand, hand2, hnd, hor2, h1, h2]
    · have hcan : can m (a, b, c) = false := by
        have k2 := mt (and_one_bit (m := m) (c := c.toNat)).2 (by rw [hC]; exact h2)
        simp [can] at k2 ⊢
        intro _ _; exact k2
      rw [hcan]
      refine .of2 (x := .ret) (e := [(4, .i .i64 0), (5, .b false)]) (H' := [.cells [.i .i64 a, .i .i64 b, .i .i64 c] true]) (hF.S _ _ (by decide)) (d := d65) (by rw [hF.F]; rfl) rfl ?_ (.inl rfl) (by simp [d65, mapO, resRun, Dn.get]) (by simp) (by simp [sn_i, sn_b, gX92, gXa2, gXb2, gXc2, gXd2, gXe2, gXf2, gXg2, gXh2, gXi2, gXj2, gXk2, mapO, elems])
      have b2 : (((m &&& C : Nat) : Int) != 0) = true := by simp; omega
      simp [d65, c65, zipE, gX0, gX1, gX2, gX3, gX4, gX5, gX6, gX7, gX8, gX9, gXa, gXb, gXc, gXd, gXe, gXf, gXg, gXh, gXi, gXj, gXk, gXl, gXm, gXn, gXo, gXp, gXq, gXr, gXs, gXt, gXu, gXv, gXw, gXx, k_mv, gXy, gXz, gX01, gX11, gX21, gX31, gX41, gX51, gX61, gX71, gX81, gX91, gXa1, gXb1, gXc1, gXd1, gXe1, gXf1, gXg1, gXh1, gXi1, gXj1, gXk1, gXl1, gXm1, gXn1, gXo1, gXp1, gXq1, gXr1, gXs1, gXt1, gXu1, k_mn, k_mx, gXv1, gXw1, gXx1, gXy1, gXz1, gX02, gX12, gX22, gX32, gX42, gX52, gX62, gX72, Dn.setLast, Dn.getLast, evalO, mapO, Dn.get, putE, keepE, TV.one, TV.isAgg, Dn.part, lineTV, ua, ub, uc, ha, hb, hcc, hor, hand, hand2, hnd, hor2, h1, b2]
  · have hcan : can m (a, b, c) = false := by
      have k2 := mt (and_two (m := m) (a := a.toNat) (b := b.toNat)).2 (by rw [hTA, hTB, hA]; exact h1)
      simp [can] at k2 ⊢
      intro h3 h4
      rw [k2 h3] at h4; cases h4
    rw [hcan]
    have b1 : (((m &&& A : Nat) : Int) != ((A : Nat) : Int)) = true := by simp; omega
    refine .of2 (x := .ret) (e := [(4, .i .i64 0), (5, .b false)]) (H' := [.cells [.i .i64 a, .i .i64 b, .i .i64 c] true]) (hF.S _ _ (by decide)) (d := d65) (by rw [hF.F]; rfl) rfl ?_ (.inl rfl) (by simp [d65, mapO, resRun, Dn.get]) (by simp) (by simp [sn_i, sn_b, gX92, gXa2, gXb2, gXc2, gXd2, gXe2, gXf2, gXg2, gXh2, gXi2, gXj2, gXk2, mapO, elems])
    simp [d65, c65, zipE, gX0, gX1, gX2, gX3, gX4, gX5, gX6, gX7, gX8, gX9, gXa, gXb, gXc, gXd, gXe, gXf, gXg, gXh, gXi, gXj, gXk, gXl, gXm, gXn, gXo, gXp, gXq, gXr, gXs, gXt, gXu, gXv, gXw, gXx, k_mv, gXy, gXz, gX01, gX11, gX21, gX31, gX41, gX51, gX61, gX71, gX81, gX91, gXa1, gXb1, gXc1, gXd1, gXe1, gXf1, gXg1, gXh1, gXi1, gXj1, gXk1, gXl1, gXm1, gXn1, gXo1, gXp1, gXq1, gXr1, gXs1, gXt1, gXu1, k_mn, k_mx, gXv1, gXw1, gXx1, gXy1, gXz1, gX02, gX12, gX22, gX32, gX42, gX52, gX62, gX72, Dn.setLast, Dn.getLast, evalO, mapO, Dn.get, putE, keepE, TV.one, TV.isAgg, Dn.part, lineTV, ua, ub, uc, ha, hb, hcc, hor, hand, hand2, hnd, hor2, b1]


end Go.Proofs.Try.Dn

/-
  Jumps: whether a jump is one of a line's, and the reference's play.
-/

namespace Go.Proofs.Try.Dn
open Go.Dn

def same (x y : Line) : Bool := decide (x = y)

theorem eqL3 (a b c a' b' c' : Int) : eqL [true, true, true] [.i .i64 a, .i .i64 b, .i .i64 c] [.i .i64 a', .i .i64 b', .i .i64 c'] = some (same (a, b, c) (a', b', c')) := by
  simp only [eqL, eqS, if_true, Option.bind_some, Option.map_some, Option.some.injEq, same]
  rw [Bool.eq_iff_iff]
  simp

theorem ld_cl {pg : Pg} {R : Rec} {H : Heap} {id : Nat} {x : Line} (h : H[id]? = some (cl x)) : dkc pg R (.ld 3 true) [.ref id 0] H = some (.agg [.i .i64 x.1, .i .i64 x.2.1, .i .i64 x.2.2], H) ∧
    dkc pg R (.ld 1 false) [.ref id 0] H = some (.i .i64 x.1, H) ∧ dkc pg R (.ld 1 false) [.ref id 1] H = some (.i .i64 x.2.1, H) ∧ dkc pg R (.ld 1 false) [.ref id 2] H = some (.i .i64 x.2.2, H) := by
  refine ⟨?_, ?_, ?_, ?_⟩ <;> rw [gXb1, h] <;> rfl

theorem LW_snap0 (b : Bool) (l : List Line) (H : Heap) : snap .borrow H 9 (LT b l) = some (LT true l) := snap_LT b H l

def ofB (l : List Line) (j : Line) : Bool := l.any fun x => same x j || same x (rev j)

theorem rev_rev (x : Line) : rev (rev x) = x := rfl

theorem mem_js {j : Line} : ∀ {l : List Line}, j ∈ js l ↔ ofB l j = true
  | [] => by simp [js, ofB]
  | x :: l => by
    have ih := mem_js (j := j) (l := l)
    simp only [js, List.mem_cons, ih, ofB, same, List.any_cons, Bool.or_eq_true, decide_eq_true_eq]
    constructor
    · rintro (h | h | h)
      · exact .inl (.inl h.symm)
      · exact .inl (.inr (by rw [h, rev_rev]))
      · exact .inr h
    · rintro ((h | h) | h)
      · exact .inl h.symm
      · exact .inr (.inl (by rw [h, rev_rev]))
      · exact .inr (.inr h)

def playR (l : List Line) : Nat → List Line → Nat × Bool
  | m, [] => (m, true)
  | m, j :: g => if ofB l j && can m j then playR l (leap m j) g else (m, false)

theorem hole_of {n : Int} {l : List Line} {j : Line} (hn : n ≤ 16) (hf : ∀ x ∈ l, Fits n x) (h : ofB l j = true) : Hole3 j :=
  Hole3.of hn (js_fits hf j (mem_js.2 h))

end Go.Proofs.Try.Dn

/-
  Jumps: the program's play.
-/

namespace Go.Proofs.Try.Dn
open Go.Dn

theorem same_iff {x y : Line} : same x y = true ↔ x = y := by simp [same]

def L40 (a : Nat) (T P G N I : TV) : ALoop := { env := [(1, T), (2, P), (13, .ref (a + 1) 0), (14, .ref (a + 2) 0), (27, G), (28, N), (29, I)], params := [42, 43], assign := a40_0, body := b40_1, st := .ready, pend := none }

theorem b40_run {pg : Pg} {a m : Nat} {own j : Line} {HB : Heap} (h1 : HB[a + 1]? = some (cl own)) (h2 : HB[a + 2]? = some (.cells [.b false] false)) (hm : HB[m]? = some (cl j)) :
    den pg b40_1 [(13, .ref (a + 1) 0), (14, .ref (a + 2) 0), (16, .ref m 0)] HB = if same j own = true then some ⟨.exit 2, [], HB.set (a + 2) (.cells [.b true] false)⟩ else some ⟨.normal, [(14, .ref (a + 2) 0), (46, .b false)], HB⟩ := by
  obtain ⟨q3, _⟩ := ld_cl (pg := pg) (R := den pg) h1
  obtain ⟨r3, _⟩ := ld_cl (pg := pg) (R := den pg) hm
  have hs : dkc pg (den pg) (.st 1) [.ref (a + 2) 0, .b true] HB = some (.undef, HB.set (a + 2) (.cells [.b true] false)) := by
    rw [gXh1, h2]; rfl
  obtain ⟨j0, j1, j2⟩ := j
  obtain ⟨o0, o1, o2⟩ := own
  simp only at q3 r3
  cases c : same (j0, j1, j2) (o0, o1, o2) with
  | true =>
    rw [if_pos rfl, den_eq, runC_go]
    simp [b40_1, gX0, gX1, gX2, gX3, gX4, gX5, gX6, gX7, gX8, gX9, gXa, gXb, gXc, gXd, gXe, gXf, gXg, gXh, gXi, gXj, gXk, gXl, gXm, gXn, gXo, gXp, gXq, gXr, gXs, gXt, gXu, gXv, gXw, gXx, k_mv, gXy, gXz, gX01, gX11, gX21, gX31, gX41, gX51, gX61, gX71, gX81, gX91, gXa1, gXb1, gXc1, gXd1, gXe1, gXf1, gXg1, gXh1, gXi1, gXj1, gXk1, gXl1, gXm1, gXn1, gXo1, gXp1, gXq1, gXr1, gXs1, gXt1, gXu1, k_mn, k_mx, gXv1, gXw1, gXx1, gXy1, gXz1, gX02, gX12, gX22, gX32, gX42, gX52, gX62, gX72, Dn.setLast, Dn.getLast, evalO, mapO, Dn.get, putE, keepE, TV.one, TV.isAgg, Dn.part, q3, r3, eqL3, c, negb, hs]
  | false =>
    rw [if_neg (by decide), den_eq, runC_go]
    simp [b40_1, gX0, gX1, gX2, gX3, gX4, gX5, gX6, gX7, gX8, gX9, gXa, gXb, gXc, gXd, gXe, gXf, gXg, gXh, gXi, gXj, gXk, gXl, gXm, gXn, gXo, gXp, gXq, gXr, gXs, gXt, gXu, gXv, gXw, gXx, k_mv, gXy, gXz, gX01, gX11, gX21, gX31, gX41, gX51, gX61, gX71, gX81, gX91, gXa1, gXb1, gXc1, gXd1, gXe1, gXf1, gXg1, gXh1, gXi1, gXj1, gXk1, gXl1, gXm1, gXn1, gXo1, gXp1, gXq1, gXr1, gXs1, gXt1, gXu1, k_mn, k_mx, gXv1, gXw1, gXx1, gXy1, gXz1, gX02, gX12, gX22, gX32, gX42, gX52, gX62, gX72, Dn.setLast, Dn.getLast, evalO, mapO, Dn.get, putE, keepE, TV.one, TV.isAgg, Dn.part, q3, r3, eqL3, c, negb]

def I40 (a : Nat) (L : ALoop) (own : Line) (l : List Line) (k : Nat) (H : Heap) : Prop := H[a + 1]? = some (cl own) ∧ H[a + 2]? = some (.cells [.b false] false) ∧ H[a + 4]? = some (.loop L) ∧ ∀ i j, i < k → (js l)[i]? = some j → same j own = false
def Q40 (a : Nat) (own : Line) (l : List Line) (k : Nat) (x : Ex) (H : Heap) : Prop := x = .exit 2 ∧ H[a + 1]? = some (cl own) ∧ H[a + 2]? = some (.cells [.b true] false) ∧ ∃ j, (js l)[k]? = some j ∧ same j own = true

theorem over40 {pg : Pg} {a : Nat} {T P G N I : TV} {own : Line} {l : List Line} :
    Over pg (a + 4) (L40 a T P G N I) l (I40 a (L40 a T P G N I) own l) (Q40 a own l) where
  ready := rfl
  pend := rfl
  two := rfl
  step := by
    intro k j H X hj ⟨h1, h2, h4, hall⟩ hL
    have hlt := (List.getElem?_eq_some_iff.1 h4).1
    have hassign : den pg a40_0 [(43, lineTV j), (42, .i .i64 (k : Int)), (1, T), (2, P), (13, .ref (a + 1) 0), (14, .ref (a + 2) 0), (27, G), (28, N), (29, I)] (H ++ X) = some ⟨.normal, [(13, .ref (a + 1) 0), (14, .ref (a + 2) 0), (16, .ref (H ++ X).length 0)], H ++ X ++ [cl j]⟩ := by
      rw [den_eq, runC_go]
      generalize H ++ X = HX
      simp [a40_0, gX0, gX1, gX2, gX3, gX4, gX5, gX6, gX7, gX8, gX9, gXa, gXb, gXc, gXd, gXe, gXf, gXg, gXh, gXi, gXj, gXk, gXl, gXm, gXn, gXo, gXp, gXq, gXr, gXs, gXt, gXu, gXv, gXw, gXx, k_mv, gXy, gXz, gX01, gX11, gX21, gX31, gX41, gX51, gX61, gX71, gX81, gX91, gXa1, gXb1, gXc1, gXd1, gXe1, gXf1, gXg1, gXh1, gXi1, gXj1, gXk1, gXl1, gXm1, gXn1, gXo1, gXp1, gXq1, gXr1, gXs1, gXt1, gXu1, k_mn, k_mx, gXv1, gXw1, gXx1, gXy1, gXz1, gX02, gX12, gX22, gX32, gX42, gX52, gX62, gX72, Dn.setLast, Dn.getLast, evalO, mapO, Dn.get, putE, keepE, TV.one, TV.isAgg, Dn.part, lineTV, put2, cl]
    have hpre : ∀ (i : Nat) (o : AObj), H[i]? = some o → (H ++ X ++ [cl j])[i]? = some o := by
      intro i o h
      have := (List.getElem?_eq_some_iff.1 h).1
      rw [List.append_assoc, List.getElem?_append_left this, h]
    have hset : ∀ (i : Nat) (o : AObj), i ≠ a + 4 → (H ++ X ++ [cl j])[i]? = some o → ((H ++ X ++ [cl j]).set (a + 4) (.loop { L40 a T P G N I with st := .busy }))[i]? = some o := by
      intro i o hi h
      rw [List.getElem?_set_ne (by omega), h]
    have hB := b40_run (pg := pg) (own := own) (HB := (H ++ X ++ [cl j]).set (a + 4) (.loop { L40 a T P G N I with st := .busy })) (m := (H ++ X).length) (hset _ _ (by omega) (hpre _ _ h1)) (hset _ _ (by omega) (hpre _ _ h2)) (hset _ _ (by simp; omega) (getLast _ _))
    have h4' : (H ++ X ++ [cl j])[a + 4]? = some (.loop (L40 a T P G N I)) := hpre _ _ h4
    have hlen : a + 4 < (H ++ X ++ [cl j]).length := (List.getElem?_eq_some_iff.1 h4').1
    have hback : ((H ++ X ++ [cl j]).set (a + 4) (.loop { L40 a T P G N I with st := .busy })).set (a + 4) (.loop (L40 a T P G N I)) = H ++ X ++ [cl j] := by
      rw [List.set_set]
      apply List.ext_getElem?
      intro i
      by_cases hi : i = a + 4
      · subst hi; rw [List.getElem?_set_self hlen, h4']
      · rw [List.getElem?_set_ne (by omega)]
    cases hs : same j own with
    | false =>
      rw [hs, if_neg (by decide)] at hB
      refine ⟨.normal, H ++ X ++ [cl j], ⟨_, _, _, _, hassign, h4', hB, ?_, hback.symm⟩, ?_, .inl ⟨rfl, hpre _ _ h1, hpre _ _ h2, h4', ?_⟩⟩
      · rw [List.getElem?_set_self hlen]
      · intro i y hy
        have := (List.getElem?_eq_some_iff.1 hy).1
        rw [List.append_assoc, List.getElem?_append_right (by omega), Nat.add_sub_cancel_left, List.getElem?_append_left this, hy]
      · intro i j' hi hj'
        by_cases hik : i = k
        · subst hik; rw [hj] at hj'; cases hj'; exact hs
        · exact hall i j' (by omega) hj'
    | true =>
      rw [hs, if_pos rfl] at hB
      refine ⟨.exit 2, _, ⟨_, _, _, _, hassign, h4', hB, ?_, rfl⟩, ?_, .inr ⟨by simp, rfl, ?_, ?_, j, hj, hs⟩⟩
      · rw [List.getElem?_set_ne (by omega), List.getElem?_set_self hlen]
      · intro i y hy
        have := (List.getElem?_eq_some_iff.1 hy).1
        rw [List.getElem?_set_ne (by omega), List.getElem?_set_ne (by omega), List.getElem?_set_ne (by omega), List.append_assoc, List.getElem?_append_right (by omega), Nat.add_sub_cancel_left, List.getElem?_append_left this, hy]
      · rw [List.getElem?_set_ne (by omega), List.getElem?_set_ne (by omega)]
        exact hset _ _ (by omega) (hpre _ _ h1)
      · rw [List.getElem?_set_ne (by omega), List.getElem?_set_self (by rw [List.length_set]; omega)]

theorem not_of {l : List Line} {own : Line} (h : ∀ i j, i < 2 * l.length → (js l)[i]? = some j → same j own = false) : ofB l own = false := by
  cases ho : ofB l own with
  | false => rfl
  | true =>
    obtain ⟨i, hi, he⟩ := List.getElem_of_mem (mem_js.2 ho)
    have := h i own (by rw [js_len] at hi; exact hi) (by rw [List.getElem?_eq_getElem hi, he])
    simp [same] at this

theorem l40_round {pg : Pg} (hF : Free pg) {n : Int} {l g : List Line} (hc : chk n l = 0) {i m : Nat} {own : Line} {H : Heap} (hg : g.length ≤ 1000) (hx : g[i]? = some own) (hm : m < 65536) :
    ∃ H', den pg l40_3 [(1, LT true l), (2, .i .i64 (m : Int)), (27, LT true g), (28, .i .i64 (g.length : Int)), (29, .i .i64 (i : Int))] H =
      if (ofB l own && can m own) = true then den pg l40_3 [(1, LT true l), (2, .i .i64 (leap m own : Int)), (27, LT true g), (28, .i .i64 (g.length : Int)), (29, .i .i64 ((i + 1 : Nat) : Int))] H' else some ⟨.ret, [(8, .i .i64 0), (9, .i .i64 21)], H'⟩ := by
  obtain ⟨hn1, hn2, hl, hf⟩ := chk_ok hc
  have hi := (List.getElem?_eq_some_iff.1 hx).1
  have e1 : ((i : Int) < (g.length : Int)) := by omega
  have e2 : wrapR .i64 ((i : Int) + 1) = .i .i64 ((i : Int) + 1) := gX82 (by omega)
  have hV : elL.View H (LT true g) g := by rw [LT_lt]; exact El.lt_view _ _ _
  obtain ⟨p, hp, hat, _⟩ := ixL (pg := pg) (R := den pg) hV hx
  have hld := ldL (pg := pg) (R := den pg) hat
  have h62 := fun H => fn62 hF true l H
  have hrf := rf_jumps (pg := pg) hF (L := L40 H.length (LT true l) (.i .i64 (m : Int)) (LT true g) (.i .i64 (g.length : Int)) (.i .i64 (i : Int))) (s := .t 41)
    (e := [(1, LT true l), (2, .i .i64 (m : Int)), (13, .ref (H.length + 1) 0), (14, .ref (H.length + 2) 0), (27, LT true g), (28, .i .i64 (g.length : Int)), (29, .i .i64 (i : Int)), (41, .fn 77 [] [.ref (H.length + 3) 0])]) (ps := [42, 43]) (as_ := a40_0) (bd := b40_1) (ks := [1, 2, 13, 14, 27, 28, 29]) (bid := H.length + 3) (b := true) (l := l) (I := I40 H.length (L40 H.length (LT true l) (.i .i64 (m : Int)) (LT true g) (.i .i64 (g.length : Int)) (.i .i64 (i : Int))) own l) (Q := Q40 H.length own l)
    (H := H ++ [cl own, cl own, .cells [.b false] false, .cells [LT true l] false]) rfl (by rw [show (H ++ [cl own, cl own, .cells [.b false] false, .cells [LT true l] false]).length = H.length + 4 by simp]; exact over40) hl rfl (by simp) ⟨by simp, by simp, by simp, fun i j h => by omega⟩
  rw [show (H ++ [cl own, cl own, .cells [.b false] false, .cells [LT true l] false]).length = H.length + 4 by simp] at hrf
  obtain ⟨o0, o1, o2⟩ := own
  rcases hrf with ⟨Hf, o, ⟨h1, h2, h4, hall⟩, h5, h6⟩ | ⟨k, x, Hf, o, ⟨rfl, h1, h2, j, hj, hs⟩, h4, h5, h6⟩
  · have hno := not_of hall
    rw [hno]
    have h2' : (Hf.set (H.length + 4) (.loop o))[H.length + 2]? = some (.cells [.b false] false) := by rw [List.getElem?_set_ne (by omega), h2]
    generalize Hf.set (H.length + 4) (.loop o) = HG at h2' h6
    have hq := ld_box (pg := pg) (R := den pg) h2' rfl
    refine ⟨HG, ?_⟩
    rw [l40_3, den_loop]
    simp [cl] at h6
    simp [b40_2, gX0, gX1, gX2, gX3, gX4, gX5, gX6, gX7, gX8, gX9, gXa, gXb, gXc, gXd, gXe, gXf, gXg, gXh, gXi, gXj, gXk, gXl, gXm, gXn, gXo, gXp, gXq, gXr, gXs, gXt, gXu, gXv, gXw, gXx, k_mv, gXy, gXz, gX01, gX11, gX21, gX31, gX41, gX51, gX61, gX71, gX81, gX91, gXa1, gXb1, gXc1, gXd1, gXe1, gXf1, gXg1, gXh1, gXi1, gXj1, gXk1, gXl1, gXm1, gXn1, gXo1, gXp1, gXq1, gXr1, gXs1, gXt1, gXu1, k_mn, k_mx, gXv1, gXw1, gXx1, gXy1, gXz1, gX02, gX12, gX22, gX32, gX42, gX52, gX62, gX72, Dn.setLast, Dn.getLast, evalO, mapO, Dn.get, putE, keepE, TV.one, TV.isAgg, Dn.part, e1, hp, hld, lineTV, put2, fillP, TV.cells, sh_fn, h62, h6, hq]
  · have heq : j = (o0, o1, o2) := same_iff.1 hs
    have hyes : ofB l (o0, o1, o2) = true := mem_js.1 (by rw [← heq]; exact List.mem_of_getElem? hj)
    have hhole := hole_of hn2 hf hyes
    rw [hyes]
    have h1' : (Hf.set (H.length + 4) (.loop o))[H.length + 1]? = some (cl (o0, o1, o2)) := by rw [List.getElem?_set_ne (by omega), h1]
    have h2' : (Hf.set (H.length + 4) (.loop o))[H.length + 2]? = some (.cells [.b true] false) := by rw [List.getElem?_set_ne (by omega), h2]
    generalize Hf.set (H.length + 4) (.loop o) = HG at h1' h2' h6
    have hq := ld_box (pg := pg) (R := den pg) h2' rfl
    obtain ⟨r3, _⟩ := ld_cl (pg := pg) (R := den pg) h1'
    have c65 := fun H => Fn.call (fn65 hF hm hhole) (args := [lineTV (o0, o1, o2), .i .i64 (m : Int)]) (ks := []) (fs := []) (cs := []) (H := H) (by simp [snapArgs, sn_i, snap_line _ _ 7])
    simp only [lineTV] at c65
    refine ⟨HG, ?_⟩
    rw [l40_3, den_loop]
    simp [cl] at h6
    cases hcan : can m (o0, o1, o2) with
    | true =>
      rw [hcan] at c65
      simp [l40_3, b40_2, gX0, gX1, gX2, gX3, gX4, gX5, gX6, gX7, gX8, gX9, gXa, gXb, gXc, gXd, gXe, gXf, gXg, gXh, gXi, gXj, gXk, gXl, gXm, gXn, gXo, gXp, gXq, gXr, gXs, gXt, gXu, gXv, gXw, gXx, k_mv, gXy, gXz, gX01, gX11, gX21, gX31, gX41, gX51, gX61, gX71, gX81, gX91, gXa1, gXb1, gXc1, gXd1, gXe1, gXf1, gXg1, gXh1, gXi1, gXj1, gXk1, gXl1, gXm1, gXn1, gXo1, gXp1, gXq1, gXr1, gXs1, gXt1, gXu1, k_mn, k_mx, gXv1, gXw1, gXx1, gXy1, gXz1, gX02, gX12, gX22, gX32, gX42, gX52, gX62, gX72, Dn.setLast, Dn.getLast, evalO, mapO, Dn.get, putE, keepE, TV.one, TV.isAgg, Dn.part, e1, e2, hp, hld, lineTV, put2, fillP, TV.cells, sh_fn, h62, h6, hq, r3, c65]
    | false =>
      rw [hcan] at c65
      simp [l40_3, b40_2, gX0, gX1, gX2, gX3, gX4, gX5, gX6, gX7, gX8, gX9, gXa, gXb, gXc, gXd, gXe, gXf, gXg, gXh, gXi, gXj, gXk, gXl, gXm, gXn, gXo, gXp, gXq, gXr, gXs, gXt, gXu, gXv, gXw, gXx, k_mv, gXy, gXz, gX01, gX11, gX21, gX31, gX41, gX51, gX61, gX71, gX81, gX91, gXa1, gXb1, gXc1, gXd1, gXe1, gXf1, gXg1, gXh1, gXi1, gXj1, gXk1, gXl1, gXm1, gXn1, gXo1, gXp1, gXq1, gXr1, gXs1, gXt1, gXu1, k_mn, k_mx, gXv1, gXw1, gXx1, gXy1, gXz1, gX02, gX12, gX22, gX32, gX42, gX52, gX62, gX72, Dn.setLast, Dn.getLast, evalO, mapO, Dn.get, putE, keepE, TV.one, TV.isAgg, Dn.part, e1, e2, hp, hld, lineTV, put2, fillP, TV.cells, sh_fn, h62, h6, hq, r3, c65]

theorem l40_all {pg : Pg} (hF : Free pg) {n : Int} {l g : List Line} (hc : chk n l = 0) (hg : g.length ≤ 1000) : ∀ (k i m : Nat) (H : Heap), i + k = g.length → m < 65536 →
    ∃ x e H', den pg l40_3 [(1, LT true l), (2, .i .i64 (m : Int)), (27, LT true g), (28, .i .i64 (g.length : Int)), (29, .i .i64 (i : Int))] H = some ⟨x, e, H'⟩ ∧
      (x = .exit 0 ∧ get e 2 = some (.i .i64 ((playR l m (g.drop i)).1 : Int)) ∧ (playR l m (g.drop i)).2 = true ∨ x = .ret ∧ e = [(8, .i .i64 0), (9, .i .i64 21)] ∧ (playR l m (g.drop i)).2 = false)
  | 0, i, m, H, h, hm => by
    have e1 : ¬ ((i : Int) < (g.length : Int)) := by omega
    refine ⟨.exit 0, [(1, LT true l), (2, .i .i64 (m : Int)), (27, LT true g), (28, .i .i64 (g.length : Int)), (29, .i .i64 (i : Int)), (30, .b false)], H, ?_, .inl ⟨rfl, by rw [List.drop_eq_nil_of_le (by omega)]; rfl, by rw [List.drop_eq_nil_of_le (by omega)]; rfl⟩⟩
    rw [l40_3, den_loop]
    simp [b40_2, gX0, gX1, gX2, gX3, gX4, gX5, gX6, gX7, gX8, gX9, gXa, gXb, gXc, gXd, gXe, gXf, gXg, gXh, gXi, gXj, gXk, gXl, gXm, gXn, gXo, gXp, gXq, gXr, gXs, gXt, gXu, gXv, gXw, gXx, k_mv, gXy, gXz, gX01, gX11, gX21, gX31, gX41, gX51, gX61, gX71, gX81, gX91, gXa1, gXb1, gXc1, gXd1, gXe1, gXf1, gXg1, gXh1, gXi1, gXj1, gXk1, gXl1, gXm1, gXn1, gXo1, gXp1, gXq1, gXr1, gXs1, gXt1, gXu1, k_mn, k_mx, gXv1, gXw1, gXx1, gXy1, gXz1, gX02, gX12, gX22, gX32, gX42, gX52, gX62, gX72, Dn.setLast, Dn.getLast, evalO, mapO, Dn.get, putE, keepE, TV.one, TV.isAgg, Dn.part, e1]
  | k + 1, i, m, H, h, hm => by
    obtain ⟨hn1, hn2, hl, hf⟩ := chk_ok hc
    have hi : i < g.length := by omega
    have hd : g.drop i = g[i] :: g.drop (i + 1) := List.drop_eq_getElem_cons hi
    obtain ⟨H1, hr⟩ := l40_round (pg := pg) (H := H) hF hc hg (List.getElem?_eq_getElem hi) hm
    rw [hd]
    simp only [playR]
    cases ho : (ofB l g[i] && can m g[i]) with
    | true =>
      rw [ho, if_pos rfl] at hr
      have hof : ofB l g[i] = true := by simp at ho; exact ho.1
      have hj := hole_of hn2 hf hof
      obtain ⟨x, e, H', h1, h2⟩ := l40_all (pg := pg) hF hc hg k (i + 1) (leap m g[i]) H1 (by omega) (leap_lt hm (by have := hj; unfold Hole3 at this; omega))
      exact ⟨x, e, H', hr.trans h1, by simpa using h2⟩
    | false =>
      rw [ho, if_neg (by decide)] at hr
      exact ⟨_, _, _, hr, .inr ⟨rfl, rfl, rfl⟩⟩

theorem fn40 {pg : Pg} (hF : Free pg) {n : Int} {l g : List Line} (hc : chk n l = 0) (hg : g.length ≤ 1000) {m : Nat} (hm : m < 65536) (hr : outOf n (m : Int) = false) :
    Fn pg 40 [.i .i64 n, LT true l, .i .i64 (m : Int), LT true g] (.tup [.i .i64 (if (playR l m g).2 then ((playR l m g).1 : Int) else 0), .i .i64 (if (playR l m g).2 then 0 else 21)]) := by
  have ho := opn1 hF hc (m : Int)
  rw [hr, if_neg (by decide)] at ho
  have hlen := LT_len true g
  obtain ⟨x, e, H', h1, h2⟩ := l40_all (pg := pg) hF hc hg g.length 0 m [.cells [.i .i64 (m : Int)] false] (by omega) hm
  simp only [Int.natCast_zero, List.drop_zero] at h1 h2
  rcases h2 with ⟨rfl, h3, h4⟩ | ⟨rfl, rfl, h4⟩
  · rw [h4]
    refine .of2 (x := .ret) (e := [(8, .i .i64 ((playR l m g).1 : Int)), (9, .i .i64 0)]) (H' := H') (hF.S _ _ (by decide)) (d := d40) (by rw [hF.F]; rfl) rfl ?_ (.inl rfl) rfl (by simp) (by simp [sn_i, sn_b, gX92, gXa2, gXb2, gXc2, gXd2, gXe2, gXf2, gXg2, gXh2, gXi2, gXj2, gXk2, mapO, elems])
    simp [d40, c40, zipE, gX0, gX1, gX2, gX3, gX4, gX5, gX6, gX7, gX8, gX9, gXa, gXb, gXc, gXd, gXe, gXf, gXg, gXh, gXi, gXj, gXk, gXl, gXm, gXn, gXo, gXp, gXq, gXr, gXs, gXt, gXu, gXv, gXw, gXx, k_mv, gXy, gXz, gX01, gX11, gX21, gX31, gX41, gX51, gX61, gX71, gX81, gX91, gXa1, gXb1, gXc1, gXd1, gXe1, gXf1, gXg1, gXh1, gXi1, gXj1, gXk1, gXl1, gXm1, gXn1, gXo1, gXp1, gXq1, gXr1, gXs1, gXt1, gXu1, k_mn, k_mx, gXv1, gXw1, gXx1, gXy1, gXz1, gX02, gX12, gX22, gX32, gX42, gX52, gX62, gX72, Dn.setLast, Dn.getLast, evalO, mapO, Dn.get, putE, keepE, TV.one, TV.isAgg, Dn.part, ho.call1, hlen, go_denK (c := l40_3) rfl, h1, h3]
  · rw [h4]
    refine .of2 (x := .ret) (e := [(8, .i .i64 0), (9, .i .i64 21)]) (H' := H') (hF.S _ _ (by decide)) (d := d40) (by rw [hF.F]; rfl) rfl ?_ (.inl rfl) rfl (by simp) (by simp [sn_i, sn_b, gX92, gXa2, gXb2, gXc2, gXd2, gXe2, gXf2, gXg2, gXh2, gXi2, gXj2, gXk2, mapO, elems])
    simp [d40, c40, zipE, gX0, gX1, gX2, gX3, gX4, gX5, gX6, gX7, gX8, gX9, gXa, gXb, gXc, gXd, gXe, gXf, gXg, gXh, gXi, gXj, gXk, gXl, gXm, gXn, gXo, gXp, gXq, gXr, gXs, gXt, gXu, gXv, gXw, gXx, k_mv, gXy, gXz, gX01, gX11, gX21, gX31, gX41, gX51, gX61, gX71, gX81, gX91, gXa1, gXb1, gXc1, gXd1, gXe1, gXf1, gXg1, gXh1, gXi1, gXj1, gXk1, gXl1, gXm1, gXn1, gXo1, gXp1, gXq1, gXr1, gXs1, gXt1, gXu1, k_mn, k_mx, gXv1, gXw1, gXx1, gXy1, gXz1, gX02, gX12, gX22, gX32, gX42, gX52, gX62, gX72, Dn.setLast, Dn.getLast, evalO, mapO, Dn.get, putE, keepE, TV.one, TV.isAgg, Dn.part, ho.call1, hlen, go_denK (c := l40_3) rfl, h1]

end Go.Proofs.Try.Dn

/-
  Jumps: the reference's list of jumps consists of a board's jumps.
-/

namespace Go.Proofs.Try.Dn
open Go.Dn

def Sor (m : List Line) : Prop := m.Pairwise fun a b => lt3 a b = true

theorem sr3_iff (a b : Line) : lt3 a b = true ↔ a.1 < b.1 ∨ a.1 = b.1 ∧ (a.2.1 < b.2.1 ∨ a.2.1 = b.2.1 ∧ a.2.2 < b.2.2) := by
  simp only [lt3, Bool.or_eq_true, Bool.and_eq_true, decide_eq_true_eq]
theorem sr3_trans {a b c : Line} (h1 : lt3 a b = true) (h2 : lt3 b c = true) : lt3 a c = true := by
  rw [sr3_iff] at h1 h2 ⊢; omega
theorem sr3_irr (a : Line) : lt3 a a = false := by
  cases h : lt3 a a with
  | false => rfl
  | true => rw [sr3_iff] at h; omega
theorem sr3_total {a b : Line} (h : lt3 a b = false) (hne : a ≠ b) : lt3 b a = true := by
  have h' : ¬ (lt3 a b = true) := by rw [h]; decide
  rw [sr3_iff] at h' ⊢
  have : ¬ (a.1 = b.1 ∧ a.2.1 = b.2.1 ∧ a.2.2 = b.2.2) := fun e => hne (by
    obtain ⟨a0, a1, a2⟩ := a; obtain ⟨b0, b1, b2⟩ := b
    simp only at e
    obtain ⟨rfl, rfl, rfl⟩ := e; rfl)
  omega

end Go.Proofs.Try.Dn

/-
  PegPlays: the statement's rounds, and the whole run.
-/

namespace Go.Proofs.Try.Dn
open Go.Dn

end Go.Proofs.Try.Dn

