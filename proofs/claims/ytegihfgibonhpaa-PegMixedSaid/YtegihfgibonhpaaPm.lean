/-
  Peg: Alike for boards of up to 16 holes.
-/
import Derived.Test.YtegihfgibonhpaaPi
import Derived.Test.YtegihfgibonhpaaDd
import Derived.Test.YtegihfgibonhpaaPj
import Derived.Test.YtegihfgibonhpaaPf
import Derived.Test.YtegihfgibonhpaaPe
import Derived.Test.YtegihfgibonhpaaPk
set_option linter.unusedSimpArgs false
set_option linter.unusedVariables false

set_option maxHeartbeats 2000000
namespace Go.Proofs.Try.Dn
open Go.Dn

theorem add_uw {m c : Nat} (h : m + c < 18446744073709551616) : wrapR .u64 ((m : Int) + (c : Int)) = .i .u64 ((m + c : Nat) : Int) := by
  have := Go.Dn.wrap_u h
  rwa [Int.natCast_add] at this

theorem fn73w {pg : Pg} (hF : Free pg) {x : Nat} (hx : x < 18446744073709551616) : Fn pg 73 [.i .u64 (x : Int)] (.i .i64 (pop 64 x : Int)) := by
  rw [← ones64_pop x]
  unfold ones64
  have s1 := Go.Dn.shr_u (k := .u64) (m := x) (c := 1) (by omega)
  simp only [show x / 2 ^ 1 = x / 2 by omega] at s1
  have a1 := Go.Dn.and_uu (m := x / 2) (k := 6148914691236517205) (by omega) (by omega)
  have a1' := Go.Dn.and_uu (m := x) (k := 6148914691236517205) (by omega) (by omega)
  have l1 : (x / 2 &&& 6148914691236517205) ≤ 6148914691236517205 := Nat.and_le_right
  have l1' : (x &&& 6148914691236517205) ≤ 6148914691236517205 := Nat.and_le_right
  generalize (x / 2 &&& 6148914691236517205) = u1 at a1 l1 ⊢
  generalize (x &&& 6148914691236517205) = v1 at a1' l1' ⊢
  have p1 := add_uw (m := u1) (c := v1) (by omega)
  simp only
  have lt1 : u1 + v1 < 18446744073709551616 := by omega
  generalize hy1 : u1 + v1 = y1 at p1 lt1 ⊢
  have s2 := Go.Dn.shr_u (k := .u64) (m := y1) (c := 2) (by omega)
  simp only [show y1 / 2 ^ 2 = y1 / 4 by omega] at s2
  have a2 := Go.Dn.and_uu (m := y1 / 4) (k := 3689348814741910323) (by omega) (by omega)
  have a2' := Go.Dn.and_uu (m := y1) (k := 3689348814741910323) (by omega) (by omega)
  have l2 : (y1 / 4 &&& 3689348814741910323) ≤ 3689348814741910323 := Nat.and_le_right
  have l2' : (y1 &&& 3689348814741910323) ≤ 3689348814741910323 := Nat.and_le_right
  generalize (y1 / 4 &&& 3689348814741910323) = u2 at a2 l2 ⊢
  generalize (y1 &&& 3689348814741910323) = v2 at a2' l2' ⊢
  have p2 := add_uw (m := u2) (c := v2) (by omega)
  have lt2 : u2 + v2 ≤ 7378697629483820646 := by omega
  generalize hy2 : u2 + v2 = y2 at p2 lt2 ⊢
  have s3 := Go.Dn.shr_u (k := .u64) (m := y2) (c := 4) (by omega)
  simp only [show y2 / 2 ^ 4 = y2 / 16 by omega] at s3
  have p3 := add_uw (m := y2 / 16) (c := y2) (by omega)
  have a3 := Go.Dn.and_uu (m := y2 / 16 + y2) (k := 1085102592571150095) (by omega) (by omega)
  have l3 : ((y2 / 16 + y2) &&& 1085102592571150095) ≤ 1085102592571150095 := Nat.and_le_right
  generalize ((y2 / 16 + y2) &&& 1085102592571150095) = y3 at a3 l3 ⊢
  have s4 := Go.Dn.shr_u (k := .u64) (m := y3) (c := 8) (by omega)
  simp only [show y3 / 2 ^ 8 = y3 / 256 by omega] at s4
  have p4 := add_uw (m := y3) (c := y3 / 256) (by omega)
  have lt4 : y3 + y3 / 256 ≤ 2000000000000000000 := by omega
  generalize hy4 : y3 + y3 / 256 = y4 at p4 lt4 ⊢
  have s5 := Go.Dn.shr_u (k := .u64) (m := y4) (c := 16) (by omega)
  simp only [show y4 / 2 ^ 16 = y4 / 65536 by omega] at s5
  have p5 := add_uw (m := y4) (c := y4 / 65536) (by omega)
  have lt5 : y4 + y4 / 65536 ≤ 3000000000000000000 := by omega
  generalize hy5 : y4 + y4 / 65536 = y5 at p5 lt5 ⊢
  have s6 := Go.Dn.shr_u (k := .u64) (m := y5) (c := 32) (by omega)
  simp only [show y5 / 2 ^ 32 = y5 / 4294967296 by omega] at s6
  have p6 := add_uw (m := y5) (c := y5 / 4294967296) (by omega)
  have lt6 : y5 + y5 / 4294967296 ≤ 4000000000000000000 := by omega
  generalize hy6 : y5 + y5 / 4294967296 = y6 at p6 lt6 ⊢
  have c6 : wrapR .i64 (y6 : Int) = .i .i64 (y6 : Int) := gX82 (by omega)
  have a7 := Go.Dn.and_ii (m := y6) (k := 127) (by omega) (by omega)
  simp only [Int.cast_ofNat_Int] at s1 a1 a1' s2 a2 a2' s3 a3 s4 s5 s6 a7
  refine .of1 (x := .ret) (e := [(2, .i .i64 ((y6 &&& 127 : Nat) : Int))]) (H' := []) (hF.S _ _ (by decide)) (d := d73) (by rw [hF.F]; rfl) rfl ?_ (.inl rfl) rfl (by simp [sn_i, sn_b, gX92, gXa2, gXb2, gXc2, gXd2, gXe2, gXf2, gXg2, gXh2, gXi2, gXj2, gXk2, mapO, elems])
  simp only [d73, c73, zipE]
  simp only [gX0, gX3, gXb, gXc, gXo, gXp, gX9, gXt, gXu, gXv, k_mv, gXz, gX41, gXz1, evalO, mapO, Go.Dn.get, putE, keepE, Option.bind_some, Option.map_some, ↓reduceIte, Nat.reduceEqDiff, List.filterMap_cons, List.filterMap_nil, s1, a1, a1', p1, s2, a2, a2', p2, s3, p3, a3, s4, p4, s5, p5, s6, p6, c6, a7]

theorem pop_zero : ∀ n, pop n 0 = 0 := fun n => by
  rw [pop_count]
  exact List.countP_eq_zero.2 fun i _ => by simp

theorem pop_pegs {x : Nat} (hx : x < 65536) : pop 64 x = pegs x := by
  have h := pop_add 16 48 x
  rw [show x / 2 ^ 16 = 0 by omega, pop_zero] at h
  show pop (16 + 48) x = _
  rw [h, pop_count]
  rfl

theorem fn53w {pg : Pg} (hF : Free pg) {x : Nat} (hx : x < 65536) : Fn pg 53 [.i .u64 (x : Int)] (.i .i64 (pegs x : Int)) := by
  have f := fn73w hF (x := x) (by omega)
  rw [pop_pegs hx] at f
  have c73 := fun H => Fn.call f (args := [.i .u64 (x : Int)]) (ks := []) (fs := []) (cs := []) (H := H) (by simp [snapArgs, sn_i])
  refine .of1 (x := .ret) (e := [(2, .i .i64 (pegs x : Int))]) (H' := []) (hF.S _ _ (by decide)) (d := d53) (by rw [hF.F]; rfl) rfl ?_ (.inl rfl) rfl (by simp [sn_i, sn_b, gX92, gXa2, gXb2, gXc2, gXd2, gXe2, gXf2, gXg2, gXh2, gXi2, gXj2, gXk2, mapO, elems])
  simp [d53, c53, zipE, gX0, gX1, gX2, gX3, gX4, gX5, gX6, gX7, gX8, gX9, gXa, gXb, gXc, gXd, gXe, gXf, gXg, gXh, gXi, gXj, gXk, gXl, gXm, gXn, gXo, gXp, gXq, gXr, gXs, gXt, gXu, gXv, gXw, gXx, k_mv, gXy, gXz, gX01, gX11, gX21, gX31, gX41, gX51, gX61, gX71, gX81, gX91, gXa1, gXb1, gXc1, gXd1, gXe1, gXf1, gXg1, gXh1, gXi1, gXj1, gXk1, gXl1, gXm1, gXn1, gXo1, gXp1, gXq1, gXr1, gXs1, gXt1, gXu1, k_mn, k_mx, gXv1, gXw1, gXx1, gXy1, gXz1, gX02, gX12, gX22, gX32, gX42, gX52, gX62, gX72, Dn.setLast, Dn.getLast, evalO, mapO, Dn.get, putE, keepE, TV.one, TV.isAgg, Dn.part, c73]

theorem body56w {pg : Pg} (hF : Free pg) {p q r : Nat} (hp : p < 65536) (hq : q < 65536) (hr : r < 65536) {H : Heap} (h0 : H[0]? = some (.cells [.i .i64 (p : Int)] false)) (h1 : H[1]? = some (.cells [.i .i64 (q : Int)] false)) :
    bodyRun pg (den pg) 56 [.i .i64 (r : Int), .ref 0 0, .ref 1 0] H = some (.b (dot r (p ^^^ q)), H) := by
  have hx := xor_eq (m := p) (k := q) (by omega) (by omega)
  have hxl : p ^^^ q < 2 ^ 16 := Nat.xor_lt_two_pow hp hq
  have hand := and_eq (m := r) (k := p ^^^ q) (by omega) (by omega)
  have hal : r &&& (p ^^^ q) ≤ r := Nat.and_le_left
  unfold dot par
  generalize hz : r &&& (p ^^^ q) = z at *
  have eu : wrapR .u64 (z : Int) = .i .u64 (z : Int) := by unfold wrapR; simp [IntKind.wrap, IntKind.signed, IntKind.bits]; omega
  have c53 := fun H => Fn.call (fn53w hF (by omega : z < 65536)) (args := [.i .u64 (z : Int)]) (ks := []) (fs := []) (cs := []) (H := H) (by simp [snapArgs, sn_i])
  have hrm : binI .rem (.i .i64 (pegs z : Int)) (.i .i64 2) = some (.i .i64 ((pegs z % 2 : Nat) : Int)) := by
    rw [b_rem, if_neg (by decide), Int.tmod_eq_emod_of_nonneg (by omega)]
    simp
  generalize pegs z = c at *
  refine body_of (x := .ret) (e := [(4, .b (decide (c % 2 = 1)))]) (d := d56) (by rw [hF.F]; rfl) rfl ?_ (.inl rfl) rfl
  rcases (by omega : c % 2 = 0 ∨ c % 2 = 1) with e | e
  · rw [e] at hrm
    simp only [Int.natCast_zero] at hrm
    simp [d56, c56, zipE, gX0, gX1, gX2, gX3, gX4, gX5, gX6, gX7, gX8, gX9, gXa, gXb, gXc, gXd, gXe, gXf, gXg, gXh, gXi, gXj, gXk, gXl, gXm, gXn, gXo, gXp, gXq, gXr, gXs, gXt, gXu, gXv, gXw, gXx, k_mv, gXy, gXz, gX01, gX11, gX21, gX31, gX41, gX51, gX61, gX71, gX81, gX91, gXa1, gXb1, gXc1, gXd1, gXe1, gXf1, gXg1, gXh1, gXi1, gXj1, gXk1, gXl1, gXm1, gXn1, gXo1, gXp1, gXq1, gXr1, gXs1, gXt1, gXu1, k_mn, k_mx, gXv1, gXw1, gXx1, gXy1, gXz1, gX02, gX12, gX22, gX32, gX42, gX52, gX62, gX72, Dn.setLast, Dn.getLast, evalO, mapO, Dn.get, putE, keepE, TV.one, TV.isAgg, Dn.part, h0, h1, hx, hand, eu, c53, hrm, e]
  · rw [e] at hrm
    simp only [Int.natCast_one] at hrm
    simp [d56, c56, zipE, gX0, gX1, gX2, gX3, gX4, gX5, gX6, gX7, gX8, gX9, gXa, gXb, gXc, gXd, gXe, gXf, gXg, gXh, gXi, gXj, gXk, gXl, gXm, gXn, gXo, gXp, gXq, gXr, gXs, gXt, gXu, gXv, gXw, gXx, k_mv, gXy, gXz, gX01, gX11, gX21, gX31, gX41, gX51, gX61, gX71, gX81, gX91, gXa1, gXb1, gXc1, gXd1, gXe1, gXf1, gXg1, gXh1, gXi1, gXj1, gXk1, gXl1, gXm1, gXn1, gXo1, gXp1, gXq1, gXr1, gXs1, gXt1, gXu1, k_mn, k_mx, gXv1, gXw1, gXx1, gXy1, gXz1, gX02, gX12, gX22, gX32, gX42, gX52, gX62, gX72, Dn.setLast, Dn.getLast, evalO, mapO, Dn.get, putE, keepE, TV.one, TV.isAgg, Dn.part, h0, h1, hx, hand, eu, c53, hrm, e]

theorem fn28w {pg : Pg} (hF : Free pg) {n : Nat} {l : List Line} (hc : chk (n : Int) l = 0) {p q : Nat} (hp : p < 2 ^ n) (hq : q < 2 ^ n) : Fn pg 28 [.i .i64 (n : Int), LT true l, .i .i64 (p : Int), .i .i64 (q : Int)] (.tup [.b (alikeB n l p q), .i .i64 0]) := by
  obtain ⟨hn1, hn2, hl, hf⟩ := chk_ok hc
  have h12 : 2 ^ n ≤ 65536 := two16 (by omega)
  have hcast : ((2 ^ n : Nat) : Int) = (2 : Int) ^ n := by simp
  have ho := opn2 hF hc (p : Int) (q : Int)
  rw [if_neg (by simp [outOf]; omega)] at ho
  have h00 := ho.call2
  have c54 := fun H => Fn.call (fn54 hF hc) (args := [.i .i64 (n : Int), LT true l]) (ks := []) (fs := []) (cs := []) (H := H) (by simp [snapArgs, sn_i, LW_snap0])
  have hlenR := rulesP_len (n := n) (rows := rowsOf l)
  have h55 := body55on (pg := pg) hF (H := [.cells [.i .i64 (p : Int)] false, .cells [.i .i64 (q : Int)] false, .cells [.i .i64 (p : Int), .i .i64 (q : Int)] false]) (s := elI.lt false (nI (rulesP n (rowsOf l)))) (f := .fn 56 [] [.ref 0 0, .ref 1 0]) (l := nI (rulesP n (rowsOf l))) (P := fun v => dot v.toNat (p ^^^ q))
    (El.lt_view _ _ _) (fun v hv => by
      obtain ⟨r, hr, rfl⟩ := List.mem_map.1 hv
      have := rulesP_lt hc r hr
      rw [sh_fn]
      exact body56w hF (by omega) (by omega) (by omega) rfl rfl) (by rw [nI_len]; omega)
  have hany : (nI (rulesP n (rowsOf l))).any (fun v => dot v.toNat (p ^^^ q)) = !alikeB n l p q := by
    unfold nI alikeB
    rw [List.any_map]
    rw [List.any_eq_not_all_not]
    rfl
  rw [hany] at h55
  refine .of2 (x := .ret) (e := [(8, .b (alikeB n l p q)), (9, .i .i64 0)]) (H' := [.cells [.i .i64 (p : Int)] false, .cells [.i .i64 (q : Int)] false, .cells [.i .i64 (p : Int), .i .i64 (q : Int)] false]) (hF.S _ _ (by decide)) (d := d28) (by rw [hF.F]; rfl) rfl ?_ (.inl rfl) (by simp [d28, mapO, resRun, Dn.get]) (by simp) (by simp [sn_i, sn_b, gX92, gXa2, gXb2, gXc2, gXd2, gXe2, gXf2, gXg2, gXh2, gXi2, gXj2, gXk2, mapO, elems])
  simp [d28, c28, zipE, gX0, gX1, gX2, gX3, gX4, gX5, gX6, gX7, gX8, gX9, gXa, gXb, gXc, gXd, gXe, gXf, gXg, gXh, gXi, gXj, gXk, gXl, gXm, gXn, gXo, gXp, gXq, gXr, gXs, gXt, gXu, gXv, gXw, gXx, k_mv, gXy, gXz, gX01, gX11, gX21, gX31, gX41, gX51, gX61, gX71, gX81, gX91, gXa1, gXb1, gXc1, gXd1, gXe1, gXf1, gXg1, gXh1, gXi1, gXj1, gXk1, gXl1, gXm1, gXn1, gXo1, gXp1, gXq1, gXr1, gXs1, gXt1, gXu1, k_mn, k_mx, gXv1, gXw1, gXx1, gXy1, gXz1, gX02, gX12, gX22, gX32, gX42, gX52, gX62, gX72, Dn.setLast, Dn.getLast, evalO, mapO, Dn.get, putE, keepE, TV.one, TV.isAgg, Dn.part, h00, c54, gXk1, sh_fn, h55]

end Go.Proofs.Try.Dn

/-
  Peg: mixed rules, and what a jump keeps: the law run.
-/

set_option maxHeartbeats 4000000
set_option maxRecDepth 100000
namespace Go.Proofs.Try.Dn
open Go.Dn

/-! ### plain -/
theorem rule_isR {n : Nat} {l : List Line} (hc : chk (n : Int) l = 0) {r : Nat} (h : r ∈ rulesP n (rowsOf l)) : isR l r = true ∧ 0 < r ∧ r < 2 ^ n := by
  obtain ⟨hn1, hn2, hl, hf⟩ := chk_ok hc
  have hn : n ≤ 16 := by omega
  obtain ⟨hr, _⟩ := rowsOf_ok hn hf
  obtain ⟨i, hi, hfi, rfl⟩ := mem_rulesP.1 h
  have h1 := hr.rule_log hn hfi
  exact ⟨(isR_iff hn hf _).2 fun r' hr' => hr.rule_dot hn (by omega) hfi hr', h1.2.1, rulesP_lt hc _ h⟩

theorem isR_xor {n : Nat} {l : List Line} (hc : chk (n : Int) l = 0) {s t : Nat} (hs : isR l s = true) (ht : isR l t = true) : isR l (s ^^^ t) = true := by
  obtain ⟨hn1, hn2, hl, hf⟩ := chk_ok hc
  have hn : n ≤ 16 := by omega
  rw [isR_iff hn hf] at hs ht ⊢
  intro r hr
  rw [dot_xor_l, hs r hr, ht r hr]; rfl

theorem isR_zero {n : Nat} {l : List Line} (hc : chk (n : Int) l = 0) : isR l 0 = true := by
  obtain ⟨hn1, hn2, hl, hf⟩ := chk_ok hc
  rw [isR_iff (by omega) hf]
  intro r hr
  exact dot_zero_l r

theorem bits3 {p A B C : Nat} (d1 : A ≠ C) (d2 : B ≠ A) (d3 : B ≠ C) (c1 : p.testBit A = true) (c2 : p.testBit B = true) (c3 : p.testBit C = false) (i : Nat) :
    (p.testBit i ^^ ((p.testBit i && !(decide (A = i) || decide (B = i))) || decide (C = i))) = (decide (A = i) || decide (B = i) || decide (C = i)) := by
  by_cases a : A = i
  · subst a
    have e1 : decide (C = A) = false := decide_eq_false (Ne.symm d1)
    simp [c1, e1]
  · by_cases b : B = i
    · subst b
      have e1 : decide (C = B) = false := decide_eq_false (Ne.symm d3)
      simp [c2, e1, a]
    · by_cases c : C = i
      · subst c
        simp [c3]
      · simp [a, b, c]

theorem leap_xor {n : Int} {p : Nat} {x j : Line} (hp : p < 65536) (hf : Fits n x) (hj : j = x ∨ j = rev x) (hc : can p j = true) : p ^^^ leap p j = vec x := by
  apply Nat.eq_of_testBit_eq
  intro i
  have hv : (vec x).testBit i = (decide (x.1.toNat = i) || decide (x.2.1.toNat = i) || decide (x.2.2.toNat = i)) := by
    unfold vec
    rw [Nat.testBit_or, Nat.testBit_or, Nat.testBit_two_pow, Nat.testBit_two_pow, Nat.testBit_two_pow]
  unfold Fits at hf
  have d1 : x.1.toNat ≠ x.2.2.toNat := by omega
  have d2 : x.2.1.toNat ≠ x.1.toNat := by omega
  have d3 : x.2.1.toNat ≠ x.2.2.toNat := by omega
  rw [Nat.testBit_xor, leap_bit hp, hv]
  simp only [can, Bool.and_eq_true, Bool.not_eq_true'] at hc
  obtain ⟨⟨c1, c2⟩, c3⟩ := hc
  rcases hj with rfl | rfl
  · exact bits3 d1 d2 d3 c1 c2 c3 i
  · have := bits3 (A := x.2.2.toNat) (B := x.2.1.toNat) (C := x.1.toNat) (Ne.symm d1) d3 d2 c1 c2 c3 i
    show (p.testBit i ^^ ((p.testBit i && !(decide (x.2.2.toNat = i) || decide (x.2.1.toNat = i))) || decide (x.1.toNat = i))) = _
    rw [this]
    cases decide (x.1.toNat = i) <;> cases decide (x.2.1.toNat = i) <;> cases decide (x.2.2.toNat = i) <;> rfl

theorem jump_alike {n : Nat} {l : List Line} (hc : chk (n : Int) l = 0) {p : Nat} (hp : p < 65536) {j : Line} (hj : j ∈ js l) (hcan : can p j = true) : alikeB n l p (leap p j) = true := by
  obtain ⟨hn1, hn2, hl, hf⟩ := chk_ok hc
  rw [alike_iff hc]
  intro t _ ht
  obtain ⟨x, hx, hjx⟩ := (js_mem (l := l)).1 hj
  rw [leap_xor hp (hf x hx) hjx hcan, dot_vec hn2 (hf x hx)]
  unfold isR at ht
  have := List.all_eq_true.1 ht x hx
  simpa using this

theorem play_one {l : List Line} {p : Nat} {j : Line} (hj : j ∈ js l) (hcan : can p j = true) : playR l p [j] = (leap p j, true) := by
  simp only [playR, mem_js.1 hj, hcan, Bool.and_self, if_true]

end Go.Proofs.Try.Dn

/-
  Peg: mixed rules, and what a jump keeps: the law run, its loops.
-/

set_option maxHeartbeats 4000000
set_option maxRecDepth 100000
namespace Go.Proofs.Try.Dn
open Go.Dn

theorem all_step {α : Type} (P : α → Bool) {L : List α} {i : Nat} {r : α} (h : L[i]? = some r) : (L.take (i + 1)).all P = ((L.take i).all P && P r) := by
  have hi : i < L.length := (List.getElem?_eq_some_iff.1 h).1
  rw [List.take_add_one, h, List.all_append]
  simp

theorem nI_get {L : List Nat} {i r : Nat} (h : L[i]? = some r) : (nI L)[i]? = some (r : Int) := by
  unfold nI; rw [List.getElem?_map, h]; rfl

def e15 (n p q i mix : Nat) (b want A : Bool) (l : List Line) : Env :=
  [(0, .i .i64 (n : Int)), (5, .ref 0 0), (7, LT b l), (8, .i .i64 (p : Int)), (9, .i .i64 (q : Int)), (10, elI.lt b (nI (rulesP n (rowsOf l)))), (12, .b A), (14, .b want), (15, .i .i64 (mix : Int)), (16, .i .i64 (i : Int))]

theorem rem60 {i : Nat} (h : i ≤ 16) : binI .rem (.i .i64 (i : Int)) (.i .i64 60) = some (.i .i64 (i : Int)) := by
  rw [b_rem, if_neg (by decide), Int.tmod_eq_emod_of_nonneg (by omega)]
  congr 2; omega

theorem bit3 {c : Int} {i : Nat} (h : i ≤ 16) : ∃ z : Int, binI .rem (.i .i64 (c / 2 ^ i)) (.i .i64 2) = some (.i .i64 z) :=
  ⟨_, by rw [b_rem, if_neg (by decide)]⟩

theorem l15_1_round {pg : Pg} (hF : Free pg) {n : Nat} {l : List Line} (hc : chk (n : Int) l = 0) {p q : Nat} (hp : p < 2 ^ n) (hq : q < 2 ^ n) {b A : Bool} {P Q c : Int} {H : Heap} (h0 : H[0]? = some (.cells [.i .i64 P, .i .i64 Q, .i .i64 c] true))
    {i r mix : Nat} {want : Bool} (hr : (rulesP n (rowsOf l))[i]? = some r) (hm : mix < 2 ^ n) (hmr : isR l mix = true) :
    ∃ mix', den pg l15_1 (e15 n p q i mix b want A l) H = den pg l15_1 (e15 n p q (i + 1) mix' b (want && !dot r (p ^^^ q)) A l) H ∧ mix' < 2 ^ n ∧ isR l mix' = true := by
  obtain ⟨hn1, hn2, hl, hf⟩ := chk_ok hc
  have hn : n ≤ 16 := by omega
  have h16 := two16 hn
  have hcast : ((2 ^ n : Nat) : Int) = (2 : Int) ^ n := by simp
  have hsh : binI .shl (.i .i64 1) (.i .i64 (n : Int)) = some (.i .i64 ((2 : Int) ^ n)) := b_shl (k := .i64) (n := (n : Int)) ⟨by omega, by omega⟩
  have hmem := List.mem_of_getElem? hr
  have hi : i < (rulesP n (rowsOf l)).length := (List.getElem?_eq_some_iff.1 hr).1
  have hlr := rulesP_len (n := n) (rows := rowsOf l)
  obtain ⟨hrR, hr0, hrn⟩ := rule_isR hc hmem
  have hV : elI.View H (elI.lt b (nI (rulesP n (rowsOf l)))) (nI (rulesP n (rowsOf l))) := El.lt_view _ _ _
  have hln : lenK 0 (elI.lt b (nI (rulesP n (rowsOf l)))) H = some (rulesP n (rowsOf l)).length := by have := hV.lenK H; rwa [nI_len] at this
  obtain ⟨pt, hix, hld⟩ := ixI (pg := pg) (R := den pg) hV (nI_get hr)
  have c45 := fun H => Fn.call (fn45 hF hc (by omega : r < 65536)) (args := [LT b l, .i .i64 (r : Int)]) (ks := []) (fs := []) (cs := []) (H := H) (by simp [snapArgs, sn_i, LW_snap0])
  rw [hrR] at c45
  have ap := and_eq (m := r) (k := p) (by omega) (by omega)
  have aq := and_eq (m := r) (k := q) (by omega) (by omega)
  have lp : r &&& p ≤ r := Nat.and_le_left
  have lq : r &&& q ≤ r := Nat.and_le_left
  have c23p := fun H => Fn.call (fn23 hF (by omega : r &&& p < 65536)) (args := [.i .i64 ((r &&& p : Nat) : Int)]) (ks := []) (fs := []) (cs := []) (H := H) (by simp [snapArgs, sn_i])
  have c23q := fun H => Fn.call (fn23 hF (by omega : r &&& q < 65536)) (args := [.i .i64 ((r &&& q : Nat) : Int)]) (ks := []) (fs := []) (cs := []) (H := H) (by simp [snapArgs, sn_i])
  have hd := dot_sum r p q
  have pl1 := pegs_le (r &&& p)
  have pl2 := pegs_le (r &&& q)
  generalize r &&& p = sp at *
  generalize r &&& q = sq at *
  generalize dot r (p ^^^ q) = D at *
  have w1 : wrapR .i64 ((pegs sp : Int) + (pegs sq : Int)) = .i .i64 ((pegs sp : Int) + (pegs sq : Int)) := gX82 (by omega)
  have hrm : binI .rem (.i .i64 ((pegs sp : Int) + (pegs sq : Int))) (.i .i64 2) = some (.i .i64 (((pegs sp + pegs sq) % 2 : Nat) : Int)) := by
    rw [b_rem, if_neg (by decide), Int.tmod_eq_emod_of_nonneg (by omega)]
    simp
  generalize pegs sp = X1 at *
  generalize pegs sq = X2 at *
  have hxr := xor_eq (m := mix) (k := r) (by omega) (by omega)
  have hxl : mix ^^^ r < 2 ^ n := Nat.xor_lt_two_pow hm hrn
  have hxR : isR l (mix ^^^ r) = true := isR_xor hc hmr hrR
  have h60 := rem60 (i := i) (by omega)
  have hsr := shr_eq (p := c) (i := i) (k := .i64) (by omega)
  obtain ⟨z, hz⟩ := bit3 (c := c) (i := i) (by omega)
  generalize c / 2 ^ i = cz at hsr hz
  have e0 : ((i : Int) < ((rulesP n (rowsOf l)).length : Int)) := by omega
  have e1 : ¬ ((r : Int) < 1) := by omega
  have e2 : ¬ ((2 : Int) ^ n ≤ (r : Int)) := by omega
  have e3 : wrapR .i64 ((i : Int) + 1) = .i .i64 ((i : Int) + 1) := gX82 (by omega)
  have e5 : ∀ v : Bool, e15 n p q (i + 1) mix b v A l = [(0, .i .i64 (n : Int)), (5, .ref 0 0), (7, LT b l), (8, .i .i64 (p : Int)), (9, .i .i64 (q : Int)), (10, elI.lt b (nI (rulesP n (rowsOf l)))), (12, .b A), (14, .b v), (15, .i .i64 (mix : Int)), (16, .i .i64 ((i : Int) + 1))] := fun v => rfl
  have e6 : ∀ v : Bool, e15 n p q (i + 1) (mix ^^^ r) b v A l = [(0, .i .i64 (n : Int)), (5, .ref 0 0), (7, LT b l), (8, .i .i64 (p : Int)), (9, .i .i64 (q : Int)), (10, elI.lt b (nI (rulesP n (rowsOf l)))), (12, .b A), (14, .b v), (15, .i .i64 ((mix ^^^ r : Nat) : Int)), (16, .i .i64 ((i : Int) + 1))] := fun v => rfl
  have hD : (if (X1 + X2) % 2 = 0 then true else false) = !D := by
    rw [← hd]
    rcases (by omega : (X1 + X2) % 2 = 0 ∨ (X1 + X2) % 2 = 1) with e | e <;> simp [e]
  have hpar : (X1 + X2) % 2 = 0 ∧ D = false ∨ (X1 + X2) % 2 = 1 ∧ D = true := by
    rcases (by omega : (X1 + X2) % 2 = 0 ∨ (X1 + X2) % 2 = 1) with e | e
    · exact .inl ⟨e, by rw [← hd, e]; rfl⟩
    · exact .inr ⟨e, by rw [← hd, e]; rfl⟩
  clear hD hd
  have hprev : ∀ j, i = j + 1 → ∃ (r0 : Nat) (pt0 : TV), r0 < r ∧ dkc pg (den pg) (.ixS 1 false) [elI.lt b (nI (rulesP n (rowsOf l))), .i .i64 (j : Int)] H = some (pt0, H) ∧ dkc pg (den pg) (.ld 1 false) [pt0] H = some (.i .i64 (r0 : Int), H) := by
    intro j hj
    obtain ⟨hrr, _⟩ := rowsOf_ok hn hf
    have hs := hrr.sorted hn
    have hjl : j < (rulesP n (rowsOf l)).length := by omega
    obtain ⟨r0, h0'⟩ : ∃ r0, (rulesP n (rowsOf l))[j]? = some r0 := ⟨_, List.getElem?_eq_getElem hjl⟩
    obtain ⟨pt0, a1, a2⟩ := ixI (pg := pg) (R := den pg) hV (nI_get h0')
    refine ⟨r0, pt0, ?_, a1, a2⟩
    have := List.pairwise_iff_getElem.1 hs j i hjl hi (by omega)
    rw [List.getElem?_eq_getElem hjl] at h0'
    rw [List.getElem?_eq_getElem hi] at hr
    simp only [Option.some.injEq] at h0' hr
    rwa [h0', hr] at this
  unfold e15 at *
  generalize elI.lt b (nI (rulesP n (rowsOf l))) = RL at *
  generalize (rulesP n (rowsOf l)).length = len at *
  generalize LT b l = LL at *
  generalize (2 : Int) ^ n = PW at *
  by_cases hz0 : z = 0
  · refine ⟨mix, ?_, hm, hmr⟩
    rw [e5]
    clear e5 e6
    subst hz0
    cases i with
    | zero =>
      have el : 0 < len := hi
      have e33 : wrapR .i64 1 = .i .i64 1 := rfl
      simp only [Int.natCast_zero, Int.zero_add, List.take_zero] at *
      cases want with
      | false =>
        rw [l15_1, den_loop]
        simp [l15_1, b15_0, gX0, gX1, gX2, gX3, gX4, gX5, gX6, gX7, gX8, gX9, gXa, gXb, gXc, gXd, gXe, gXf, gXg, gXh, gXi, gXj, gXk, gXl, gXm, gXn, gXo, gXp, gXq, gXr, gXs, gXt, gXu, gXv, gXw, gXx, k_mv, gXy, gXz, gX01, gX11, gX21, gX31, gX41, gX51, gX61, gX71, gX81, gX91, gXa1, gXb1, gXc1, gXd1, gXe1, gXf1, gXg1, gXh1, gXi1, gXj1, gXk1, gXl1, gXm1, gXn1, gXo1, gXp1, gXq1, gXr1, gXs1, gXt1, gXu1, k_mn, k_mx, gXv1, gXw1, gXx1, gXy1, gXz1, gX02, gX12, gX22, gX32, gX42, gX52, gX62, gX72, Dn.setLast, Dn.getLast, evalO, mapO, Dn.get, putE, keepE, TV.one, TV.isAgg, Dn.part, hln, e0, el, hix, hld, e1, hsh, e2, c45, h0, h60, hsr, hz, e3, e33]
      | true =>
        rcases hpar with ⟨hpe, rfl⟩ | ⟨hpe, rfl⟩ <;> rw [hpe] at hrm <;> simp only [Int.natCast_zero, Int.natCast_one] at hrm
        · rw [l15_1, den_loop]
          simp [l15_1, b15_0, gX0, gX1, gX2, gX3, gX4, gX5, gX6, gX7, gX8, gX9, gXa, gXb, gXc, gXd, gXe, gXf, gXg, gXh, gXi, gXj, gXk, gXl, gXm, gXn, gXo, gXp, gXq, gXr, gXs, gXt, gXu, gXv, gXw, gXx, k_mv, gXy, gXz, gX01, gX11, gX21, gX31, gX41, gX51, gX61, gX71, gX81, gX91, gXa1, gXb1, gXc1, gXd1, gXe1, gXf1, gXg1, gXh1, gXi1, gXj1, gXk1, gXl1, gXm1, gXn1, gXo1, gXp1, gXq1, gXr1, gXs1, gXt1, gXu1, k_mn, k_mx, gXv1, gXw1, gXx1, gXy1, gXz1, gX02, gX12, gX22, gX32, gX42, gX52, gX62, gX72, Dn.setLast, Dn.getLast, evalO, mapO, Dn.get, putE, keepE, TV.one, TV.isAgg, Dn.part, hln, e0, el, hix, hld, e1, hsh, e2, c45, h0, h60, hsr, hz, e3, e33, ap, aq, c23p, c23q, w1, hrm]
        · rw [l15_1, den_loop]
          simp [l15_1, b15_0, gX0, gX1, gX2, gX3, gX4, gX5, gX6, gX7, gX8, gX9, gXa, gXb, gXc, gXd, gXe, gXf, gXg, gXh, gXi, gXj, gXk, gXl, gXm, gXn, gXo, gXp, gXq, gXr, gXs, gXt, gXu, gXv, gXw, gXx, k_mv, gXy, gXz, gX01, gX11, gX21, gX31, gX41, gX51, gX61, gX71, gX81, gX91, gXa1, gXb1, gXc1, gXd1, gXe1, gXf1, gXg1, gXh1, gXi1, gXj1, gXk1, gXl1, gXm1, gXn1, gXo1, gXp1, gXq1, gXr1, gXs1, gXt1, gXu1, k_mn, k_mx, gXv1, gXw1, gXx1, gXy1, gXz1, gX02, gX12, gX22, gX32, gX42, gX52, gX62, gX72, Dn.setLast, Dn.getLast, evalO, mapO, Dn.get, putE, keepE, TV.one, TV.isAgg, Dn.part, hln, e0, el, hix, hld, e1, hsh, e2, c45, h0, h60, hsr, hz, e3, e33, ap, aq, c23p, c23q, w1, hrm]
    | succ j =>
      have el : j + 1 < len := hi
      obtain ⟨r0, pt0, hlt, a1, a2⟩ := hprev j rfl
      have e7 : (0 : Int) < ((j + 1 : Nat) : Int) := by omega
      have e8 : wrapR .i64 (((j + 1 : Nat) : Int) - 1) = .i .i64 (j : Int) := by rw [show ((j + 1 : Nat) : Int) - 1 = (j : Int) by omega]; exact gX82 (by omega)
      have e9 : ¬ ((r : Int) ≤ (r0 : Int)) := by omega
      generalize ((j + 1 : Nat) : Int) = J at *
      clear hprev
      cases want with
      | false =>
        rw [l15_1, den_loop]
        simp [l15_1, b15_0, gX0, gX1, gX2, gX3, gX4, gX5, gX6, gX7, gX8, gX9, gXa, gXb, gXc, gXd, gXe, gXf, gXg, gXh, gXi, gXj, gXk, gXl, gXm, gXn, gXo, gXp, gXq, gXr, gXs, gXt, gXu, gXv, gXw, gXx, k_mv, gXy, gXz, gX01, gX11, gX21, gX31, gX41, gX51, gX61, gX71, gX81, gX91, gXa1, gXb1, gXc1, gXd1, gXe1, gXf1, gXg1, gXh1, gXi1, gXj1, gXk1, gXl1, gXm1, gXn1, gXo1, gXp1, gXq1, gXr1, gXs1, gXt1, gXu1, k_mn, k_mx, gXv1, gXw1, gXx1, gXy1, gXz1, gX02, gX12, gX22, gX32, gX42, gX52, gX62, gX72, Dn.setLast, Dn.getLast, evalO, mapO, Dn.get, putE, keepE, TV.one, TV.isAgg, Dn.part, hln, e0, el, hix, hld, e1, hsh, e2, c45, h0, h60, hsr, hz, e3, e7, e8, a1, a2, e9]
      | true =>
        rcases hpar with ⟨hpe, rfl⟩ | ⟨hpe, rfl⟩ <;> rw [hpe] at hrm <;> simp only [Int.natCast_zero, Int.natCast_one] at hrm
        · rw [l15_1, den_loop]
          simp [l15_1, b15_0, gX0, gX1, gX2, gX3, gX4, gX5, gX6, gX7, gX8, gX9, gXa, gXb, gXc, gXd, gXe, gXf, gXg, gXh, gXi, gXj, gXk, gXl, gXm, gXn, gXo, gXp, gXq, gXr, gXs, gXt, gXu, gXv, gXw, gXx, k_mv, gXy, gXz, gX01, gX11, gX21, gX31, gX41, gX51, gX61, gX71, gX81, gX91, gXa1, gXb1, gXc1, gXd1, gXe1, gXf1, gXg1, gXh1, gXi1, gXj1, gXk1, gXl1, gXm1, gXn1, gXo1, gXp1, gXq1, gXr1, gXs1, gXt1, gXu1, k_mn, k_mx, gXv1, gXw1, gXx1, gXy1, gXz1, gX02, gX12, gX22, gX32, gX42, gX52, gX62, gX72, Dn.setLast, Dn.getLast, evalO, mapO, Dn.get, putE, keepE, TV.one, TV.isAgg, Dn.part, hln, e0, el, hix, hld, e1, hsh, e2, c45, h0, h60, hsr, hz, e3, e7, e8, a1, a2, e9, ap, aq, c23p, c23q, w1, hrm]
        · rw [l15_1, den_loop]
          simp [l15_1, b15_0, gX0, gX1, gX2, gX3, gX4, gX5, gX6, gX7, gX8, gX9, gXa, gXb, gXc, gXd, gXe, gXf, gXg, gXh, gXi, gXj, gXk, gXl, gXm, gXn, gXo, gXp, gXq, gXr, gXs, gXt, gXu, gXv, gXw, gXx, k_mv, gXy, gXz, gX01, gX11, gX21, gX31, gX41, gX51, gX61, gX71, gX81, gX91, gXa1, gXb1, gXc1, gXd1, gXe1, gXf1, gXg1, gXh1, gXi1, gXj1, gXk1, gXl1, gXm1, gXn1, gXo1, gXp1, gXq1, gXr1, gXs1, gXt1, gXu1, k_mn, k_mx, gXv1, gXw1, gXx1, gXy1, gXz1, gX02, gX12, gX22, gX32, gX42, gX52, gX62, gX72, Dn.setLast, Dn.getLast, evalO, mapO, Dn.get, putE, keepE, TV.one, TV.isAgg, Dn.part, hln, e0, el, hix, hld, e1, hsh, e2, c45, h0, h60, hsr, hz, e3, e7, e8, a1, a2, e9, ap, aq, c23p, c23q, w1, hrm]
  · refine ⟨mix ^^^ r, ?_, hxl, hxR⟩
    rw [e6]
    clear e5 e6
    have ez : (z == 0) = false := by simp [hz0]
    cases i with
    | zero =>
      have el : 0 < len := hi
      have e33 : wrapR .i64 1 = .i .i64 1 := rfl
      simp only [Int.natCast_zero, Int.zero_add, List.take_zero] at *
      cases want with
      | false =>
        rw [l15_1, den_loop]
        simp [l15_1, b15_0, gX0, gX1, gX2, gX3, gX4, gX5, gX6, gX7, gX8, gX9, gXa, gXb, gXc, gXd, gXe, gXf, gXg, gXh, gXi, gXj, gXk, gXl, gXm, gXn, gXo, gXp, gXq, gXr, gXs, gXt, gXu, gXv, gXw, gXx, k_mv, gXy, gXz, gX01, gX11, gX21, gX31, gX41, gX51, gX61, gX71, gX81, gX91, gXa1, gXb1, gXc1, gXd1, gXe1, gXf1, gXg1, gXh1, gXi1, gXj1, gXk1, gXl1, gXm1, gXn1, gXo1, gXp1, gXq1, gXr1, gXs1, gXt1, gXu1, k_mn, k_mx, gXv1, gXw1, gXx1, gXy1, gXz1, gX02, gX12, gX22, gX32, gX42, gX52, gX62, gX72, Dn.setLast, Dn.getLast, evalO, mapO, Dn.get, putE, keepE, TV.one, TV.isAgg, Dn.part, hln, e0, el, hix, hld, e1, hsh, e2, c45, h0, h60, hsr, hz, e3, e33, hz0, ez, hxr]
      | true =>
        rcases hpar with ⟨hpe, rfl⟩ | ⟨hpe, rfl⟩ <;> rw [hpe] at hrm <;> simp only [Int.natCast_zero, Int.natCast_one] at hrm
        · rw [l15_1, den_loop]
          simp [l15_1, b15_0, gX0, gX1, gX2, gX3, gX4, gX5, gX6, gX7, gX8, gX9, gXa, gXb, gXc, gXd, gXe, gXf, gXg, gXh, gXi, gXj, gXk, gXl, gXm, gXn, gXo, gXp, gXq, gXr, gXs, gXt, gXu, gXv, gXw, gXx, k_mv, gXy, gXz, gX01, gX11, gX21, gX31, gX41, gX51, gX61, gX71, gX81, gX91, gXa1, gXb1, gXc1, gXd1, gXe1, gXf1, gXg1, gXh1, gXi1, gXj1, gXk1, gXl1, gXm1, gXn1, gXo1, gXp1, gXq1, gXr1, gXs1, gXt1, gXu1, k_mn, k_mx, gXv1, gXw1, gXx1, gXy1, gXz1, gX02, gX12, gX22, gX32, gX42, gX52, gX62, gX72, Dn.setLast, Dn.getLast, evalO, mapO, Dn.get, putE, keepE, TV.one, TV.isAgg, Dn.part, hln, e0, el, hix, hld, e1, hsh, e2, c45, h0, h60, hsr, hz, e3, e33, ap, aq, c23p, c23q, w1, hrm, hz0, ez, hxr]
        · rw [l15_1, den_loop]
          simp [l15_1, b15_0, gX0, gX1, gX2, gX3, gX4, gX5, gX6, gX7, gX8, gX9, gXa, gXb, gXc, gXd, gXe, gXf, gXg, gXh, gXi, gXj, gXk, gXl, gXm, gXn, gXo, gXp, gXq, gXr, gXs, gXt, gXu, gXv, gXw, gXx, k_mv, gXy, gXz, gX01, gX11, gX21, gX31, gX41, gX51, gX61, gX71, gX81, gX91, gXa1, gXb1, gXc1, gXd1, gXe1, gXf1, gXg1, gXh1, gXi1, gXj1, gXk1, gXl1, gXm1, gXn1, gXo1, gXp1, gXq1, gXr1, gXs1, gXt1, gXu1, k_mn, k_mx, gXv1, gXw1, gXx1, gXy1, gXz1, gX02, gX12, gX22, gX32, gX42, gX52, gX62, gX72, Dn.setLast, Dn.getLast, evalO, mapO, Dn.get, putE, keepE, TV.one, TV.isAgg, Dn.part, hln, e0, el, hix, hld, e1, hsh, e2, c45, h0, h60, hsr, hz, e3, e33, ap, aq, c23p, c23q, w1, hrm, hz0, ez, hxr]
    | succ j =>
      have el : j + 1 < len := hi
      obtain ⟨r0, pt0, hlt, a1, a2⟩ := hprev j rfl
      have e7 : (0 : Int) < ((j + 1 : Nat) : Int) := by omega
      have e8 : wrapR .i64 (((j + 1 : Nat) : Int) - 1) = .i .i64 (j : Int) := by rw [show ((j + 1 : Nat) : Int) - 1 = (j : Int) by omega]; exact gX82 (by omega)
      have e9 : ¬ ((r : Int) ≤ (r0 : Int)) := by omega
      generalize ((j + 1 : Nat) : Int) = J at *
      clear hprev
      cases want with
      | false =>
        rw [l15_1, den_loop]
        simp [l15_1, b15_0, gX0, gX1, gX2, gX3, gX4, gX5, gX6, gX7, gX8, gX9, gXa, gXb, gXc, gXd, gXe, gXf, gXg, gXh, gXi, gXj, gXk, gXl, gXm, gXn, gXo, gXp, gXq, gXr, gXs, gXt, gXu, gXv, gXw, gXx, k_mv, gXy, gXz, gX01, gX11, gX21, gX31, gX41, gX51, gX61, gX71, gX81, gX91, gXa1, gXb1, gXc1, gXd1, gXe1, gXf1, gXg1, gXh1, gXi1, gXj1, gXk1, gXl1, gXm1, gXn1, gXo1, gXp1, gXq1, gXr1, gXs1, gXt1, gXu1, k_mn, k_mx, gXv1, gXw1, gXx1, gXy1, gXz1, gX02, gX12, gX22, gX32, gX42, gX52, gX62, gX72, Dn.setLast, Dn.getLast, evalO, mapO, Dn.get, putE, keepE, TV.one, TV.isAgg, Dn.part, hln, e0, el, hix, hld, e1, hsh, e2, c45, h0, h60, hsr, hz, e3, e7, e8, a1, a2, e9, hz0, ez, hxr]
      | true =>
        rcases hpar with ⟨hpe, rfl⟩ | ⟨hpe, rfl⟩ <;> rw [hpe] at hrm <;> simp only [Int.natCast_zero, Int.natCast_one] at hrm
        · rw [l15_1, den_loop]
          simp [l15_1, b15_0, gX0, gX1, gX2, gX3, gX4, gX5, gX6, gX7, gX8, gX9, gXa, gXb, gXc, gXd, gXe, gXf, gXg, gXh, gXi, gXj, gXk, gXl, gXm, gXn, gXo, gXp, gXq, gXr, gXs, gXt, gXu, gXv, gXw, gXx, k_mv, gXy, gXz, gX01, gX11, gX21, gX31, gX41, gX51, gX61, gX71, gX81, gX91, gXa1, gXb1, gXc1, gXd1, gXe1, gXf1, gXg1, gXh1, gXi1, gXj1, gXk1, gXl1, gXm1, gXn1, gXo1, gXp1, gXq1, gXr1, gXs1, gXt1, gXu1, k_mn, k_mx, gXv1, gXw1, gXx1, gXy1, gXz1, gX02, gX12, gX22, gX32, gX42, gX52, gX62, gX72, Dn.setLast, Dn.getLast, evalO, mapO, Dn.get, putE, keepE, TV.one, TV.isAgg, Dn.part, hln, e0, el, hix, hld, e1, hsh, e2, c45, h0, h60, hsr, hz, e3, e7, e8, a1, a2, e9, ap, aq, c23p, c23q, w1, hrm, hz0, ez, hxr]
        · rw [l15_1, den_loop]
          simp [l15_1, b15_0, gX0, gX1, gX2, gX3, gX4, gX5, gX6, gX7, gX8, gX9, gXa, gXb, gXc, gXd, gXe, gXf, gXg, gXh, gXi, gXj, gXk, gXl, gXm, gXn, gXo, gXp, gXq, gXr, gXs, gXt, gXu, gXv, gXw, gXx, k_mv, gXy, gXz, gX01, gX11, gX21, gX31, gX41, gX51, gX61, gX71, gX81, gX91, gXa1, gXb1, gXc1, gXd1, gXe1, gXf1, gXg1, gXh1, gXi1, gXj1, gXk1, gXl1, gXm1, gXn1, gXo1, gXp1, gXq1, gXr1, gXs1, gXt1, gXu1, k_mn, k_mx, gXv1, gXw1, gXx1, gXy1, gXz1, gX02, gX12, gX22, gX32, gX42, gX52, gX62, gX72, Dn.setLast, Dn.getLast, evalO, mapO, Dn.get, putE, keepE, TV.one, TV.isAgg, Dn.part, hln, e0, el, hix, hld, e1, hsh, e2, c45, h0, h60, hsr, hz, e3, e7, e8, a1, a2, e9, ap, aq, c23p, c23q, w1, hrm, hz0, ez, hxr]

theorem l15_1_all {pg : Pg} (hF : Free pg) {n : Nat} {l : List Line} (hc : chk (n : Int) l = 0) {p q : Nat} (hp : p < 2 ^ n) (hq : q < 2 ^ n) {b A : Bool} {P Q c : Int} {H : Heap} (h0 : H[0]? = some (.cells [.i .i64 P, .i .i64 Q, .i .i64 c] true)) :
    ∀ (f i mix : Nat) (want : Bool), i + f = (rulesP n (rowsOf l)).length → mix < 2 ^ n → isR l mix = true → want = ((rulesP n (rowsOf l)).take i).all (fun r => !dot r (p ^^^ q)) →
    ∃ mix', den pg l15_1 (e15 n p q i mix b want A l) H = some ⟨.exit 0, e15 n p q (rulesP n (rowsOf l)).length mix' b (alikeB n l p q) A l ++ [(73, .b false)], H⟩ ∧ mix' < 2 ^ n ∧ isR l mix' = true
  | 0, i, mix, want, h, hm, hmr, hw => by
    have hV : elI.View H (elI.lt b (nI (rulesP n (rowsOf l)))) (nI (rulesP n (rowsOf l))) := El.lt_view _ _ _
    have hln : lenK 0 (elI.lt b (nI (rulesP n (rowsOf l)))) H = some (rulesP n (rowsOf l)).length := by have := hV.lenK H; rwa [nI_len] at this
    rw [Nat.add_zero] at h
    have hw' : want = alikeB n l p q := by rw [hw, h, List.take_length]; rfl
    refine ⟨mix, ?_, hm, hmr⟩
    rw [← hw', h]
    clear hV hw hw' h
    unfold e15
    generalize elI.lt b (nI (rulesP n (rowsOf l))) = RL at *
    generalize (rulesP n (rowsOf l)).length = len at *
    generalize LT b l = LL at *
    rw [l15_1, den_loop]
    simp [b15_0, gX0, gX1, gX2, gX3, gX4, gX5, gX6, gX7, gX8, gX9, gXa, gXb, gXc, gXd, gXe, gXf, gXg, gXh, gXi, gXj, gXk, gXl, gXm, gXn, gXo, gXp, gXq, gXr, gXs, gXt, gXu, gXv, gXw, gXx, k_mv, gXy, gXz, gX01, gX11, gX21, gX31, gX41, gX51, gX61, gX71, gX81, gX91, gXa1, gXb1, gXc1, gXd1, gXe1, gXf1, gXg1, gXh1, gXi1, gXj1, gXk1, gXl1, gXm1, gXn1, gXo1, gXp1, gXq1, gXr1, gXs1, gXt1, gXu1, k_mn, k_mx, gXv1, gXw1, gXx1, gXy1, gXz1, gX02, gX12, gX22, gX32, gX42, gX52, gX62, gX72, Dn.setLast, Dn.getLast, evalO, mapO, Dn.get, putE, keepE, TV.one, TV.isAgg, Dn.part, hln]
  | f + 1, i, mix, want, h, hm, hmr, hw => by
    obtain ⟨r, hr⟩ : ∃ r, (rulesP n (rowsOf l))[i]? = some r := ⟨_, List.getElem?_eq_getElem (by omega)⟩
    obtain ⟨m1, w1, w2, w3⟩ := l15_1_round (pg := pg) hF hc hp hq (b := b) (A := A) h0 (want := want) hr hm hmr
    obtain ⟨m2, v1, v2, v3⟩ := l15_1_all (pg := pg) hF hc hp hq (b := b) (A := A) h0 f (i + 1) m1 (want && !dot r (p ^^^ q)) (by omega) w2 w3 (by rw [all_step _ hr, hw])
    exact ⟨m2, w1.trans v1, v2, v3⟩

theorem l15_3_all {pg : Pg} (hF : Free pg) {n : Nat} {l : List Line} (hc : chk (n : Int) l = 0) {p : Nat} (hp : p < 2 ^ n) (hout : outOf (n : Int) (p : Int) = false) {b : Bool} {V : TV} {J : List Line} (hJ : ∀ z, z ∈ J ↔ z ∈ js l ∧ can p z = true) (hJl : J.length ≤ 1000) {H : Heap} : ∀ (f i : Nat), i + f = J.length →
    ∃ e, den pg l15_3 [(0, .i .i64 (n : Int)), (7, LT b l), (8, .i .i64 (p : Int)), (17, LT false J), (18, V), (19, .i .i64 (i : Int))] H = some ⟨.exit 2, e, H⟩ ∧ get e 18 = some V
  | 0, i, h => by
    obtain rfl : i = J.length := by omega
    have ln := LT_len false J
    refine ⟨[(0, .i .i64 (n : Int)), (7, LT b l), (8, .i .i64 (p : Int)), (17, LT false J), (18, V), (19, .i .i64 (J.length : Int)), (167, .b false)], ?_, rfl⟩
    rw [l15_3, den_loop]
    simp [b15_2, gX0, gX1, gX2, gX3, gX4, gX5, gX6, gX7, gX8, gX9, gXa, gXb, gXc, gXd, gXe, gXf, gXg, gXh, gXi, gXj, gXk, gXl, gXm, gXn, gXo, gXp, gXq, gXr, gXs, gXt, gXu, gXv, gXw, gXx, k_mv, gXy, gXz, gX01, gX11, gX21, gX31, gX41, gX51, gX61, gX71, gX81, gX91, gXa1, gXb1, gXc1, gXd1, gXe1, gXf1, gXg1, gXh1, gXi1, gXj1, gXk1, gXl1, gXm1, gXn1, gXo1, gXp1, gXq1, gXr1, gXs1, gXt1, gXu1, k_mn, k_mx, gXv1, gXw1, gXx1, gXy1, gXz1, gX02, gX12, gX22, gX32, gX42, gX52, gX62, gX72, Dn.setLast, Dn.getLast, evalO, mapO, Dn.get, putE, keepE, TV.one, TV.isAgg, Dn.part, ln]
  | f + 1, i, h => by
    obtain ⟨hn1, hn2, hl, hf⟩ := chk_ok hc
    have hn : n ≤ 16 := by omega
    have h16 := two16 hn
    have ln := LT_len false J
    obtain ⟨z, hz⟩ : ∃ z, J[i]? = some z := ⟨_, List.getElem?_eq_getElem (by omega)⟩
    have hi : i < J.length := by omega
    obtain ⟨hzl, hzc⟩ := (hJ z).1 (List.mem_of_getElem? hz)
    have e1 : ((i : Int) < (J.length : Int)) := by omega
    have e2 : wrapR .i64 ((i : Int) + 1) = .i .i64 ((i : Int) + 1) := gX82 (by omega)
    obtain ⟨v, hs, hv, _⟩ := (LT_view false J H).slc (lo := i) (hi := i + 1) (by omega) (by omega) (bl := true) (bh := true) (vs := [.i .i64 (i : Int), .i .i64 ((i : Int) + 1)]) (by
      have t1 : ((i : Int) + 1).toNat = i + 1 := by omega
      have t2 : (0 : Int) ≤ (i : Int) + 1 := by omega
      simp [bounds3, bound, t1, t2]
      try omega)
    have hone : (J.take (i + 1)).drop i = [z] := by
      rw [List.take_add_one, hz, List.drop_append_of_le_length (by rw [List.length_take]; omega), List.drop_eq_nil_of_le (by rw [List.length_take]; omega)]
      rfl
    rw [hone] at hv
    have hnil : v ≠ .nilsl := by
      intro e
      subst e
      rcases hv with ⟨_, h⟩ | ⟨_, h⟩ | ⟨_, _, _, _, _, h, _⟩
      · cases h
      · cases h
      · cases h
    have hsn := hv.snap elL_flat hnil
    have hsn' : snap .borrow H 9 v = some (LT true [z]) := hsn
    have c40 := Fn.call (fn40 hF hc (g := [z]) (by simp) (by omega : p < 65536) hout) (args := [.i .i64 (n : Int), LT b l, .i .i64 (p : Int), v]) (ks := []) (fs := []) (cs := []) (H := H) (by simp [snapArgs, sn_i, LW_snap0, hsn'])
    rw [play_one hzl hzc] at c40
    simp only [if_true] at c40
    have hfj := js_fits hf z hzl
    have hlp : leap p z < 2 ^ n := leap_ltn hp (by unfold FitsJ at hfj; omega)
    have c28 := fun H => Fn.call (fn28w hF hc hp hlp) (args := [.i .i64 (n : Int), LT b l, .i .i64 (p : Int), .i .i64 (leap p z : Int)]) (ks := []) (fs := []) (cs := []) (H := H) (by simp [snapArgs, sn_i, LW_snap0])
    rw [jump_alike hc (by omega) hzl hzc] at c28
    have hs' : slcRun true true false 3 true (LT false J) [.i .i64 (i : Int), .i .i64 ((i : Int) + 1)] = some v := hs
    obtain ⟨e, ih, ie⟩ := l15_3_all (pg := pg) hF hc hp hout (b := b) (V := V) hJ hJl (H := H) f (i + 1) (by omega)
    refine ⟨e, Eq.trans ?_ ih, ie⟩
    clear ih ie hJ hs hv hsn hsn' hone hf hfj
    generalize LT false J = JL at *
    generalize LT b l = LL at *
    rw [l15_3, den_loop]
    simp [l15_3, b15_2, gX0, gX1, gX2, gX3, gX4, gX5, gX6, gX7, gX8, gX9, gXa, gXb, gXc, gXd, gXe, gXf, gXg, gXh, gXi, gXj, gXk, gXl, gXm, gXn, gXo, gXp, gXq, gXr, gXs, gXt, gXu, gXv, gXw, gXx, k_mv, gXy, gXz, gX01, gX11, gX21, gX31, gX41, gX51, gX61, gX71, gX81, gX91, gXa1, gXb1, gXc1, gXd1, gXe1, gXf1, gXg1, gXh1, gXi1, gXj1, gXk1, gXl1, gXm1, gXn1, gXo1, gXp1, gXq1, gXr1, gXs1, gXt1, gXu1, k_mn, k_mx, gXv1, gXw1, gXx1, gXy1, gXz1, gX02, gX12, gX22, gX32, gX42, gX52, gX62, gX72, Dn.setLast, Dn.getLast, evalO, mapO, Dn.get, putE, keepE, TV.one, TV.isAgg, Dn.part, ln, e1, e2, gXl1, hs', c40, c28]

end Go.Proofs.Try.Dn

/-
  Peg: mixed rules, and what a jump keeps: the law run.
-/

set_option maxHeartbeats 4000000
set_option maxRecDepth 100000
namespace Go.Proofs.Try.Dn
open Go.Dn

theorem run15 {pg : Pg} (hF : Free pg) (hQ : pg.Q 68 = some 3) (h22 : Fn pg 22 [] (.b true)) (n : Int) (t : TV) (l : List Line) (P Q C : Int) (ht : IsLines t l) :
    ∃ H, bodyRun pg (den pg) 15 [.i .i64 n, t, .agg [.i .i64 P, .i .i64 Q, .i .i64 C]] [] = some (.b true, H) := by
  obtain ⟨N, m, hN1, hN2, hm, hc, h18⟩ := call18 hF (n := n) (most := 16) (many := 20) (by omega) ht (by omega)
  simp only [Int.cast_ofNat_Int] at h18
  obtain ⟨k, rfl⟩ : ∃ k : Nat, N = (k : Int) := ⟨N.toNat, by omega⟩
  have hk16 : k ≤ 16 := by omega
  have h16 := two16 hk16
  have e3 : ∀ v, wrapR .u64 v = .i .u64 (IntKind.wrap .u64 v) := fun _ => rfl
  have hcast : ((2 ^ k : Nat) : Int) = (2 : Int) ^ k := by simp
  have hr1 := posOf_range hk16 P
  have hr2 := posOf_range hk16 Q
  have h2 : ¬ (2 : Int) ^ k = 0 := by omega
  have hpos1 := posOf_i64 hk16 P
  have hpos2 := posOf_i64 hk16 Q
  have hsh := b_shlu hk16
  obtain ⟨p, hpe⟩ : ∃ p : Nat, posOf k P = (p : Int) := ⟨(posOf k P).toNat, by omega⟩
  obtain ⟨q, hqe⟩ : ∃ q : Nat, posOf k Q = (q : Int) := ⟨(posOf k Q).toNat, by omega⟩
  rw [hpe] at hr1 hpos1
  rw [hqe] at hr2 hpos2
  have hp : p < 2 ^ k := by omega
  have hq : q < 2 ^ k := by omega
  have hout : outOf (k : Int) (p : Int) = false := by
    simp only [outOf, Int.toNat_natCast]
    simp
    omega
  obtain ⟨J, hJ, hJl, hS⟩ := exJ hc p
  have hb1 : ∀ H, dkc pg (den pg) (.box true) [.agg [.i .i64 P, .i .i64 Q, .i .i64 C]] H = some (.ref H.length 0, H ++ [.cells [.i .i64 P, .i .i64 Q, .i .i64 C] true]) := fun H => gX61 _ _ rfl
  have c27 := fun H => Fn.call (fn27 hF hc) (args := [.i .i64 (k : Int), LT false m]) (ks := []) (fs := []) (cs := []) (H := H) (by simp [snapArgs, sn_i, LW_snap0])
  have c28 := fun H => Fn.call (fn28w hF hc hp hq) (args := [.i .i64 (k : Int), LT false m, .i .i64 (p : Int), .i .i64 (q : Int)]) (ks := []) (fs := []) (cs := []) (H := H) (by simp [snapArgs, sn_i, LW_snap0])
  have c43 := fun H => Fn.call (fn43 hF hQ hc (p := p) (by omega) hout hJ hS) (args := [.i .i64 (k : Int), LT false m, .i .i64 (p : Int)]) (ks := []) (fs := []) (cs := []) (H := H) (by simp [snapArgs, sn_i, LW_snap0])
  obtain ⟨mix, w1, w2, w3⟩ := l15_1_all (pg := pg) hF hc hp hq (b := false) (A := alikeB k m p q) (P := P) (Q := Q) (c := C) (H := [.cells [.i .i64 P, .i .i64 Q, .i .i64 C] true]) rfl (rulesP k (rowsOf m)).length 0 0 true (by omega) (Nat.two_pow_pos k) (isR_zero hc) (by simp)
  have c45 := fun H => Fn.call (fn45 hF hc (by omega : mix < 65536)) (args := [LT false m, .i .i64 (mix : Int)]) (ks := []) (fs := []) (cs := []) (H := H) (by simp [snapArgs, sn_i, LW_snap0])
  rw [w3] at c45
  obtain ⟨e, hr, he⟩ := l15_3_all (pg := pg) hF hc hp hout (b := false) (V := .i .i64 0) hJ (by omega) (H := [.cells [.i .i64 P, .i .i64 Q, .i .i64 C] true]) J.length 0 (by omega)
  have c22 := fun H => Fn.call h22 (args := []) (ks := []) (fs := []) (cs := []) (H := H) (by simp [snapArgs])
  have hlr := rulesP_len (n := k) (rows := rowsOf m)
  have ln : ∀ H, lenK 0 (elI.lt false (nI (rulesP k (rowsOf m)))) H = some (rulesP k (rowsOf m)).length := fun H => by
    have := (El.lt_view (E := elI) false (nI (rulesP k (rowsOf m))) H).lenK H
    rwa [nI_len] at this
  have eg : ¬ ((k : Int) < ((rulesP k (rowsOf m)).length : Int)) := by omega
  unfold e15 at w1
  simp only [Int.natCast_zero, List.cons_append, List.nil_append] at w1 hr
  clear hJ hS w2 w3
  generalize elI.lt false (nI (rulesP k (rowsOf m))) = RL at *
  generalize (rulesP k (rowsOf m)).length = len at *
  generalize alikeB k m p q = AB at *
  generalize LT false J = JL at *
  generalize LT false m = M at *
  refine ⟨[.cells [.i .i64 P, .i .i64 Q, .i .i64 C] true], bodyRun_of (o := ⟨.ret, [(6, .b true)], [.cells [.i .i64 P, .i .i64 Q, .i .i64 C] true]⟩) (vs := [.b true]) (d := Try.Dn.d15) (by rw [hF.F]; rfl) rfl ?_ (by simp) rfl⟩
  rw [runC_go]
  show go pg (den pg) [.c c15] .normal [(0, .i .i64 n), (1, t), (2, .agg [.i .i64 P, .i .i64 Q, .i .i64 C])] [] = _
  simp [c15, gX0, gX1, gX2, gX3, gX4, gX5, gX6, gX7, gX8, gX9, gXa, gXb, gXc, gXd, gXe, gXf, gXg, gXh, gXi, gXj, gXk, gXl, gXm, gXn, gXo, gXp, gXq, gXr, gXs, gXt, gXu, gXv, gXw, gXx, k_mv, gXy, gXz, gX01, gX11, gX21, gX31, gX41, gX51, gX61, gX71, gX81, gX91, gXa1, gXb1, gXc1, gXd1, gXe1, gXf1, gXg1, gXh1, gXi1, gXj1, gXk1, gXl1, gXm1, gXn1, gXo1, gXp1, gXq1, gXr1, gXs1, gXt1, gXu1, k_mn, k_mx, gXv1, gXw1, gXx1, gXy1, gXz1, gX02, gX12, gX22, gX32, gX42, gX52, gX62, gX72, Dn.setLast, Dn.getLast, evalO, mapO, Dn.get, putE, keepE, TV.one, TV.isAgg, Dn.part, hb1, h18, e3, hsh, b_rem, h2, hpos1, hpos2, c27, c28, ln, eg, go_denK (c := l15_1) rfl, w1, c45, c43, go_denK (c := l15_3) rfl, hr, he, negb, c22]

end Go.Proofs.Try.Dn

