/-
  Chains: the program's and the reference's.
-/
import Derived.Test.YtijeefncmgjlpaaTG
set_option linter.unusedSimpArgs false
set_option linter.unusedVariables false

set_option maxHeartbeats 4000000
set_option maxRecDepth 100000
namespace Go.Proofs.Try.Dn
open Go.Dn

def bgL (f : Nat → Nat → Nat) (a b : Nat) : Nat → Nat → Nat
  | 0, _ => 0
  | r + 1, x => (if a % x ≠ 0 then 0 else if a = x ∧ b = 1 then 1 else f b (a / x)) + bgL f a b r (x + 1)
def bgC : Nat → Nat → Nat → Nat
  | 0, _, _ => 0
  | k + 1, a, b => bgL (bgC k) a b (a - 1) 2
def pcL (f : Nat → Nat → Nat) (a b : Nat) : Nat → Nat → Nat
  | 0, _ => 0
  | r + 1, x => (if a % x ≠ 0 then 0 else f b (a / x)) + pcL f a b r (x + 1)
def pcC : Nat → Nat → Nat → Nat
  | 0, _, _ => 0
  | k + 1, a, b => if a = 1 then (if b = 1 then 1 else 0) else pcL (pcC k) a b (a - 1) 2

def chC (n m : Nat) : Nat := if n = 1 ∧ m = 1 then 1 else bgC 7 n m + bgC 7 m n

theorem chC_eq : ∀ n m : Nat, 1 ≤ n → n ≤ 8 → 1 ≤ m → m ≤ 8 → n * m ≠ 1 → pcC 7 n m + pcC 7 m n = chC n m := by
  have h : ∀ n : Fin 9, ∀ m : Fin 9, 1 ≤ n.val → 1 ≤ m.val → n.val * m.val ≠ 1 → pcC 7 n.val m.val + pcC 7 m.val n.val = chC n.val m.val := by decide +kernel
  intro n m h1 h2 h3 h4 h5
  exact h ⟨n, by omega⟩ ⟨m, by omega⟩ h1 h3 h5

theorem pcL_le {f : Nat → Nat → Nat} {a b B : Nat} (hf : ∀ x, f b (a / x) ≤ B) : ∀ r x, pcL f a b r x ≤ r * B
  | 0, _ => by simp [pcL]
  | r + 1, x => by
    have ih := pcL_le (f := f) (a := a) (b := b) hf r (x + 1)
    have := hf x
    rw [pcL, Nat.add_mul, Nat.one_mul]
    split <;> omega

theorem pcC_le : ∀ (k a b : Nat), a ≤ 8 → b ≤ 8 → pcC k a b ≤ 8 ^ k
  | 0, _, _, _, _ => by simp [pcC]
  | k + 1, a, b, ha, hb => by
    rw [pcC]
    have h1 := pcL_le (f := pcC k) (a := a) (b := b) (B := 8 ^ k) (fun x => pcC_le k b (a / x) hb (Nat.le_trans (Nat.div_le_self _ _) ha)) (a - 1) 2
    have h3 : 1 ≤ 8 ^ k := Nat.one_le_pow _ _ (by decide)
    rw [Nat.pow_succ]
    have h2 : (a - 1) * 8 ^ k ≤ 8 * 8 ^ k := Nat.mul_le_mul_right _ (by omega)
    split
    · split <;> omega
    · omega

theorem b_quoN {a x : Nat} (hx : 1 ≤ x) (ha : a ≤ 1000) : binI .quo (.i .i64 (a : Int)) (.i .i64 (x : Int)) = some (.i .i64 ((a / x : Nat) : Int)) := by
  have h0 : ¬ (x : Int) = 0 := by omega
  have h1 : a / x ≤ a := Nat.div_le_self _ _
  have h2 : ((a : Int).tdiv (x : Int)) = ((a / x : Nat) : Int) := by simp [Int.tdiv]
  have h3 : binI .quo (.i .i64 (a : Int)) (.i .i64 (x : Int)) = if (x : Int) = 0 then none else some (wrapR .i64 ((a : Int).tdiv (x : Int))) := by simp [binI]
  generalize a / x = q at *
  rw [h3, if_neg h0, h2, gXd2 (by omega)]
theorem b_remN {a x : Nat} (hx : 1 ≤ x) : binI .rem (.i .i64 (a : Int)) (.i .i64 (x : Int)) = some (.i .i64 ((a % x : Nat) : Int)) := by
  rw [b_rem, if_neg (by omega), tmod_nat]

theorem div_small {a b x k : Nat} (hx : 2 ≤ x) (h : a * b < 2 ^ (k + 1)) : b * (a / x) < 2 ^ k := by
  have h1 : a / x * 2 ≤ a := by
    have := Nat.div_mul_le_self a x
    have h2 : a / x * 2 ≤ a / x * x := Nat.mul_le_mul_left _ hx
    omega
  have h2 : b * (a / x) * 2 ≤ a * b := by
    rw [Nat.mul_assoc, Nat.mul_comm a b]
    exact Nat.mul_le_mul_left _ h1
  rw [Nat.pow_succ] at h
  omega

/-! the program's own -/
theorem l61_1_all {pg : Pg} {r0 : Nat} {H : Heap} (h6 : H[r0]? = some (.cells [.fn 61 [] [.ref r0 0]] false)) {a b k : Nat} (ha : 1 ≤ a ∧ a ≤ 8) (hb : 1 ≤ b ∧ b ≤ 8) (hrec : ∀ x, 2 ≤ x → x ≤ a → a % x = 0 → bodyRun pg (den pg) 61 [.i .i64 (b : Int), .i .i64 ((a / x : Nat) : Int), .ref r0 0] H = some (.i .i64 (pcC k b (a / x) : Int), H)) : ∀ (r x s : Nat), x + r = a + 1 → 2 ≤ x → s + pcL (pcC k) a b r x ≤ 100000000 →
    ∃ e, den pg l61_1 [(0, .i .i64 (a : Int)), (1, .i .i64 (b : Int)), (2, .ref r0 0), (6, .i .i64 (s : Int)), (7, .i .i64 (x : Int))] H = some ⟨.exit 0, (0, .i .i64 (a : Int)) :: (1, .i .i64 (b : Int)) :: (2, .ref r0 0) :: (6, .i .i64 ((s + pcL (pcC k) a b r x : Nat) : Int)) :: e, H⟩
  | 0, x, s, hx, h2, hs => by
    have d0 : decide ((x : Int) ≤ (a : Int)) = false := dF (by omega)
    rw [show pcL (pcC k) a b 0 x = 0 from rfl, Nat.add_zero]
    refine ⟨[(7, .i .i64 (x : Int)), (14, .b false)], ?_⟩
    clear hrec
    generalize (x : Int) = X at *
    generalize (s : Int) = S at *
    generalize (a : Int) = A at *
    generalize (b : Int) = B at *
    rw [l61_1, den_loop]
    simp (disch := omega) [b61_0, gX0, gX1, gX2, gX3, gX4, gX5, gX6, gX7, gX8, gX9, gXa, gXb, gXc, gXd, gXe, gXf, gXg, gXh, gXi, gXj, gXk, gXl, gXm, gXn, gXo, gXp, gXq, gXr, gXs, gXt, gXu, gXv, gXw, gXx, k_mv, gXy, gXz, gX01, gX11, gX21, gX31, gX41, gX51, gX61, gX71, gX81, gX91, gXa1, gXb1, gXc1, gXd1, gXe1, gXf1, gXg1, gXh1, gXi1, gXj1, gXk1, gXl1, gXm1, gXn1, gXo1, gXp1, gXq1, gXr1, gXs1, gXt1, gXu1, k_mn, k_mx, gXv1, gXw1, gXx1, gXy1, gXz1, gX02, gX12, gX22, gX32, gX42, gX52, gX62, gX72, Dn.setLast, Dn.getLast, evalO, mapO, Dn.get, putE, gX82, gX92, gXa2, gXb2, TV.one, TV.isAgg, Dn.part, gXc2, negb, at0, at1, at2, at3, at4, dT, dF, gXd2, Option.bind_some, Option.map_some, d0]
  | r + 1, x, s, hx, h2, hs => by
    have d0 : decide ((x : Int) ≤ (a : Int)) = true := dT (by omega)
    have rm := b_remN (a := a) (x := x) (by omega)
    have w2 : wrapR .i64 ((x : Int) + 1) = .i .i64 ((x + 1 : Nat) : Int) := by rw [← Int.natCast_succ]; exact gXd2 (by omega)
    rw [pcL] at hs ⊢
    by_cases h0 : a % x = 0
    · rw [if_neg (by omega)] at hs ⊢
      rw [h0] at rm
      have qu := b_quoN (a := a) (x := x) (by omega) (by omega)
      obtain ⟨e, r1⟩ := l61_1_all h6 ha hb hrec r (x + 1) (s + pcC k b (a / x)) (by omega) (by omega) (by omega)
      rw [Nat.add_assoc] at r1
      refine ⟨e, Eq.trans ?_ r1⟩
      have w3 : wrapR .i64 ((s : Int) + ((pcC k b (a / x) : Nat) : Int)) = .i .i64 ((s + pcC k b (a / x) : Nat) : Int) := by rw [← Int.natCast_add]; exact gXd2 (by omega)
      have cl : callRun pg (den pg) .sh [.fn 61 [] [.ref r0 0], .i .i64 (b : Int), .i .i64 ((a / x : Nat) : Int)] H = some (.i .i64 (pcC k b (a / x) : Int), H) := hrec x h2 (by omega) h0
      have ld : dkc pg (den pg) (.ld 1 false) [.ref r0 0] H = some (.fn 61 [] [.ref r0 0], H) := by
        show dk (.ld 1 false) [.ref r0 0] H = _
        simp [dk, h6, Dn.part, TV.isAgg]
      clear hrec r1 hs h0 h6
      simp only [Int.natCast_zero] at rm
      generalize ((pcC k b (a / x) : Nat) : Int) = R at *
      generalize ((s + pcC k b (a / x) : Nat) : Int) = S2 at *
      generalize ((a / x : Nat) : Int) = Q at *
      generalize TV.fn 61 [] [.ref r0 0] = FN at *
      generalize TV.ref r0 0 = RR at *
      generalize ((x + 1 : Nat) : Int) = X2 at *
      generalize (x : Int) = X at *
      generalize (s : Int) = S at *
      generalize (a : Int) = A at *
      generalize (b : Int) = B at *
      rw [l61_1, den_loop]
      simp (disch := omega) [l61_1, b61_0, gX0, gX1, gX2, gX3, gX4, gX5, gX6, gX7, gX8, gX9, gXa, gXb, gXc, gXd, gXe, gXf, gXg, gXh, gXi, gXj, gXk, gXl, gXm, gXn, gXo, gXp, gXq, gXr, gXs, gXt, gXu, gXv, gXw, gXx, k_mv, gXy, gXz, gX01, gX11, gX21, gX31, gX41, gX51, gX61, gX71, gX81, gX91, gXa1, gXb1, gXc1, gXd1, gXe1, gXf1, gXg1, gXh1, gXi1, gXj1, gXk1, gXl1, gXm1, gXn1, gXo1, gXp1, gXq1, gXr1, gXs1, gXt1, gXu1, k_mn, k_mx, gXv1, gXw1, gXx1, gXy1, gXz1, gX02, gX12, gX22, gX32, gX42, gX52, gX62, gX72, Dn.setLast, Dn.getLast, evalO, mapO, Dn.get, putE, gX82, gX92, gXa2, gXb2, TV.one, TV.isAgg, Dn.part, gXc2, negb, at0, at1, at2, at3, at4, dT, dF, gXd2, Option.bind_some, Option.map_some, d0, rm, qu, ld, cl, w2, w3]
    · rw [if_pos h0, Nat.zero_add] at hs ⊢
      obtain ⟨e, r1⟩ := l61_1_all h6 ha hb hrec r (x + 1) s (by omega) (by omega) (by omega)
      refine ⟨e, Eq.trans ?_ r1⟩
      have h0' : ¬ ((a % x : Nat) : Int) = 0 := by omega
      clear hrec r1 hs h0 h6
      generalize ((a % x : Nat) : Int) = Q at *
      generalize ((x + 1 : Nat) : Int) = X2 at *
      generalize (x : Int) = X at *
      generalize (s : Int) = S at *
      generalize (a : Int) = A at *
      generalize (b : Int) = B at *
      rw [l61_1, den_loop]
      simp (disch := omega) [l61_1, b61_0, gX0, gX1, gX2, gX3, gX4, gX5, gX6, gX7, gX8, gX9, gXa, gXb, gXc, gXd, gXe, gXf, gXg, gXh, gXi, gXj, gXk, gXl, gXm, gXn, gXo, gXp, gXq, gXr, gXs, gXt, gXu, gXv, gXw, gXx, k_mv, gXy, gXz, gX01, gX11, gX21, gX31, gX41, gX51, gX61, gX71, gX81, gX91, gXa1, gXb1, gXc1, gXd1, gXe1, gXf1, gXg1, gXh1, gXi1, gXj1, gXk1, gXl1, gXm1, gXn1, gXo1, gXp1, gXq1, gXr1, gXs1, gXt1, gXu1, k_mn, k_mx, gXv1, gXw1, gXx1, gXy1, gXz1, gX02, gX12, gX22, gX32, gX42, gX52, gX62, gX72, Dn.setLast, Dn.getLast, evalO, mapO, Dn.get, putE, gX82, gX92, gXa2, gXb2, TV.one, TV.isAgg, Dn.part, gXc2, negb, at0, at1, at2, at3, at4, dT, dF, gXd2, Option.bind_some, Option.map_some, d0, rm, h0', w2]

theorem body61 {pg : Pg} (hF : Free pg) {r0 : Nat} {H : Heap} (h6 : H[r0]? = some (.cells [.fn 61 [] [.ref r0 0]] false)) : ∀ (k a b : Nat), k ≤ 7 → 1 ≤ a ∧ a ≤ 8 → 1 ≤ b ∧ b ≤ 8 → a * b < 2 ^ k → bodyRun pg (den pg) 61 [.i .i64 (a : Int), .i .i64 (b : Int), .ref r0 0] H = some (.i .i64 (pcC k a b : Int), H)
  | 0, a, b, _, ha, hb, h => by
    have : 1 * 1 ≤ a * b := Nat.mul_le_mul ha.1 hb.1
    simp at h; omega
  | k + 1, a, b, hk, ha, hb, h => by
    have hle := pcC_le (k + 1) a b ha.2 hb.2
    have h8 : 8 ^ (k + 1) ≤ 8 ^ 7 := Nat.pow_le_pow_right (by decide) hk
    refine body_of (x := .ret) (e := [(5, .i .i64 (pcC (k + 1) a b : Int))]) (d := d61) (by rw [hF.F]; rfl) rfl ?_ (.inl rfl) rfl
    rw [pcC] at hle ⊢
    by_cases h1 : a = 1
    · rw [if_pos h1]
      subst h1
      by_cases h2 : b = 1
      · rw [if_pos h2]
        subst h2
        simp (disch := omega) [d61, c61, zipE, gX0, gX1, gX2, gX3, gX4, gX5, gX6, gX7, gX8, gX9, gXa, gXb, gXc, gXd, gXe, gXf, gXg, gXh, gXi, gXj, gXk, gXl, gXm, gXn, gXo, gXp, gXq, gXr, gXs, gXt, gXu, gXv, gXw, gXx, k_mv, gXy, gXz, gX01, gX11, gX21, gX31, gX41, gX51, gX61, gX71, gX81, gX91, gXa1, gXb1, gXc1, gXd1, gXe1, gXf1, gXg1, gXh1, gXi1, gXj1, gXk1, gXl1, gXm1, gXn1, gXo1, gXp1, gXq1, gXr1, gXs1, gXt1, gXu1, k_mn, k_mx, gXv1, gXw1, gXx1, gXy1, gXz1, gX02, gX12, gX22, gX32, gX42, gX52, gX62, gX72, Dn.setLast, Dn.getLast, evalO, mapO, Dn.get, putE, gX82, gX92, gXa2, gXb2, TV.one, TV.isAgg, Dn.part, gXc2, negb, at0, at1, at2, at3, at4, dT, dF, gXd2, Option.bind_some, Option.map_some]
      · rw [if_neg h2]
        have e2 : ((b : Int) == 1) = false := by simp; omega
        clear hle h h2 hb
        generalize (b : Int) = B at *
        simp (disch := omega) [d61, c61, zipE, gX0, gX1, gX2, gX3, gX4, gX5, gX6, gX7, gX8, gX9, gXa, gXb, gXc, gXd, gXe, gXf, gXg, gXh, gXi, gXj, gXk, gXl, gXm, gXn, gXo, gXp, gXq, gXr, gXs, gXt, gXu, gXv, gXw, gXx, k_mv, gXy, gXz, gX01, gX11, gX21, gX31, gX41, gX51, gX61, gX71, gX81, gX91, gXa1, gXb1, gXc1, gXd1, gXe1, gXf1, gXg1, gXh1, gXi1, gXj1, gXk1, gXl1, gXm1, gXn1, gXo1, gXp1, gXq1, gXr1, gXs1, gXt1, gXu1, k_mn, k_mx, gXv1, gXw1, gXx1, gXy1, gXz1, gX02, gX12, gX22, gX32, gX42, gX52, gX62, gX72, Dn.setLast, Dn.getLast, evalO, mapO, Dn.get, putE, gX82, gX92, gXa2, gXb2, TV.one, TV.isAgg, Dn.part, gXc2, negb, at0, at1, at2, at3, at4, dT, dF, gXd2, Option.bind_some, Option.map_some, e2]
    · rw [if_neg h1] at hle ⊢
      obtain ⟨e, r⟩ := l61_1_all (pg := pg) h6 (a := a) (b := b) (k := k) ha hb (fun x h1 h2 h3 => body61 hF h6 k b (a / x) (by omega) hb ⟨Nat.div_pos h2 (by omega), Nat.le_trans (Nat.div_le_self _ _) ha.2⟩ (div_small h1 h)) (a - 1) 2 0 (by omega) (by omega) (by omega)
      rw [Nat.zero_add] at r
      have e1 : ((a : Int) == 1) = false := by simp; omega
      simp only [Int.natCast_zero, Int.cast_ofNat_Int] at r
      clear hle h h1 ha hb h6
      generalize ((pcL (pcC k) a b (a - 1) 2 : Nat) : Int) = R at *
      generalize (a : Int) = A at *
      generalize (b : Int) = B at *
      generalize TV.ref r0 0 = RR at *
      simp (disch := omega) [d61, c61, zipE, gX0, gX1, gX2, gX3, gX4, gX5, gX6, gX7, gX8, gX9, gXa, gXb, gXc, gXd, gXe, gXf, gXg, gXh, gXi, gXj, gXk, gXl, gXm, gXn, gXo, gXp, gXq, gXr, gXs, gXt, gXu, gXv, gXw, gXx, k_mv, gXy, gXz, gX01, gX11, gX21, gX31, gX41, gX51, gX61, gX71, gX81, gX91, gXa1, gXb1, gXc1, gXd1, gXe1, gXf1, gXg1, gXh1, gXi1, gXj1, gXk1, gXl1, gXm1, gXn1, gXo1, gXp1, gXq1, gXr1, gXs1, gXt1, gXu1, k_mn, k_mx, gXv1, gXw1, gXx1, gXy1, gXz1, gX02, gX12, gX22, gX32, gX42, gX52, gX62, gX72, Dn.setLast, Dn.getLast, evalO, mapO, Dn.get, putE, gX82, gX92, gXa2, gXb2, TV.one, TV.isAgg, Dn.part, gXc2, negb, at0, at1, at2, at3, at4, dT, dF, gXd2, Option.bind_some, Option.map_some, e1, go_denK (c := l61_1) rfl, r]

def r25_0 : DC :=
 (.reg [⟨(some 4), .mv, [.c (.i .i64 0)], none⟩,
   ⟨(some 5), .mv, [.c (.i .i64 0)], none⟩] [0, 1])

def r25_1 : DC :=
 (.seq (.reg [⟨(some 7), .mv, [.t 0], none⟩,
   ⟨(some 8), .mv, [.t 1], none⟩,
   ⟨(some 9), (.call (.pu [])), [.c (.fn 60 [] []), .t 7, .t 8], none⟩,
   ⟨(some 10), .notB, [.t 9], none⟩] [0, 1, 10])
 (.cond (.t 10)
  (.seq (.reg [⟨(some 4), .mv, [.c (.i .i64 0)], none⟩,
    ⟨(some 5), .mv, [.c (.i .i64 1)], none⟩] [4, 5])
  .ret)
  .skip))

def r25_2 : DC :=
 (.seq (.reg [⟨(some 11), .mv, [.t 0], none⟩,
   ⟨(some 12), .mv, [.t 1], none⟩,
   ⟨(some 13), (.binI .mul), [.t 11, .t 12], none⟩,
   ⟨(some 14), (.binI .eql), [.t 13, .c (.i .i64 1)], none⟩] [0, 1, 14])
 (.cond (.t 14)
  (.seq (.reg [⟨(some 4), .mv, [.c (.i .i64 1)], none⟩,
    ⟨(some 5), .mv, [.c (.i .i64 0)], none⟩] [4, 5])
  .ret)
  .skip))

def r25_3 : DC :=
 (.reg [⟨(some 6), (.alloc [.nilfn] false), [], none⟩] [0, 1, 6])

def r25_4 : DC :=
 (.reg [⟨(some 15), (.mkfn 61 0), [.t 6], none⟩,
   ⟨none, (.st 1), [.t 6, .t 15], none⟩] [0, 1, 6])

def r25_5 : DC :=
 (.regd [⟨(some 16), (.ld 1 false), [.t 6], none⟩,
   ⟨(some 17), .mv, [.t 0], none⟩,
   ⟨(some 18), .mv, [.t 1], none⟩,
   ⟨(some 19), (.call .sh), [.t 16, .t 17, .t 18], none⟩,
   ⟨(some 20), (.ld 1 false), [.t 6], none⟩,
   ⟨(some 21), .mv, [.t 1], none⟩,
   ⟨(some 22), .mv, [.t 0], none⟩,
   ⟨(some 23), (.call .sh), [.t 20, .t 21, .t 22], none⟩,
   ⟨(some 24), (.binI .add), [.t 19, .t 23], none⟩,
   ⟨(some 4), .mv, [.t 24], none⟩,
   ⟨(some 5), .mv, [.c (.i .i64 0)], none⟩] [4, 5] [(3, 4)])

def r25_6 : DC :=
 .ret

theorem c25_parts : c25 = (.seq r25_0 (.seq r25_1 (.seq r25_2 (.seq r25_3 (.seq r25_4 (.seq r25_5 r25_6)))))) := rfl

theorem fn25 {pg : Pg} (hF : Free pg) {n m : Nat} (hn : 1 ≤ n ∧ n ≤ 8) (hm : 1 ≤ m ∧ m ≤ 8) : PFn pg 25 [.i .i64 (n : Int), .i .i64 (m : Int)] (.tup [.i .i64 (chC n m : Int), .i .i64 0]) := by
  have h60 := call60 (pg := pg) hF (n : Int) (m : Int)
  rw [show sizesB (n : Int) (m : Int) = true by unfold sizesB; exact dT (by omega)] at h60
  have hnm : n * m ≤ 8 * 8 := Nat.mul_le_mul hn.2 hm.2
  have wm : wrapR .i64 ((n : Int) * (m : Int)) = .i .i64 ((n * m : Nat) : Int) := by rw [← Int.natCast_mul]; exact gXd2 (by omega)
  by_cases h1 : n * m = 1
  · have e1 : (((n * m : Nat) : Int) == 1) = true := by rw [h1]; rfl
    have hc : chC n m = 1 := by
      have : n = 1 ∧ m = 1 := by have g1 := Nat.mul_le_mul_left n hm.1; have g2 := Nat.mul_le_mul_right m hn.1; omega
      unfold chC; rw [if_pos this]
    rw [hc]
    refine .of2 (x := .ret) (e := [(4, .i .i64 1), (5, .i .i64 0)]) (H' := []) (hF.S _ _) (d := d25) (by rw [hF.F]; rfl) rfl ?_ (.inl rfl) rfl (by simp) (by simp [mapO, sn_i, sn_b, gXe2, gXf2, gXg2, gXh2, gXi2, gXj2, gXk2, gXl2, gXm2, gXn2, gXo2, gXp2, mapO, elems])
    generalize ((n * m : Nat) : Int) = NM at *
    clear h1 hc hnm hn hm
    generalize (n : Int) = N at *
    generalize (m : Int) = M at *
    simp (disch := omega) [d25, c25, zipE, gX0, gX1, gX2, gX3, gX4, gX5, gX6, gX7, gX8, gX9, gXa, gXb, gXc, gXd, gXe, gXf, gXg, gXh, gXi, gXj, gXk, gXl, gXm, gXn, gXo, gXp, gXq, gXr, gXs, gXt, gXu, gXv, gXw, gXx, k_mv, gXy, gXz, gX01, gX11, gX21, gX31, gX41, gX51, gX61, gX71, gX81, gX91, gXa1, gXb1, gXc1, gXd1, gXe1, gXf1, gXg1, gXh1, gXi1, gXj1, gXk1, gXl1, gXm1, gXn1, gXo1, gXp1, gXq1, gXr1, gXs1, gXt1, gXu1, k_mn, k_mx, gXv1, gXw1, gXx1, gXy1, gXz1, gX02, gX12, gX22, gX32, gX42, gX52, gX62, gX72, Dn.setLast, Dn.getLast, evalO, mapO, Dn.get, putE, gX82, gX92, gXa2, gXb2, TV.one, TV.isAgg, Dn.part, gXc2, negb, at0, at1, at2, at3, at4, dT, dF, gXd2, Option.bind_some, Option.map_some, h60, wm, e1]
  · have e1 : (((n * m : Nat) : Int) == 1) = false := by simp; omega
    obtain ⟨H1, hH1⟩ : ∃ H1, H1 = ([AObj.cells [.fn 61 [] [.ref 0 0]] false] : Heap) := ⟨_, rfl⟩
    have h6 : H1[0]? = some (.cells [.fn 61 [] [.ref 0 0]] false) := by rw [hH1]; rfl
    have b1 := body61 (pg := pg) hF h6 7 n m (by omega) hn hm (by omega)
    have b2 := body61 (pg := pg) hF h6 7 m n (by omega) hm hn (by rw [Nat.mul_comm]; omega)
    have cl1 : callRun pg (den pg) .sh [.fn 61 [] [.ref 0 0], .i .i64 (n : Int), .i .i64 (m : Int)] H1 = some (.i .i64 (pcC 7 n m : Int), H1) := b1
    have cl2 : callRun pg (den pg) .sh [.fn 61 [] [.ref 0 0], .i .i64 (m : Int), .i .i64 (n : Int)] H1 = some (.i .i64 (pcC 7 m n : Int), H1) := b2
    have hch := chC_eq n m hn.1 hn.2 hm.1 hm.2 h1
    have l1 := pcC_le 7 n m hn.2 hm.2
    have l2 := pcC_le 7 m n hm.2 hn.2
    have ws : wrapR .i64 ((pcC 7 n m : Int) + (pcC 7 m n : Int)) = .i .i64 ((chC n m : Nat) : Int) := by rw [← hch, ← Int.natCast_add]; exact gXd2 (by omega)
    have al : dkc pg (den pg) (.alloc [.nilfn] false) [] [] = some (.ref 0 0, [.cells [.nilfn] false]) := rfl
    have mf : ∀ K : Heap, dkc pg (den pg) (.mkfn 61 0) [.ref 0 0] K = some (.fn 61 [] [.ref 0 0], K) := fun K => rfl
    have st : dkc pg (den pg) (.st 1) [.ref 0 0, .fn 61 [] [.ref 0 0]] [.cells [.nilfn] false] = some (.undef, H1) := by rw [hH1]; rfl
    have ld : dkc pg (den pg) (.ld 1 false) [.ref 0 0] H1 = some (.fn 61 [] [.ref 0 0], H1) := by rw [hH1]; rfl
    have kd : dk (.ld 1 false) [.ref 0 0] H1 = some (.fn 61 [] [.ref 0 0], H1) := ld
    have sm : Go.Dn.same 9 (.fn 61 [] [.ref 0 0]) (.fn 61 [] [.ref 0 0]) = true := by rfl
    refine .of2 (x := .ret) (e := [(4, .i .i64 (chC n m : Int)), (5, .i .i64 0)]) (H' := H1) (hF.S _ _) (d := d25) (by rw [hF.F]; rfl) rfl ?_ (.inl rfl) rfl (by simp) (by simp [mapO, sn_i, sn_b, gXe2, gXf2, gXg2, gXh2, gXi2, gXj2, gXk2, gXl2, gXm2, gXn2, gXo2, gXp2, mapO, elems])
    generalize ((n * m : Nat) : Int) = NM at *
    generalize ((chC n m : Nat) : Int) = C at *
    clear h1 hch hnm hn hm b1 b2 l1 l2 hH1 h6
    generalize ((pcC 7 n m : Nat) : Int) = P1 at *
    generalize ((pcC 7 m n : Nat) : Int) = P2 at *
    generalize (n : Int) = N at *
    generalize (m : Int) = M at *
    generalize ([.cells [.nilfn] false] : Heap) = H0 at *
    generalize TV.fn 61 [] [.ref 0 0] = FN at *
    generalize TV.ref 0 0 = RR at *
    show go pg (den pg) [.c c25] .normal [(0, .i .i64 N), (1, .i .i64 M)] [] = _
    rw [c25_parts]
    have s0 : go pg (den pg) [.c (.seq r25_0 (.seq r25_1 (.seq r25_2 (.seq r25_3 (.seq r25_4 (.seq r25_5 r25_6))))))] .normal [(0, .i .i64 N), (1, .i .i64 M)] [] = go pg (den pg) [.c r25_5, .c r25_6] .normal [(0, .i .i64 N), (1, .i .i64 M), (6, RR)] H1 := by
      simp (disch := omega) [r25_0, r25_1, r25_2, r25_3, r25_4, gX0, gX1, gX2, gX3, gX4, gX5, gX6, gX7, gX8, gX9, gXa, gXb, gXc, gXd, gXe, gXf, gXg, gXh, gXi, gXj, gXk, gXl, gXm, gXn, gXo, gXp, gXq, gXr, gXs, gXt, gXu, gXv, gXw, gXx, k_mv, gXy, gXz, gX01, gX11, gX21, gX31, gX41, gX51, gX61, gX71, gX81, gX91, gXa1, gXb1, gXc1, gXd1, gXe1, gXf1, gXg1, gXh1, gXi1, gXj1, gXk1, gXl1, gXm1, gXn1, gXo1, gXp1, gXq1, gXr1, gXs1, gXt1, gXu1, k_mn, k_mx, gXv1, gXw1, gXx1, gXy1, gXz1, gX02, gX12, gX22, gX32, gX42, gX52, gX62, gX72, Dn.setLast, Dn.getLast, evalO, mapO, Dn.get, putE, gX82, gX92, gXa2, gXb2, TV.one, TV.isAgg, Dn.part, gXc2, negb, at0, at1, at2, at3, at4, dT, dF, gXd2, Option.bind_some, Option.map_some, h60, wm, e1, al, mf, st]
    rw [s0]
    simp [r25_5, r25_6, gXd, gXf, gXj, gXk, gXe, evalO, mapO, Go.Dn.get, putE, gX82, gX92, gXa2, gXb2, k_mv, gXx, ld, cl1, cl2, gXz, gXz1, gXv, ws, frOk, ldSame, sm, guardRun, DK.isLd, kd, gX9, gX0]

end Go.Proofs.Try.Dn

