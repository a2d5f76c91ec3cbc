/-
  The ways of all sums, in the program.
-/
import Derived.Test.YtijeefncmgjlpaaR6
import Derived.Test.YtijeefncmgjlpaaDd
set_option linter.unusedSimpArgs false
set_option linter.unusedVariables false

namespace Go.Proofs.Try.Dn
open Go.Dn

theorem l58_1_all {pg : Pg} {L V13 V14 V15 V21 : TV} {d : List Int} (hL : SV L d) (hd : d.length <= 1000) (hf : ∀ f ∈ d, 0 <= f /\ f <= 1000) {s : Int} (hs : 0 <= s /\ s <= 1000000) {n nid : Nat} {H0 : Heap} (hlt : nid < H0.length) :
  ∀ (r j : Nat) (es : List (Int × TV)) (g : Int -> Option Nat), j + r = d.length -> CM es g -> mass es + r * n <= 4611686018427387904 ->
  ∃ es' v, den pg l58_1 [(5, L), (6, .mp nid), (7, .i .i64 s), (8, .i .i64 (n : Int)), (13, V13), (14, V14), (15, V15), (21, V21), (27, L), (28, .i .i64 (d.length : Int)), (29, .i .i64 (j : Int))] (H0.set nid (.mapS es es.length)) =
   some ⟨.exit 4, [(5, L), (6, .mp nid), (7, .i .i64 s), (8, .i .i64 (n : Int)), (13, V13), (14, V14), (15, V15), (21, V21), (27, L), (28, .i .i64 (d.length : Int)), (29, .i .i64 (d.length : Int)), (30, v)], H0.set nid (.mapS es' es'.length)⟩ /\
   CM es' (addF g s n (d.drop j)) /\ mass es' = mass es + r * n
 | 0, j, es, g, hj, hc, hm => by
  obtain rfl : j = d.length := by omega
  rw [List.drop_length, Nat.zero_mul]
  refine ⟨es, .b false, ?_, hc, rfl⟩
  rw [l58_1, den_loop]
  simp (disch := omega) [b58_0, Z0, Z1, Z2, Z3, Z4, Z5, Z6, Z7, Z8, Z9, Za, Zb, Zc, Zd, Ze, Zf, Zg, Zh, Zi, Zj, Zk, Zl, Zm, Zn, Zo, Zp, Zq, Zr, Zs, Zt, Zu, Zv, Zw, Zx, k_mv, Zy, Zz, ZA, ZB, ZC, ZD, ZE, ZF, ZG, ZH, ZI, ZJ, ZK, ZL, ZM, ZN, ZO, ZP, ZQ, ZR, ZS, ZT, ZU, ZV, ZW, ZX, ZY, ZZ, Y0, Y1, Y2, Y3, Y4, k_mn, k_mx, Y5, Y6, Y7, Y8, Y9, Ya, Yb, Yc, Yd, Ye, Yf, Yg, Yh, Dn.setLast, Dn.getLast, evalO, mapO, Dn.get, putE, Yi, Yj, Yk, Yl, TV.one, TV.isAgg, Dn.part, Ym, negb, at0, at1, at2, at3, at4, dT, dF, Yn, Option.bind_some, Option.map_some]
 | r + 1, j, es, g, hj, hc, hm => by
  obtain ⟨f, hfj⟩ : ∃ f, d[j]? = some f := ⟨_, List.getElem?_eq_getElem (by omega)⟩
  have hfb := hf f (List.mem_of_getElem? hfj)
  have hdr : d.drop j = f :: d.drop (j + 1) := by
   obtain ⟨h1, rfl⟩ := List.getElem?_eq_some_iff.1 hfj
   exact List.drop_eq_getElem_cons h1
  rw [Nat.succ_mul] at hm ⊢
  have hle := hc.le_mass (s + f)
  have gm : (H0.set nid (.mapS es es.length))[nid]? = some (.mapS es es.length) := List.getElem?_set_self hlt
  obtain ⟨q, q1, q2⟩ := ixI (pg := pg) (R := den pg) (hL.view (H0.set nid (.mapS es es.length))) hfj
  have lk := hc.lk (pg := pg) (R := den pg) gm (s + f)
  have st := hc.set (pg := pg) (R := den pg) gm (s + f) ((g (s + f)).getD 0 + n)
  rw [List.set_set] at st
  have hc2 : CM (insS (s + f) (.i .i64 (((g (s + f)).getD 0 + n : Nat) : Int)) es) (addM g (s + f) n) := hc.ins _ _
  have hm2 := hc.mass_ins (s + f) ((g (s + f)).getD 0 + n)
  obtain ⟨es1, he1⟩ : ∃ es1, es1 = insS (s + f) (.i .i64 (((g (s + f)).getD 0 + n : Nat) : Int)) es := ⟨_, rfl⟩
  rw [<- he1] at st hc2 hm2
  obtain ⟨es', v, r1, r2, r3⟩ := l58_1_all (pg := pg) (n := n) (V13 := V13) (V14 := V14) (V15 := V15) (V21 := V21) hL hd hf hs hlt r (j + 1) es1 (addM g (s + f) n) (by omega) hc2 (by omega)
  refine ⟨es', v, Eq.trans ?_ r1, by rw [hdr, addF_cons]; exact r2, by omega⟩
  generalize (g (s + f)).getD 0 = w at *
  have wv : wrapR .i64 ((w : Int) + (n : Int)) = .i .i64 ((w + n : Nat) : Int) := by rw [<- Int.natCast_add]; exact Yn (by omega)
  generalize H0.set nid (.mapS es1 es1.length) = K1 at *
  generalize H0.set nid (.mapS es es.length) = K at *
  obtain ⟨N, hN⟩ : ∃ N, N = d.length := ⟨_, rfl⟩
  rw [<- hN] at hj ⊢
  have dj : decide ((j : Int) < (N : Int)) = true := dT (by omega)
  generalize ((w + n : Nat) : Int) = wn at *
  rw [l58_1, den_loop]
  simp (disch := omega) [l58_1, b58_0, Z0, Z1, Z2, Z3, Z4, Z5, Z6, Z7, Z8, Z9, Za, Zb, Zc, Zd, Ze, Zf, Zg, Zh, Zi, Zj, Zk, Zl, Zm, Zn, Zo, Zp, Zq, Zr, Zs, Zt, Zu, Zv, Zw, Zx, k_mv, Zy, Zz, ZA, ZB, ZC, ZD, ZE, ZF, ZG, ZH, ZI, ZJ, ZK, ZL, ZM, ZN, ZO, ZP, ZQ, ZR, ZS, ZT, ZU, ZV, ZW, ZX, ZY, ZZ, Y0, Y1, Y2, Y3, Y4, k_mn, k_mx, Y5, Y6, Y7, Y8, Y9, Ya, Yb, Yc, Yd, Ye, Yf, Yg, Yh, Dn.setLast, Dn.getLast, evalO, mapO, Dn.get, putE, Yi, Yj, Yk, Yl, TV.one, TV.isAgg, Dn.part, Ym, negb, at0, at1, at2, at3, at4, dT, dF, Yn, Option.bind_some, Option.map_some, dj, q1, q2, lk, wv, st]

abbrev ops58 : List DOper := [oM 24 24, oO 25 (.ext 0) [.t 24], oO 26 (.ext 1) [.t 24], oM 7 25, oM 8 26]

def addE (d : List Int) (g : Int -> Option Nat) (q : Int × TV) : Int -> Option Nat := addF g q.1 q.2.num d

def Ent (B : Int) (q : Int × TV) : Prop := (0 <= q.1 /\ q.1 <= B) /\ ∃ n : Nat, q.2 = .i .i64 (n : Int)

theorem mf58 {pg : Pg} {L V13 V14 V15 : TV} {d : List Int} (hL : SV L d) (hd : d.length <= 1000) (hf : ∀ f ∈ d, 0 <= f /\ f <= 1000) {nid it : Nat} {H0 : Heap} (hlt : nid < H0.length) :
  ∀ (p : List (Int × TV)), (∀ q ∈ p, Ent 1000000 q) -> ∀ (es : List (Int × TV)) (g : Int -> Option Nat), CM es g -> mass es + mass p * d.length <= 4611686018427387904 ->
  ∃ es', mf pg (den pg) 21 it 3 24 ops58 [5, 6, 7, 8, 13, 14, 15, 21] b58_2 [5, 6, 13, 14, 15, 21] p [(5, L), (6, .mp nid), (13, V13), (14, V14), (15, V15), (21, .ref it 0)] (H0.set nid (.mapS es es.length)) =
   some ([(5, L), (6, .mp nid), (13, V13), (14, V14), (15, V15), (21, .ref it 0)], H0.set nid (.mapS es' es'.length)) /\ CM es' (p.foldl (addE d) g) /\ mass es' = mass es + mass p * d.length
 | [], hp, es, g, hc, hm => ⟨es, mf_nil _ _, hc, by simp [mass]⟩
 | (s, v) :: p, hp, es, g, hc, hm => by
  obtain ⟨hs, n, hn⟩ := hp (s, v) (List.mem_cons_self ..)
  have hn : v = .i .i64 (n : Int) := hn
  subst hn
  have hmp : mass ((s, .i .i64 (n : Int)) :: p) = n + mass p := by simp [mass, TV.num]
  rw [hmp, Nat.add_mul] at hm ⊢
  have hcm : n * d.length = d.length * n := Nat.mul_comm _ _
  obtain ⟨es1, w, r1, r2, r3⟩ := l58_1_all (pg := pg) (V13 := V13) (V14 := V14) (V15 := V15) (V21 := .ref it 0) hL hd hf hs (n := n) hlt d.length 0 es g (by omega) hc (by omega)
  rw [List.drop_zero] at r2
  have he : addE d g (s, .i .i64 (n : Int)) = addF g s n d := by simp [addE, TV.num]
  obtain ⟨es', q1, q2, q3⟩ := mf58 (pg := pg) (V13 := V13) (V14 := V14) (V15 := V15) (it := it) hL hd hf hlt p (fun q hq => hp q (List.mem_cons_of_mem _ hq)) es1 (addF g s n d) r2 (by omega)
  refine ⟨es', Eq.trans (mf_cons (e1 := [(5, L), (6, .mp nid), (7, .i .i64 s), (8, .i .i64 (n : Int)), (13, V13), (14, V14), (15, V15), (21, .ref it 0), (27, L), (28, .i .i64 (d.length : Int)), (29, .i .i64 (d.length : Int)), (30, w)]) ?_ rfl) q1, by rw [List.foldl_cons, he]; exact q2, by omega⟩
  have ln := (hL.view (H0.set nid (.mapS es es.length))).lenK
  simp only [Int.natCast_zero] at r1
  generalize H0.set nid (.mapS es1 es1.length) = K1 at *
  generalize H0.set nid (.mapS es es.length) = K at *
  obtain ⟨N, hN⟩ : ∃ N, N = d.length := ⟨_, rfl⟩
  rw [<- hN] at r1 ln ⊢
  simp (disch := omega) [b58_2, Z0, Z1, Z2, Z3, Z4, Z5, Z6, Z7, Z8, Z9, Za, Zb, Zc, Zd, Ze, Zf, Zg, Zh, Zi, Zj, Zk, Zl, Zm, Zn, Zo, Zp, Zq, Zr, Zs, Zt, Zu, Zv, Zw, Zx, k_mv, Zy, Zz, ZA, ZB, ZC, ZD, ZE, ZF, ZG, ZH, ZI, ZJ, ZK, ZL, ZM, ZN, ZO, ZP, ZQ, ZR, ZS, ZT, ZU, ZV, ZW, ZX, ZY, ZZ, Y0, Y1, Y2, Y3, Y4, k_mn, k_mx, Y5, Y6, Y7, Y8, Y9, Ya, Yb, Yc, Yd, Ye, Yf, Yg, Yh, Dn.setLast, Dn.getLast, evalO, mapO, Dn.get, putE, Yi, Yj, Yk, Yl, TV.one, TV.isAgg, Dn.part, Ym, negb, at0, at1, at2, at3, at4, dT, dF, Yn, Option.bind_some, Option.map_some, ln, go_denK (c := l58_1) rfl, r1]

theorem addE_comm (d : List Int) (g : Int -> Option Nat) (x y : Int × TV) : addE d (addE d g x) y = addE d (addE d g y) x := addF_comm _ _ _ _ _ _ _

theorem addE_perm (d : List Int) {p es : List (Int × TV)} (h : p.Perm es) (g : Int -> Option Nat) : p.foldl (addE d) g = es.foldl (addE d) g :=
 foldl_perm (I := fun _ => True) (J := fun _ => True) (fun _ _ _ _ => trivial) (fun z x y _ _ _ => addE_comm d z x y) h (fun _ _ => trivial) g trivial

theorem mass_perm {p es : List (Int × TV)} (h : p.Perm es) : mass p = mass es := (h.map _).sum_nat

end Go.Proofs.Try.Dn

/-
 The ways of all sums: the program's map, by what it answers.
-/

namespace Go.Proofs.Try.Dn
open Go.Dn

theorem sum_add {α : Type} (f g : α -> Nat) : ∀ l : List α, (l.map fun x => f x + g x).sum = (l.map f).sum + (l.map g).sum
 | [] => rfl
 | x :: l => by simp only [List.map_cons, List.sum_cons, sum_add f g l]; omega
theorem sum_zero {α : Type} (f : α -> Nat) : ∀ (l : List α), (∀ x ∈ l, f x = 0) -> (l.map f).sum = 0
 | [], _ => rfl
 | x :: l, h => by
  rw [List.map_cons, List.sum_cons, h x (List.mem_cons_self ..), sum_zero f l fun y hy => h y (List.mem_cons_of_mem _ hy)]

theorem sum_swap (j : Int) (p : List (Int × TV)) : ∀ d : List Int, (p.map fun q => q.2.num * d.countP fun f => decide (q.1 + f = j)).sum = (d.map fun f => (p.map fun q => if q.1 = j - f then q.2.num else 0).sum).sum
 | [] => sum_zero _ _ fun x _ => by simp
 | f :: d => by
  rw [List.map_cons, List.sum_cons, <- sum_swap j p d, <- sum_add]
  congr 1
  apply List.map_congr_left
  intro q _
  rw [List.countP_cons, Nat.mul_add]
  by_cases h : q.1 + f = j
  ·rw [if_pos (decide_eq_true h), if_pos (by omega)]; omega
  ·rw [if_neg (by simpa using h), if_neg (by omega)]; omega

theorem foldE_getD (d : List Int) (j : Int) : ∀ (p : List (Int × TV)) (g : Int -> Option Nat), (p.foldl (addE d) g j).getD 0 = (g j).getD 0 + (p.map fun q => q.2.num * d.countP fun f => decide (q.1 + f = j)).sum
 | [], g => by simp
 | q :: p, g => by
  rw [List.foldl_cons, foldE_getD d j p, List.map_cons, List.sum_cons]
  unfold addE
  rw [addF_getD]
  omega

theorem foldE_some (d : List Int) (j : Int) : ∀ (p : List (Int × TV)) (g : Int -> Option Nat), (p.foldl (addE d) g j).isSome = ((g j).isSome || p.any fun q => d.any fun f => decide (q.1 + f = j))
 | [], g => by simp
 | q :: p, g => by
  rw [List.foldl_cons, foldE_some d j p, List.any_cons]
  unfold addE
  rw [addF_some, Bool.or_assoc]

theorem rise_sum (k : Int) : ∀ {es : List (Int × TV)}, Rise es -> (es.map fun q => if q.1 = k then q.2.num else 0).sum = match lookS k es with | some v => v.num | none => 0
 | [], _ => rfl
 | (a, x) :: r, h => by
  have h1 := List.pairwise_cons.1 h
  rw [List.map_cons, List.sum_cons]
  unfold lookS
  by_cases hk : k = a
  ·rw [if_pos hk, if_pos hk.symm, sum_zero _ _ fun q hq => if_neg (by have := h1.1 q hq; simp only at this; omega)]
   rfl
  ·rw [if_neg hk, if_neg (fun e => hk e.symm), Nat.zero_add]
   exact rise_sum k h1.2

theorem cm_sum {es : List (Int × TV)} {g : Int -> Option Nat} (h : CM es g) (k : Int) : (es.map fun q => if q.1 = k then q.2.num else 0).sum = (g k).getD 0 := by
 rw [rise_sum k h.1, h.2 k]
 cases g k with
 | none => rfl
 | some n => simp [TV.num]

theorem cm_ent {es : List (Int × TV)} {g : Int -> Option Nat} (h : CM es g) {q : Int × TV} (hq : q ∈ es) : ∃ n : Nat, g q.1 = some n /\ q.2 = .i .i64 (n : Int) := by
 have h1 := (lookS_some h.1).2 hq
 rw [h.2] at h1
 cases hg : g q.1 with
 | none => rw [hg] at h1; cases h1
 | some n =>
  rw [hg] at h1
  exact ⟨n, rfl, (Option.some.inj h1).symm⟩

theorem cm_has {es : List (Int × TV)} {g : Int -> Option Nat} (h : CM es g) {k : Int} {n : Nat} (hg : g k = some n) : (k, .i .i64 (n : Int)) ∈ es := by
 refine (lookS_some h.1).1 ?_
 rw [h.2, hg]
 rfl

theorem le_sum : ∀ {l : List Nat} {x : Nat}, x ∈ l -> x <= l.sum
 | y :: l, x, h => by
  rw [List.sum_cons]
  rcases List.mem_cons.1 h with rfl | h
  ·omega
  ·have := le_sum h
   omega

def wn0 : Int -> Nat := fun j => if j = 0 then 1 else 0
def wnF (G : Int -> Nat) (d : List Int) : Int -> Nat := fun j => (d.map fun f => G (j - f)).sum
def wn (ls : List (List Int)) : Int -> Nat := ls.foldl wnF wn0
def posO (n : Nat) : Option Nat := if n = 0 then none else some n

theorem posO_getD (n : Nat) : (posO n).getD 0 = n := by
 unfold posO
 split
 ·rename_i h; rw [h]; rfl
 ·rfl
theorem posO_some (n : Nat) : (posO n).isSome = decide (n ≠ 0) := by
 unfold posO
 split
 ·rename_i h; rw [h]; rfl
 ·rename_i h; rw [decide_eq_true h]; rfl
theorem posO_of {o : Option Nat} {n : Nat} (h1 : o.getD 0 = n) (h2 : o.isSome = true -> n ≠ 0) : o = posO n := by
 cases o with
 | none =>
  have : n = 0 := h1.symm
  subst this; rfl
 | some m =>
  have : m = n := h1
  subst this
  unfold posO
  rw [if_neg (h2 rfl)]

theorem fold_wn {es : List (Int × TV)} {G : Int -> Nat} (h : CM es fun k => posO (G k)) (d : List Int) : es.foldl (addE d) (fun _ => none) = fun j => posO (wnF G d j) := by
 funext j
 refine posO_of ?_ fun hs => ?_
 ·rw [foldE_getD, sum_swap]
  unfold wnF
  rw [Option.getD_none, Nat.zero_add]
  congr 1
  apply List.map_congr_left
  intro f _
  rw [cm_sum h, posO_getD]
 ·rw [foldE_some] at hs
  simp only [Option.isSome_none, Bool.false_or] at hs
  obtain ⟨q, hq, hs⟩ := List.any_eq_true.1 hs
  obtain ⟨f, hf, hs⟩ := List.any_eq_true.1 hs
  have hs := of_decide_eq_true hs
  obtain ⟨n, hn, _⟩ := cm_ent h hq
  have hn' : posO (G q.1) = some n := hn
  have hG : G q.1 ≠ 0 := by
   have := posO_some (G q.1)
   rw [hn'] at this
   exact of_decide_eq_true this.symm
  unfold wnF
  have hm : G (j - f) ∈ d.map fun f => G (j - f) := List.mem_map.2 ⟨f, hf, rfl⟩
  have hle := le_sum hm
  rw [show j - f = q.1 by omega] at hle
  omega

theorem sum_pos {α : Type} {f : α -> Nat} {l : List α} (h : (l.map f).sum ≠ 0) : ∃ x ∈ l, f x ≠ 0 := by
 apply Classical.byContradiction
 intro hc
 exact h (sum_zero f l fun x hx => Classical.byContradiction fun h0 => hc ⟨x, hx, h0⟩)

theorem wnF_bound {G : Int -> Nat} {B : Int} (hG : ∀ k, G k ≠ 0 -> 0 <= k /\ k <= B) {d : List Int} {m : Int} (hd : ∀ f ∈ d, 0 <= f /\ f <= m) : ∀ k, wnF G d k ≠ 0 -> 0 <= k /\ k <= B + m := fun k hk => by
 obtain ⟨f, hf, h⟩ := sum_pos hk
 have h1 := hG _ h
 have h2 := hd f hf
 omega

theorem wn_bound {m : Int} (hm : 0 <= m) : ∀ (ls : List (List Int)) (G : Int -> Nat) (B : Int), (∀ k, G k ≠ 0 -> 0 <= k /\ k <= B) -> (∀ d ∈ ls, ∀ f ∈ d, 0 <= f /\ f <= m) -> ∀ k, ls.foldl wnF G k ≠ 0 -> 0 <= k /\ k <= B + m * ls.length
 | [], G, B, hG, hd, k, hk => by simpa using hG k hk
 | d :: ls, G, B, hG, hd, k, hk => by
  have := wn_bound hm ls (wnF G d) (B + m) (wnF_bound hG (hd d (List.mem_cons_self ..))) (fun d' h => hd d' (List.mem_cons_of_mem _ h)) k hk
  rw [List.length_cons, Int.natCast_succ, Int.mul_add]
  omega

theorem wn_rng {ls : List (List Int)} (hd : ∀ d ∈ ls, DieL 60 d) {k : Int} (hk : wn ls k ≠ 0) : 0 <= k /\ k <= 60 * ls.length := by
 have := wn_bound (m := 60) (by decide) ls wn0 0 (fun k h => by
  unfold wn0 at h
  by_cases h0 : k = 0
  ·omega
  ·rw [if_neg h0] at h; exact absurd rfl h) (fun d h f hf => (hd d h).ok f hf) k hk
 omega

def lenP (ls : List (List Int)) : Nat := ls.foldl (fun n d => n * d.length) 1

theorem wn_snoc (ls : List (List Int)) (d : List Int) : wn (ls ++ [d]) = wnF (wn ls) d := by unfold wn; rw [List.foldl_append]; rfl
theorem lenP_snoc (ls : List (List Int)) (d : List Int) : lenP (ls ++ [d]) = lenP ls * d.length := by unfold lenP; rw [List.foldl_append]; rfl

theorem lenP_le' : ∀ (ls : List (List Int)) (n : Nat), (∀ d ∈ ls, d.length <= 8) -> ls.foldl (fun n d => n * d.length) n <= n * 8 ^ ls.length
 | [], n, _ => by simp
 | d :: ls, n, h => by
  have h1 := lenP_le' ls (n * d.length) fun x hx => h x (List.mem_cons_of_mem _ hx)
  have h2 : n * d.length <= n * 8 := Nat.mul_le_mul_left _ (h d (List.mem_cons_self ..))
  rw [List.foldl_cons, List.length_cons, Nat.pow_succ]
  refine Nat.le_trans h1 ?_
  rw [Nat.mul_comm (8 ^ ls.length) 8, <- Nat.mul_assoc]
  exact Nat.mul_le_mul_right _ h2
theorem lenP_le {ls : List (List Int)} (h : ∀ d ∈ ls, d.length <= 8) (hl : ls.length <= 6) : lenP ls <= 262144 := by
 have h1 := lenP_le' ls 1 h
 have h2 : 8 ^ ls.length <= 8 ^ 6 := Nat.pow_le_pow_right (by decide) hl
 unfold lenP
 omega

theorem set_same {α : Type} {l : List α} {i : Nat} {a : α} (h : l[i]? = some a) : l.set i a = l := by
 apply List.ext_getElem?
 intro j
 by_cases hj : i = j
 ·subst hj
  rw [List.getElem?_set_self (List.getElem?_eq_some_iff.1 h).1, h]
 ·rw [List.getElem?_set_ne hj]

def Rd (pg : Pg) (base : Nat) (H0 : Heap) (T : TV) (ls : List (List Int)) : Prop := (∀ H, lenK 0 T H = some ls.length) /\ ∀ H : Heap, (∀ j, j < base -> H[j]? = H0[j]?) -> ∀ (i : Nat) d, ls[i]? = some d ->
 ∃ p L, dkc pg (den pg) (.ixS 1 false) [T, .i .i64 (i : Int)] H = some (p, H) /\ dkc pg (den pg) (.ld 1 false) [p] H = some (L, H) /\ SV L d

theorem Rd.ssv {pg : Pg} {T : TV} {ls : List (List Int)} (h : SSV T ls) (base : Nat) (H0 : Heap) : Rd pg base H0 T ls := ⟨h.len, fun H _ i d hd => h.ix hd H⟩

theorem l58_6_all {pg : Pg} {T : TV} {ls : List (List Int)} (hl : ls.length <= 6) (hD : ∀ d ∈ ls, DieL 60 d) {base : Nat} {H0 : Heap} (hT : Rd pg base H0 T ls) :
  ∀ (n i mid : Nat) (H : Heap) (es : List (Int × TV)), i + n = ls.length -> H[mid]? = some (.mapS es es.length) -> CM es (fun k => posO (wn (ls.take i) k)) -> mass es = lenP (ls.take i) -> base <= mid -> (∀ j, j < base -> H[j]? = H0[j]?) ->
  ∃ mid' H' es' v, den pg l58_6 [(3, .mp mid), (13, T), (14, .i .i64 (ls.length : Int)), (15, .i .i64 (i : Int))] H = some ⟨.exit 0, [(3, .mp mid'), (13, T), (14, .i .i64 (ls.length : Int)), (15, .i .i64 (ls.length : Int)), (16, v)], H'⟩ /\
   H'[mid']? = some (.mapS es' es'.length) /\ CM es' (fun k => posO (wn ls k)) /\ mass es' = lenP ls /\ base <= mid' /\ ∀ j, j < base -> H'[j]? = H0[j]?
 | 0, i, mid, H, es, hi, hH, hc, hm, hb, hf => by
  obtain rfl : i = ls.length := by omega
  rw [List.take_length] at hc hm
  refine ⟨mid, H, es, .b false, ?_, hH, hc, hm, hb, hf⟩
  rw [l58_6, den_loop]
  simp (disch := omega) [b58_5, Z0, Z1, Z2, Z3, Z4, Z5, Z6, Z7, Z8, Z9, Za, Zb, Zc, Zd, Ze, Zf, Zg, Zh, Zi, Zj, Zk, Zl, Zm, Zn, Zo, Zp, Zq, Zr, Zs, Zt, Zu, Zv, Zw, Zx, k_mv, Zy, Zz, ZA, ZB, ZC, ZD, ZE, ZF, ZG, ZH, ZI, ZJ, ZK, ZL, ZM, ZN, ZO, ZP, ZQ, ZR, ZS, ZT, ZU, ZV, ZW, ZX, ZY, ZZ, Y0, Y1, Y2, Y3, Y4, k_mn, k_mx, Y5, Y6, Y7, Y8, Y9, Ya, Yb, Yc, Yd, Ye, Yf, Yg, Yh, Dn.setLast, Dn.getLast, evalO, mapO, Dn.get, putE, Yi, Yj, Yk, Yl, TV.one, TV.isAgg, Dn.part, Ym, negb, at0, at1, at2, at3, at4, dT, dF, Yn, Option.bind_some, Option.map_some]
 | n + 1, i, mid, H, es, hi, hH, hc, hm, hb, hf => by
  obtain ⟨d, hd⟩ : ∃ d, ls[i]? = some d := ⟨_, List.getElem?_eq_getElem (by omega)⟩
  have hdd := hD d (List.mem_of_getElem? hd)
  have hmid : mid < H.length := (List.getElem?_eq_some_iff.1 hH).1
  have htk : ls.take (i + 1) = ls.take i ++ [d] := by rw [List.take_add_one, hd]; rfl
  obtain ⟨p, L, p1, p2, hL⟩ := hT.2 H hf i d hd
  have mk := k_mkS (pg := pg) (R := den pg) H
  obtain ⟨H1, hH1⟩ : ∃ H1, H1 = H ++ [AObj.mapS [] 0] := ⟨_, rfl⟩
  rw [<- hH1] at mk
  have g1 : H1[mid]? = some (.mapS es es.length) := by rw [hH1, List.getElem?_append_left hmid]; exact hH
  have l1 : H1.length = H.length + 1 := by rw [hH1]; simp
  have g1n : H1[H.length]? = some (.mapS [] 0) := by rw [hH1]; exact getLast _ _
  have rg : dkc pg (den pg) .rngS [.mp mid] H1 = some (.ref H1.length 0, H1 ++ [.iter mid es.length]) := by rw [k_rngS, g1]; rfl
  obtain ⟨H2, hH2⟩ : ∃ H2, H2 = H1 ++ [AObj.iter mid es.length] := ⟨_, rfl⟩
  rw [<- hH2] at rg
  have g2 : H2[mid]? = some (.mapS es es.length) := by rw [hH2, List.getElem?_append_left (by omega)]; exact g1
  have g2i : H2[H1.length]? = some (.iter mid es.length) := by rw [hH2]; exact getLast _ _
  have g2n : H2[H.length]? = some (.mapS [] 0) := by rw [hH2, List.getElem?_append_left (by omega)]; exact g1n
  have l2 : H2.length = H.length + 2 := by rw [hH2, List.length_append, l1]; rfl
  obtain ⟨Hd, hHd⟩ : ∃ Hd, Hd = (H2.set H1.length .dead).set mid .dead := ⟨_, rfl⟩
  have ld : Hd.length = H.length + 2 := by rw [hHd]; simp [l2]
  have gdn : Hd[H.length]? = some (.mapS [] 0) := by rw [hHd, List.getElem?_set_ne (by omega), List.getElem?_set_ne (by omega)]; exact g2n
  have hent : ∀ q ∈ es, Ent 1000000 q := fun q hq => by
   obtain ⟨m, h1, h2⟩ := cm_ent hc hq
   have h1' : posO (wn (ls.take i) q.1) = some m := h1
   have h3 : wn (ls.take i) q.1 ≠ 0 := by
    have := posO_some (wn (ls.take i) q.1)
    rw [h1'] at this
    exact of_decide_eq_true this.symm
   have h4 := wn_rng (fun d hd => hD d (List.mem_of_mem_take hd)) h3
   have h5 : (ls.take i).length <= 6 := by rw [List.length_take]; omega
   exact ⟨by omega, m, h2⟩
  have hlp := lenP_le (ls := ls.take i) (fun d hd => (hD d (List.mem_of_mem_take hd)).le) (by rw [List.length_take]; omega)
  have hd8 := hdd.le
  have hmul : mass es * d.length <= 262144 * 8 := Nat.mul_le_mul (by omega) hd8
  have hfb : ∀ f ∈ d, 0 <= f /\ f <= 1000 := fun f hf => by have := hdd.ok f hf; omega
  have run : ∀ q : List (Int × TV), q.Perm es -> ∃ es', mf pg (den pg) 21 H1.length 3 24 ops58 [5, 6, 7, 8, 13, 14, 15, 21] b58_2 [5, 6, 13, 14, 15, 21] q [(5, L), (6, .mp H.length), (13, T), (14, .i .i64 (ls.length : Int)), (15, .i .i64 (i : Int)), (21, .ref H1.length 0)] Hd =
    some ([(5, L), (6, .mp H.length), (13, T), (14, .i .i64 (ls.length : Int)), (15, .i .i64 (i : Int)), (21, .ref H1.length 0)], Hd.set H.length (.mapS es' es'.length)) /\ CM es' (fun k => posO (wn (ls.take (i + 1)) k)) /\ mass es' = lenP (ls.take (i + 1)) := fun q hq => by
   have hmq := mass_perm hq
   obtain ⟨es', r1, r2, r3⟩ := mf58 (pg := pg) (V13 := T) (V14 := .i .i64 (ls.length : Int)) (V15 := .i .i64 (i : Int)) (nid := H.length) (it := H1.length) (H0 := Hd) hL (by omega) hfb (by omega) q (fun x hx => hent x (hq.mem_iff.1 hx)) [] (fun _ => none) CM.nil (by rw [hmq]; simp [mass] at *; omega)
   rw [show Hd.set H.length (AObj.mapS [] ([] : List (Int × TV)).length) = Hd from set_same gdn] at r1
   rw [addE_perm d hq, fold_wn hc, <- wn_snoc, <- htk] at r2
   refine ⟨es', r1, r2, ?_⟩
   rw [r3, hmq, hm, htk, lenP_snoc]
   simp [mass]
  obtain ⟨es1, r1, r2, r3⟩ := run es (List.Perm.refl _)
  have mr : ∀ K, go pg (den pg) (.c l58_4 :: K) .normal [(5, L), (6, .mp H.length), (13, T), (14, .i .i64 (ls.length : Int)), (15, .i .i64 (i : Int)), (21, .ref H1.length 0)] H2 =
    go pg (den pg) (.c z58_3 :: K) .normal [(5, L), (6, .mp H.length), (13, T), (14, .i .i64 (ls.length : Int)), (15, .i .i64 (i : Int)), (21, .ref H1.length 0)] ((Hd.set H.length (.mapS es1 es1.length)).set mid (.mapS es es.length)) := fun K => by
   unfold l58_4
   refine go_mrange (id := H1.length) rfl g2i g2 fun q hq => ?_
   rw [<- hHd]
   obtain ⟨es', q1, q2, q3⟩ := run q hq
   rw [q2.uniq r2] at q1
   exact q1
  obtain ⟨H3, hH3⟩ : ∃ H3, H3 = (Hd.set H.length (.mapS es1 es1.length)).set mid (.mapS es es.length) := ⟨_, rfl⟩
  rw [<- hH3] at mr
  have g3 : H3[H.length]? = some (.mapS es1 es1.length) := by rw [hH3, List.getElem?_set_ne (by omega), List.getElem?_set_self (by omega)]
  have f3 : ∀ j, j < base -> H3[j]? = H0[j]? := fun j hj => by
   rw [hH3, List.getElem?_set_ne (by omega), List.getElem?_set_ne (by omega), hHd, List.getElem?_set_ne (by omega), List.getElem?_set_ne (by omega), hH2, List.getElem?_append_left (by omega), hH1, List.getElem?_append_left (by omega), hf j hj]
  obtain ⟨mid', H', es', v, q1, q2⟩ := l58_6_all (pg := pg) hl hD hT n (i + 1) H.length H3 es1 (by omega) g3 r2 r3 (by omega) f3
  refine ⟨mid', H', es', v, Eq.trans ?_ q1, q2⟩
  obtain ⟨N, hN⟩ : ∃ N, N = ls.length := ⟨_, rfl⟩
  rw [<- hN] at hi mr ⊢
  have di : decide ((i : Int) < (N : Int)) = true := dT (by omega)
  clear run l1 l2 ld g1 g1n g2 g2i g2n gdn g3 f3 q1 q2 r1
  generalize H.length = HL at *
  generalize H1.length = HL1 at *
  rw [l58_6, den_loop]
  simp (disch := omega) [l58_6, b58_5, z58_3, Z0, Z1, Z2, Z3, Z4, Z5, Z6, Z7, Z8, Z9, Za, Zb, Zc, Zd, Ze, Zf, Zg, Zh, Zi, Zj, Zk, Zl, Zm, Zn, Zo, Zp, Zq, Zr, Zs, Zt, Zu, Zv, Zw, Zx, k_mv, Zy, Zz, ZA, ZB, ZC, ZD, ZE, ZF, ZG, ZH, ZI, ZJ, ZK, ZL, ZM, ZN, ZO, ZP, ZQ, ZR, ZS, ZT, ZU, ZV, ZW, ZX, ZY, ZZ, Y0, Y1, Y2, Y3, Y4, k_mn, k_mx, Y5, Y6, Y7, Y8, Y9, Ya, Yb, Yc, Yd, Ye, Yf, Yg, Yh, Dn.setLast, Dn.getLast, evalO, mapO, Dn.get, putE, Yi, Yj, Yk, Yl, TV.one, TV.isAgg, Dn.part, Ym, negb, at0, at1, at2, at3, at4, dT, dF, Yn, Option.bind_some, Option.map_some, di, p1, p2, mk, rg, go_seqr, mr]

theorem body58 {pg : Pg} (hF : Free pg) {T : TV} {ls : List (List Int)} (hl : ls.length <= 6) (hD : ∀ d ∈ ls, DieL 60 d) (H : Heap) (hT : Rd pg H.length H T ls) :
  ∃ mid H' es, bodyRun pg (den pg) 58 [T] H = some (.mp mid, H') /\ H'[mid]? = some (.mapS es es.length) /\ CM es (fun k => posO (wn ls k)) /\ mass es = lenP ls /\ H.length <= mid /\ ∀ j, j < H.length -> H'[j]? = H[j]? := by
 have mk := k_mkS (pg := pg) (R := den pg) H
 obtain ⟨H1, hH1⟩ : ∃ H1, H1 = H ++ [AObj.mapS [] 0] := ⟨_, rfl⟩
 rw [<- hH1] at mk
 have g1 : H1[H.length]? = some (.mapS [] ([] : List (Int × TV)).length) := by rw [hH1]; exact getLast _ _
 have st := CM.nil.set (pg := pg) (R := den pg) g1 0 1
 have hc : CM (insS 0 (.i .i64 ((1 : Nat) : Int)) []) (fun k => posO (wn (ls.take 0) k)) := by
  have := CM.nil.ins 0 1
  have e : updM (fun _ => none) 0 1 = fun k => posO (wn (ls.take 0) k) := by
   funext k
   unfold updM
   rw [List.take_zero]
   show _ = posO (wn0 k)
   unfold wn0 posO
   by_cases hk : k = 0
   ·rw [if_pos hk, if_pos hk]; rfl
   ·rw [if_neg hk, if_neg hk]; rfl
  rw [e] at this
  exact this
 have hm : mass (insS 0 (.i .i64 ((1 : Nat) : Int)) []) = lenP (ls.take 0) := rfl
 obtain ⟨es0, hes0⟩ : ∃ es0, es0 = insS 0 (.i .i64 ((1 : Nat) : Int)) [] := ⟨_, rfl⟩
 rw [<- hes0] at st hc hm
 obtain ⟨H2, hH2⟩ : ∃ H2, H2 = H1.set H.length (.mapS es0 es0.length) := ⟨_, rfl⟩
 rw [<- hH2] at st
 have g2 : H2[H.length]? = some (.mapS es0 es0.length) := by rw [hH2, List.getElem?_set_self (by rw [hH1]; simp)]
 obtain ⟨mid, H', es, v, r1, r2, r3, r4, r5, r6⟩ := l58_6_all (pg := pg) hl hD hT ls.length 0 H.length H2 es0 (by omega) g2 hc hm (Nat.le_refl _) (fun j hj => by rw [hH2, List.getElem?_set_ne (by omega), hH1, List.getElem?_append_left hj])
 have ln := hT.1 H2
 refine ⟨mid, H', es, body_of (x := .ret) (e := [(2, .mp mid)]) (d := d58) (by rw [hF.F]; rfl) rfl ?_ (.inl rfl) rfl, r2, r3, r4, r5, r6⟩
 simp only [Int.natCast_zero] at r1
 obtain ⟨N, hN⟩ : ∃ N, N = ls.length := ⟨_, rfl⟩
 rw [<- hN] at r1 ln
 have st' : dkc pg (den pg) .setS [.mp H.length, .i .i64 0, .i .i64 1] H1 = some (.undef, H2) := st
 clear g1 g2 hH1 hH2 r5
 generalize H.length = HL at *
 simp (disch := omega) [d58, c58, zipE, Z0, Z1, Z2, Z3, Z4, Z5, Z6, Z7, Z8, Z9, Za, Zb, Zc, Zd, Ze, Zf, Zg, Zh, Zi, Zj, Zk, Zl, Zm, Zn, Zo, Zp, Zq, Zr, Zs, Zt, Zu, Zv, Zw, Zx, k_mv, Zy, Zz, ZA, ZB, ZC, ZD, ZE, ZF, ZG, ZH, ZI, ZJ, ZK, ZL, ZM, ZN, ZO, ZP, ZQ, ZR, ZS, ZT, ZU, ZV, ZW, ZX, ZY, ZZ, Y0, Y1, Y2, Y3, Y4, k_mn, k_mx, Y5, Y6, Y7, Y8, Y9, Ya, Yb, Yc, Yd, Ye, Yf, Yg, Yh, Dn.setLast, Dn.getLast, evalO, mapO, Dn.get, putE, Yi, Yj, Yk, Yl, TV.one, TV.isAgg, Dn.part, Ym, negb, at0, at1, at2, at3, at4, dT, dF, Yn, Option.bind_some, Option.map_some, mk, st', ln, go_denK (c := l58_6) rfl, r1]

theorem fn47 {pg : Pg} (hF : Free pg) {T : TV} {ls : List (List Int)} (hT : SSV T ls) (h0 : chkD ls = 0) (s : Int) : PFn pg 47 [T, .i .i64 s] (.tup [.i .i64 ((wn ls s : Nat) : Int), .i .i64 0]) := by
 have hr := row_chk h0
 have hl := hr.le
 have c55 := call55 (pg := pg) hF hT (by omega) (fun x hx => by have := (hr.all x hx).le; omega) []
 rw [h0] at c55
 obtain ⟨mid, H', es, r1, r2, r3, _⟩ := body58 (pg := pg) hF hl hr.all [] (Rd.ssv hT _ _)
 have lk := r3.lk (pg := pg) (R := den pg) r2 s
 rw [posO_getD] at lk
 refine .of2 (x := .ret) (e := [(4, .i .i64 ((wn ls s : Nat) : Int)), (5, .i .i64 0)]) (H' := H') (hF.S _ _) (d := d47) (by rw [hF.F]; rfl) rfl ?_ (.inl rfl) rfl (by simp) (by simp [mapO, sn_i, sn_b, Yo, Yp, Yq, Yr, Ys, Yt, Yu, Yv, Yw, Yx, Yy, Yz, mapO, elems])
 generalize ((wn ls s : Nat) : Int) = W at *
 simp (disch := omega) [d47, c47, zipE, Z0, Z1, Z2, Z3, Z4, Z5, Z6, Z7, Z8, Z9, Za, Zb, Zc, Zd, Ze, Zf, Zg, Zh, Zi, Zj, Zk, Zl, Zm, Zn, Zo, Zp, Zq, Zr, Zs, Zt, Zu, Zv, Zw, Zx, k_mv, Zy, Zz, ZA, ZB, ZC, ZD, ZE, ZF, ZG, ZH, ZI, ZJ, ZK, ZL, ZM, ZN, ZO, ZP, ZQ, ZR, ZS, ZT, ZU, ZV, ZW, ZX, ZY, ZZ, Y0, Y1, Y2, Y3, Y4, k_mn, k_mx, Y5, Y6, Y7, Y8, Y9, Ya, Yb, Yc, Yd, Ye, Yf, Yg, Yh, Dn.setLast, Dn.getLast, evalO, mapO, Dn.get, putE, Yi, Yj, Yk, Yl, TV.one, TV.isAgg, Dn.part, Ym, negb, at0, at1, at2, at3, at4, dT, dF, Yn, Option.bind_some, Option.map_some, c55, sh_fn, r1, lk]

end Go.Proofs.Try.Dn

/-
 The number of results.
-/

namespace Go.Proofs.Try.Dn
open Go.Dn

theorem l69_1_all {pg : Pg} {T : TV} {ls : List (List Int)} (hT : SSV T ls) (hl : ls.length <= 6) (h8 : ∀ d ∈ ls, d.length <= 8) {H : Heap} : ∀ (n i : Nat), i + n = ls.length ->
  ∃ e, den pg l69_1 [(3, .i .i64 ((lenP (ls.take i) : Nat) : Int)), (6, T), (7, .i .i64 (ls.length : Int)), (8, .i .i64 (i : Int))] H = some ⟨.exit 0, (3, .i .i64 ((lenP ls : Nat) : Int)) :: e, H⟩
 | 0, i, hi => by
  obtain rfl : i = ls.length := by omega
  rw [List.take_length]
  refine ⟨[(6, T), (7, .i .i64 (ls.length : Int)), (8, .i .i64 (ls.length : Int)), (9, .b false)], ?_⟩
  rw [l69_1, den_loop]
  simp (disch := omega) [b69_0, Z0, Z1, Z2, Z3, Z4, Z5, Z6, Z7, Z8, Z9, Za, Zb, Zc, Zd, Ze, Zf, Zg, Zh, Zi, Zj, Zk, Zl, Zm, Zn, Zo, Zp, Zq, Zr, Zs, Zt, Zu, Zv, Zw, Zx, k_mv, Zy, Zz, ZA, ZB, ZC, ZD, ZE, ZF, ZG, ZH, ZI, ZJ, ZK, ZL, ZM, ZN, ZO, ZP, ZQ, ZR, ZS, ZT, ZU, ZV, ZW, ZX, ZY, ZZ, Y0, Y1, Y2, Y3, Y4, k_mn, k_mx, Y5, Y6, Y7, Y8, Y9, Ya, Yb, Yc, Yd, Ye, Yf, Yg, Yh, Dn.setLast, Dn.getLast, evalO, mapO, Dn.get, putE, Yi, Yj, Yk, Yl, TV.one, TV.isAgg, Dn.part, Ym, negb, at0, at1, at2, at3, at4, dT, dF, Yn, Option.bind_some, Option.map_some]
 | n + 1, i, hi => by
  obtain ⟨d, hd⟩ : ∃ d, ls[i]? = some d := ⟨_, List.getElem?_eq_getElem (by omega)⟩
  have htk : ls.take (i + 1) = ls.take i ++ [d] := by rw [List.take_add_one, hd]; rfl
  obtain ⟨p, L, p1, p2, hL⟩ := hT.ix (pg := pg) (R := den pg) hd H
  have ln := (hL.view H).lenK
  have hlp := lenP_le (ls := ls.take i) (fun d hd => h8 d (List.mem_of_mem_take hd)) (by rw [List.length_take]; omega)
  have hd8 := h8 d (List.mem_of_getElem? hd)
  have hmul : lenP (ls.take i) * d.length <= 262144 * 8 := Nat.mul_le_mul hlp hd8
  obtain ⟨e, r⟩ := l69_1_all (pg := pg) hT hl h8 (H := H) n (i + 1) (by omega)
  rw [htk, lenP_snoc] at r
  refine ⟨e, Eq.trans ?_ r⟩
  have wm : wrapR .i64 (((lenP (ls.take i) : Nat) : Int) * (d.length : Int)) = .i .i64 ((lenP (ls.take i) * d.length : Nat) : Int) := by
   rw [<- Int.natCast_mul]; exact Yn (by omega)
  obtain ⟨N, hN⟩ : ∃ N, N = ls.length := ⟨_, rfl⟩
  rw [<- hN] at hi ⊢
  have di : decide ((i : Int) < (N : Int)) = true := dT (by omega)
  generalize lenP (ls.take i) = P at *
  generalize ((P * d.length : Nat) : Int) = Q at *
  rw [l69_1, den_loop]
  simp (disch := omega) [l69_1, b69_0, Z0, Z1, Z2, Z3, Z4, Z5, Z6, Z7, Z8, Z9, Za, Zb, Zc, Zd, Ze, Zf, Zg, Zh, Zi, Zj, Zk, Zl, Zm, Zn, Zo, Zp, Zq, Zr, Zs, Zt, Zu, Zv, Zw, Zx, k_mv, Zy, Zz, ZA, ZB, ZC, ZD, ZE, ZF, ZG, ZH, ZI, ZJ, ZK, ZL, ZM, ZN, ZO, ZP, ZQ, ZR, ZS, ZT, ZU, ZV, ZW, ZX, ZY, ZZ, Y0, Y1, Y2, Y3, Y4, k_mn, k_mx, Y5, Y6, Y7, Y8, Y9, Ya, Yb, Yc, Yd, Ye, Yf, Yg, Yh, Dn.setLast, Dn.getLast, evalO, mapO, Dn.get, putE, Yi, Yj, Yk, Yl, TV.one, TV.isAgg, Dn.part, Ym, negb, at0, at1, at2, at3, at4, dT, dF, Yn, Option.bind_some, Option.map_some, di, p1, p2, ln, wm]

theorem fn69 {pg : Pg} (hF : Free pg) {T : TV} {ls : List (List Int)} (hT : SSV T ls) (hl : ls.length <= 6) (h8 : ∀ d ∈ ls, d.length <= 8) : PFn pg 69 [T] (.i .i64 ((lenP ls : Nat) : Int)) := by
 have ln := hT.len []
 obtain ⟨e, r⟩ := l69_1_all (pg := pg) hT hl h8 (H := []) ls.length 0 (by omega)
 have r' : den pg l69_1 [(3, .i .i64 1), (6, T), (7, .i .i64 (ls.length : Int)), (8, .i .i64 0)] [] = some ⟨.exit 0, (3, .i .i64 ((lenP ls : Nat) : Int)) :: e, []⟩ := r
 refine .of1 (x := .ret) (e := [(2, .i .i64 ((lenP ls : Nat) : Int))]) (H' := []) (hF.S _ _) (d := d69) (by rw [hF.F]; rfl) rfl ?_ (.inl rfl) rfl (by simp [sn_i, sn_b, Yo, Yp, Yq, Yr, Ys, Yt, Yu, Yv, Yw, Yx, Yy, Yz, mapO, elems])
 obtain ⟨N, hN⟩ : ∃ N, N = ls.length := ⟨_, rfl⟩
 rw [<- hN] at r' ln
 generalize ((lenP ls : Nat) : Int) = W at *
 simp (disch := omega) [d69, c69, zipE, Z0, Z1, Z2, Z3, Z4, Z5, Z6, Z7, Z8, Z9, Za, Zb, Zc, Zd, Ze, Zf, Zg, Zh, Zi, Zj, Zk, Zl, Zm, Zn, Zo, Zp, Zq, Zr, Zs, Zt, Zu, Zv, Zw, Zx, k_mv, Zy, Zz, ZA, ZB, ZC, ZD, ZE, ZF, ZG, ZH, ZI, ZJ, ZK, ZL, ZM, ZN, ZO, ZP, ZQ, ZR, ZS, ZT, ZU, ZV, ZW, ZX, ZY, ZZ, Y0, Y1, Y2, Y3, Y4, k_mn, k_mx, Y5, Y6, Y7, Y8, Y9, Ya, Yb, Yc, Yd, Ye, Yf, Yg, Yh, Dn.setLast, Dn.getLast, evalO, mapO, Dn.get, putE, Yi, Yj, Yk, Yl, TV.one, TV.isAgg, Dn.part, Ym, negb, at0, at1, at2, at3, at4, dT, dF, Yn, Option.bind_some, Option.map_some, ln, go_denK (c := l69_1) rfl, r']

theorem call69 {pg : Pg} (hF : Free pg) {T : TV} {ls : List (List Int)} (hT : SSV T ls) (hl : ls.length <= 6) (h8 : ∀ d ∈ ls, d.length <= 8) (H : Heap) : callRun pg (den pg) (.pu []) [.fn 69 [] [], T] H = some (.i .i64 ((lenP ls : Nat) : Int), H) := by
 obtain ⟨T', s1, s2⟩ := snapSSV hT H
 exact PFn.call (fn69 hF s2 hl h8) (args := [T]) (ks := []) (fs := []) (cs := []) (by simpa using s1)

theorem fn42 {pg : Pg} (hF : Free pg) {T : TV} {ls : List (List Int)} (hT : SSV T ls) (h0 : chkD ls = 0) : PFn pg 42 [T] (.tup [.i .i64 ((lenP ls : Nat) : Int), .i .i64 0]) := by
 have hr := row_chk h0
 have hl := hr.le
 have c55 := call55 (pg := pg) hF hT (by omega) (fun x hx => by have := (hr.all x hx).le; omega) []
 rw [h0] at c55
 have c69 := call69 (pg := pg) hF hT hl (fun d hd => (hr.all d hd).le) []
 refine .of2 (x := .ret) (e := [(2, .i .i64 ((lenP ls : Nat) : Int)), (3, .i .i64 0)]) (H' := []) (hF.S _ _) (d := d42) (by rw [hF.F]; rfl) rfl ?_ (.inl rfl) rfl (by simp) (by simp [mapO, sn_i, sn_b, Yo, Yp, Yq, Yr, Ys, Yt, Yu, Yv, Yw, Yx, Yy, Yz, mapO, elems])
 generalize ((lenP ls : Nat) : Int) = W at *
 simp (disch := omega) [d42, c42, zipE, Z0, Z1, Z2, Z3, Z4, Z5, Z6, Z7, Z8, Z9, Za, Zb, Zc, Zd, Ze, Zf, Zg, Zh, Zi, Zj, Zk, Zl, Zm, Zn, Zo, Zp, Zq, Zr, Zs, Zt, Zu, Zv, Zw, Zx, k_mv, Zy, Zz, ZA, ZB, ZC, ZD, ZE, ZF, ZG, ZH, ZI, ZJ, ZK, ZL, ZM, ZN, ZO, ZP, ZQ, ZR, ZS, ZT, ZU, ZV, ZW, ZX, ZY, ZZ, Y0, Y1, Y2, Y3, Y4, k_mn, k_mx, Y5, Y6, Y7, Y8, Y9, Ya, Yb, Yc, Yd, Ye, Yf, Yg, Yh, Dn.setLast, Dn.getLast, evalO, mapO, Dn.get, putE, Yi, Yj, Yk, Yl, TV.one, TV.isAgg, Dn.part, Ym, negb, at0, at1, at2, at3, at4, dT, dF, Yn, Option.bind_some, Option.map_some, c55, c69]

end Go.Proofs.Try.Dn

