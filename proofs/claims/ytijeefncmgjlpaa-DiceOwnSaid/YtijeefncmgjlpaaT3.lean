/-
  The sums of dice: all of them, in order.
-/
import Derived.Test.YtijeefncmgjlpaaT1
import Derived.Test.YtijeefncmgjlpaaEl
import Derived.Test.YtijeefncmgjlpaaK3
set_option linter.unusedSimpArgs false
set_option linter.unusedVariables false

set_option maxHeartbeats 1000000
namespace Go.Proofs.Try.Dn
open Go.Dn

theorem wn_range {ls : List (List Int)} (hD : ∀ d ∈ ls, DieL 60 d) {j : Int} (h : wn ls j ≠ 0) : 0 <= j /\ j <= 60 * ls.length := by
 have key : ∀ i, i <= ls.length -> ∀ j, wn (ls.take i) j ≠ 0 -> 0 <= j /\ j <= 60 * i := by
  intro i
  induction i with
  | zero =>
   intro _ j hj
   rw [List.take_zero] at hj
   have : wn0 j ≠ 0 := hj
   unfold wn0 at this
   split at this
   ·omega
   ·exact absurd rfl this
  | succ i ih =>
   intro hi j hj
   have e : ls.take (i + 1) = ls.take i ++ [ls[i]] := by rw [List.take_add_one, List.getElem?_eq_getElem (by omega)]; rfl
   rw [e, wn_snoc] at hj
   obtain ⟨f, hf, h0⟩ := wnF_ne.1 hj
   have h1 := ih (by omega) _ h0
   have h2 := (hD ls[i] (List.getElem_mem (by omega))).ok f hf
   omega
 have := key ls.length (Nat.le_refl _) j (by rw [List.take_length]; exact h)
 exact this

def sumsE (ls : List (List Int)) (N : Nat) : List (Int × TV) := (List.range N).filterMap fun (s : Nat) => if wn ls (s : Int) = 0 then none else some ((s : Int), .i .i64 ((wn ls (s : Int) : Nat) : Int))
def sumsN (ls : List (List Int)) (N : Nat) : List (Int × Int) := (List.range N).filterMap fun (s : Nat) => if wn ls (s : Int) = 0 then none else some ((s : Int), ((wn ls (s : Int) : Nat) : Int))
def sumsL (ls : List (List Int)) : List (Int × Int) := sumsN ls 361

theorem sumsE_ent (ls : List (List Int)) (N : Nat) : (sumsE ls N).map entQ = sumsN ls N := by
 unfold sumsE sumsN
 rw [List.map_filterMap]
 congr 1
 funext s
 split <;> simp [entQ, TV.num]

theorem sumsE_cm {ls : List (List Int)} {N : Nat} (h : ∀ j, wn ls j ≠ 0 -> 0 <= j /\ j < (N : Int)) : CM (sumsE ls N) (fun k => posO (wn ls k)) := by
 have hr : Rise (sumsE ls N) := by
  unfold Rise sumsE
  rw [List.pairwise_filterMap]
  refine List.pairwise_lt_range.imp fun {a b} hab => ?_
  intro x hx y hy
  split at hx
  ·cases hx
  ·split at hy
   ·cases hy
   ·cases hx; cases hy; simp only; omega
 refine ⟨hr, fun k => ?_⟩
 have hm : ∀ v, (k, v) ∈ sumsE ls N ↔ wn ls k ≠ 0 /\ v = .i .i64 ((wn ls k : Nat) : Int) := by
  intro v
  unfold sumsE
  rw [List.mem_filterMap]
  constructor
  ·rintro ⟨s, hs, he⟩
   split at he
   ·cases he
   ·rename_i h0
    simp only [Option.some.injEq, Prod.mk.injEq] at he
    obtain ⟨rfl, rfl⟩ := he
    exact ⟨h0, rfl⟩
  ·rintro ⟨h0, rfl⟩
   have := h k h0
   refine ⟨k.toNat, List.mem_range.2 (by omega), ?_⟩
   rw [show ((k.toNat : Nat) : Int) = k by omega, if_neg h0]
 by_cases h0 : wn ls k = 0
 ·unfold posO
  dsimp only
  rw [if_pos h0, Option.map_none]
  cases hl : lookS k (sumsE ls N) with
  | none => rfl
  | some v => exact absurd h0 ((hm v).1 ((lookS_some hr).1 hl)).1
 ·unfold posO
  dsimp only
  rw [if_neg h0, Option.map_some]
  exact (lookS_some hr).2 ((hm _).2 ⟨h0, rfl⟩)

theorem sums_of {ls : List (List Int)} (hl : ls.length <= 6) (hD : ∀ d ∈ ls, DieL 60 d) {es : List (Int × TV)} (h : CM es fun k => posO (wn ls k)) : es.map entQ = sumsL ls := by
 have h2 := sumsE_cm (ls := ls) (N := 361) fun j hj => by have := wn_range hD hj; omega
 rw [h.uniq h2, sumsE_ent]; rfl

theorem hQ_set {K : Heap} {l : List (Int × Int)} {i : Nat} (hi : i < K.length) (o : AObj) : (hQ K l).set i o = hQ (K.set i o) l := by
 unfold hQ
 split
 ·rfl
 ·rw [List.append_assoc, List.set_append_left _ _ hi, List.append_assoc]

theorem cmpQ_lt {x y : Int × Int} (h : x.1 < y.1) : cmpQ x y < 0 := by
 unfold cmpQ cmpL
 have := (cmpI_lt x.1 y.1).2 h
 rw [if_pos (by omega)]; exact this

theorem cmpQ_eq {x y : Int × Int} (h : cmpQ x y = 0) : x = y := by
 have := (cmpL_eq _ _).1 h
 simp only [List.cons.injEq, and_true] at this
 exact Prod.ext_iff.2 this

theorem body70 {pg : Pg} (hF : Free pg) (hQ96 : pg.Q 96 = some 2) {T : TV} {ls : List (List Int)} (hT : SSV T ls) (hl : ls.length <= 6) (hD : ∀ d ∈ ls, DieL 60 d) :
  ∃ K, bodyRun pg (den pg) 70 [T] [] = some (oQ K.length (sumsL ls), hQ K (sumsL ls)) /\ sumsL ls ≠ [] := by
 obtain ⟨mid, H1, es, r1, r2, r3, r4, -, -⟩ := body58 hF hl hD [] (Rd.ssv hT _ _)
 have hmid := (List.getElem?_eq_some_iff.1 r2).1
 have hes := sums_of hl hD r3
 have r1' : callRun pg (den pg) .sh [.fn 58 [] [], T] [] = some (.mp mid, H1) := r1
 have rg : dkc pg (den pg) .rngS [.mp mid] H1 = some (.ref H1.length 0, H1 ++ [.iter mid es.length]) := by rw [k_rngS, r2]; rfl
 have hpos : es ≠ [] := by
  intro e
  rw [e] at r4
  have : 1 <= lenP ls := by
   unfold lenP
   have key : ∀ (m : List (List Int)) (n : Nat), 1 <= n -> (∀ d ∈ m, DieL 60 d) -> 1 <= m.foldl (fun n d => n * d.length) n := by
    intro m
    induction m with
    | nil => intro n hn _; exact hn
    | cons d m ih =>
     intro n hn hd
     rw [List.foldl_cons]
     exact ih _ (Nat.mul_le_mul hn (hd d (List.mem_cons_self ..)).pos) fun x hx => hd x (List.mem_cons_of_mem _ hx)
   exact key ls 1 (by omega) hD
  have h0 : mass [] = 0 := rfl
  omega
 have hne : sumsL ls ≠ [] := by rw [<- hes]; simpa using hpos
 obtain ⟨Kd, hKd⟩ : ∃ Kd, Kd = (H1 ++ [AObj.iter mid es.length]).set H1.length .dead := ⟨_, rfl⟩
 have e1 : Kd = H1 ++ [.dead] := by rw [hKd]; simp
 have lK : Kd.length = H1.length + 1 := by rw [e1]; simp
 have hrev : (Kd.set mid .dead).set mid (.mapS es es.length) = Kd := by
  rw [List.set_set]
  apply set_same
  rw [e1, List.getElem?_append_left hmid]; exact r2
 have hmass : es.length <= 1000000 := by
  have hN : (sumsL ls).length <= 361 := by
   unfold sumsL sumsN
   exact Nat.le_trans (List.length_filterMap_le _ _) (by simp)
  have : es.length = (sumsL ls).length := by rw [<- hes]; simp
  omega
 have hrun : go pg (den pg) [.c c70] .normal [(0, T)] [] = some ⟨.ret, [(2, oQ Kd.length (sumsL ls))], hQ Kd (sumsL ls)⟩ := by
  have s0 : go pg (den pg) [.c c70] .normal [(0, T)] [] = go pg (den pg) [.c l70_2] .normal [(3, .nilsl), (8, .ref H1.length 0)] (H1 ++ [.iter mid es.length]) := by
   clear hKd e1 lK hrev
   simp (disch := omega) [c70, go_seqr, Z0, Z1, Z2, Z3, Z4, Z5, Z6, Z7, Z8, Z9, Za, Zb, Zc, Zd, Ze, Zf, Zg, Zh, Zi, Zj, Zk, Zl, Zm, Zn, Zo, Zp, Zq, Zr, Zs, Zt, Zu, Zv, Zw, Zx, k_mv, Zy, Zz, ZA, ZB, ZC, ZD, ZE, ZF, ZG, ZH, ZI, ZJ, ZK, ZL, ZM, ZN, ZO, ZP, ZQ, ZR, ZS, ZT, ZU, ZV, ZW, ZX, ZY, ZZ, Y0, Y1, Y2, Y3, Y4, k_mn, k_mx, Y5, Y6, Y7, Y8, Y9, Ya, Yb, Yc, Yd, Ye, Yf, Yg, Yh, Dn.setLast, Dn.getLast, evalO, mapO, Dn.get, putE, Yi, Yj, Yk, Yl, TV.one, TV.isAgg, Dn.part, Ym, negb, at0, at1, at2, at3, at4, dT, dF, Yn, Option.bind_some, Option.map_some, r1', rg]
  rw [s0]
  unfold l70_2
  rw [go_mrangeZ (id := H1.length) (mid := mid) (ck := es.length) (es := es) (o := ⟨.ret, [(2, oQ Kd.length (sumsL ls))], hQ Kd (sumsL ls)⟩) rfl (getLast _ _) (by rw [List.getElem?_append_left hmid]; exact r2) fun p hp => ?_]
  ·rfl
  refine ⟨[(3, oQ Kd.length (p.map entQ)), (8, .ref H1.length 0)], hQ (Kd.set mid .dead) (p.map entQ), ?_, ?_⟩
  ·have := mf70 (pg := pg) (it := H1.length) (K := Kd.set mid .dead) p (fun q hq => by obtain ⟨n, _, h2⟩ := cm_ent r3 (hp.mem_iff.1 hq); exact ⟨n, h2⟩) [] (by rw [hp.length_eq]; simpa using hmass)
   rw [List.nil_append, List.length_set] at this
   rw [<- hKd]
   exact this
  ·rw [hQ_set (by rw [List.length_set]; omega), hrev]
   have hpn : p.map entQ ≠ [] := by
    intro e
    have : p = [] := by simpa using e
    rw [this] at hp
    exact hpos hp.symm.eq_nil
   obtain ⟨m, hm⟩ : ∃ m, m = p.map entQ := ⟨_, rfl⟩
   rw [<- hm] at hpn ⊢
   have hml : 0 < m.length := List.length_pos_iff.2 hpn
   have et : oQ Kd.length m = .sl (Kd.length + m.length - 1) 0 2 true m.length none := by unfold oQ; rw [if_neg hpn]
   have eh : hQ Kd m = Kd ++ List.replicate (m.length - 1) .dead ++ [.cells (elQ.flat m) false] := by unfold hQ; rw [if_neg hpn]
   have ei : Kd.length + m.length - 1 = (Kd ++ List.replicate (m.length - 1) AObj.dead).length := by simp; omega
   have hcell : (hQ Kd m)[Kd.length + m.length - 1]? = some (.cells (elQ.flat m) false) := by rw [eh, ei]; exact getLast _ _
   have hown : elQ.Own (hQ Kd m) (oQ Kd.length m) m := .inr ⟨hpn, _, false, _, et, hcell, by rw [elQ.flat_len]; exact Nat.le_refl _, by rw [<- elQ.flat_len, List.take_length]⟩
   obtain ⟨l', H', q1, q2, q3, q4, q5, q6, q7⟩ := sort_own (E := elQ) rfl (pg := pg) (f := 96) (g := 97) (cs := []) hQ96 hown ordQ (fun H0 x y _ _ _ => cmpQ_run hF H0 x y) (by
    have : m.length = es.length := by rw [hm, List.length_map, hp.length_eq]
    omega)
   have q8 := q7 _ _ _ _ _ _ et hcell
   have hl' : l' = sumsL ls := by
    have hperm : l'.Perm (sumsL ls) := q3.trans (by rw [hm, <- hes]; exact hp.map _)
    refine hperm.eq_of_pairwise (le := fun x y => ¬ cmpQ y x < 0) (fun a b _ _ h1 h2 => ?_) q4 ?_
    ·have := cmpL_rev [a.1, a.2] [b.1, b.2]
     exact cmpQ_eq (by unfold cmpQ at *; omega)
    ·rw [<- hes, List.pairwise_map]
     refine r3.1.imp fun {a b} hab => ?_
     have h1 : cmpQ (entQ a) (entQ b) < 0 := cmpQ_lt hab
     have := cmpL_rev [(entQ a).1, (entQ a).2] [(entQ b).1, (entQ b).2]
     unfold cmpQ at *; omega
   have hlen : l'.length = m.length := q3.length_eq
   have hH' : H' = hQ Kd (sumsL ls) := by
    rw [q8, eh, ei, Dn.setLast]
    have hfl : put2 (elQ.flat m) 0 (elQ.flat l') = elQ.flat l' := by
     unfold put2
     rw [List.take_zero, List.nil_append, Nat.zero_add, List.drop_of_length_le (by rw [elQ.flat_len, elQ.flat_len, hlen]; exact Nat.le_refl _), List.append_nil]
    rw [hfl, hl']
    unfold hQ
    rw [if_neg hne, <- hl', hlen]
   have hO : oQ Kd.length m = oQ Kd.length (sumsL ls) := by
    rw [et]; unfold oQ; rw [if_neg hne, <- hl', hlen]
   rw [hH', hO] at q1
   rw [hO]
   clear q2 q3 q4 q5 q6 q7 q8 hcell hown eh ei et
   generalize oQ Kd.length (sumsL ls) = O at *
   generalize hQ Kd (sumsL ls) = H9 at *
   generalize hQ Kd m = H8 at *
   simp (disch := omega) [z70_1, Z0, Z1, Z2, Z3, Z4, Z5, Z6, Z7, Z8, Z9, Za, Zb, Zc, Zd, Ze, Zf, Zg, Zh, Zi, Zj, Zk, Zl, Zm, Zn, Zo, Zp, Zq, Zr, Zs, Zt, Zu, Zv, Zw, Zx, k_mv, Zy, Zz, ZA, ZB, ZC, ZD, ZE, ZF, ZG, ZH, ZI, ZJ, ZK, ZL, ZM, ZN, ZO, ZP, ZQ, ZR, ZS, ZT, ZU, ZV, ZW, ZX, ZY, ZZ, Y0, Y1, Y2, Y3, Y4, k_mn, k_mx, Y5, Y6, Y7, Y8, Y9, Ya, Yb, Yc, Yd, Ye, Yf, Yg, Yh, Dn.setLast, Dn.getLast, evalO, mapO, Dn.get, putE, Yi, Yj, Yk, Yl, TV.one, TV.isAgg, Dn.part, Ym, negb, at0, at1, at2, at3, at4, dT, dF, Yn, Option.bind_some, Option.map_some, q1]
 exact ⟨Kd, body_of (x := .ret) (e := [(2, oQ Kd.length (sumsL ls))]) (d := d70) (by rw [hF.F]; rfl) rfl hrun (.inl rfl) rfl, hne⟩

theorem own_Q {K : Heap} {l : List (Int × Int)} (hne : l ≠ []) : elQ.Own (hQ K l) (oQ K.length l) l := by
 have hml : 0 < l.length := List.length_pos_iff.2 hne
 have ei : K.length + l.length - 1 = (K ++ List.replicate (l.length - 1) AObj.dead).length := by simp; omega
 exact .inr ⟨hne, _, false, elQ.flat l, by unfold oQ; rw [if_neg hne]; rfl, by unfold hQ; rw [if_neg hne, ei]; exact getLast _ _, by rw [elQ.flat_len]; exact Nat.le_refl _, by rw [<- elQ.flat_len, List.take_length]⟩

theorem body43 {pg : Pg} (hF : Free pg) (hQ96 : pg.Q 96 = some 2) {T : TV} {ls : List (List Int)} (hT : SSV T ls) (h0 : chkD ls = 0) : ∃ K, bodyRun pg (den pg) 43 [T] [] = some (.tup [oQ K.length (sumsL ls), .i .i64 0], hQ K (sumsL ls)) /\ elQ.Own (hQ K (sumsL ls)) (oQ K.length (sumsL ls)) (sumsL ls) := by
 have hr := row_chk h0
 have hl := hr.le
 have c55 := call55 (pg := pg) hF hT (by omega) (fun x hx => by have := (hr.all x hx).le; omega) []
 rw [h0] at c55
 obtain ⟨K, q1, hne⟩ := body70 (pg := pg) hF hQ96 hT hl hr.all
 refine ⟨K, body_ofs (vs := [oQ K.length (sumsL ls), .i .i64 0]) (x := .ret) (e := [(2, oQ K.length (sumsL ls)), (3, .i .i64 0)]) (d := d43) (by rw [hF.F]; rfl) rfl ?_ (.inl rfl) rfl, own_Q hne⟩
 generalize oQ K.length (sumsL ls) = O at *
 generalize hQ K (sumsL ls) = H' at *
 simp (disch := omega) [d43, c43, zipE, Z0, Z1, Z2, Z3, Z4, Z5, Z6, Z7, Z8, Z9, Za, Zb, Zc, Zd, Ze, Zf, Zg, Zh, Zi, Zj, Zk, Zl, Zm, Zn, Zo, Zp, Zq, Zr, Zs, Zt, Zu, Zv, Zw, Zx, k_mv, Zy, Zz, ZA, ZB, ZC, ZD, ZE, ZF, ZG, ZH, ZI, ZJ, ZK, ZL, ZM, ZN, ZO, ZP, ZQ, ZR, ZS, ZT, ZU, ZV, ZW, ZX, ZY, ZZ, Y0, Y1, Y2, Y3, Y4, k_mn, k_mx, Y5, Y6, Y7, Y8, Y9, Ya, Yb, Yc, Yd, Ye, Yf, Yg, Yh, Dn.setLast, Dn.getLast, evalO, mapO, Dn.get, putE, Yi, Yj, Yk, Yl, TV.one, TV.isAgg, Dn.part, Ym, negb, at0, at1, at2, at3, at4, dT, dF, Yn, Option.bind_some, Option.map_some, c55, sh_fn, q1]

end Go.Proofs.Try.Dn

/-
 The reference's ways of all sums.
-/

set_option maxHeartbeats 1000000
namespace Go.Proofs.Try.Dn
open Go.Dn

def gC (G : Nat -> Nat) (M : Nat) : List TV := (List.range M).map fun t => .i .i64 ((G t : Nat) : Int)
def gL (G : Nat -> Nat) (M : Nat) : List Int := (List.range M).map fun t => ((G t : Nat) : Int)

theorem gC_len (G : Nat -> Nat) (M : Nat) : (gC G M).length = M := by simp [gC]
theorem gC_at {G : Nat -> Nat} {M t : Nat} (h : t < M) : (gC G M)[t]? = some (.i .i64 ((G t : Nat) : Int)) := by
 unfold gC; rw [List.getElem?_map, List.getElem?_range h]; rfl
theorem gC_put {G : Nat -> Nat} {M t : Nat} (h : t < M) (v : Nat) : put2 (gC G M) t [.i .i64 ((v : Nat) : Int)] = gC (fun u => if u = t then v else G u) M := by
 apply List.ext_getElem?
 intro i
 unfold put2
 have hl := gC_len G M
 by_cases hi : i < M
 ·rw [gC_at hi]
  rcases Nat.lt_trichotomy i t with h1 | rfl | h1
  ·rw [List.append_assoc, List.getElem?_append_left (by simp; omega), List.getElem?_take, if_pos h1, gC_at hi, if_neg (by omega)]
  ·rw [List.append_assoc, List.getElem?_append_right (by simp; omega)]
   simp; rw [show min i (gC G M).length = i by omega]; simp
  ·rw [List.getElem?_append_right (by simp; omega)]
   simp only [List.length_append, List.length_take, List.length_singleton, List.getElem?_drop]
   rw [show t + 1 + (i - (min t (gC G M).length + 1)) = i by omega, gC_at hi, if_neg (by omega)]
 ·rw [List.getElem?_eq_none (by simp; omega), List.getElem?_eq_none (by rw [gC_len]; omega)]

def fS (W : Int -> Nat) (d : List Int) (s k : Nat) (t : Nat) : Nat := (d.map fun f => if (t : Int) - f < (s : Int) then W ((t : Int) - f) else 0).sum + ((d.take k).map fun f => if (t : Int) - f = (s : Int) then W ((t : Int) - f) else 0).sum

theorem fS_zero {W : Int -> Nat} (hW : ∀ j, j < 0 -> W j = 0) (d : List Int) (t : Nat) : fS W d 0 0 t = 0 := by
 unfold fS
 rw [List.take_zero, sum_zero _ d fun f _ => by
  split
  ·rename_i h; exact hW _ (by simpa using h)
  ·rfl]
 rfl

theorem fS_next (W : Int -> Nat) (d : List Int) (s t : Nat) : fS W d s d.length t = fS W d (s + 1) 0 t := by
 unfold fS
 rw [List.take_length, List.take_zero, <- sum_add]
 simp only [List.map_nil, List.sum_nil, Nat.add_zero]
 congr 1
 apply List.map_congr_left
 intro f _
 by_cases h1 : (t : Int) - f < (s : Int)
 ·rw [if_pos h1, if_neg (by omega), if_pos (by omega)]; rfl
 ·rw [if_neg h1]
  by_cases h2 : (t : Int) - f = (s : Int)
  ·rw [if_pos h2, if_pos (by omega)]; omega
  ·rw [if_neg h2, if_neg (by omega)]

theorem fS_step {W : Int -> Nat} {d : List Int} {s k : Nat} {f : Int} (hf : d[k]? = some f) (t : Nat) : fS W d s (k + 1) t = fS W d s k t + if (t : Int) = (s : Int) + f then W (s : Int) else 0 := by
 unfold fS
 rw [List.take_add_one, hf, Option.toList_some, List.map_append, List.sum_append]
 simp only [List.map_cons, List.map_nil, List.sum_cons, List.sum_nil, Nat.add_zero]
 rw [Nat.add_assoc]
 congr 2
 by_cases h : (t : Int) = (s : Int) + f
 ·rw [if_pos (by omega), if_pos h, show (t : Int) - f = (s : Int) by omega]
 ·rw [if_neg (by omega), if_neg h]

theorem fS_full {W : Int -> Nat} {M : Nat} (hW : ∀ j, (M : Int) <= j -> W j = 0) (d : List Int) (t : Nat) : fS W d M 0 t = wnF W d (t : Int) := by
 unfold fS wnF
 rw [List.take_zero]
 simp only [List.map_nil, List.sum_nil, Nat.add_zero]
 congr 1
 apply List.map_congr_left
 intro f _
 split
 ·rfl
 ·exact (hW _ (by omega)).symm

theorem sum_mono {α : Type} {f g : α -> Nat} : ∀ {l : List α}, (∀ x ∈ l, f x <= g x) -> (l.map f).sum <= (l.map g).sum
 | [], _ => Nat.le_refl _
 | x :: l, h => by
  simp only [List.map_cons, List.sum_cons]
  exact Nat.add_le_add (h x (List.mem_cons_self ..)) (sum_mono fun y hy => h y (List.mem_cons_of_mem _ hy))

theorem sum_take {α : Type} (f : α -> Nat) (l : List α) (k : Nat) : ((l.take k).map f).sum <= (l.map f).sum := by
 conv => rhs; rw [<- List.take_append_drop k l, List.map_append, List.sum_append]
 omega

theorem fS_le (W : Int -> Nat) (d : List Int) (s k t : Nat) : fS W d s k t <= wnF W d (t : Int) := by
 have h1 : fS W d s k t <= fS W d s d.length t := by
  unfold fS
  rw [List.take_length]
  exact Nat.add_le_add_left (sum_take _ _ _) _
 refine Nat.le_trans h1 ?_
 rw [fS_next]
 unfold fS wnF
 rw [List.take_zero]
 simp only [List.map_nil, List.sum_nil, Nat.add_zero]
 refine sum_mono fun f _ => ?_
 split
 ·exact Nat.le_refl _
 ·exact Nat.zero_le _

theorem sum_bound {α : Type} {f : α -> Nat} {B : Nat} : ∀ {l : List α}, (∀ x ∈ l, f x <= B) -> (l.map f).sum <= B * l.length
 | [], _ => by simp
 | x :: l, h => by
  simp only [List.map_cons, List.sum_cons, List.length_cons]
  have h1 := h x (List.mem_cons_self ..)
  have h2 := sum_bound (l := l) fun y hy => h y (List.mem_cons_of_mem _ hy)
  rw [Nat.mul_add]; omega

theorem wn_le (ls : List (List Int)) : ∀ i, i <= ls.length -> ∀ j, wn (ls.take i) j <= lenP (ls.take i) := by
 intro i
 induction i with
 | zero =>
  intro _ j
  rw [List.take_zero]
  show wn0 j <= 1
  unfold wn0; split <;> omega
 | succ i ih =>
  intro hi j
  have e : ls.take (i + 1) = ls.take i ++ [ls[i]] := by rw [List.take_add_one, List.getElem?_eq_getElem (by omega)]; rfl
  rw [e, wn_snoc, lenP_snoc]
  exact sum_bound fun f _ => ih (by omega) _

theorem wn_small {ls : List (List Int)} (hl : ls.length <= 6) (h8 : ∀ d ∈ ls, d.length <= 8) (i : Nat) (hi : i <= ls.length) (j : Int) : wn (ls.take i) j <= 262144 :=
 Nat.le_trans (wn_le ls i hi j) (lenP_le (fun d hd => h8 d (List.mem_of_mem_take hd)) (by rw [List.length_take]; omega))

structure RowG (H : Heap) (id M : Nat) (G : Nat -> Nat) : Prop where
 at_ : H[id]? = some (.cells (gC G M) false)

theorem RowG.ix {pg : Pg} (H : Heap) (id : Nat) {M t : Nat} (ht : t < M) : dkc pg (den pg) (.ixS 1 false) [.sl id 0 1 false M (some M), .i .i64 (t : Int)] H = some (.ref id t, H) := by
 simp [dkc, dk, bound, ht]
theorem RowG.ld {H : Heap} {id M t : Nat} {G : Nat -> Nat} (h : RowG H id M G) (ht : t < M) : ldC H[id]? 1 false t H = some (.i .i64 ((G t : Nat) : Int), H) := by
 rw [h.at_]; simp [ldC, Dn.part, gC_at ht, up]; rfl
theorem RowG.st {pg : Pg} {H : Heap} {id M t : Nat} {G : Nat -> Nat} (h : RowG H id M G) (ht : t < M) (v : Nat) : ∃ H', dkc pg (den pg) (.st 1) [.ref id t, .i .i64 ((v : Nat) : Int)] H = some (.undef, H') /\ RowG H' id M (fun u => if u = t then v else G u) /\ (∀ j, j ≠ id -> H'[j]? = H[j]?) /\ H'.length = H.length := by
 have hlt := (List.getElem?_eq_some_iff.1 h.at_).1
 refine ⟨H.set id (.cells (gC (fun u => if u = t then v else G u) M) false), ?_, ⟨by simp [hlt]⟩, fun j hj => List.getElem?_set_ne (Ne.symm hj), by simp⟩
 show dk (.st 1) [.ref id t, .i .i64 ((v : Nat) : Int)] H = _
 simp only [dk, h.at_, TV.cells, List.length_singleton]
 rw [if_pos ⟨trivial, rfl, by rw [gC_len]; omega⟩, gC_put ht]

end Go.Proofs.Try.Dn

