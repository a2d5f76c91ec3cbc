/-
  Lists of pairs in order, none twice: plain facts.
-/
import Derived.Test.YtijeefncmgjlpaaEj
import Derived.Test.YtijeefncmgjlpaaEa
import Derived.WalkKit
import Derived.Test.YtijeefncmgjlpaaEk
import Derived.Test.YtijeefncmgjlpaaEb
set_option linter.unusedSimpArgs false
set_option linter.unusedVariables false

namespace Go.Proofs.Try.Dn
open Go.Dn

theorem cmpI_rev (a b : Int) : cmpI b a = - cmpI a b := by
 unfold cmpI; (repeat' split) <;> omega
theorem cmpI_eq (a b : Int) : cmpI a b = 0 ↔ a = b := by
 unfold cmpI; (repeat' split) <;> omega
theorem cmpI_lt (a b : Int) : cmpI a b < 0 ↔ a < b := by
 unfold cmpI; (repeat' split) <;> omega

theorem cmpL_rev : ∀ a b : List Int, cmpL b a = - cmpL a b
 | [], [] => rfl
 | [], _ :: _ => rfl
 | _ :: _, [] => rfl
 | x :: a, y :: b => by
  have ih := cmpL_rev a b
  have h := cmpI_rev x y
  simp only [cmpL]
  by_cases h0 : cmpI x y = 0
  ·rw [if_neg (by omega), if_neg (by omega)]; exact ih
  ·rw [if_pos (by omega), if_pos (by omega)]; exact h

theorem cmpL_eq : ∀ a b : List Int, cmpL a b = 0 ↔ a = b
 | [], [] => by simp [cmpL]
 | [], _ :: _ => by simp [cmpL]
 | _ :: _, [] => by simp [cmpL]
 | x :: a, y :: b => by
  have ih := cmpL_eq a b
  have h := cmpI_eq x y
  simp only [cmpL, List.cons.injEq]
  by_cases h0 : cmpI x y = 0
  ·rw [if_neg (by omega)]; simp [h.1 h0, ih]
  ·rw [if_pos h0]; simp [h0, mt h.2 h0]

theorem cmpL_tr : ∀ a b c : List Int, cmpL a b < 0 -> cmpL b c < 0 -> cmpL a c < 0
 | [], [], c, h, _ => by simp [cmpL] at h
 | [], _ :: _, [], _, h => by simp [cmpL] at h
 | [], _ :: _, _ :: _, _, _ => by simp [cmpL]
 | _ :: _, [], _, h, _ => by simp [cmpL] at h
 | _ :: _, _ :: _, [], _, h => by simp [cmpL] at h
 | x :: a, y :: b, z :: c, h1, h2 => by
  have ih := cmpL_tr a b c
  have e1 := cmpI_eq x y
  have e2 := cmpI_eq y z
  have l1 := cmpI_lt x y
  have l2 := cmpI_lt y z
  have l3 := cmpI_lt x z
  have e3 := cmpI_eq x z
  simp only [cmpL] at h1 h2 ⊢
  by_cases h3 : cmpI x y = 0
  ·rw [if_neg (by omega)] at h1
   by_cases h4 : cmpI y z = 0
   ·rw [if_neg (by omega)] at h2
    rw [if_neg (by have := e3.2; omega)]
    exact ih h1 h2
   ·rw [if_pos h4] at h2
    rw [if_pos (by omega)]; omega
  ·rw [if_pos h3] at h1
   by_cases h4 : cmpI y z = 0
   ·rw [if_pos (by omega)]; omega
   ·rw [if_pos h4] at h2
    rw [if_pos (by omega)]; omega

theorem cmpP_rev (x y : PL) : cmpP y x = - cmpP x y := by
 have h1 := cmpL_rev x.1 y.1
 have h2 := cmpL_rev x.2 y.2
 unfold cmpP
 by_cases h : cmpL x.1 y.1 = 0
 ·rw [if_neg (by omega), if_neg (by omega)]; exact h2
 ·rw [if_pos (by omega), if_pos (by omega)]; exact h1

theorem cmpP_eq (x y : PL) : cmpP x y = 0 ↔ x = y := by
 have h1 := cmpL_eq x.1 y.1
 have h2 := cmpL_eq x.2 y.2
 unfold cmpP
 rw [Prod.ext_iff]
 by_cases h : cmpL x.1 y.1 = 0
 ·rw [if_neg (by omega), h2]; simp [h1.1 h]
 ·rw [if_pos (by omega)]; simp [h, mt h1.2 h]

theorem cmpP_tr (x y z : PL) (h1 : cmpP x y < 0) (h2 : cmpP y z < 0) : cmpP x z < 0 := by
 have e1 := cmpL_eq x.1 y.1
 have e2 := cmpL_eq y.1 z.1
 have e3 := cmpL_eq x.1 z.1
 have t1 := cmpL_tr x.1 y.1 z.1
 have t2 := cmpL_tr x.2 y.2 z.2
 unfold cmpP at *
 by_cases h3 : cmpL x.1 y.1 = 0
 ·rw [if_neg (by omega)] at h1
  have e4 := e1.1 h3
  by_cases h4 : cmpL y.1 z.1 = 0
  ·rw [if_neg (by omega)] at h2
   rw [if_neg (by rw [e4]; omega)]
   exact t2 h1 h2
  ·rw [if_pos h4] at h2
   rw [if_pos (by rw [e4]; omega), e4]; exact h2
 ·rw [if_pos h3] at h1
  by_cases h4 : cmpL y.1 z.1 = 0
  ·have e5 := e2.1 h4
   rw [if_pos (by rw [<- e5]; omega), <- e5]; exact h1
  ·rw [if_pos h4] at h2
   have := t1 h1 h2
   rw [if_pos (by omega)]; exact this

theorem ordP : Ordr cmpP where
 irr x := by rw [(cmpP_eq x x).2 rfl]; decide
 tr := cmpP_tr
 ntr x y z h1 h2 h3 := by
  have a := cmpP_rev x y
  have b := cmpP_rev y z
  by_cases h4 : cmpP x y = 0
  ·have := (cmpP_eq x y).1 h4; subst this; exact h2 h3
  ·by_cases h5 : cmpP y z = 0
   ·have := (cmpP_eq y z).1 h5; subst this; exact h1 h3
   ·have := cmpP_tr z y x (by omega) (by omega)
    have := cmpP_rev x z
    omega

abbrev StrP (l : List PL) : Prop := l.Pairwise fun x y => cmpP x y < 0

theorem StrP.uniq {l m : List PL} (hl : StrP l) (hm : StrP m) (h : ∀ x, x ∈ l ↔ x ∈ m) : l = m := by
 have nd : ∀ {l : List PL}, StrP l -> l.Nodup := fun hl => hl.imp fun {a b} hab e => by subst e; exact ordP.irr a hab
 exact ((List.perm_ext_iff_of_nodup (nd hl) (nd hm)).2 h).eq_of_pairwise (fun a b _ _ h1 h2 => by have := cmpP_rev a b; omega) hl hm

theorem kpP_spec : ∀ (l : List PL) (p : PL), (p :: l).Pairwise (fun x y => ¬ cmpP y x < 0) -> StrP (p :: kpP p l) /\ ∀ x, x ∈ p :: kpP p l ↔ x ∈ p :: l
 | [], p, _ => ⟨by simp [kpP], fun x => by simp [kpP]⟩
 | y :: l, p, h => by
  rw [kpP]
  have hy := List.pairwise_cons.1 h
  have hpy := hy.1 y (List.mem_cons_self ..)
  by_cases he : eqP y p = true
  ·have e : y = p := (cmpP_eq y p).1 (by simpa [eqP] using he)
   subst e
   rw [if_pos he]
   obtain ⟨h1, h2⟩ := kpP_spec l y hy.2
   exact ⟨h1, fun x => by rw [h2]; simp⟩
  ·rw [if_neg he]
   obtain ⟨h1, h2⟩ := kpP_spec l y hy.2
   have hne : cmpP y p ≠ 0 := fun e => he (by simp [eqP, e])
   have hlt : cmpP p y < 0 := by have := cmpP_rev y p; omega
   refine ⟨List.pairwise_cons.2 ⟨fun x hx => ?_, h1⟩, fun x => by rw [List.mem_cons, h2, <- List.mem_cons]⟩
   rcases List.mem_cons.1 hx with rfl | hx
   ·exact hlt
   ·exact cmpP_tr _ _ _ hlt ((List.pairwise_cons.1 h1).1 x hx)

theorem ddP_spec (l : List PL) (h : l.Pairwise fun x y => ¬ cmpP y x < 0) : StrP (ddP l) /\ ∀ x, x ∈ ddP l ↔ x ∈ l := by
 cases l with
 | nil => exact ⟨List.Pairwise.nil, fun x => Iff.rfl⟩
 | cons p l => exact kpP_spec l p h

def putP : List PL -> PL -> List PL
 | [], x => [x]
 | y :: l, x => if cmpP y x < 0 then y :: putP l x else if cmpP y x = 0 then y :: l else x :: y :: l

theorem putP_spec : ∀ (l : List PL) (x : PL), StrP l -> StrP (putP l x) /\ ∀ z, z ∈ putP l x ↔ z ∈ l \/ z = x
 | [], x, _ => ⟨by simp [putP], fun z => by simp [putP]⟩
 | y :: l, x, h => by
  have hy := List.pairwise_cons.1 h
  rw [putP]
  by_cases h1 : cmpP y x < 0
  ·rw [if_pos h1]
   obtain ⟨k1, k2⟩ := putP_spec l x hy.2
   refine ⟨List.pairwise_cons.2 ⟨fun z hz => ?_, k1⟩, fun z => by rw [List.mem_cons, k2, List.mem_cons]; exact or_assoc.symm⟩
   rcases (k2 z).1 hz with hz | rfl
   ·exact hy.1 z hz
   ·exact h1
  ·rw [if_neg h1]
   by_cases h2 : cmpP y x = 0
   ·rw [if_pos h2]
    have e := (cmpP_eq y x).1 h2
    subst e
    exact ⟨h, fun z => by
     rw [List.mem_cons]
     constructor
     ·exact .inl
     ·rintro (hz | hz)
      ·exact hz
      ·exact .inl hz⟩
   ·rw [if_neg h2]
    have h3 : cmpP x y < 0 := by have := cmpP_rev x y; omega
    refine ⟨List.pairwise_cons.2 ⟨fun z hz => ?_, h⟩, fun z => by rw [List.mem_cons]; exact Or.comm⟩
    rcases List.mem_cons.1 hz with rfl | hz
    ·exact h3
    ·exact cmpP_tr _ _ _ h3 (hy.1 z hz)

theorem foldP_spec : ∀ (l o : List PL), StrP o -> StrP (l.foldl putP o) /\ ∀ z, z ∈ l.foldl putP o ↔ z ∈ o \/ z ∈ l
 | [], o, h => ⟨h, fun z => by simp⟩
 | x :: l, o, h => by
  obtain ⟨k1, k2⟩ := putP_spec o x h
  obtain ⟨j1, j2⟩ := foldP_spec l (putP o x) k1
  refine ⟨j1, fun z => ?_⟩
  rw [List.foldl_cons, j2, k2, List.mem_cons, or_assoc]

def canP (l : List PL) : List PL := l.foldl putP []

theorem ddP_can {l l' : List PL} (hp : l'.Perm l) (hs : l'.Pairwise fun x y => ¬ cmpP y x < 0) : ddP l' = canP l := by
 obtain ⟨a1, a2⟩ := ddP_spec l' hs
 obtain ⟨b1, b2⟩ := foldP_spec l [] List.Pairwise.nil
 exact a1.uniq b1 fun x => by rw [a2, show canP l = l.foldl putP [] from rfl, b2, hp.mem_iff]; simp

end Go.Proofs.Try.Dn

/-
 Dice: what a call answers, evaluated.
-/

namespace Go.Proofs.Try.Dn
open Go.Dn

def pg0 : Pg := ⟨tab.look, fun _ => none, fun _ _ => none, fun f => if f = 81 \/ f = 96 then some 2 else none⟩

theorem free0 : Free pg0 := ⟨rfl, fun _ _ => rfl⟩

def known : Option (TV × Heap) -> Option TV
 | some (r, H) => snap .fin H 9 r
 | none => none

theorem known_iff {pg : Pg} {f n : Nat} {xs : List TV} {r : TV} (hS : pg.S f xs = none) (h : known (bodyRun pg (denN pg n) f xs []) = some r) : PFn pg f xs r := by
 unfold known at h
 split at h
 ·rename_i r' H' h'
  exact .inr ⟨hS, r', H', Ans.of h', h⟩
 ·cases h

theorem aq25 : known (bodyRun pg0 (denN pg0 40) 25 [.i .i64 2, .i .i64 2] []) = some (.tup [.i .i64 2, .i .i64 0]) := by kernel_rfl

end Go.Proofs.Try.Dn

/-
 Pairs of dice listed: in order, none twice.
-/

set_option maxHeartbeats 1000000
namespace Go.Proofs.Try.Dn
open Go.Dn

theorem growP_mem (n m : Nat) (c d : Int) : ∀ (k : Nat) (a b : List Int) (g : Int -> Option Nat), a.length <= n -> b.length <= m -> ∀ p ∈ growP n m c d k a b g, p.1.length = n /\ p.2.length = m
 | 0, a, b, g, _, _, p, hp => by simp [growP] at hp
 | k + 1, a, b, g, ha, hb, p, hp => by
  unfold growP at hp
  split at hp
  ·split at hp
   ·simp at hp
   ·rw [List.mem_singleton.1 hp]; exact ⟨by simp only; omega, by simp only; omega⟩
  ·rename_i l hl
   rcases List.mem_append.1 hp with hp | hp
   ·split at hp
    ·rename_i hf
     have hlt : a.length < n := by simp [fits] at hf; exact hf.1.1
     split at hp
     ·exact growP_mem n m c d k _ _ _ (by simp; omega) hb p hp
     ·simp at hp
    ·simp at hp
   ·split at hp
    ·rename_i hf
     have hlt : b.length < m := by simp [fits] at hf; exact hf.1.1
     split at hp
     ·exact growP_mem n m c d k _ _ _ ha (by simp; omega) p hp
     ·simp at hp
    ·simp at hp

theorem pairsP_short {n m : Nat} {c d : Int} {g : Int -> Option Nat} (hn : 1 <= n /\ n <= 8) (hm : 1 <= m /\ m <= 8) : Short (pairsP n m c d g) := fun p hp => by
 have := growP_mem n m c d 1001 [c] [d] _ (by simpa using hn.1) (by simpa using hm.1) p hp
 omega

theorem pairsP_len {n m : Nat} {c d : Int} {g : Int -> Option Nat} (hn : 1 <= n /\ n <= 8) (hm : 1 <= m /\ m <= 8) : (pairsP n m c d g).length <= 1000000 := by
 have h1 := growP_len n m c d 1001 [c] [d] (subM g (c + d)) (by simpa using hn.1) (by simpa using hm.1)
 simp only [List.length_singleton] at h1
 have h2 := Nat.pow_le_pow_right (n := 2) (by omega) (show (n - 1) + (m - 1) <= 14 by omega)
 unfold pairsP
 have h3 : (2 : Nat) ^ 14 = 16384 := by decide
 omega

theorem row_snap {K : Heap} {i : Nat} {l : List Int} (h : K[i]? = some (.cells (elI.flat l) false)) (hn : l ≠ []) (m : SM) (hm : m ≠ .keep) (f : Nat) : snap m K (f + 3) (.sl i 0 1 false l.length none) = some (elI.lt (m == .borrow) l) := by
 rw [snap]
 have hl := elI.flat_len l
 have hs : elI.sz = 1 := rfl
 rw [hs] at hl
 simp only [hm, if_false, h]
 rw [if_pos ⟨by omega, by simp⟩, List.drop_zero, List.take_of_length_le (by omega)]
 have he := elI.elems_flat l
 rw [hs] at he
 have ha : elI.ag = false := rfl
 rw [ha] at he
 rw [he, elI_flat.mapO m K f, El.lt_ne hn]
 rfl

theorem cmp_run {pg : Pg} (hF : Free pg) (H0 : Heap) (x y : RP) (gx : Gd H0 x) (gy : Gd H0 y) (hx : x.v.1.length <= 1000000 /\ x.v.2.length <= 1000000) (hy : y.v.1.length <= 1000000 /\ y.v.2.length <= 1000000) :
  cmpRun pg (den pg) H0 79 [] (.agg (elRP.enc x)) (.agg (elRP.enc y)) = some (cmpP x.v y.v) := by
 have e : ∀ z : RP, Gd H0 z -> snap .borrow H0 9 (.agg (elRP.enc z)) = some (.agg [elI.lt true z.v.1, elI.lt true z.v.2]) := fun z gz => by
  rw [Yy]
  show (mapO (snap .borrow H0 8) [TV.sl z.ia 0 1 false z.v.1.length none, .sl z.ib 0 1 false z.v.2.length none]).map TV.agg = _
  have a := row_snap gz.ha gz.na .borrow (by decide) 5
  have b := row_snap gz.hb gz.nb .borrow (by decide) 5
  simp only [mapO, a, b, Option.bind_some, Option.map_some]
  rfl
 have sa : snapArgs H0 [] ([.agg (elRP.enc x), .agg (elRP.enc y)] ++ []) = some [.agg [elI.lt true x.v.1, elI.lt true x.v.2], .agg [elI.lt true y.v.1, elI.lt true y.v.2]] := by
  simp [snapArgs, e x gx, e y gy]
 obtain ⟨H', r1, _⟩ := body79 hF (SV.lt true x.v.1) (SV.lt true x.v.2) (SV.lt true y.v.1) (SV.lt true y.v.2) hx.1 hx.2 hy.1 hy.2 []
 unfold cmpRun
 rw [sa, Option.bind_some, r1, Option.bind_some]

theorem ordR : Ordr (fun x y : RP => cmpP x.v y.v) where
 irr x := ordP.irr x.v
 tr x y z := ordP.tr x.v y.v z.v
 ntr x y z := ordP.ntr x.v y.v z.v

theorem body56 {pg : Pg} (hF : Free pg) (hQ : pg.Q 81 = some 2) (Hb : Heap) {H : Heap} {rW rF rS rN rM wid : Nat} {c d : Int} {n m : Nat} {es : List (Int × TV)} {g : Int -> Option Nat} (h : Gv H rW rF rS rN rM wid c d n m es g) (hb : ∀ j, j < Hb.length -> H[j]? = Hb[j]?) (hbl : Hb.length <= H.length)
  (hbr : Hb.length <= rF /\ Hb.length <= rS /\ Hb.length <= rN /\ Hb.length <= rM)
  (hn : 1 <= n /\ n <= 8) (hm : 1 <= m /\ m <= 8) (hc0 : 0 <= c /\ c <= 60) (hd0 : 0 <= d /\ d <= 60) (hmass : mass es <= 1000) (hg : ∀ s, (g s).getD 0 ≠ 0 -> 0 <= s /\ s <= 1000) (h1 : (g (c + d)).getD 0 ≠ 0) :
  ∃ t H', bodyRun pg (den pg) 56 [.fn 84 [] [.ref rW 0, .ref rF 0, .ref rS 0, .ref rN 0, .ref rM 0]] H = some (t, H') /\ (∃ rs, rs.map (·.v) = canP (pairsP n m c d g) /\ elRP.Own H' t rs /\ (∀ x ∈ rs, Gd H' x /\ t.idOf ≠ some x.ia /\ t.idOf ≠ some x.ib) /\ (∀ x ∈ rs, Hb.length <= x.ia /\ Hb.length <= x.ib) /\ (rs.length <= 1000000 /\ ShR rs) /\ ∀ j, t.idOf = some j -> Hb.length <= j) /\ ∀ j, j < Hb.length -> H'[j]? = Hb[j]? := by
 have hlt := fun {j o} (e : H[j]? = some o) => (List.getElem?_eq_some_iff.1 e).1
 obtain ⟨H1, hH1⟩ : ∃ H1, H1 = H ++ [AObj.cells [.nilsl] false] := ⟨_, rfl⟩
 have l1 : H1.length = H.length + 1 := by rw [hH1]; simp
 obtain ⟨H2, hH2⟩ : ∃ H2, H2 = H1 ++ [AObj.loop (L56 H.length)] := ⟨_, rfl⟩
 have l2 : H2.length = H.length + 2 := by rw [hH2]; simp [l1]
 have o2 : ∀ j, j < H.length -> H2[j]? = H[j]? := fun j hj => by rw [hH2, List.getElem?_append_left (by omega), hH1, List.getElem?_append_left hj]
 have k2 : ∀ {j : Nat} {o : AObj}, H[j]? = some o -> H2[j]? = some o := fun e => by rw [o2 _ (hlt e)]; exact e
 have g2 : Gv H2 rW rF rS rN rM wid c d n m es g := ⟨k2 h.hW, k2 h.hw, h.cm, k2 h.hF, k2 h.hS, k2 h.hN, k2 h.hM, h.nd⟩
 have q1 := hlt h.hF; have q2 := hlt h.hS; have q3 := hlt h.hN; have q4 := hlt h.hM
 have i2 : I56 Hb (H.length + 1) H.length [] (fun j => j < Hb.length \/ j = H.length + 1 \/ j = H.length \/ (TV.nilsl).idOf = some j \/ ∃ x ∈ ([] : List RP), j = x.ia \/ j = x.ib) H2 .nilsl :=
  {lp := by rw [hH2, <- l1]; exact getLast _ _, cell := by rw [hH2, List.getElem?_append_left (by omega), hH1]; exact getLast _ _, ow := .inl ⟨rfl, rfl⟩, gd := fun x hx => by simp at hx, gs := fun x hx => by simp at hx, eq := fun j => Iff.rfl, ny := (by intro e; cases e), nr := (by intro e; cases e), yr := by omega, by_ := by omega, br := hbl, bt := fun j e => (by cases e), old := fun j hj => by rw [o2 j (by omega), hb j hj], hl := by omega }
 obtain ⟨own', H3, r1, t, rs, hrs, i3⟩ := body84 hF (con56 pg Hb (H.length + 1) H.length) g2 ⟨_, [], rfl, i2⟩ (fun j hj => by
  simp only [List.mem_cons, List.mem_nil_iff, or_false, not_or]
  rcases hj with hj | hj | hj | hj | ⟨x, hx, _⟩
  ·omega
  ·omega
  ·omega
  ·cases hj
  ·simp at hx) hn hm hc0 hd0 hmass hg h1
 have y3 := (List.getElem?_eq_some_iff.1 i3.lp).1
 -- behind the loop
 obtain ⟨H4, hH4⟩ : ∃ H4, H4 = H3.set (H.length + 1) (.loop { L56 H.length with st := .exhausted }) := ⟨_, rfl⟩
 have l4 : H4.length = H3.length := by rw [hH4]; simp
 have o4 : ∀ j, j ≠ H.length + 1 -> H4[j]? = H3[j]? := fun j hj => by rw [hH4]; exact List.getElem?_set_ne (Ne.symm hj)
 have c4 : H4[H.length]? = some (.cells [t] false) := by rw [o4 _ (by omega)]; exact i3.cell
 have w4 : elRP.Own H4 t rs := i3.ow.mono fun id hid => o4 id fun e => i3.ny (by rw [<- e]; exact hid)
 have tl : ∀ id, t.idOf = some id -> id < H3.length := fun id hid => i3.ow.lt id hid
 obtain ⟨H5, hH5⟩ : ∃ H5, H5 = H4 ++ [AObj.cells [.fn 79 [] []] false] := ⟨_, rfl⟩
 have o5 : ∀ j, j < H4.length -> H5[j]? = H4[j]? := fun j hj => by rw [hH5]; exact List.getElem?_append_left hj
 have c5 : H5[H.length]? = some (.cells [t] false) := by rw [o5 _ (by omega)]; exact c4
 have f5 : H5[H4.length]? = some (.cells [.fn 79 [] []] false) := by rw [hH5]; exact getLast _ _
 have w5 : elRP.Own H5 t rs := w4.mono fun id hid => o5 id (by have := tl id hid; omega)
 have hsh := pairsP_short (g := g) (c := c) (d := d) hn hm
 have hln := pairsP_len (g := g) (c := c) (d := d) hn hm
 have hrl : rs.length = (pairsP n m c d g).length := by rw [<- hrs, List.length_map]
 have hshR : ∀ x ∈ rs, x.v.1.length <= 1000000 /\ x.v.2.length <= 1000000 := fun x hx => hsh x.v (by rw [<- hrs]; exact List.mem_map.2 ⟨x, hx, rfl⟩)
 have g4 : ∀ x ∈ rs, Gd H5 x /\ t.idOf ≠ some x.ia /\ t.idOf ≠ some x.ib := fun x hx => by
  obtain ⟨a1, a2⟩ := i3.gd x hx
  obtain ⟨b1, b2, b3, b4, -, -⟩ := i3.gs x hx
  have a3 := a1.lt
  exact ⟨a1.mono (by rw [o5 _ (by omega), o4 _ b1]) (by rw [o5 _ (by omega), o4 _ b2]), a2⟩
 obtain ⟨l', H6, s1, s2, s3, s4, s5, s6⟩ := sort_own (E := elRP) rfl (pg := pg) (f := 81) (g := 79) (cs := []) hQ w5 ordR (fun H0 x y hx hy hf => cmp_run hF H0 x y ((g4 x hx).1.mono (hf _ (g4 x hx).2.1) (hf _ (g4 x hx).2.2)) ((g4 y hy).1.mono (hf _ (g4 y hy).2.1) (hf _ (g4 y hy).2.2)) (hshR x hx) (hshR y hy)) (by omega)
 have g6 : ∀ x ∈ l', Gd H6 x /\ t.idOf ≠ some x.ia /\ t.idOf ≠ some x.ib := fun x hx => by
  have a := g4 x (s3.mem_iff.1 hx)
  exact ⟨a.1.mono (s5 _ a.2.1) (s5 _ a.2.2), a.2⟩
 have hr3 : t.idOf ≠ some H.length := i3.nr
 have hr6 : t.idOf ≠ some H4.length := fun e => by have := tl _ e; omega
 have c6 : H6[H.length]? = some (.cells [t] false) := by rw [s5 _ hr3]; exact c5
 have f6 : H6[H4.length]? = some (.cells [.fn 79 [] []] false) := by rw [s5 _ hr6]; exact f5
 obtain ⟨t', H7, u1, u2, u4, u3⟩ := body82 hF (fun p hp => hshR p (s3.mem_iff.1 hp)) (by rw [s3.length_eq, hrl]; exact hln) s2 f6 hr6 g6
 have hcan : (ddR l').map (·.v) = canP (pairsP n m c d g) := by
  rw [ddR_v]
  refine ddP_can (by rw [<- hrs]; exact s3.map _) ?_
  rw [List.pairwise_map]
  exact s4
 have g7 : ∀ x ∈ ddR l', Gd H7 x /\ t'.idOf ≠ some x.ia /\ t'.idOf ≠ some x.ib := fun x hx => by
  have a := g6 x (ddR_mem _ _ hx)
  exact ⟨a.1.mono (u3 _ a.1.lt.1 a.2.1) (u3 _ a.1.lt.2 a.2.2), fun e => a.2.1 (u4 _ e), fun e => a.2.2 (u4 _ e)⟩
 have l5 : H5.length = H4.length + 1 := by rw [hH5]; simp
 have i3b := i3.bt
 refine ⟨t', H7, ?_, ⟨ddR l', hcan, u2, g7, fun x hx => (i3.gs x (s3.mem_iff.1 (ddR_mem _ _ hx))).2.2.2.2, ⟨Nat.le_trans (ddR_len l') (by rw [s3.length_eq, hrl]; exact hln), fun x hx => hshR x (s3.mem_iff.1 (ddR_mem _ _ hx))⟩, fun j hj => i3b j (u4 j hj)⟩, fun j hj => ?_⟩
 ·have ta := (elRP_noagg w5).1
  have ld5 := ldC_of pg c5 ta
  have ld6 := ldC_of pg c6 ta
  have lf5 := ldC_of pg f5 rfl
  have r1' : callRun pg (den pg) .sh [.fn 84 [] [.ref rW 0, .ref rF 0, .ref rS 0, .ref rN 0, .ref rM 0], .yl H1.length] H2 = some (.tup [], H3) := by rw [l1]; exact r1
  have y3' : H3[H1.length]? = some (.loop (L56 H.length)) := by rw [l1]; exact i3.lp
  have u1' : callRun pg (den pg) .sh [.fn 82 [] [], t, .fn 83 [] [.ref H4.length 0]] H6 = some (t', H7) := u1
  have al : dkc pg (den pg) (.alloc [.nilsl] false) [] H = some (.ref H.length 0, H1) := by rw [ZF, hH1]
  have af : dkc pg (den pg) (.alloc [.nilfn] false) [] H4 = some (.ref H4.length 0, H4 ++ [.cells [.nilfn] false]) := by rw [ZF]
  have sf : dkc pg (den pg) (.st 1) [.ref H4.length 0, .fn 79 [] []] (H4 ++ [.cells [.nilfn] false]) = some (.undef, H5) := by
   rw [st_box (u := .nilfn) (ag := false) (getLast _ _) rfl, hH5, Dn.setLast]
  obtain ⟨FN, hFN⟩ : ∃ FN, FN = TV.fn 84 [] [.ref rW 0, .ref rF 0, .ref rS 0, .ref rN 0, .ref rM 0] := ⟨_, rfl⟩
  rw [<- hFN] at r1' ⊢
  refine body_of (x := .ret) (e := [(2, t')]) (d := d56) (by rw [hF.F]; rfl) rfl ?_ (.inl rfl) rfl
  have e1 : ∀ K, go pg (den pg) (.c (.rfunc (.t 7) [8, 9] a56_0 b56_1 [3]) :: K) .normal [(3, .ref H.length 0), (7, FN)] H1 = go pg (den pg) K .normal [(3, .ref H.length 0)] H4 := fun K => by
   rw [go_rfunc (pg := pg) (fv := FN) (L := L56 H.length) (H2 := H3) (r := .tup []) rfl (by rw [<- r1', hH2]; rfl) y3' (by simp [L56])]
   rw [hH4, <- l1]; rfl
  have e0 : go pg (den pg) [.c c56] .normal [(0, FN)] H = go pg (den pg) [.c (.rfunc (.t 7) [8, 9] a56_0 b56_1 [3]), .blk 0, .c (.seq (.reg [oO 6 (.alloc [.nilfn] false) [], ⟨none, (.st 1), [.t 6, .c (.fn 79 [] [])], none⟩] [3, 6])
    (.seq (.reg [oO 16 (.ld 1 false) [.t 3], oO 17 (.ld 1 false) [.t 6], ⟨(some 18), (.call .so), [.c (.fn 81 [] []), .t 16, .t 17], none⟩] [3, 6])
    (.seq (.reg [oO 19 (.ld 1 false) [.t 3], oO 20 (.mkfn 83 0) [.t 6], ⟨(some 21), (.call .sh), [.c (.fn 82 [] []), .t 19, .t 20], none⟩, oM 2 21] [2]) .ret)))] .normal [(3, .ref H.length 0), (7, FN)] H1 := by
   clear r1 r1' y3' l1 l2 l4 l5 hH1 hH2
   simp (disch := omega) [c56, Z0, Z1, Z2, Z3, Z4, Z5, Z6, Z7, Z8, Z9, Za, Zb, Zc, Zd, Ze, Zf, Zg, Zh, Zi, Zj, Zk, Zl, Zm, Zn, Zo, Zp, Zq, Zr, Zs, Zt, Zu, Zv, Zw, Zx, k_mv, Zy, Zz, ZA, ZB, ZC, ZD, ZE, ZF, ZG, ZH, ZI, ZJ, ZK, ZL, ZM, ZN, ZO, ZP, ZQ, ZR, ZS, ZT, ZU, ZV, ZW, ZX, ZY, ZZ, Y0, Y1, Y2, Y3, Y4, k_mn, k_mx, Y5, Y6, Y7, Y8, Y9, Ya, Yb, Yc, Yd, Ye, Yf, Yg, Yh, Dn.setLast, Dn.getLast, evalO, mapO, Dn.get, putE, Yi, Yj, Yk, Yl, TV.one, TV.isAgg, Dn.part, Ym, negb, at0, at1, at2, at3, at4, dT, dF, Yn, Option.bind_some, Option.map_some, al]
  show go pg (den pg) [.c c56] .normal [(0, FN)] H = _
  rw [e0, e1]
  clear g4 g6 g7 hcan hshR hrl hrs u4 e0 e1 r1 r1' y3' y3 hlt hH5 hH4 hH1 hH2 l1 l2 l4 l5 o2 o4 o5 k2 q1 q2 q3 q4 tl u3 s5 s6 i3b i3 i2 g2 c4 c5 c6 f5 f6 w4 w5 hbl
  simp (disch := omega) [Z0, Z1, Z2, Z3, Z4, Z5, Z6, Z7, Z8, Z9, Za, Zb, Zc, Zd, Ze, Zf, Zg, Zh, Zi, Zj, Zk, Zl, Zm, Zn, Zo, Zp, Zq, Zr, Zs, Zt, Zu, Zv, Zw, Zx, k_mv, Zy, Zz, ZA, ZB, ZC, ZD, ZE, ZF, ZG, ZH, ZI, ZJ, ZK, ZL, ZM, ZN, ZO, ZP, ZQ, ZR, ZS, ZT, ZU, ZV, ZW, ZX, ZY, ZZ, Y0, Y1, Y2, Y3, Y4, k_mn, k_mx, Y5, Y6, Y7, Y8, Y9, Ya, Yb, Yc, Yd, Ye, Yf, Yg, Yh, Dn.setLast, Dn.getLast, evalO, mapO, Dn.get, putE, Yi, Yj, Yk, Yl, TV.one, TV.isAgg, Dn.part, Ym, negb, at0, at1, at2, at3, at4, dT, dF, Yn, Option.bind_some, Option.map_some, af, sf, ld5, lf5, s1, ld6, u1']
 ·have hh := i3.by_
  rw [u3 j (by omega) (fun e => by have := i3b j e; omega), s5 j (fun e => by have := i3b j e; omega), o5 j (by omega), o4 j (by omega), i3.old j hj]

end Go.Proofs.Try.Dn

/-
 Twins: all of it.
-/

set_option maxHeartbeats 1000000
namespace Go.Proofs.Try.Dn
open Go.Dn

theorem sum_ne {l : List Nat} : l.sum ≠ 0 ↔ ∃ x ∈ l, x ≠ 0 := by
 induction l with
 | nil => simp
 | cons a l ih =>
  rw [List.sum_cons]
  constructor
  ·intro h
   by_cases ha : a = 0
   ·obtain ⟨x, hx, h0⟩ := ih.1 (by omega); exact ⟨x, List.mem_cons_of_mem _ hx, h0⟩
   ·exact ⟨a, List.mem_cons_self .., ha⟩
  ·rintro ⟨x, hx, h0⟩
   rcases List.mem_cons.1 hx with rfl | hx
   ·omega
   ·have := ih.2 ⟨x, hx, h0⟩; omega

theorem wnF_ne {G : Int -> Nat} {d : List Int} {j : Int} : wnF G d j ≠ 0 ↔ ∃ f ∈ d, G (j - f) ≠ 0 := by
 unfold wnF
 rw [sum_ne]
 constructor
 ·rintro ⟨x, hx, h0⟩
  obtain ⟨f, hf, rfl⟩ := List.mem_map.1 hx
  exact ⟨f, hf, h0⟩
 ·rintro ⟨f, hf, h0⟩
  exact ⟨_, List.mem_map.2 ⟨f, hf, rfl⟩, h0⟩

theorem wn2_ne {a b : List Int} {j : Int} : wn [a, b] j ≠ 0 ↔ ∃ f ∈ b, ∃ e ∈ a, j = e + f := by
 show wnF (wnF wn0 a) b j ≠ 0 ↔ _
 rw [wnF_ne]
 constructor
 ·rintro ⟨f, hf, h⟩
  obtain ⟨e, he, h⟩ := wnF_ne.1 h
  unfold wn0 at h
  split at h
  ·exact ⟨f, hf, e, he, by omega⟩
  ·exact absurd rfl h
 ·rintro ⟨f, hf, e, he, rfl⟩
  refine ⟨f, hf, wnF_ne.2 ⟨e, he, ?_⟩⟩
  unfold wn0
  rw [if_pos (by omega)]; decide

theorem call57 {pg : Pg} (hF : Free pg) {H : Heap} {mid : Nat} {c d : Int} {n m : Nat} {es : List (Int × TV)} {g : Int -> Option Nat} (hm : H[mid]? = some (.mapS es es.length)) (hc : CM es g) :
  ∃ H', callRun pg (den pg) .sh [.fn 57 [] [], .i .i64 (n : Int), .i .i64 (m : Int), .i .i64 c, .i .i64 d, .mp mid] H = some (.fn 84 [] [.ref (H.length + 4) 0, .ref (H.length + 2) 0, .ref (H.length + 3) 0, .ref H.length 0, .ref (H.length + 1) 0], H') /\
   Gv H' (H.length + 4) (H.length + 2) (H.length + 3) H.length (H.length + 1) mid c d n m es g /\ (∀ j, j < H.length -> H'[j]? = H[j]?) /\ H.length <= H'.length := by
 have hlt := (List.getElem?_eq_some_iff.1 hm).1
 refine ⟨H ++ [.cells [.i .i64 (n : Int)] false, .cells [.i .i64 (m : Int)] false, .cells [.i .i64 c] false, .cells [.i .i64 d] false, .cells [.mp mid] false], ?_, ⟨at_app _ _ 4, by rw [List.getElem?_append_left hlt]; exact hm, hc, at_app _ _ 2, at_app _ _ 3, at_app _ _ 0, at_app _ _ 1, ?_⟩, fun j hj => List.getElem?_append_left hj, by simp⟩
 ·rw [sh_fn]
  have b0 : ∀ K : Heap, dkc pg (den pg) (.box false) [.mp mid] K = some (.ref K.length 0, K ++ [.cells [.mp mid] false]) := fun K => rfl
  refine body_of (x := .ret) (e := [(10, .fn 84 [] [.ref (H.length + 4) 0, .ref (H.length + 2) 0, .ref (H.length + 3) 0, .ref H.length 0, .ref (H.length + 1) 0])]) (d := d57) (by rw [hF.F]; rfl) rfl ?_ (.inl rfl) rfl
  generalize (n : Int) = n' at *
  generalize (m : Int) = m' at *
  simp (disch := omega) [d57, c57, zipE, Z0, Z1, Z2, Z3, Z4, Z5, Z6, Z7, Z8, Z9, Za, Zb, Zc, Zd, Ze, Zf, Zg, Zh, Zi, Zj, Zk, Zl, Zm, Zn, Zo, Zp, Zq, Zr, Zs, Zt, Zu, Zv, Zw, Zx, k_mv, Zy, Zz, ZA, ZB, ZC, ZD, ZE, ZF, ZG, ZH, ZI, ZJ, ZK, ZL, ZM, ZN, ZO, ZP, ZQ, ZR, ZS, ZT, ZU, ZV, ZW, ZX, ZY, ZZ, Y0, Y1, Y2, Y3, Y4, k_mn, k_mx, Y5, Y6, Y7, Y8, Y9, Ya, Yb, Yc, Yd, Ye, Yf, Yg, Yh, Dn.setLast, Dn.getLast, evalO, mapO, Dn.get, putE, Yi, Yj, Yk, Yl, TV.one, TV.isAgg, Dn.part, Ym, negb, at0, at1, at2, at3, at4, dT, dF, Yn, Option.bind_some, Option.map_some, b0, List.length_append, List.append_assoc]
 ·simp only [List.nodup_cons, List.mem_cons, List.mem_nil_iff, or_false, not_or, not_false_eq_true, List.nodup_nil, and_true]; omega

def LPv (l : List PL) : TV := elP.lt false l

theorem ownP_fin {H : Heap} {t : TV} {rs : List RP} (h : elRP.Own H t rs) (hg : ∀ x ∈ rs, Gd H x) : snap .fin H 8 t = some (LPv (rs.map (·.v))) /\ snap .fin H 9 t = some (LPv (rs.map (·.v))) := by
 have hm : ∀ f, mapO (snap .fin H (f + 4)) (rs.map elRP.val) = some ((rs.map (·.v)).map elP.val) := fun f => by
  rw [List.map_map]
  exact mapO_map (g := snap .fin H (f + 4)) (f := elRP.val) (k := fun x => elP.val x.v) (l := rs) fun z hz => by
   have gz := hg z hz
   have a := row_snap gz.ha gz.na .fin (by decide) f
   have b := row_snap gz.hb gz.nb .fin (by decide) f
   show snap .fin H (f + 4) (.agg [TV.sl z.ia 0 1 false z.v.1.length none, .sl z.ib 0 1 false z.v.2.length none]) = some (.agg [elI.lt false z.v.1, elI.lt false z.v.2])
   rw [snap]
   simp only [mapO, a, b, Option.bind_some, Option.map_some]
   rfl
 have hs : ∀ f, snap .fin H (f + 5) t = some (LPv (rs.map (·.v))) := fun f => by
  rcases h with ⟨rfl, rfl⟩ | ⟨h0, id, ag, c, rfl, h1, h2, h3⟩
  ·rfl
  ·unfold LPv
   rw [El.lt_ne (by simpa using h0)]
   rw [snap]
   simp only [reduceCtorEq, if_false, h1]
   rw [if_pos ⟨by omega, .inl rfl⟩, List.drop_zero, h3, elRP.elems_flat, hm f]
   rfl
 exact ⟨hs 3, hs 4⟩

def p20_0 : DC :=
 (.reg [oO 4 .mv [.c .nilsl],
  (oO 5 .mv [.c (.i .i64 0)])] [0, 1])
def p20_1 : DC :=
 (.seq (.reg [oM 7 0,
  (oM 8 1),
  (oO 9 (.bsl false [.nilsl] false 2 [0, 1]) [.t 7, .t 8]),
  ⟨(some 10), (.call (.pu [])), [.c (.fn 55 [] []), .t 9], none⟩,
  (oM 6 10)] [0, 1, 6])
 (.seq (.reg [oM 11 6,
  (oO 12 (.binI .neq) [.t 11, .c (.i .i64 0)])] [0, 1, 6, 12])
 (.cond (.t 12)
 (.seq (.reg [oM 13 6,
  (oO 4 .mv [.c .nilsl]),
  (oM 5 13)] [4, 5])
 .ret)
 .skip)))
def r20 : DC :=
 (.regd [oM 14 0,
  (oO 15 (.len 0) [.t 14]),
  (oM 16 1),
  (oO 17 (.len 0) [.t 16]),
  (oM 18 0),
  (oO 19 (.ixS 1 false) [.t 18, .c (.i .i64 0)]),
  (oO 20 (.ld 1 false) [.t 19]),
  (oM 21 1),
  (oO 22 (.ixS 1 false) [.t 21, .c (.i .i64 0)]),
  (oO 23 (.ld 1 false) [.t 22]),
  (oM 24 0),
  (oM 25 1),
  (oO 26 (.bsl false [.nilsl] false 2 [0, 1]) [.t 24, .t 25]),
  ⟨(some 27), (.call .sh), [.c (.fn 58 [] []), .t 26], none⟩,
  ⟨(some 28), (.call .sh), [.c (.fn 57 [] []), .t 15, .t 17, .t 20, .t 23, .t 27], none⟩,
  ⟨(some 29), (.call .sh), [.c (.fn 56 [] []), .t 28], none⟩,
  (oM 4 29),
  (oO 5 .mv [.c (.i .i64 0)])] [4, 5] [(13, 1), (13, 3), (13, 6), (13, 9)])
theorem c20_parts : c20 = .seq p20_0 (.seq p20_1 (.seq r20 .ret)) := rfl

noncomputable def twinsL (a b : List Int) : List PL := canP (pairsP a.length b.length (a.getD 0 0) (b.getD 0 0) fun k => posO (wn [a, b] k))

theorem body20 {pg : Pg} (hF : Free pg) (hQ : pg.Q 81 = some 2) {A B : TV} {a b : List Int} (hA : SV A a) (hB : SV B b) (h0 : chkD [a, b] = 0) (H : Heap) :
  ∃ t H', bodyRun pg (den pg) 20 [A, B] H = some (.tup [t, .i .i64 0], H') /\ (∃ rs, rs.map (·.v) = twinsL a b /\ elRP.Own H' t rs /\ (∀ x ∈ rs, Gd H' x /\ t.idOf ≠ some x.ia /\ t.idOf ≠ some x.ib) /\ (∀ x ∈ rs, H.length <= x.ia /\ H.length <= x.ib) /\ (rs.length <= 1000000 /\ ShR rs) /\ ∀ j, t.idOf = some j -> H.length <= j) /\ ∀ j, j < H.length -> H'[j]? = H[j]? := by
 have hrow := row_chk h0
 have da := hrow.all a (by simp)
 have db := hrow.all b (by simp)
 obtain ⟨b1, T, b2, hT⟩ := two (pg := pg) hA hB H
 obtain ⟨H1, hH1⟩ : ∃ H1, H1 = H ++ [AObj.cells [A, B] false] := ⟨_, rfl⟩
 rw [<- hH1] at b1 b2
 have l1 : H1.length = H.length + 1 := by rw [hH1]; simp
 have hlen : ∀ x ∈ [a, b], x.length <= 1000000 := fun x hx => by
  simp at hx
  rcases hx with rfl | rfl
  ·have := da.le; omega
  ·have := db.le; omega
 have c55 := PFn.call (fn55 (pg := pg) hF hT (by simp) hlen) (args := [.sl H.length 0 1 false 2 (some 2)]) (ks := []) (fs := []) (cs := []) (H := H1) (by simp [snapArgs, b2])
 rw [h0] at c55
 obtain ⟨b3, _, _, _⟩ := two (pg := pg) hA hB H1
 obtain ⟨H2, hH2⟩ : ∃ H2, H2 = H1 ++ [AObj.cells [A, B] false] := ⟨_, rfl⟩
 rw [<- hH2] at b3
 have l2 : H2.length = H1.length + 1 := by rw [hH2]; simp
 have o2 : ∀ j, j < H1.length -> H2[j]? = H1[j]? := fun j hj => by rw [hH2, List.getElem?_append_left hj]
 have o1 : ∀ j, j < H.length -> H1[j]? = H[j]? := fun j hj => by rw [hH1, List.getElem?_append_left hj]
 have g2 : H2[H1.length]? = some (.cells [A, B] false) := by rw [hH2]; exact getLast _ _
 have hRd : Rd pg H2.length H2 (.sl H1.length 0 1 false 2 (some 2)) [a, b] := by
  refine ⟨fun H => rfl, fun K hK i d hd => ?_⟩
  have gk : K[H1.length]? = some (.cells [A, B] false) := by rw [hK _ (by omega)]; exact g2
  match i with
  | 0 =>
   simp at hd; subst hd
   exact ⟨.ref H1.length 0, A, by simp [dkc, dk, bound], by simp [dkc, dk, gk, Dn.part, hA.noagg], hA⟩
  | 1 =>
   simp at hd; subst hd
   exact ⟨.ref H1.length 1, B, by simp [dkc, dk, bound], by simp [dkc, dk, gk, Dn.part, hB.noagg], hB⟩
  | i + 2 => simp at hd
 obtain ⟨mid, H3, es, r1, r2, r3, r4, r5, r6⟩ := body58 hF (ls := [a, b]) (by simp) (fun x hx => by simp at hx; rcases hx with rfl | rfl <;> assumption) H2 hRd
 have r1' : callRun pg (den pg) .sh [.fn 58 [] [], .sl H1.length 0 1 false 2 (some 2)] H2 = some (.mp mid, H3) := r1
 have l3 : H2.length <= H3.length := by have := (List.getElem?_eq_some_iff.1 r2).1; omega
 obtain ⟨x, hx⟩ : ∃ x, a[0]? = some x := ⟨_, List.getElem?_eq_getElem da.pos⟩
 obtain ⟨y, hy⟩ : ∃ y, b[0]? = some y := ⟨_, List.getElem?_eq_getElem db.pos⟩
 have ex : a.getD 0 0 = x := by rw [List.getD_eq_getElem?_getD, hx]; rfl
 have ey : b.getD 0 0 = y := by rw [List.getD_eq_getElem?_getD, hy]; rfl
 have bx := da.ok x (List.mem_of_getElem? hx)
 have by' := db.ok y (List.mem_of_getElem? hy)
 obtain ⟨H4, u1, u2, u3, u4⟩ := call57 hF (n := a.length) (m := b.length) (c := x) (d := y) r2 r3
 have hgd : ∀ k, (posO (wn [a, b] k)).getD 0 = wn [a, b] k := fun k => posO_getD _
 obtain ⟨t, H5, v1, v2, v3⟩ := body56 hF hQ H u2 (fun j hj => by rw [u3 j (by omega), r6 j (by omega), o2 j (by omega), o1 j hj]) (by omega) (by omega) ⟨da.pos, da.le⟩ ⟨db.pos, db.le⟩ bx by' (by
   rw [r4]; show 1 * a.length * b.length <= 1000
   rw [Nat.one_mul]
   have h1 := da.le; have h2 := db.le
   have := Nat.mul_le_mul h1 h2
   omega) (fun s hs => by
   rw [hgd] at hs
   obtain ⟨f, hf, e, he, rfl⟩ := wn2_ne.1 hs
   have := db.ok f hf; have := da.ok e he; omega) (by
   rw [hgd]
   exact wn2_ne.2 ⟨y, List.mem_of_getElem? hy, x, List.mem_of_getElem? hx, rfl⟩)
 refine ⟨t, H5, ?_, by unfold twinsL; rw [ex, ey]; exact v2, v3⟩
 have lnA := hA.view
 obtain ⟨p, p1, p2⟩ : ∃ p, (∀ K, dkc pg (den pg) (.ixS 1 false) [A, .i .i64 0] K = some (p, K)) /\ ∀ K, dkc pg (den pg) (.ld 1 false) [p] K = some (.i .i64 x, K) := by
  rcases hA with ⟨rfl, rfl⟩ | ⟨bo, rfl⟩
  ·simp at hx
  ·refine ⟨.bp bo (.i .i64 x), fun K => ?_, fun K => rfl⟩
   show dk (.ixS 1 false) [.bs bo 1 (a.map elI.val), .i .i64 0] K = _
   have : (a.map elI.val)[0]? = some (.i .i64 x) := by rw [List.getElem?_map, hx]; rfl
   simp [dk, bound, this]
   exact ⟨x, hx, rfl⟩
 obtain ⟨p', p3, p4⟩ : ∃ p, (∀ K, dkc pg (den pg) (.ixS 1 false) [B, .i .i64 0] K = some (p, K)) /\ ∀ K, dkc pg (den pg) (.ld 1 false) [p] K = some (.i .i64 y, K) := by
  rcases hB with ⟨rfl, rfl⟩ | ⟨bo, rfl⟩
  ·simp at hy
  ·refine ⟨.bp bo (.i .i64 y), fun K => ?_, fun K => rfl⟩
   show dk (.ixS 1 false) [.bs bo 1 (b.map elI.val), .i .i64 0] K = _
   have : (b.map elI.val)[0]? = some (.i .i64 y) := by rw [List.getElem?_map, hy]; rfl
   simp [dk, bound, this]
   exact ⟨y, hy, rfl⟩
 have lA : ∀ K, lenK 0 A K = some a.length := fun K => (hA.view K).lenK K
 have lB : ∀ K, lenK 0 B K = some b.length := fun K => (hB.view K).lenK K
 have kA : ∀ K, dk (.len 0) [A] K = some (.i .i64 (a.length : Int), K) := fun K => by simp [dk, lA]
 have kB : ∀ K, dk (.len 0) [B] K = some (.i .i64 (b.length : Int), K) := fun K => by simp [dk, lB]
 have kp : ∀ K, dk (.ld 1 false) [p] K = some (.i .i64 x, K) := p2
 have kp' : ∀ K, dk (.ld 1 false) [p'] K = some (.i .i64 y, K) := p4
 have v1' : callRun pg (den pg) .sh [.fn 56 [] [], .fn 84 [] [.ref (H3.length + 4) 0, .ref (H3.length + 2) 0, .ref (H3.length + 3) 0, .ref H3.length 0, .ref (H3.length + 1) 0]] H4 = some (t, H5) := v1
 obtain ⟨FN, hFN⟩ : ∃ FN, FN = TV.fn 84 [] [.ref (H3.length + 4) 0, .ref (H3.length + 2) 0, .ref (H3.length + 3) 0, .ref H3.length 0, .ref (H3.length + 1) 0] := ⟨_, rfl⟩
 rw [<- hFN] at v1' u1
 refine bodyRun_of (vs := [t, .i .i64 0]) (o := ⟨.ret, [(4, t), (5, .i .i64 0)], H5⟩) (d := d20) (show pg.F 20 = some d20 by rw [hF.F]; rfl) rfl ?_ (by simp) rfl
 rw [runC_go]
 clear lnA v1 v2 v3 hFN u2 u3 u4 r1 r2 r3 r4 r5 r6 hRd g2 o1 o2 l1 l2 l3 hH1 hH2 b2 hT hgd ex ey bx by' hrow da db hx hy h0
 obtain ⟨la, hla⟩ : ∃ la, la = a.length := ⟨_, rfl⟩
 obtain ⟨lb, hlb⟩ : ∃ lb, lb = b.length := ⟨_, rfl⟩
 rw [<- hla] at lA kA u1
 rw [<- hlb] at lB kB u1
 clear hla hlb
 show go pg (den pg) [.c c20] .normal [(0, A), (1, B)] H = _
 have e0 : go pg (den pg) [.c c20] .normal [(0, A), (1, B)] H = go pg (den pg) [.c r20, .c .ret] .normal [(0, A), (1, B), (6, .i .i64 0), (12, .b false)] H1 := by
  rw [c20_parts]
  simp (disch := omega) [p20_0, p20_1, Z0, Z1, Z2, Z3, Z4, Z5, Z6, Z7, Z8, Z9, Za, Zb, Zc, Zd, Ze, Zf, Zg, Zh, Zi, Zj, Zk, Zl, Zm, Zn, Zo, Zp, Zq, Zr, Zs, Zt, Zu, Zv, Zw, Zx, k_mv, Zy, Zz, ZA, ZB, ZC, ZD, ZE, ZF, ZG, ZH, ZI, ZJ, ZK, ZL, ZM, ZN, ZO, ZP, ZQ, ZR, ZS, ZT, ZU, ZV, ZW, ZX, ZY, ZZ, Y0, Y1, Y2, Y3, Y4, k_mn, k_mx, Y5, Y6, Y7, Y8, Y9, Ya, Yb, Yc, Yd, Ye, Yf, Yg, Yh, Dn.setLast, Dn.getLast, evalO, mapO, Dn.get, putE, Yi, Yj, Yk, Yl, TV.one, TV.isAgg, Dn.part, Ym, negb, at0, at1, at2, at3, at4, dT, dF, Yn, Option.bind_some, Option.map_some, b1, c55]
 have mA : ∀ K, dkc pg (den pg) (.len 0) [A] K = some (.i .i64 (la : Int), K) := kA
 have mB : ∀ K, dkc pg (den pg) (.len 0) [B] K = some (.i .i64 (lb : Int), K) := kB
 rw [e0]
 generalize (la : Int) = ia at *
 generalize (lb : Int) = ib at *
 simp [r20, Zd, Zf, Zj, Zk, Ze, evalO, mapO, Go.Dn.get, putE, Yi, Yj, Yk, Yl, k_mv, Zx, mA, mB, p1, p2, p3, p4, b3, r1', u1, v1', frOk, ldSame, same_i, guardRun, DK.isLd, kA, kB, kp, kp', Z9, Z0]

end Go.Proofs.Try.Dn

