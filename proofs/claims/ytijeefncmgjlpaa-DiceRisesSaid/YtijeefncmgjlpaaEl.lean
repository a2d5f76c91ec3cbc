/-
  Lists of pairs in order, none twice: plain facts.
-/
import Derived.Test.YtijeefncmgjlpaaEj
import Derived.Test.YtijeefncmgjlpaaEa
import Derived.WalkKit
import Derived.Test.YtijeefncmgjlpaaEk
import Derived.Test.YtijeefncmgjlpaaEb
set_option linter.unusedSimpArgs false
set_option linter.unusedVariables false

namespace Go.Proofs.Try.Dn
open Go.Dn

theorem cmpI_rev (a b : Int) : cmpI b a = - cmpI a b := by
  unfold cmpI; (repeat' split) <;> omega
theorem cmpI_eq (a b : Int) : cmpI a b = 0 ↔ a = b := by
  unfold cmpI; (repeat' split) <;> omega
theorem cmpI_lt (a b : Int) : cmpI a b < 0 ↔ a < b := by
  unfold cmpI; (repeat' split) <;> omega

theorem cmpL_rev : ∀ a b : List Int, cmpL b a = - cmpL a b
  | [], [] => rfl
  | [], _ :: _ => rfl
  | _ :: _, [] => rfl
  | x :: a, y :: b => by
    have ih := cmpL_rev a b
    have h := cmpI_rev x y
    simp only [cmpL]
    by_cases h0 : cmpI x y = 0
    · rw [if_neg (by omega), if_neg (by omega)]; exact ih
    · rw [if_pos (by omega), if_pos (by omega)]; exact h

theorem cmpL_eq : ∀ a b : List Int, cmpL a b = 0 ↔ a = b
  | [], [] => by simp [cmpL]
  | [], _ :: _ => by simp [cmpL]
  | _ :: _, [] => by simp [cmpL]
  | x :: a, y :: b => by
    have ih := cmpL_eq a b
    have h := cmpI_eq x y
    simp only [cmpL, List.cons.injEq]
    by_cases h0 : cmpI x y = 0
    · rw [if_neg (by omega)]; simp [h.1 h0, ih]
    · rw [if_pos h0]; simp [h0, mt h.2 h0]

theorem cmpL_tr : ∀ a b c : List Int, cmpL a b < 0 → cmpL b c < 0 → cmpL a c < 0
  | [], [], c, h, _ => by simp [cmpL] at h
  | [], _ :: _, [], _, h => by simp [cmpL] at h
  | [], _ :: _, _ :: _, _, _ => by simp [cmpL]
  | _ :: _, [], _, h, _ => by simp [cmpL] at h
  | _ :: _, _ :: _, [], _, h => by simp [cmpL] at h
  | x :: a, y :: b, z :: c, h1, h2 => by
    have ih := cmpL_tr a b c
    have e1 := cmpI_eq x y
    have e2 := cmpI_eq y z
    have l1 := cmpI_lt x y
    have l2 := cmpI_lt y z
    have l3 := cmpI_lt x z
    have e3 := cmpI_eq x z
    simp only [cmpL] at h1 h2 ⊢
    by_cases h3 : cmpI x y = 0
    · rw [if_neg (by omega)] at h1
      by_cases h4 : cmpI y z = 0
      · rw [if_neg (by omega)] at h2
        rw [if_neg (by have := e3.2; omega)]
        exact ih h1 h2
      · rw [if_pos h4] at h2
        rw [if_pos (by omega)]; omega
    · rw [if_pos h3] at h1
      by_cases h4 : cmpI y z = 0
      · rw [if_pos (by omega)]; omega
      · rw [if_pos h4] at h2
        rw [if_pos (by omega)]; omega

theorem cmpP_rev (x y : PL) : cmpP y x = - cmpP x y := by
  have h1 := cmpL_rev x.1 y.1
  have h2 := cmpL_rev x.2 y.2
  unfold cmpP
  by_cases h : cmpL x.1 y.1 = 0
  · rw [if_neg (by omega), if_neg (by omega)]; exact h2
  · rw [if_pos (by omega), if_pos (by omega)]; exact h1

theorem cmpP_eq (x y : PL) : cmpP x y = 0 ↔ x = y := by
  have h1 := cmpL_eq x.1 y.1
  have h2 := cmpL_eq x.2 y.2
  unfold cmpP
  rw [Prod.ext_iff]
  by_cases h : cmpL x.1 y.1 = 0
  · rw [if_neg (by omega), h2]; simp [h1.1 h]
  · rw [if_pos (by omega)]; simp [h, mt h1.2 h]

theorem cmpP_tr (x y z : PL) (h1 : cmpP x y < 0) (h2 : cmpP y z < 0) : cmpP x z < 0 := by
  have e1 := cmpL_eq x.1 y.1
  have e2 := cmpL_eq y.1 z.1
  have e3 := cmpL_eq x.1 z.1
  have t1 := cmpL_tr x.1 y.1 z.1
  have t2 := cmpL_tr x.2 y.2 z.2
  unfold cmpP at *
  by_cases h3 : cmpL x.1 y.1 = 0
  · rw [if_neg (by omega)] at h1
    have e4 := e1.1 h3
    by_cases h4 : cmpL y.1 z.1 = 0
    · rw [if_neg (by omega)] at h2
      rw [if_neg (by rw [e4]; omega)]
      exact t2 h1 h2
    · rw [if_pos h4] at h2
      rw [if_pos (by rw [e4]; omega), e4]; exact h2
  · rw [if_pos h3] at h1
    by_cases h4 : cmpL y.1 z.1 = 0
    · have e5 := e2.1 h4
      rw [if_pos (by rw [← e5]; omega), ← e5]; exact h1
    · rw [if_pos h4] at h2
      have := t1 h1 h2
      rw [if_pos (by omega)]; exact this

theorem ordP : Ordr cmpP where
  irr x := by rw [(cmpP_eq x x).2 rfl]; decide
  tr := cmpP_tr
  ntr x y z h1 h2 h3 := by
    have a := cmpP_rev x y
    have b := cmpP_rev y z
    by_cases h4 : cmpP x y = 0
    · have := (cmpP_eq x y).1 h4; subst this; exact h2 h3
    · by_cases h5 : cmpP y z = 0
      · have := (cmpP_eq y z).1 h5; subst this; exact h1 h3
      · have := cmpP_tr z y x (by omega) (by omega)
        have := cmpP_rev x z
        omega

abbrev StrP (l : List PL) : Prop := l.Pairwise fun x y => cmpP x y < 0

theorem StrP.uniq {l m : List PL} (hl : StrP l) (hm : StrP m) (h : ∀ x, x ∈ l ↔ x ∈ m) : l = m := by
  have nd : ∀ {l : List PL}, StrP l → l.Nodup := fun hl => hl.imp fun {a b} hab e => by subst e; exact ordP.irr a hab
  exact ((List.perm_ext_iff_of_nodup (nd hl) (nd hm)).2 h).eq_of_pairwise (fun a b _ _ h1 h2 => by have := cmpP_rev a b; omega) hl hm

theorem kpP_spec : ∀ (l : List PL) (p : PL), (p :: l).Pairwise (fun x y => ¬ cmpP y x < 0) → StrP (p :: kpP p l) ∧ ∀ x, x ∈ p :: kpP p l ↔ x ∈ p :: l
  | [], p, _ => ⟨by simp [kpP], fun x => by simp [kpP]⟩
  | y :: l, p, h => by
    rw [kpP]
    have hy := List.pairwise_cons.1 h
    have hpy := hy.1 y (List.mem_cons_self ..)
    by_cases he : eqP y p = true
    · have e : y = p := (cmpP_eq y p).1 (by simpa [eqP] using he)
      subst e
      rw [if_pos he]
      obtain ⟨h1, h2⟩ := kpP_spec l y hy.2
      exact ⟨h1, fun x => by rw [h2]; simp⟩
    · rw [if_neg he]
      obtain ⟨h1, h2⟩ := kpP_spec l y hy.2
      have hne : cmpP y p ≠ 0 := fun e => he (by simp [eqP, e])
      have hlt : cmpP p y < 0 := by have := cmpP_rev y p; omega
      refine ⟨List.pairwise_cons.2 ⟨fun x hx => ?_, h1⟩, fun x => by rw [List.mem_cons, h2, ← List.mem_cons]⟩
      rcases List.mem_cons.1 hx with rfl | hx
      · exact hlt
      · exact cmpP_tr _ _ _ hlt ((List.pairwise_cons.1 h1).1 x hx)

theorem ddP_spec (l : List PL) (h : l.Pairwise fun x y => ¬ cmpP y x < 0) : StrP (ddP l) ∧ ∀ x, x ∈ ddP l ↔ x ∈ l := by
  cases l with
  | nil => exact ⟨List.Pairwise.nil, fun x => Iff.rfl⟩
  | cons p l => exact kpP_spec l p h

def putP : List PL → PL → List PL
  | [], x => [x]
  | y :: l, x => if cmpP y x < 0 then y :: putP l x else if cmpP y x = 0 then y :: l else x :: y :: l

theorem putP_spec : ∀ (l : List PL) (x : PL), StrP l → StrP (putP l x) ∧ ∀ z, z ∈ putP l x ↔ z ∈ l ∨ z = x
  | [], x, _ => ⟨by simp [putP], fun z => by simp [putP]⟩
  | y :: l, x, h => by
    have hy := List.pairwise_cons.1 h
    rw [putP]
    by_cases h1 : cmpP y x < 0
    · rw [if_pos h1]
      obtain ⟨k1, k2⟩ := putP_spec l x hy.2
      refine ⟨List.pairwise_cons.2 ⟨fun z hz => ?_, k1⟩, fun z => by rw [List.mem_cons, k2, List.mem_cons]; exact or_assoc.symm⟩
      rcases (k2 z).1 hz with hz | rfl
      · exact hy.1 z hz
      · exact h1
    · rw [if_neg h1]
      by_cases h2 : cmpP y x = 0
      · rw [if_pos h2]
        have e := (cmpP_eq y x).1 h2
        subst e
        exact ⟨h, fun z => by rw [List.mem_cons]; constructor
                              · exact .inl
                              · rintro (hz | hz)
                                · exact hz
                                · exact .inl hz⟩
      · rw [if_neg h2]
        have h3 : cmpP x y < 0 := by have := cmpP_rev x y; omega
        refine ⟨List.pairwise_cons.2 ⟨fun z hz => ?_, h⟩, fun z => by rw [List.mem_cons]; exact Or.comm⟩
        rcases List.mem_cons.1 hz with rfl | hz
        · exact h3
        · exact cmpP_tr _ _ _ h3 (hy.1 z hz)

theorem foldP_spec : ∀ (l o : List PL), StrP o → StrP (l.foldl putP o) ∧ ∀ z, z ∈ l.foldl putP o ↔ z ∈ o ∨ z ∈ l
  | [], o, h => ⟨h, fun z => by simp⟩
  | x :: l, o, h => by
    obtain ⟨k1, k2⟩ := putP_spec o x h
    obtain ⟨j1, j2⟩ := foldP_spec l (putP o x) k1
    refine ⟨j1, fun z => ?_⟩
    rw [List.foldl_cons, j2, k2, List.mem_cons, or_assoc]

def canP (l : List PL) : List PL := l.foldl putP []

theorem ddP_can {l l' : List PL} (hp : l'.Perm l) (hs : l'.Pairwise fun x y => ¬ cmpP y x < 0) : ddP l' = canP l := by
  obtain ⟨a1, a2⟩ := ddP_spec l' hs
  obtain ⟨b1, b2⟩ := foldP_spec l [] List.Pairwise.nil
  exact a1.uniq b1 fun x => by rw [a2, show canP l = l.foldl putP [] from rfl, b2, hp.mem_iff]; simp

end Go.Proofs.Try.Dn

/-
  Dice: what a call answers, evaluated.
-/

namespace Go.Proofs.Try.Dn
open Go.Dn

def pg0 : Pg := ⟨tab.look, fun _ => none, fun _ _ => none, fun f => if f = 81 ∨ f = 96 then some 2 else none⟩

theorem free0 : Free pg0 := ⟨rfl, fun _ _ => rfl⟩

def known : Option (TV × Heap) → Option TV
  | some (r, H) => snap .fin H 9 r
  | none => none

theorem known_iff {pg : Pg} {f n : Nat} {xs : List TV} {r : TV} (hS : pg.S f xs = none) (h : known (bodyRun pg (denN pg n) f xs []) = some r) : PFn pg f xs r := by
  unfold known at h
  split at h
  · rename_i r' H' h'
    exact .inr ⟨hS, r', H', Ans.of h', h⟩
  · cases h

theorem aq25 : known (bodyRun pg0 (denN pg0 40) 25 [.i .i64 2, .i .i64 2] []) = some (.tup [.i .i64 2, .i .i64 0]) := by kernel_rfl

end Go.Proofs.Try.Dn

/-
  Pairs of dice listed: in order, none twice.
-/

set_option maxHeartbeats 1000000
namespace Go.Proofs.Try.Dn
open Go.Dn

theorem growP_mem (n m : Nat) (c d : Int) : ∀ (k : Nat) (a b : List Int) (g : Int → Option Nat), a.length ≤ n → b.length ≤ m → ∀ p ∈ growP n m c d k a b g, p.1.length = n ∧ p.2.length = m
  | 0, a, b, g, _, _, p, hp => by simp [growP] at hp
  | k + 1, a, b, g, ha, hb, p, hp => by
    unfold growP at hp
    split at hp
    · split at hp
      · simp at hp
      · rw [List.mem_singleton.1 hp]; exact ⟨by simp only; omega, by simp only; omega⟩
    · rename_i l hl
      rcases List.mem_append.1 hp with hp | hp
      · split at hp
        · rename_i hf
          have hlt : a.length < n := by simp [fits] at hf; exact hf.1.1
          split at hp
          · exact growP_mem n m c d k _ _ _ (by simp; omega) hb p hp
          · simp at hp
        · simp at hp
      · split at hp
        · rename_i hf
          have hlt : b.length < m := by simp [fits] at hf; exact hf.1.1
          split at hp
          · exact growP_mem n m c d k _ _ _ ha (by simp; omega) p hp
          · simp at hp
        · simp at hp

theorem pairsP_short {n m : Nat} {c d : Int} {g : Int → Option Nat} (hn : 1 ≤ n ∧ n ≤ 8) (hm : 1 ≤ m ∧ m ≤ 8) : Short (pairsP n m c d g) := fun p hp => by
  have := growP_mem n m c d 1001 [c] [d] _ (by simpa using hn.1) (by simpa using hm.1) p hp
  omega

theorem pairsP_len {n m : Nat} {c d : Int} {g : Int → Option Nat} (hn : 1 ≤ n ∧ n ≤ 8) (hm : 1 ≤ m ∧ m ≤ 8) : (pairsP n m c d g).length ≤ 1000000 := by
  have h1 := growP_len n m c d 1001 [c] [d] (subM g (c + d)) (by simpa using hn.1) (by simpa using hm.1)
  simp only [List.length_singleton] at h1
  have h2 := Nat.pow_le_pow_right (n := 2) (by omega) (show (n - 1) + (m - 1) ≤ 14 by omega)
  unfold pairsP
  have h3 : (2 : Nat) ^ 14 = 16384 := by decide
  omega

theorem cmp_run {pg : Pg} (hF : Free pg) (H0 : Heap) (x y : PL) (hx : x.1.length ≤ 1000000 ∧ x.2.length ≤ 1000000) (hy : y.1.length ≤ 1000000 ∧ y.2.length ≤ 1000000) :
    cmpRun pg (den pg) H0 79 [] (.agg (elP.enc x)) (.agg (elP.enc y)) = some (cmpP x y) := by
  obtain ⟨a, b⟩ := x
  obtain ⟨c, d⟩ := y
  obtain ⟨A, sA, vA⟩ := (SV.lt false a).snap H0 6
  obtain ⟨B, sB, vB⟩ := (SV.lt false b).snap H0 6
  obtain ⟨C, sC, vC⟩ := (SV.lt false c).snap H0 6
  obtain ⟨D, sD, vD⟩ := (SV.lt false d).snap H0 6
  have e1 : snap .borrow H0 9 (.agg (elP.enc (a, b))) = some (.agg [A, B]) := by
    rw [gXo2]
    show (mapO (snap .borrow H0 8) [elI.lt false a, elI.lt false b]).map TV.agg = _
    simp [mapO, sA, sB]
  have e2 : snap .borrow H0 9 (.agg (elP.enc (c, d))) = some (.agg [C, D]) := by
    rw [gXo2]
    show (mapO (snap .borrow H0 8) [elI.lt false c, elI.lt false d]).map TV.agg = _
    simp [mapO, sC, sD]
  have sa : snapArgs H0 [] ([.agg (elP.enc (a, b)), .agg (elP.enc (c, d))] ++ []) = some [.agg [A, B], .agg [C, D]] := by
    simp [snapArgs, e1, e2]
  obtain ⟨H', r1, _⟩ := body79 hF vA vB vC vD hx.1 hx.2 hy.1 hy.2 []
  unfold cmpRun
  rw [sa, Option.bind_some, r1, Option.bind_some]

theorem body56 {pg : Pg} (hF : Free pg) (hQ : pg.Q 81 = some 2) (Hb : Heap) {H : Heap} {rW rF rS rN rM wid : Nat} {c d : Int} {n m : Nat} {es : List (Int × TV)} {g : Int → Option Nat} (h : Gv H rW rF rS rN rM wid c d n m es g) (hb : ∀ j, j < Hb.length → H[j]? = Hb[j]?) (hbl : Hb.length ≤ H.length)
    (hbr : Hb.length ≤ rF ∧ Hb.length ≤ rS ∧ Hb.length ≤ rN ∧ Hb.length ≤ rM)
    (hn : 1 ≤ n ∧ n ≤ 8) (hm : 1 ≤ m ∧ m ≤ 8) (hc0 : 0 ≤ c ∧ c ≤ 60) (hd0 : 0 ≤ d ∧ d ≤ 60) (hmass : mass es ≤ 1000) (hg : ∀ s, (g s).getD 0 ≠ 0 → 0 ≤ s ∧ s ≤ 1000) (h1 : (g (c + d)).getD 0 ≠ 0) :
    ∃ t H', bodyRun pg (den pg) 56 [.fn 84 [] [.ref rW 0, .ref rF 0, .ref rS 0, .ref rN 0, .ref rM 0]] H = some (t, H') ∧ elP.Own H' t (canP (pairsP n m c d g)) ∧ ∀ j, j < Hb.length → H'[j]? = Hb[j]? := by
  have hlt := fun {j o} (e : H[j]? = some o) => (List.getElem?_eq_some_iff.1 e).1
  obtain ⟨H1, hH1⟩ : ∃ H1, H1 = H ++ [AObj.cells [.nilsl] false] := ⟨_, rfl⟩
  have l1 : H1.length = H.length + 1 := by rw [hH1]; simp
  obtain ⟨H2, hH2⟩ : ∃ H2, H2 = H1 ++ [AObj.loop (L56 H.length)] := ⟨_, rfl⟩
  have l2 : H2.length = H.length + 2 := by rw [hH2]; simp [l1]
  have o2 : ∀ j, j < H.length → H2[j]? = H[j]? := fun j hj => by rw [hH2, List.getElem?_append_left (by omega), hH1, List.getElem?_append_left hj]
  have k2 : ∀ {j : Nat} {o : AObj}, H[j]? = some o → H2[j]? = some o := fun e => by rw [o2 _ (hlt e)]; exact e
  have g2 : Gv H2 rW rF rS rN rM wid c d n m es g := ⟨k2 h.hW, k2 h.hw, h.cm, k2 h.hF, k2 h.hS, k2 h.hN, k2 h.hM, h.nd⟩
  have q1 := hlt h.hF; have q2 := hlt h.hS; have q3 := hlt h.hN; have q4 := hlt h.hM
  have i2 : I56 Hb (H.length + 1) H.length [] (fun j => j < Hb.length ∨ j = H.length + 1 ∨ j = H.length ∨ (TV.nilsl).idOf = some j) H2 .nilsl :=
    { lp := by rw [hH2, ← l1]; exact getLast _ _, cell := by rw [hH2, List.getElem?_append_left (by omega), hH1]; exact getLast _ _, ow := .inl ⟨rfl, rfl⟩, eq := fun j => Iff.rfl, ny := (by intro e; cases e), nr := (by intro e; cases e), yr := by omega, by_ := by omega, br := hbl, bt := fun j e => (by cases e), old := fun j hj => by rw [o2 j (by omega), hb j hj], hl := by omega }
  obtain ⟨own', H3, r1, t, i3⟩ := body84 hF (con56 pg Hb (H.length + 1) H.length) g2 ⟨_, i2⟩ (fun j hj => by
    simp only [List.mem_cons, List.mem_nil_iff, or_false, not_or]
    rcases hj with hj | hj | hj | hj
    · omega
    · omega
    · omega
    · cases hj) hn hm hc0 hd0 hmass hg h1
  have y3 := (List.getElem?_eq_some_iff.1 i3.lp).1
  -- behind the loop
  obtain ⟨H4, hH4⟩ : ∃ H4, H4 = H3.set (H.length + 1) (.loop { L56 H.length with st := .exhausted }) := ⟨_, rfl⟩
  have l4 : H4.length = H3.length := by rw [hH4]; simp
  have o4 : ∀ j, j ≠ H.length + 1 → H4[j]? = H3[j]? := fun j hj => by rw [hH4]; exact List.getElem?_set_ne (Ne.symm hj)
  have c4 : H4[H.length]? = some (.cells [t] false) := by rw [o4 _ (by omega)]; exact i3.cell
  have w4 : elP.Own H4 t (pairsP n m c d g) := i3.ow.mono fun id hid => o4 id fun e => i3.ny (by rw [← e]; exact hid)
  have tl : ∀ id, t.idOf = some id → id < H3.length := fun id hid => i3.ow.lt id hid
  obtain ⟨H5, hH5⟩ : ∃ H5, H5 = H4 ++ [AObj.cells [.fn 79 [] []] false] := ⟨_, rfl⟩
  have o5 : ∀ j, j < H4.length → H5[j]? = H4[j]? := fun j hj => by rw [hH5]; exact List.getElem?_append_left hj
  have c5 : H5[H.length]? = some (.cells [t] false) := by rw [o5 _ (by omega)]; exact c4
  have f5 : H5[H4.length]? = some (.cells [.fn 79 [] []] false) := by rw [hH5]; exact getLast _ _
  have w5 : elP.Own H5 t (pairsP n m c d g) := w4.mono fun id hid => o5 id (by have := tl id hid; omega)
  have hsh := pairsP_short (g := g) (c := c) (d := d) hn hm
  have hln := pairsP_len (g := g) (c := c) (d := d) hn hm
  obtain ⟨l', H6, s1, s2, s3, s4, s5, s6⟩ := sort_own (E := elP) rfl (pg := pg) (f := 81) (g := 79) (cs := []) hQ w5 ordP (fun H0 x y hx hy _ => cmp_run hF H0 x y (hsh x hx) (hsh y hy)) (by omega)
  have hr3 : t.idOf ≠ some H.length := i3.nr
  have hr6 : t.idOf ≠ some H4.length := fun e => by have := tl _ e; omega
  have c6 : H6[H.length]? = some (.cells [t] false) := by rw [s5 _ hr3]; exact c5
  have f6 : H6[H4.length]? = some (.cells [.fn 79 [] []] false) := by rw [s5 _ hr6]; exact f5
  obtain ⟨t', H7, u1, u2, u3⟩ := body82 hF (fun p hp => hsh p (s3.mem_iff.1 hp)) (by rw [s3.length_eq]; exact hln) s2 f6 hr6
  rw [ddP_can s3 s4] at u2
  have l5 : H5.length = H4.length + 1 := by rw [hH5]; simp
  have i3b := i3.bt
  refine ⟨t', H7, ?_, u2, fun j hj => ?_⟩
  · have ta := (elP_noagg w5).1
    have ld5 := ldC_of pg c5 ta
    have ld6 := ldC_of pg c6 ta
    have lf5 := ldC_of pg f5 rfl
    have r1' : callRun pg (den pg) .sh [.fn 84 [] [.ref rW 0, .ref rF 0, .ref rS 0, .ref rN 0, .ref rM 0], .yl H1.length] H2 = some (.tup [], H3) := by rw [l1]; exact r1
    have y3' : H3[H1.length]? = some (.loop (L56 H.length)) := by rw [l1]; exact i3.lp
    have u1' : callRun pg (den pg) .sh [.fn 82 [] [], t, .fn 83 [] [.ref H4.length 0]] H6 = some (t', H7) := u1
    have al : dkc pg (den pg) (.alloc [.nilsl] false) [] H = some (.ref H.length 0, H1) := by rw [gX51, hH1]
    have af : dkc pg (den pg) (.alloc [.nilfn] false) [] H4 = some (.ref H4.length 0, H4 ++ [.cells [.nilfn] false]) := by rw [gX51]
    have sf : dkc pg (den pg) (.st 1) [.ref H4.length 0, .fn 79 [] []] (H4 ++ [.cells [.nilfn] false]) = some (.undef, H5) := by
      rw [st_box (u := .nilfn) (ag := false) (getLast _ _) rfl, hH5, Dn.setLast]
    obtain ⟨FN, hFN⟩ : ∃ FN, FN = TV.fn 84 [] [.ref rW 0, .ref rF 0, .ref rS 0, .ref rN 0, .ref rM 0] := ⟨_, rfl⟩
    rw [← hFN] at r1' ⊢
    refine body_of (x := .ret) (e := [(2, t')]) (d := d56) (by rw [hF.F]; rfl) rfl ?_ (.inl rfl) rfl
    have e1 : ∀ K, go pg (den pg) (.c (.rfunc (.t 7) [8, 9] a56_0 b56_1 [3]) :: K) .normal [(3, .ref H.length 0), (7, FN)] H1 = go pg (den pg) K .normal [(3, .ref H.length 0)] H4 := fun K => by
      rw [go_rfunc (pg := pg) (fv := FN) (L := L56 H.length) (H2 := H3) (r := .tup []) rfl (by rw [← r1', hH2]; rfl) y3' (by simp [L56])]
      rw [hH4, ← l1]; rfl
    have e0 : go pg (den pg) [.c c56] .normal [(0, FN)] H = go pg (den pg) [.c (.rfunc (.t 7) [8, 9] a56_0 b56_1 [3]), .blk 0, .c (.seq (.reg [⟨(some 6), (.alloc [.nilfn] false), [], none⟩, ⟨none, (.st 1), [.t 6, .c (.fn 79 [] [])], none⟩] [3, 6])
        (.seq (.reg [⟨(some 16), (.ld 1 false), [.t 3], none⟩, ⟨(some 17), (.ld 1 false), [.t 6], none⟩, ⟨(some 18), (.call .so), [.c (.fn 81 [] []), .t 16, .t 17], none⟩] [3, 6])
        (.seq (.reg [⟨(some 19), (.ld 1 false), [.t 3], none⟩, ⟨(some 20), (.mkfn 83 0), [.t 6], none⟩, ⟨(some 21), (.call .sh), [.c (.fn 82 [] []), .t 19, .t 20], none⟩, ⟨(some 2), .mv, [.t 21], none⟩] [2]) .ret)))] .normal [(3, .ref H.length 0), (7, FN)] H1 := by
      clear r1 r1' y3' l1 l2 l4 l5 hH1 hH2
      simp (disch := omega) [c56, gX0, gX1, gX2, gX3, gX4, gX5, gX6, gX7, gX8, gX9, gXa, gXb, gXc, gXd, gXe, gXf, gXg, gXh, gXi, gXj, gXk, gXl, gXm, gXn, gXo, gXp, gXq, gXr, gXs, gXt, gXu, gXv, gXw, gXx, k_mv, gXy, gXz, gX01, gX11, gX21, gX31, gX41, gX51, gX61, gX71, gX81, gX91, gXa1, gXb1, gXc1, gXd1, gXe1, gXf1, gXg1, gXh1, gXi1, gXj1, gXk1, gXl1, gXm1, gXn1, gXo1, gXp1, gXq1, gXr1, gXs1, gXt1, gXu1, k_mn, k_mx, gXv1, gXw1, gXx1, gXy1, gXz1, gX02, gX12, gX22, gX32, gX42, gX52, gX62, gX72, Dn.setLast, Dn.getLast, evalO, mapO, Dn.get, putE, gX82, gX92, gXa2, gXb2, TV.one, TV.isAgg, Dn.part, gXc2, negb, at0, at1, at2, at3, at4, dT, dF, gXd2, Option.bind_some, Option.map_some, al]
    show go pg (den pg) [.c c56] .normal [(0, FN)] H = _
    rw [e0, e1]
    clear e0 e1 r1 r1' y3' y3 hlt hH5 hH4 hH1 hH2 l1 l2 l4 l5 o2 o4 o5 k2 q1 q2 q3 q4 tl u3 s5 s6 i3b i3 i2 g2 c4 c5 c6 f5 f6 w4 w5 hbl
    simp (disch := omega) [gX0, gX1, gX2, gX3, gX4, gX5, gX6, gX7, gX8, gX9, gXa, gXb, gXc, gXd, gXe, gXf, gXg, gXh, gXi, gXj, gXk, gXl, gXm, gXn, gXo, gXp, gXq, gXr, gXs, gXt, gXu, gXv, gXw, gXx, k_mv, gXy, gXz, gX01, gX11, gX21, gX31, gX41, gX51, gX61, gX71, gX81, gX91, gXa1, gXb1, gXc1, gXd1, gXe1, gXf1, gXg1, gXh1, gXi1, gXj1, gXk1, gXl1, gXm1, gXn1, gXo1, gXp1, gXq1, gXr1, gXs1, gXt1, gXu1, k_mn, k_mx, gXv1, gXw1, gXx1, gXy1, gXz1, gX02, gX12, gX22, gX32, gX42, gX52, gX62, gX72, Dn.setLast, Dn.getLast, evalO, mapO, Dn.get, putE, gX82, gX92, gXa2, gXb2, TV.one, TV.isAgg, Dn.part, gXc2, negb, at0, at1, at2, at3, at4, dT, dF, gXd2, Option.bind_some, Option.map_some, af, sf, ld5, lf5, s1, ld6, u1']
  · have hh := i3.by_
    rw [u3 j (by omega) (fun e => by have := i3b j e; omega), s5 j (fun e => by have := i3b j e; omega), o5 j (by omega), o4 j (by omega), i3.old j hj]

end Go.Proofs.Try.Dn

/-
  Twins: all of it.
-/

set_option maxHeartbeats 1000000
namespace Go.Proofs.Try.Dn
open Go.Dn

theorem sum_ne {l : List Nat} : l.sum ≠ 0 ↔ ∃ x ∈ l, x ≠ 0 := by
  induction l with
  | nil => simp
  | cons a l ih =>
    rw [List.sum_cons]
    constructor
    · intro h
      by_cases ha : a = 0
      · obtain ⟨x, hx, h0⟩ := ih.1 (by omega); exact ⟨x, List.mem_cons_of_mem _ hx, h0⟩
      · exact ⟨a, List.mem_cons_self .., ha⟩
    · rintro ⟨x, hx, h0⟩
      rcases List.mem_cons.1 hx with rfl | hx
      · omega
      · have := ih.2 ⟨x, hx, h0⟩; omega

theorem wnF_ne {G : Int → Nat} {d : List Int} {j : Int} : wnF G d j ≠ 0 ↔ ∃ f ∈ d, G (j - f) ≠ 0 := by
  unfold wnF
  rw [sum_ne]
  constructor
  · rintro ⟨x, hx, h0⟩
    obtain ⟨f, hf, rfl⟩ := List.mem_map.1 hx
    exact ⟨f, hf, h0⟩
  · rintro ⟨f, hf, h0⟩
    exact ⟨_, List.mem_map.2 ⟨f, hf, rfl⟩, h0⟩

theorem wn2_ne {a b : List Int} {j : Int} : wn [a, b] j ≠ 0 ↔ ∃ f ∈ b, ∃ e ∈ a, j = e + f := by
  show wnF (wnF wn0 a) b j ≠ 0 ↔ _
  rw [wnF_ne]
  constructor
  · rintro ⟨f, hf, h⟩
    obtain ⟨e, he, h⟩ := wnF_ne.1 h
    unfold wn0 at h
    split at h
    · exact ⟨f, hf, e, he, by omega⟩
    · exact absurd rfl h
  · rintro ⟨f, hf, e, he, rfl⟩
    refine ⟨f, hf, wnF_ne.2 ⟨e, he, ?_⟩⟩
    unfold wn0
    rw [if_pos (by omega)]; decide

theorem call57 {pg : Pg} (hF : Free pg) {H : Heap} {mid : Nat} {c d : Int} {n m : Nat} {es : List (Int × TV)} {g : Int → Option Nat} (hm : H[mid]? = some (.mapS es es.length)) (hc : CM es g) :
    ∃ H', callRun pg (den pg) .sh [.fn 57 [] [], .i .i64 (n : Int), .i .i64 (m : Int), .i .i64 c, .i .i64 d, .mp mid] H = some (.fn 84 [] [.ref (H.length + 4) 0, .ref (H.length + 2) 0, .ref (H.length + 3) 0, .ref H.length 0, .ref (H.length + 1) 0], H') ∧
      Gv H' (H.length + 4) (H.length + 2) (H.length + 3) H.length (H.length + 1) mid c d n m es g ∧ (∀ j, j < H.length → H'[j]? = H[j]?) ∧ H.length ≤ H'.length := by
  have hlt := (List.getElem?_eq_some_iff.1 hm).1
  refine ⟨H ++ [.cells [.i .i64 (n : Int)] false, .cells [.i .i64 (m : Int)] false, .cells [.i .i64 c] false, .cells [.i .i64 d] false, .cells [.mp mid] false], ?_, ⟨at_app _ _ 4, by rw [List.getElem?_append_left hlt]; exact hm, hc, at_app _ _ 2, at_app _ _ 3, at_app _ _ 0, at_app _ _ 1, ?_⟩, fun j hj => List.getElem?_append_left hj, by simp⟩
  · rw [sh_fn]
    have b0 : ∀ K : Heap, dkc pg (den pg) (.box false) [.mp mid] K = some (.ref K.length 0, K ++ [.cells [.mp mid] false]) := fun K => rfl
    refine body_of (x := .ret) (e := [(10, .fn 84 [] [.ref (H.length + 4) 0, .ref (H.length + 2) 0, .ref (H.length + 3) 0, .ref H.length 0, .ref (H.length + 1) 0])]) (d := d57) (by rw [hF.F]; rfl) rfl ?_ (.inl rfl) rfl
    generalize (n : Int) = n' at *
    generalize (m : Int) = m' at *
    simp (disch := omega) [d57, c57, zipE, gX0, gX1, gX2, gX3, gX4, gX5, gX6, gX7, gX8, gX9, gXa, gXb, gXc, gXd, gXe, gXf, gXg, gXh, gXi, gXj, gXk, gXl, gXm, gXn, gXo, gXp, gXq, gXr, gXs, gXt, gXu, gXv, gXw, gXx, k_mv, gXy, gXz, gX01, gX11, gX21, gX31, gX41, gX51, gX61, gX71, gX81, gX91, gXa1, gXb1, gXc1, gXd1, gXe1, gXf1, gXg1, gXh1, gXi1, gXj1, gXk1, gXl1, gXm1, gXn1, gXo1, gXp1, gXq1, gXr1, gXs1, gXt1, gXu1, k_mn, k_mx, gXv1, gXw1, gXx1, gXy1, gXz1, gX02, gX12, gX22, gX32, gX42, gX52, gX62, gX72, Dn.setLast, Dn.getLast, evalO, mapO, Dn.get, putE, gX82, gX92, gXa2, gXb2, TV.one, TV.isAgg, Dn.part, gXc2, negb, at0, at1, at2, at3, at4, dT, dF, gXd2, Option.bind_some, Option.map_some, b0, List.length_append, List.append_assoc]
  · simp only [List.nodup_cons, List.mem_cons, List.mem_nil_iff, or_false, not_or, not_false_eq_true, List.nodup_nil, and_true]; omega

def LPv (l : List PL) : TV := elP.lt false l

theorem ownP_fin {H : Heap} {t : TV} {l : List PL} (h : elP.Own H t l) : snap .fin H 8 t = some (LPv l) ∧ snap .fin H 9 t = some (LPv l) := by
  have hm : ∀ f, mapO (snap .fin H (f + 3)) (l.map elP.val) = some (l.map elP.val) := fun f => by
    have := mapO_map (g := snap .fin H (f + 3)) (f := elP.val) (k := elP.val) (l := l) fun p _ => by
      obtain ⟨a, b⟩ := p
      have e : ∀ q : List Int, snap .fin H (f + 2) (elI.lt false q) = some (elI.lt false q) := fun q => by
        cases q with
        | nil => rfl
        | cons x q =>
          rw [El.lt_ne (by simp)]
          show ((SM.flag .fin false).bind fun bo' => (mapO (snap .fin H (f + 1)) ((x :: q).map elI.val)).map fun es' => TV.bs bo' elI.sz es') = _
          have h1 : mapO (snap .fin H (f + 1)) ((x :: q).map elI.val) = some ((x :: q).map elI.val) := mapO_map (g := snap .fin H (f + 1)) (f := elI.val) (k := elI.val) fun a _ => by simp [elI, El.val, snap]
          rw [h1]; rfl
      show snap .fin H (f + 3) (.agg [elI.lt false a, elI.lt false b]) = some (.agg [elI.lt false a, elI.lt false b])
      rw [snap]
      simp [mapO, e]
    exact this
  have hs : ∀ f, snap .fin H (f + 4) t = some (LPv l) := fun f => by
    rcases h with ⟨rfl, rfl⟩ | ⟨h0, id, ag, c, rfl, h1, h2, h3⟩
    · rfl
    · unfold LPv
      rw [El.lt_ne h0]
      rw [snap]
      simp only [reduceCtorEq, if_false, h1]
      rw [if_pos ⟨by omega, .inl rfl⟩, List.drop_zero, h3, elP.elems_flat, hm f]
      rfl
  exact ⟨hs 4, hs 5⟩

def p20_0 : DC :=
 (.reg [⟨(some 4), .mv, [.c .nilsl], none⟩,
   ⟨(some 5), .mv, [.c (.i .i64 0)], none⟩] [0, 1])
def p20_1 : DC :=
 (.seq (.reg [⟨(some 7), .mv, [.t 0], none⟩,
   ⟨(some 8), .mv, [.t 1], none⟩,
   ⟨(some 9), (.bsl false [.nilsl] false 2 [0, 1]), [.t 7, .t 8], none⟩,
   ⟨(some 10), (.call (.pu [])), [.c (.fn 55 [] []), .t 9], none⟩,
   ⟨(some 6), .mv, [.t 10], none⟩] [0, 1, 6])
 (.seq (.reg [⟨(some 11), .mv, [.t 6], none⟩,
   ⟨(some 12), (.binI .neq), [.t 11, .c (.i .i64 0)], none⟩] [0, 1, 6, 12])
 (.cond (.t 12)
  (.seq (.reg [⟨(some 13), .mv, [.t 6], none⟩,
    ⟨(some 4), .mv, [.c .nilsl], none⟩,
    ⟨(some 5), .mv, [.t 13], none⟩] [4, 5])
  .ret)
  .skip)))
def r20 : DC :=
 (.regd [⟨(some 14), .mv, [.t 0], none⟩,
   ⟨(some 15), (.len 0), [.t 14], none⟩,
   ⟨(some 16), .mv, [.t 1], none⟩,
   ⟨(some 17), (.len 0), [.t 16], none⟩,
   ⟨(some 18), .mv, [.t 0], none⟩,
   ⟨(some 19), (.ixS 1 false), [.t 18, .c (.i .i64 0)], none⟩,
   ⟨(some 20), (.ld 1 false), [.t 19], none⟩,
   ⟨(some 21), .mv, [.t 1], none⟩,
   ⟨(some 22), (.ixS 1 false), [.t 21, .c (.i .i64 0)], none⟩,
   ⟨(some 23), (.ld 1 false), [.t 22], none⟩,
   ⟨(some 24), .mv, [.t 0], none⟩,
   ⟨(some 25), .mv, [.t 1], none⟩,
   ⟨(some 26), (.bsl false [.nilsl] false 2 [0, 1]), [.t 24, .t 25], none⟩,
   ⟨(some 27), (.call .sh), [.c (.fn 58 [] []), .t 26], none⟩,
   ⟨(some 28), (.call .sh), [.c (.fn 57 [] []), .t 15, .t 17, .t 20, .t 23, .t 27], none⟩,
   ⟨(some 29), (.call .sh), [.c (.fn 56 [] []), .t 28], none⟩,
   ⟨(some 4), .mv, [.t 29], none⟩,
   ⟨(some 5), .mv, [.c (.i .i64 0)], none⟩] [4, 5] [(13, 1), (13, 3), (13, 6), (13, 9)])
theorem c20_parts : c20 = .seq p20_0 (.seq p20_1 (.seq r20 .ret)) := rfl

noncomputable def twinsL (a b : List Int) : List PL := canP (pairsP a.length b.length (a.getD 0 0) (b.getD 0 0) fun k => posO (wn [a, b] k))

theorem body20 {pg : Pg} (hF : Free pg) (hQ : pg.Q 81 = some 2) {A B : TV} {a b : List Int} (hA : SV A a) (hB : SV B b) (h0 : chkD [a, b] = 0) (H : Heap) :
    ∃ t H', bodyRun pg (den pg) 20 [A, B] H = some (.tup [t, .i .i64 0], H') ∧ elP.Own H' t (twinsL a b) ∧ ∀ j, j < H.length → H'[j]? = H[j]? := by
  have hrow := row_chk h0
  have da := hrow.all a (by simp)
  have db := hrow.all b (by simp)
  obtain ⟨b1, T, b2, hT⟩ := two (pg := pg) hA hB H
  obtain ⟨H1, hH1⟩ : ∃ H1, H1 = H ++ [AObj.cells [A, B] false] := ⟨_, rfl⟩
  rw [← hH1] at b1 b2
  have l1 : H1.length = H.length + 1 := by rw [hH1]; simp
  have hlen : ∀ x ∈ [a, b], x.length ≤ 1000000 := fun x hx => by
    simp at hx
    rcases hx with rfl | rfl
    · have := da.le; omega
    · have := db.le; omega
  have c55 := PFn.call (fn55 (pg := pg) hF hT (by simp) hlen) (args := [.sl H.length 0 1 false 2 (some 2)]) (ks := []) (fs := []) (cs := []) (H := H1) (by simp [snapArgs, b2])
  rw [h0] at c55
  obtain ⟨b3, _, _, _⟩ := two (pg := pg) hA hB H1
  obtain ⟨H2, hH2⟩ : ∃ H2, H2 = H1 ++ [AObj.cells [A, B] false] := ⟨_, rfl⟩
  rw [← hH2] at b3
  have l2 : H2.length = H1.length + 1 := by rw [hH2]; simp
  have o2 : ∀ j, j < H1.length → H2[j]? = H1[j]? := fun j hj => by rw [hH2, List.getElem?_append_left hj]
  have o1 : ∀ j, j < H.length → H1[j]? = H[j]? := fun j hj => by rw [hH1, List.getElem?_append_left hj]
  have g2 : H2[H1.length]? = some (.cells [A, B] false) := by rw [hH2]; exact getLast _ _
  have hRd : Rd pg H2.length H2 (.sl H1.length 0 1 false 2 (some 2)) [a, b] := by
    refine ⟨fun H => rfl, fun K hK i d hd => ?_⟩
    have gk : K[H1.length]? = some (.cells [A, B] false) := by rw [hK _ (by omega)]; exact g2
    match i with
    | 0 =>
      simp at hd; subst hd
      exact ⟨.ref H1.length 0, A, by simp [dkc, dk, bound], by simp [dkc, dk, gk, Dn.part, hA.noagg], hA⟩
    | 1 =>
      simp at hd; subst hd
      exact ⟨.ref H1.length 1, B, by simp [dkc, dk, bound], by simp [dkc, dk, gk, Dn.part, hB.noagg], hB⟩
    | i + 2 => simp at hd
  obtain ⟨mid, H3, es, r1, r2, r3, r4, r5, r6⟩ := body58 hF (ls := [a, b]) (by simp) (fun x hx => by simp at hx; rcases hx with rfl | rfl <;> assumption) H2 hRd
  have r1' : callRun pg (den pg) .sh [.fn 58 [] [], .sl H1.length 0 1 false 2 (some 2)] H2 = some (.mp mid, H3) := r1
  have l3 : H2.length ≤ H3.length := by have := (List.getElem?_eq_some_iff.1 r2).1; omega
  obtain ⟨x, hx⟩ : ∃ x, a[0]? = some x := ⟨_, List.getElem?_eq_getElem da.pos⟩
  obtain ⟨y, hy⟩ : ∃ y, b[0]? = some y := ⟨_, List.getElem?_eq_getElem db.pos⟩
  have ex : a.getD 0 0 = x := by rw [List.getD_eq_getElem?_getD, hx]; rfl
  have ey : b.getD 0 0 = y := by rw [List.getD_eq_getElem?_getD, hy]; rfl
  have bx := da.ok x (List.mem_of_getElem? hx)
  have by' := db.ok y (List.mem_of_getElem? hy)
  obtain ⟨H4, u1, u2, u3, u4⟩ := call57 hF (n := a.length) (m := b.length) (c := x) (d := y) r2 r3
  have hgd : ∀ k, (posO (wn [a, b] k)).getD 0 = wn [a, b] k := fun k => posO_getD _
  obtain ⟨t, H5, v1, v2, v3⟩ := body56 hF hQ H u2 (fun j hj => by rw [u3 j (by omega), r6 j (by omega), o2 j (by omega), o1 j hj]) (by omega) (by omega) ⟨da.pos, da.le⟩ ⟨db.pos, db.le⟩ bx by' (by
      rw [r4]; show 1 * a.length * b.length ≤ 1000
      rw [Nat.one_mul]
      have h1 := da.le; have h2 := db.le
      have := Nat.mul_le_mul h1 h2
      omega) (fun s hs => by
      rw [hgd] at hs
      obtain ⟨f, hf, e, he, rfl⟩ := wn2_ne.1 hs
      have := db.ok f hf; have := da.ok e he; omega) (by
      rw [hgd]
      exact wn2_ne.2 ⟨y, List.mem_of_getElem? hy, x, List.mem_of_getElem? hx, rfl⟩)
  refine ⟨t, H5, ?_, by unfold twinsL; rw [ex, ey]; exact v2, v3⟩
  have lnA := hA.view
  obtain ⟨p, p1, p2⟩ : ∃ p, (∀ K, dkc pg (den pg) (.ixS 1 false) [A, .i .i64 0] K = some (p, K)) ∧ ∀ K, dkc pg (den pg) (.ld 1 false) [p] K = some (.i .i64 x, K) := by
    rcases hA with ⟨rfl, rfl⟩ | ⟨bo, rfl⟩
    · simp at hx
    · refine ⟨.bp bo (.i .i64 x), fun K => ?_, fun K => rfl⟩
      show dk (.ixS 1 false) [.bs bo 1 (a.map elI.val), .i .i64 0] K = _
      have : (a.map elI.val)[0]? = some (.i .i64 x) := by rw [List.getElem?_map, hx]; rfl
      simp [dk, bound, this]
      exact ⟨x, hx, rfl⟩
  obtain ⟨p', p3, p4⟩ : ∃ p, (∀ K, dkc pg (den pg) (.ixS 1 false) [B, .i .i64 0] K = some (p, K)) ∧ ∀ K, dkc pg (den pg) (.ld 1 false) [p] K = some (.i .i64 y, K) := by
    rcases hB with ⟨rfl, rfl⟩ | ⟨bo, rfl⟩
    · simp at hy
    · refine ⟨.bp bo (.i .i64 y), fun K => ?_, fun K => rfl⟩
      show dk (.ixS 1 false) [.bs bo 1 (b.map elI.val), .i .i64 0] K = _
      have : (b.map elI.val)[0]? = some (.i .i64 y) := by rw [List.getElem?_map, hy]; rfl
      simp [dk, bound, this]
      exact ⟨y, hy, rfl⟩
  have lA : ∀ K, lenK 0 A K = some a.length := fun K => (hA.view K).lenK K
  have lB : ∀ K, lenK 0 B K = some b.length := fun K => (hB.view K).lenK K
  have kA : ∀ K, dk (.len 0) [A] K = some (.i .i64 (a.length : Int), K) := fun K => by simp [dk, lA]
  have kB : ∀ K, dk (.len 0) [B] K = some (.i .i64 (b.length : Int), K) := fun K => by simp [dk, lB]
  have kp : ∀ K, dk (.ld 1 false) [p] K = some (.i .i64 x, K) := p2
  have kp' : ∀ K, dk (.ld 1 false) [p'] K = some (.i .i64 y, K) := p4
  have v1' : callRun pg (den pg) .sh [.fn 56 [] [], .fn 84 [] [.ref (H3.length + 4) 0, .ref (H3.length + 2) 0, .ref (H3.length + 3) 0, .ref H3.length 0, .ref (H3.length + 1) 0]] H4 = some (t, H5) := v1
  obtain ⟨FN, hFN⟩ : ∃ FN, FN = TV.fn 84 [] [.ref (H3.length + 4) 0, .ref (H3.length + 2) 0, .ref (H3.length + 3) 0, .ref H3.length 0, .ref (H3.length + 1) 0] := ⟨_, rfl⟩
  rw [← hFN] at v1' u1
  refine bodyRun_of (vs := [t, .i .i64 0]) (o := ⟨.ret, [(4, t), (5, .i .i64 0)], H5⟩) (d := d20) (show pg.F 20 = some d20 by rw [hF.F]; rfl) rfl ?_ (by simp) rfl
  rw [runC_go]
  clear lnA v1 v2 v3 hFN u2 u3 u4 r1 r2 r3 r4 r5 r6 hRd g2 o1 o2 l1 l2 l3 hH1 hH2 b2 hT hgd ex ey bx by' hrow da db hx hy h0
  obtain ⟨la, hla⟩ : ∃ la, la = a.length := ⟨_, rfl⟩
  obtain ⟨lb, hlb⟩ : ∃ lb, lb = b.length := ⟨_, rfl⟩
  rw [← hla] at lA kA u1
  rw [← hlb] at lB kB u1
  clear hla hlb
  show go pg (den pg) [.c c20] .normal [(0, A), (1, B)] H = _
  have e0 : go pg (den pg) [.c c20] .normal [(0, A), (1, B)] H = go pg (den pg) [.c r20, .c .ret] .normal [(0, A), (1, B), (6, .i .i64 0), (12, .b false)] H1 := by
    rw [c20_parts]
    simp (disch := omega) [p20_0, p20_1, gX0, gX1, gX2, gX3, gX4, gX5, gX6, gX7, gX8, gX9, gXa, gXb, gXc, gXd, gXe, gXf, gXg, gXh, gXi, gXj, gXk, gXl, gXm, gXn, gXo, gXp, gXq, gXr, gXs, gXt, gXu, gXv, gXw, gXx, k_mv, gXy, gXz, gX01, gX11, gX21, gX31, gX41, gX51, gX61, gX71, gX81, gX91, gXa1, gXb1, gXc1, gXd1, gXe1, gXf1, gXg1, gXh1, gXi1, gXj1, gXk1, gXl1, gXm1, gXn1, gXo1, gXp1, gXq1, gXr1, gXs1, gXt1, gXu1, k_mn, k_mx, gXv1, gXw1, gXx1, gXy1, gXz1, gX02, gX12, gX22, gX32, gX42, gX52, gX62, gX72, Dn.setLast, Dn.getLast, evalO, mapO, Dn.get, putE, gX82, gX92, gXa2, gXb2, TV.one, TV.isAgg, Dn.part, gXc2, negb, at0, at1, at2, at3, at4, dT, dF, gXd2, Option.bind_some, Option.map_some, b1, c55]
  have mA : ∀ K, dkc pg (den pg) (.len 0) [A] K = some (.i .i64 (la : Int), K) := kA
  have mB : ∀ K, dkc pg (den pg) (.len 0) [B] K = some (.i .i64 (lb : Int), K) := kB
  rw [e0]
  generalize (la : Int) = ia at *
  generalize (lb : Int) = ib at *
  simp [r20, gXd, gXf, gXj, gXk, gXe, evalO, mapO, Go.Dn.get, putE, gX82, gX92, gXa2, gXb2, k_mv, gXx, mA, mB, p1, p2, p3, p4, b3, r1', u1, v1', frOk, ldSame, same_i, guardRun, DK.isLd, kA, kB, kp, kp', gX9, gX0]

end Go.Proofs.Try.Dn

