/-
  Knight: the tour from a square.
-/
import Derived.Test.YtdjbpmgbaggfbaaDoorKfr
import Derived.Test.YtdjbpmgbaggfbaaDoorKfa
set_option linter.unusedSimpArgs false
set_option linter.unusedVariables false

namespace Go.Proofs.Tryd.Dn
open Go.Dn

theorem Wy.fin {H : Heap} {t : TV} {l : List Int} (h : Wy H t l) : snap .fin H 9 t = some (elI.lt false l) := by
  rcases h with h | ⟨id, v, rfl, rfl, h⟩
  · exact h.fin elI_flat
  · rw [sn_sl _ (by decide), h, slB_some]
    simp [sn_i, sn_b, sn_nil, sn8_i, sn8_b, sn8_nil, sn7_i, sn7_b, sn_sl, sn8_sl, slB_some, sn_tup, sn_agg, sn8_agg, mapO, elems]
    rfl

def allBut (n s : Nat) : Nat := andN (2 ^ n - 1) (2 ^ s)

theorem allBut_bit {n s t : Nat} (hn : n ≤ 36) (hs : s < n) : (allBut n s).testBit t = (decide (t < n) && !decide (t = s)) := by
  unfold allBut
  have : 2 ^ n ≤ 2 ^ 36 := Nat.pow_le_pow_right (by decide) hn
  rw [andN_two (by omega) (by omega), Nat.testBit_two_pow_sub_one]

theorem near_big {r c s t : Nat} (h : Brd r c) (hs : s < r * c) (ht : t < r * c) (hst : near c s t = true) : 3 ≤ r * c := by
  have := h.ok (P := fun r c => decide (3 ≤ r * c) || (List.range (r * c)).all fun s => (List.range (r * c)).all fun t => !near c s t) (by kernel_rfl)
  rw [Bool.or_eq_true] at this
  rcases this with g | g
  · exact of_decide_eq_true g
  · have g1 := List.all_eq_true.1 (List.all_eq_true.1 g s (List.mem_range.2 hs)) t (List.mem_range.2 ht)
    rw [hst] at g1
    cases g1

theorem allBut_edge {r c s : Nat} (h : Brd r c) (hs : s < r * c) : ∀ t, t < r * c → near c s t = true → allBut (r * c) s ≠ 2 ^ t := by
  intro t ht hst he
  have hn := h.n36
  have h3 := near_big h hs ht hst
  have hb : ∀ x, (decide (x < r * c) && !decide (x = s)) = decide (t = x) := fun x => by rw [← allBut_bit hn hs, he, Nat.testBit_two_pow]
  have : ∃ x, x < 3 ∧ x ≠ s ∧ x ≠ t := by
    by_cases h0 : s ≠ 0 ∧ t ≠ 0
    · exact ⟨0, by omega, by omega, by omega⟩
    · by_cases h1 : s ≠ 1 ∧ t ≠ 1
      · exact ⟨1, by omega, by omega, by omega⟩
      · exact ⟨2, by omega, by omega, by omega⟩
  obtain ⟨x, x1, x2, x3⟩ := this
  have := hb x
  rw [dT (show x < r * c by omega), dF x2, dF (fun e => x3 e.symm)] at this
  cases this

end Go.Proofs.Tryd.Dn

/-
  Knight: a way through all squares is a tour; when there is none, by search.
-/

namespace Go.Proofs.Tryd.Dn
open Go.Dn

/-! a tour from a way -/
theorem Compl.steps {c first : Nat} {closed : Bool} : ∀ (q : List Nat) (at_ left : Nat), Compl c first closed at_ left q → (∀ i, i < q.length → near c ((at_ :: q).getD i 0) (q.getD i 0) = true) ∧ (closed = true → near c ((at_ :: q).getD q.length 0) first = true)
  | [], at_, left, h => ⟨fun i hi => by simp at hi, fun hc => h.2 hc⟩
  | s :: q, at_, left, h => by
    obtain ⟨h1, h2, h3⟩ := h
    obtain ⟨i1, i2⟩ := Compl.steps q s _ h3
    refine ⟨fun i hi => ?_, fun hc => ?_⟩
    · cases i with
      | zero => exact h1
      | succ i => exact i1 i (by simpa using hi)
    · exact i2 hc

/-! none, by search -/
def prn (u left : Nat) : List (Nat × Nat) → Nat → Bool
  | [], _ => false
  | x :: T, b => if left.testBit x.1 then (if x.2 &&& u = 0 then true else if drop1 (x.2 &&& u) = 0 then (match b with | 0 => true | b + 1 => prn u left T b) else prn u left T b) else prn u left T b
def sr (T : List (Nat × Nat)) (n first : Nat) (closed : Bool) : Nat → Nat → Nat → Bool
  | 0, _, _ => true
  | f + 1, at_, left =>
    if left = 0 then (!closed || (T.getD at_ (0, 0)).2.testBit first)
    else if prn (useM at_ first left closed) left T (if closed = true then 0 else 1) then false
    else (List.range n).any fun s => ((T.getD at_ (0, 0)).2 &&& left).testBit s && sr T n first closed f s (left ^^^ 2 ^ s)
def tbl (r c : Nat) : List (Nat × Nat) := (List.range (r * c)).map fun s => (s, mv r c s)

theorem pop_parts {x : Nat} (h0 : 0 < x) (hx : x < 18446744073709551616) : pop 64 x = 1 + pop 64 (drop1 x) := by
  rw [← mem64_len, ← mem64_len, (mem64_step h0 hx).1, List.length_cons]; omega
theorem pop_zeroT : pop 64 0 = 0 := by rw [← mem64_len, mem64_zero]; rfl

theorem prn_ends {r c u left : Nat} (hu : u < 18446744073709551616) : ∀ (L : List Nat) (b a : Nat), prn u left (L.map fun s => (s, mv r c s)) b = true → endsL r c u (L.filter fun s => left.testBit s) a = none ∨ ∃ e, endsL r c u (L.filter fun s => left.testBit s) a = some e ∧ a + b < e
  | [], b, a, h => by cases h
  | s :: L, b, a, h => by
    rw [List.map_cons] at h
    unfold prn at h
    rw [List.filter_cons]
    cases hs : left.testBit s with
    | false =>
      rw [hs] at h
      simp only [Bool.false_eq_true, if_false] at h ⊢
      exact prn_ends hu L b a h
    | true =>
      rw [hs] at h
      simp only [if_true] at h ⊢
      rw [endsL]
      have hw : mv r c s &&& u < 18446744073709551616 := Nat.lt_of_le_of_lt Nat.and_le_right hu
      generalize mv r c s &&& u = w at *
      by_cases h0 : w = 0
      · rw [h0, pop_zeroT, if_pos rfl]; exact .inl rfl
      · rw [if_neg h0] at h
        have hp := pop_parts (x := w) (by omega) hw
        rw [if_neg (by omega)]
        have hd : drop1 w < 18446744073709551616 := Nat.lt_of_lt_of_le (mem64_step (x := w) (by omega) hw).2 (by omega)
        by_cases h1 : drop1 w = 0
        · rw [if_pos h1] at h
          rw [h1, pop_zeroT] at hp
          rw [if_pos hp]
          cases b with
          | zero =>
            cases he : endsL r c u (L.filter fun s => left.testBit s) (a + 1) with
            | none => exact .inl rfl
            | some e =>
              have := endsL_count _ _ _ he
              exact .inr ⟨e, rfl, by omega⟩
          | succ b =>
            rcases prn_ends hu L b (a + 1) h with g | ⟨e, g1, g2⟩
            · exact .inl g
            · exact .inr ⟨e, g1, by omega⟩
        · rw [if_neg h1] at h
          have hp2 := pop_parts (x := drop1 w) (by omega) hd
          rw [if_neg (by omega)]
          exact prn_ends hu L b a h

theorem tbl_at {r c s : Nat} (hs : s < r * c) : (tbl r c).getD s (0, 0) = (s, mv r c s) := by
  unfold tbl
  rw [List.getD_eq_getElem?_getD, List.getElem?_map, List.getElem?_range hs]
  rfl

theorem sr_none {r c first : Nat} {closed : Bool} (h : Brd r c) (hfst : first < r * c) : ∀ (f at_ left : Nat), at_ < r * c → left < 2 ^ (r * c) → left.testBit at_ = false → (closed = true → left.testBit first = false) →
    (closed = true → at_ = first → ∀ s, s < r * c → near c at_ s = true → left ≠ 2 ^ s) → sr (tbl r c) (r * c) first closed f at_ left = false → ∀ p, ¬ Compl c first closed at_ left p
  | 0, at_, left, ha, hl, hla, hlf, hedge, hs, p => by cases hs
  | f + 1, at_, left, ha, hl, hla, hlf, hedge, hs, p => by
    have hn := h.n36
    have h64 := lv64 h
    intro hp
    unfold sr at hs
    rw [tbl_at ha] at hs
    by_cases h0 : left = 0
    · rw [if_pos h0] at hs
      subst h0
      cases p with
      | nil =>
        have hs' : (!closed || (mv r c at_).testBit first) = false := hs
        rw [mv_near h ha hfst] at hs'
        cases closed with
        | false => cases hs'
        | true => rw [hp.2 rfl] at hs'; cases hs'
      | cons s p => have := hp.2.1; simp at this
    · rw [if_neg h0] at hs
      by_cases hprn : prn (useM at_ first left closed) left (tbl r c) (if closed = true then 0 else 1) = true
      · refine hope_sound h hfst ha hl hla hlf hedge ?_ p hp
        have hu := useM_lt (closed := closed) ha hfst hl
        have he := prn_ends (r := r) (c := c) (left := left) (by omega) (List.range (r * c)) _ 0 hprn
        rw [← mem64_range (by omega) hl] at he
        unfold hopeB
        rcases he with he | ⟨e, he, he2⟩
        · rw [he]
        · rw [he]
          rw [Nat.zero_add] at he2
          show (if (if closed = true then 0 else 1) < e then true else _) = true
          rw [if_pos he2]
      · rw [if_neg hprn] at hs
        cases p with
        | nil => exact h0 hp.1
        | cons s p =>
          obtain ⟨h1, h2, h3⟩ := hp
          have hsr : s < r * c := by
            apply Classical.byContradiction
            intro hcx
            rw [Nat.testBit_lt_two_pow (Nat.lt_of_lt_of_le hl (Nat.pow_le_pow_right (by decide) (by omega)))] at h2
            cases h2
          have hx : left ^^^ 2 ^ s = andN left (2 ^ s) := by
            apply Nat.eq_of_testBit_eq
            intro t
            rw [andN_two (by omega) (by omega), Nat.testBit_xor, Nat.testBit_two_pow]
            by_cases hts : t = s
            · subst hts; rw [h2, dT rfl]; rfl
            · rw [dF (fun e => hts e.symm), dF hts]; simp
          have hlt : andN left (2 ^ s) < 2 ^ (r * c) := Nat.lt_of_le_of_lt (andN_le _ _ (by omega)) hl
          have hf : sr (tbl r c) (r * c) first closed f s (andN left (2 ^ s)) = false := by
            have hall := List.any_eq_false.1 hs s (List.mem_range.2 hsr)
            rw [hx, Nat.testBit_and, mv_near h ha hsr, h1, h2] at hall
            simpa using hall
          refine sr_none h hfst f s _ hsr hlt ?_ (fun hcl => ?_) (fun hcl hsf => ?_) hf p h3
          · rw [andN_two (by omega) (by omega)]; simp
          · rw [andN_two (by omega) (by omega), hlf hcl]; rfl
          · rw [hsf, hlf hcl] at h2; cases h2

theorem none_of {r c first : Nat} {closed : Bool} (h : Brd r c) (hfst : first < r * c) (hs : sr (tbl r c) (r * c) first closed 40 first (allBut (r * c) first) = false) (p : List Nat) : ¬ Compl c first closed first (allBut (r * c) first) p := by
  have hn := h.n36
  have hpw : 2 ^ (r * c) - 1 < 2 ^ (r * c) := by have := Nat.two_pow_pos (r * c); omega
  have h64 := lv64 h
  have hlf : (allBut (r * c) first).testBit first = false := by rw [allBut_bit hn hfst]; simp
  exact sr_none h hfst 40 first _ hfst (Nat.lt_of_le_of_lt (andN_le _ _ (by omega)) hpw) hlf (fun _ => hlf) (fun _ _ s hs hns => allBut_edge h hfst s hs hns) hs p

/-! a tour shown -/
end Go.Proofs.Tryd.Dn

