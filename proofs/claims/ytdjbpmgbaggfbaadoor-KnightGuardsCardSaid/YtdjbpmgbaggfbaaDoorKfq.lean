/-
  Knight: a short list sorted by a function: it keeps its members.
-/
import Derived.Test.YtdjbpmgbaggfbaaDoorKfa
import Derived.Test.YtdjbpmgbaggfbaaDoorKfc
set_option linter.unusedSimpArgs false
set_option linter.unusedVariables false

namespace Go.Proofs.Tryd.Dn
open Go.Dn

def CmpOk (pg : Pg) (F t : TV) (H0 : Heap) (ok : Int → Prop) : Prop :=
  ∀ H, H.length = H0.length → (∀ j, t.idOf ≠ some j → H[j]? = H0[j]?) → ∀ x y, ok x → ok y → ∃ v, callRun pg (den pg) .sh [F, .i .i64 x, .i .i64 y] H = some (.i .i64 v, H)

end Go.Proofs.Tryd.Dn

/-
  Knight: when a tour cannot be completed, in plain terms.
-/

namespace Go.Proofs.Tryd.Dn
open Go.Dn

def Compl (c first : Nat) (closed : Bool) : Nat → Nat → List Nat → Prop
  | at_, left, [] => left = 0 ∧ (closed = true → near c at_ first = true)
  | at_, left, s :: p => near c at_ s = true ∧ left.testBit s = true ∧ Compl c first closed s (andN left (2 ^ s)) p

def endsL (r c u : Nat) : List Nat → Nat → Option Nat
  | [], e => some e
  | s :: l, e => if pop 64 (mv r c s &&& u) = 0 then none else endsL r c u l (if pop 64 (mv r c s &&& u) = 1 then e + 1 else e)
def useM (at_ first left : Nat) (closed : Bool) : Nat := if closed = true then (left ||| 2 ^ at_) ||| 2 ^ first else left ||| 2 ^ at_
def growH (r c left : Nat) : Nat → Nat → Nat
  | 0, x => x
  | f + 1, x => if x ||| (around r c x &&& left) = x then x else growH r c left f (x ||| (around r c x &&& left))
def hopeB (r c at_ first left : Nat) (closed : Bool) : Bool :=
  match endsL r c (useM at_ first left closed) (mem64 left) 0 with
  | none => true
  | some e => if (if closed = true then 0 else 1) < e then true else decide (growH r c left 40 (2 ^ at_) &&& left ≠ left)

theorem andN_two {left s t : Nat} (hl : left < 18446744073709551616) (hs : s < 64) : (andN left (2 ^ s)).testBit t = (left.testBit t && !decide (t = s)) := by
  rw [andN_bit hl, Nat.testBit_two_pow]
  by_cases h : t = s
  · rw [dT h, dT h.symm]
  · rw [dF h, dF (fun e => h e.symm)]

theorem Compl.mem {c first : Nat} {closed : Bool} : ∀ (p : List Nat) (at_ left : Nat), left < 18446744073709551616 → Compl c first closed at_ left p → ∀ t, t ∈ p ↔ left.testBit t = true
  | [], at_, left, hl, h, t => by
    have : left = 0 := h.1
    subst this
    simp
  | s :: p, at_, left, hl, h, t => by
    obtain ⟨h1, h2, h3⟩ := h
    have hs64 : s < 64 := by
      apply Classical.byContradiction
      intro hc
      rw [Nat.testBit_lt_two_pow (Nat.lt_of_lt_of_le (show left < 2 ^ 64 by omega) (Nat.pow_le_pow_right (by decide) (by omega)))] at h2
      cases h2
    have hlt : andN left (2 ^ s) < 18446744073709551616 := Nat.lt_of_le_of_lt (andN_le _ _ hl) hl
    have ih := Compl.mem p s _ hlt h3 t
    rw [List.mem_cons, ih, andN_two hl hs64]
    by_cases hts : t = s
    · subst hts; simp [h2]
    · simp [hts]

theorem compl_reach {r c first : Nat} {closed : Bool} (h : Brd r c) {x left0 : Nat} (hx : x < 2 ^ (r * c)) (hfix : x ||| (around r c x &&& left0) = x) : ∀ (p : List Nat) (at_ left : Nat), left < 2 ^ (r * c) → at_ < r * c → x.testBit at_ = true → (∀ t, left.testBit t = true → left0.testBit t = true) → Compl c first closed at_ left p → ∀ t, t ∈ p → x.testBit t = true
  | [], _, _, _, _, _, _, _, t, ht => by simp at ht
  | s :: p, at_, left, hl, ha, hxa, hsub, hc, t, ht => by
    obtain ⟨h1, h2, h3⟩ := hc
    have h64 := lv64 h
    have hs : s < r * c := by
      apply Classical.byContradiction
      intro hc
      rw [Nat.testBit_lt_two_pow (Nat.lt_of_lt_of_le hl (Nat.pow_le_pow_right (by decide) (by omega)))] at h2
      cases h2
    have hn := h.n36
    have hxs : x.testBit s = true := by
      rw [← hfix, Nat.testBit_or, Nat.testBit_and, (around_bit h hx hs).2 ⟨at_, hxa, ha, h1⟩, hsub s h2]
      simp
    rcases List.mem_cons.1 ht with rfl | ht
    · exact hxs
    · refine compl_reach h hx hfix p s _ (Nat.lt_of_le_of_lt (andN_le _ _ (by omega)) hl) hs hxs (fun u hu => ?_) h3 t ht
      rw [andN_two (by omega) (by omega)] at hu
      simp only [Bool.and_eq_true] at hu
      exact hsub u hu.1

theorem growH_fix {r c left : Nat} (h : Brd r c) (hl : left < 2 ^ (r * c)) : ∀ (f x : Nat), x < 2 ^ (r * c) → untr (r * c) x < f → growH r c left f x < 2 ^ (r * c) ∧ growH r c left f x ||| (around r c (growH r c left f x) &&& left) = growH r c left f x ∧ ∀ t, x.testBit t = true → (growH r c left f x).testBit t = true
  | 0, x, hx, hf => by omega
  | f + 1, x, hx, hf => by
    rw [growH]
    split
    · rename_i he
      exact ⟨hx, he, fun t ht => ht⟩
    · rename_i hne
      have hlt : x ||| (around r c x &&& left) < 2 ^ (r * c) := or_lt hx (Nat.lt_of_le_of_lt Nat.and_le_right hl)
      have hun := untr_grow hx hlt (fun i hi => by rw [Nat.testBit_or, hi]; rfl) hne
      obtain ⟨g1, g2, g3⟩ := growH_fix h hl f _ hlt (by omega)
      exact ⟨g1, g2, fun t ht => g3 t (by rw [Nat.testBit_or, ht]; rfl)⟩

theorem pop_two {n x : Nat} (hn : n ≤ 64) (hx : x < 2 ^ n) {a b : Nat} (ha : x.testBit a = true) (hb : x.testBit b = true) (hab : a ≠ b) : 2 ≤ pop 64 x := by
  rw [← mem64_len]
  have h64 : x < 18446744073709551616 := by have := Nat.pow_le_pow_right (n := 2) (by decide) hn; omega
  have := sub_len [a, b] (mem64 x) (by simp [hab]) fun t ht => by
    rw [List.mem_cons, List.mem_singleton] at ht
    rcases ht with rfl | rfl
    · exact (mem_mem64 h64).2 ha
    · exact (mem_mem64 h64).2 hb
  simpa using this
theorem pop_pos {n x : Nat} (hn : n ≤ 64) (hx : x < 2 ^ n) {a : Nat} (ha : x.testBit a = true) : 1 ≤ pop 64 x := by
  rw [← mem64_len]
  have h64 : x < 18446744073709551616 := by have := Nat.pow_le_pow_right (n := 2) (by decide) hn; omega
  exact List.length_pos_of_mem ((mem_mem64 h64).2 ha)

theorem compl_deg {r c first : Nat} {closed : Bool} (h : Brd r c) (hfst : first < r * c) {u : Nat} (hu : u < 2 ^ (r * c)) : ∀ (p : List Nat) (at_ left : Nat), left < 2 ^ (r * c) → at_ < r * c → u.testBit at_ = true → (∀ t, left.testBit t = true → u.testBit t = true) → left.testBit at_ = false → (closed = true → u.testBit first = true ∧ left.testBit first = false) →
    Compl c first closed at_ left p → (∀ s, s ∈ p → 1 ≤ pop 64 (mv r c s &&& u)) ∧ ∃ q z, p = q ++ z ∧ z.length ≤ 1 ∧ (∀ s, s ∈ q → 2 ≤ pop 64 (mv r c s &&& u)) ∧ (closed = true → p.length ≠ 1 ∨ at_ ≠ first → ∀ s, s ∈ p → 2 ≤ pop 64 (mv r c s &&& u))
  | [], at_, left, hl, ha, hua, hsub, hla, hcl, hc => ⟨fun s hs => by simp at hs, [], [], rfl, by simp, fun s hs => by simp at hs, fun _ _ s hs => by simp at hs⟩
  | s :: p, at_, left, hl, ha, hua, hsub, hla, hcl, hc => by
    obtain ⟨h1, h2, h3⟩ := hc
    have hn := h.n36
    have h64 := lv64 h
    have hs : s < r * c := by
      apply Classical.byContradiction
      intro hc
      rw [Nat.testBit_lt_two_pow (Nat.lt_of_lt_of_le hl (Nat.pow_le_pow_right (by decide) (by omega)))] at h2
      cases h2
    have hmvl := mv_bound h hs
    have hal : mv r c s &&& u < 2 ^ (r * c) := Nat.lt_of_le_of_lt Nat.and_le_left hmvl
    have hpre : (mv r c s &&& u).testBit at_ = true := by
      rw [Nat.testBit_and, mv_near h hs ha, near_comm, h1, hua]; rfl
    have hlt : andN left (2 ^ s) < 2 ^ (r * c) := Nat.lt_of_le_of_lt (andN_le _ _ (by omega)) hl
    have hbit : ∀ t, (andN left (2 ^ s)).testBit t = (left.testBit t && !decide (t = s)) := fun t => andN_two (by omega) (by omega)
    have hus := hsub s h2
    obtain ⟨k1, q, z, k2, k3, k4, k5⟩ := compl_deg (closed := closed) h hfst hu p s _ hlt hs hus (fun t ht => by rw [hbit] at ht; simp only [Bool.and_eq_true] at ht; exact hsub t ht.1) (by rw [hbit]; simp) (fun hcc => by
      obtain ⟨c1, c2⟩ := hcl hcc
      exact ⟨c1, by rw [hbit, c2]; rfl⟩) h3
    have hsne : s ≠ at_ := by rintro rfl; rw [h2] at hla; cases hla
    refine ⟨fun x hx => ?_, ?_⟩
    · rcases List.mem_cons.1 hx with rfl | hx
      · exact pop_pos (by omega) hal hpre
      · exact k1 x hx
    · cases p with
      | nil =>
        refine ⟨[], [s], rfl, by simp, fun x hx => by simp at hx, fun hcc hor x hx => ?_⟩
        rw [List.mem_singleton] at hx
        subst hx
        have hf := h3.2 hcc
        obtain ⟨c1, c2⟩ := hcl hcc
        have hne : at_ ≠ first := by
          rcases hor with h5 | h5
          · simp at h5
          · exact h5
        refine pop_two (by omega) hal hpre (b := first) ?_ hne
        rw [Nat.testBit_and, mv_near h hs hfst, hf, c1]; rfl
      | cons y p' =>
        have hy := h3.1
        have hyb := h3.2.1
        have hyr : y < r * c := by
          apply Classical.byContradiction
          intro hc
          rw [Nat.testBit_lt_two_pow (Nat.lt_of_lt_of_le hlt (Nat.pow_le_pow_right (by decide) (by omega)))] at hyb
          cases hyb
        have hyb' := hyb
        rw [hbit] at hyb'
        simp only [Bool.and_eq_true] at hyb'
        have hya : at_ ≠ y := by rintro rfl; rw [hyb'.1] at hla; cases hla
        have h2s : 2 ≤ pop 64 (mv r c s &&& u) := by
          refine pop_two (by omega) hal hpre (b := y) ?_ hya
          rw [Nat.testBit_and, mv_near h hs hyr, hy, hsub y hyb'.1]; rfl
        refine ⟨s :: q, z, by rw [k2]; rfl, k3, fun x hx => ?_, fun hcc hor x hx => ?_⟩
        · rcases List.mem_cons.1 hx with rfl | hx
          · exact h2s
          · exact k4 x hx
        · rcases List.mem_cons.1 hx with rfl | hx
          · exact h2s
          · refine k5 hcc (.inr ?_) x hx
            rintro rfl
            rw [(hcl hcc).2] at h2
            cases h2

theorem endsL_none {r c u : Nat} : ∀ (l : List Nat) (e : Nat), (∀ s, s ∈ l → 1 ≤ pop 64 (mv r c s &&& u)) → endsL r c u l e ≠ none
  | [], e, _ => by simp [endsL]
  | s :: l, e, h => by
    rw [endsL, if_neg (by have := h s (by simp); omega)]
    exact endsL_none l _ fun x hx => h x (by simp [hx])

theorem endsL_count {r c u : Nat} (l : List Nat) : ∀ (e e' : Nat), endsL r c u l e = some e' → e' = e + l.countP fun s => decide (pop 64 (mv r c s &&& u) = 1) := by
  induction l with
  | nil =>
    intro e e' h
    have h1 : some e = some e' := h
    injection h1 with h1
    rw [List.countP_nil]; omega
  | cons s l ih =>
    intro e e' h
    rw [endsL] at h
    rw [List.countP_cons]
    generalize pop 64 (mv r c s &&& u) = P at h ⊢
    by_cases h0 : P = 0
    · rw [if_pos h0] at h; cases h
    · rw [if_neg h0] at h
      have h2 := ih _ e' h
      by_cases h1 : P = 1
      · rw [if_pos h1] at h2
        rw [dT h1, if_pos rfl]; omega
      · rw [if_neg h1] at h2
        rw [dF h1, if_neg (by simp)]; omega

theorem hope_sound {r c at_ first left : Nat} {closed : Bool} (h : Brd r c) (hfst : first < r * c) (ha : at_ < r * c) (hl : left < 2 ^ (r * c)) (hla : left.testBit at_ = false) (hlf : closed = true → left.testBit first = false)
    (hedge : closed = true → at_ = first → ∀ s, s < r * c → near c at_ s = true → left ≠ 2 ^ s) (hb : hopeB r c at_ first left closed = true) (p : List Nat) : ¬ Compl c first closed at_ left p := by
  intro hc
  have hn := h.n36
  have h64 := lv64 h
  have hmem := Compl.mem p at_ left (by omega) hc
  have hmem' : ∀ t, t ∈ mem64 left ↔ t ∈ p := fun t => by rw [mem_mem64 (by omega), hmem t]
  have h2a : 2 ^ at_ < 2 ^ (r * c) := Nat.pow_lt_pow_right (by decide) ha
  have h2f : 2 ^ first < 2 ^ (r * c) := Nat.pow_lt_pow_right (by decide) hfst
  obtain ⟨u, hu⟩ : ∃ u, u = useM at_ first left closed := ⟨_, rfl⟩
  have hul : u < 2 ^ (r * c) := by
    rw [hu]; unfold useM
    split
    · exact or_lt (or_lt hl h2a) h2f
    · exact or_lt hl h2a
  have hua : u.testBit at_ = true := by
    rw [hu]; unfold useM
    split
    · rw [Nat.testBit_or, Nat.testBit_or, Nat.testBit_two_pow, dT rfl]; simp
    · rw [Nat.testBit_or, Nat.testBit_two_pow, dT rfl]; simp
  have hus : ∀ t, left.testBit t = true → u.testBit t = true := fun t ht => by
    rw [hu]; unfold useM
    split
    · rw [Nat.testBit_or, Nat.testBit_or, ht]; rfl
    · rw [Nat.testBit_or, ht]; rfl
  have huf : closed = true → u.testBit first = true ∧ left.testBit first = false := fun hcc => by
    refine ⟨?_, hlf hcc⟩
    rw [hu]; unfold useM
    rw [if_pos hcc, Nat.testBit_or, Nat.testBit_two_pow, dT rfl]; simp
  obtain ⟨k1, q, z, k2, k3, k4, k5⟩ := compl_deg (closed := closed) h hfst hul p at_ left hl ha hua hus hla huf hc
  unfold hopeB at hb
  rw [← hu] at hb
  split at hb
  · rename_i he
    exact endsL_none _ _ (fun s hs => k1 s ((hmem' s).1 hs)) he
  · rename_i e he
    have hcount := endsL_count _ _ _ he
    rw [Nat.zero_add, List.countP_eq_length_filter] at hcount
    have hsubz : e ≤ z.length := by
      rw [hcount]
      refine sub_len _ z (List.Nodup.sublist List.filter_sublist (mem64_nodup left)) fun s hs => ?_
      rw [List.mem_filter] at hs
      have hsp := (hmem' s).1 hs.1
      rw [k2, List.mem_append] at hsp
      rcases hsp with hsp | hsp
      · have := k4 s hsp
        have h1 : pop 64 (mv r c s &&& u) = 1 := by simpa using hs.2
        omega
      · exact hsp
    have hclosed0 : closed = true → e = 0 := fun hcc => by
      have hor : p.length ≠ 1 ∨ at_ ≠ first := by
        by_cases hp1 : p.length = 1
        · refine .inr fun he => ?_
          match p, hp1, hc with
          | [s], _, hc =>
            obtain ⟨c1, c2, c3, _⟩ := hc
            have hsr : s < r * c := by
              apply Classical.byContradiction
              intro hcx
              rw [Nat.testBit_lt_two_pow (Nat.lt_of_lt_of_le hl (Nat.pow_le_pow_right (by decide) (by omega)))] at c2
              cases c2
            refine hedge hcc he s hsr c1 ?_
            apply Nat.eq_of_testBit_eq
            intro t
            have h3 := andN_two (left := left) (s := s) (t := t) (by omega) (by omega)
            rw [c3, Nat.zero_testBit] at h3
            rw [Nat.testBit_two_pow]
            by_cases hts : t = s
            · rw [dT hts.symm, hts, c2]
            · rw [dF (fun e => hts e.symm)]
              rw [dF hts] at h3
              simpa using h3.symm
        · exact .inl hp1
      have hall := k5 hcc hor
      rw [hcount]
      have : ((mem64 left).filter fun s => decide (pop 64 (mv r c s &&& u) = 1)) = [] := by
        rw [List.filter_eq_nil_iff]
        intro s hs
        have := hall s ((hmem' s).1 hs)
        have hne : ¬ pop 64 (mv r c s &&& u) = 1 := by omega
        rw [dF hne]; exact Bool.false_ne_true
      rw [this]; rfl
    cases closed with
    | true =>
      have := hclosed0 rfl
      simp only [if_true] at hb
      split at hb
      · omega
      · rw [decide_eq_true_eq] at hb
        have hun := untr_le (r * c) (2 ^ at_)
        obtain ⟨g1, g2, g3⟩ := growH_fix h hl 40 (2 ^ at_) h2a (by omega)
        refine hb ?_
        apply Nat.eq_of_testBit_eq
        intro t
        rw [Nat.testBit_and]
        cases hlt : left.testBit t with
        | false => simp
        | true =>
          rw [compl_reach (closed := true) h g1 g2 p at_ left hl ha (g3 at_ (by rw [Nat.testBit_two_pow, dT rfl])) (fun t ht => ht) hc t ((hmem t).2 hlt)]
          rfl
    | false =>
      simp only [Bool.false_eq_true, if_false] at hb
      split at hb
      · omega
      · rw [decide_eq_true_eq] at hb
        have hun := untr_le (r * c) (2 ^ at_)
        obtain ⟨g1, g2, g3⟩ := growH_fix h hl 40 (2 ^ at_) h2a (by omega)
        refine hb ?_
        apply Nat.eq_of_testBit_eq
        intro t
        rw [Nat.testBit_and]
        cases hlt : left.testBit t with
        | false => simp
        | true =>
          rw [compl_reach (closed := false) h g1 g2 p at_ left hl ha (g3 at_ (by rw [Nat.testBit_two_pow, dT rfl])) (fun t ht => ht) hc t ((hmem t).2 hlt)]
          rfl

end Go.Proofs.Tryd.Dn

/-
  Knight: when a tour cannot be completed, in the program.
-/

namespace Go.Proofs.Tryd.Dn
open Go.Dn

structure HS (BV : TV) (u : Nat) (H : Heap) (e : Nat) (out : Bool) : Prop where
  a0 : H[0]? = some (.cells [BV] false)
  a1 : H[1]? = some (.cells [.b out] false)
  a2 : H[2]? = some (.cells [.i .i64 (e : Int)] false)
  a3 : H[3]? = some (.cells [.i .u64 (u : Int)] false)
  len : 5 < H.length

theorem HS.set {BV : TV} {u : Nat} {H : Heap} {e : Nat} {out : Bool} (h : HS BV u H e out) {j : Nat} (hj : 4 ≤ j) (o : AObj) : HS BV u (H.set j o) e out :=
  ⟨by rw [List.getElem?_set_ne (by omega)]; exact h.a0, by rw [List.getElem?_set_ne (by omega)]; exact h.a1, by rw [List.getElem?_set_ne (by omega)]; exact h.a2, by rw [List.getElem?_set_ne (by omega)]; exact h.a3, by simpa using h.len⟩

theorem useM_lt {r c at_ first left : Nat} {closed : Bool} (ha : at_ < r * c) (hfst : first < r * c) (hl : left < 2 ^ (r * c)) : useM at_ first left closed < 2 ^ (r * c) := by
  have h2a : 2 ^ at_ < 2 ^ (r * c) := Nat.pow_lt_pow_right (by decide) ha
  have h2f : 2 ^ first < 2 ^ (r * c) := Nat.pow_lt_pow_right (by decide) hfst
  unfold useM
  split
  · exact or_lt (or_lt hl h2a) h2f
  · exact or_lt hl h2a

end Go.Proofs.Tryd.Dn

