/-
  Regions, part 4: the orders that a region may draw.
-/
import Derived.Test.YtegihfgibonhpaaDnReg3
set_option linter.unusedVariables false
set_option linter.unusedSimpArgs false
namespace Go.Dn
open Region

theorem push_low {α : Type} (g : Array Nat → α → Nat) : ∀ (l : List α) (acc : Array Nat) (i : Nat), i < acc.size → (l.foldl (fun acc o => acc.push (g acc o)) acc)[i]? = acc[i]?
  | [], acc, i, h => rfl
  | o :: l, acc, i, h => by
    simp only [List.foldl_cons]
    rw [push_low g l (acc.push (g acc o)) i (by simp; omega), Array.getElem?_push, if_neg (by omega)]

theorem push_at {α : Type} (g : Array Nat → α → Nat) : ∀ (l : List α) (acc : Array Nat) (k : Nat) (o : α), l[k]? = some o →
    ∃ acc' : Array Nat, acc'.size = acc.size + k ∧ (l.foldl (fun acc o => acc.push (g acc o)) acc)[acc.size + k]? = some (g acc' o) ∧ ∀ i, i < acc'.size → acc'[i]? = (l.foldl (fun acc o => acc.push (g acc o)) acc)[i]?
  | [], acc, k, o, h => by simp at h
  | a :: l, acc, 0, o, h => by
    simp at h; subst h
    refine ⟨acc, rfl, ?_, fun i hi => ?_⟩
    · simp only [List.foldl_cons, Nat.add_zero]
      rw [push_low g l _ _ (by simp)]
      simp
    · exact (push_low g (a :: l) acc i hi).symm
  | a :: l, acc, k + 1, o, h => by
    obtain ⟨acc', h1, h2, h3⟩ := push_at g l (acc.push (g acc a)) k o (by simpa using h)
    simp only [Array.size_push] at h1 h2
    refine ⟨acc', by omega, ?_, h3⟩
    rw [show acc.size + (k + 1) = acc.size + 1 + k by omega]
    exact h2

def oneB (acc : Array Nat) (o : Oper) : Nat := o.after.foldl (fun s e => if binds .any e then s ||| 2 ^ e.on ||| acc.getD e.on 0 else s) 0

theorem oneB_bits (acc : Array Nat) (i : Nat) : ∀ (l : List Edge) (s : Nat), (l.foldl (fun s e => if binds .any e then s ||| 2 ^ e.on ||| acc.getD e.on 0 else s) s).testBit i = true →
    s.testBit i = true ∨ ∃ e, e ∈ l ∧ binds .any e = true ∧ (i = e.on ∨ (acc.getD e.on 0).testBit i = true)
  | [], s, h => .inl h
  | e :: l, s, h => by
    simp only [List.foldl_cons] at h
    rcases oneB_bits acc i l _ h with h1 | ⟨x, hx, h2⟩
    · split at h1
      · rename_i hb
        rw [Nat.testBit_or, Nat.testBit_or, Bool.or_eq_true, Bool.or_eq_true] at h1
        rcases h1 with (h1 | h1) | h1
        · exact .inl h1
        · rw [Nat.testBit_two_pow] at h1
          exact .inr ⟨e, by simp, hb, .inl (by simp at h1; exact h1.symm)⟩
        · exact .inr ⟨e, by simp, hb, .inr h1⟩
      · exact .inl h1
    · exact .inr ⟨x, by simp [hx], h2⟩

/-- what stands before an operation: an edge's end, or what stands before that -/
theorem before_bits {os : Array Oper} {j i : Nat} {o : Oper} (ho : os[j]? = some o) (h : ((before os).getD j 0).testBit i = true) (hlt : ∀ e, e ∈ o.after → binds .any e = true → e.on < j) :
    ∃ e, e ∈ o.after ∧ binds .any e = true ∧ (i = e.on ∨ ((before os).getD e.on 0).testBit i = true) := by
  have hb : before os = os.toList.foldl (fun acc o => acc.push (oneB acc o)) #[] := by
    unfold before oneB
    rw [← Array.foldl_toList]
  obtain ⟨acc', h1, h2, h3⟩ := push_at oneB os.toList #[] j o (by simpa using ho)
  simp only [List.size_toArray, List.length_nil, Nat.zero_add] at h1 h2
  rw [← hb] at h2 h3
  rw [Array.getD_eq_getD_getElem?, h2] at h
  simp only [Option.getD_some, oneB] at h
  rw [← Array.foldl_toList] at h
  rcases oneB_bits acc' i _ _ h with h4 | ⟨e, he, hbd, h5⟩
  · simp at h4
  · refine ⟨e, by simpa using he, hbd, h5.imp id fun h6 => ?_⟩
    rw [Array.getD_eq_getD_getElem?, h3 e.on (by have := hlt e (by simpa using he) hbd; omega)] at h6
    rw [Array.getD_eq_getD_getElem?]; exact h6

theorem conflAll_get (y : DOper) (m : Nat) : ∀ (l : List DOper) (i0 i : Nat), conflAll y m l i0 = true → i < l.length → confl (D l i) y = true → m.testBit (i0 + i) = true
  | [], i0, i, h, hi, _ => by simp at hi
  | x :: l, i0, i, h, hi, hc => by
    simp only [conflAll, Bool.and_eq_true, Bool.or_eq_true, Bool.not_eq_true'] at h
    cases i with
    | zero =>
      rcases h.1 with h1 | h1
      · have : confl x y = true := by simpa [D] using hc
        rw [this] at h1; cases h1
      · exact h1
    | succ i =>
      have := conflAll_get y m l (i0 + 1) i h.2 (by simpa using hi) (by simpa [D] using hc)
      rw [show i0 + (i + 1) = i0 + 1 + i by omega]; exact this

theorem pairsOk_get {b : Array Nat} {ds : List DOper} : ∀ (l : List DOper) (j0 j : Nat), pairsOk b ds j0 l = true → j < l.length → conflAll (D l j) (b.getD (j0 + j) 0) (ds.take (j0 + j)) 0 = true
  | [], j0, j, h, hj => by simp at hj
  | y :: l, j0, j, h, hj => by
    simp only [pairsOk, Bool.and_eq_true] at h
    cases j with
    | zero => simpa [D] using h.1
    | succ j =>
      have := pairsOk_get l (j0 + 1) j h.2 (by simpa using hj)
      rw [show j0 + (j + 1) = j0 + 1 + j by omega]
      simpa [D] using this

structure Ord (ds : List DOper) (os : Array Oper) : Prop where
  len : ds.length = os.size
  low : ∀ j o, os[j]? = some o → ∀ e, e ∈ o.after → binds .any e = true → e.on < j
  pair : ∀ i j, i < j → j < ds.length → confl (D ds i) (D ds j) = true → ((before os).getD j 0).testBit i = true

theorem ord_of {ds : List DOper} {os : Array Oper} (h : drawOk ds os = true) (hl : ds.length = os.size) : Ord ds os := by
  simp only [drawOk, Bool.and_eq_true, List.all_eq_true, Bool.or_eq_true, Bool.not_eq_true', decide_eq_true_eq] at h
  refine ⟨hl, fun j o ho e he hb => ?_, fun i j hij hj hc => ?_⟩
  · have hm : (o, j) ∈ os.toList.zipIdx := by
      rw [List.mem_zipIdx_iff_getElem?]; simpa using ho
    have := h.1 (o, j) hm e (by simpa using he)
    rcases this with h1 | h1
    · rw [hb] at h1; cases h1
    · exact h1
  · have h1 := pairsOk_get ds 0 j h.2 hj
    rw [Nat.zero_add] at h1
    have h2 := conflAll_get (D ds j) _ _ 0 i h1 (by simp; omega) (by
      have : D (ds.take j) i = D ds i := by simp [D, List.getElem?_take, hij]
      rw [this]; exact hc)
    rwa [Nat.zero_add] at h2

def left (n : Nat) (listed : Array Bool) : List Nat := (List.range n).filter fun i => !listed.getD i true

theorem sched_go {ds : List DOper} {os : Array Oper} (ho : Ord ds os) : ∀ (fuel t : Nat) (listed : Array Bool), listed.size = os.size →
    (∀ j, listed.getD j false = true → ∀ i, ((before os).getD j 0).testBit i = true → listed.getD i false = true) → (left os.size listed).length ≤ fuel →
    Sched ds (fun i => listed.getD i false = true) (Region.linearise.go .any os fuel t listed []) := by
  have hall : ∀ listed : Array Bool, listed.size = os.size → Region.ready .any os listed = [] → ∀ i, i < os.size → listed.getD i false = true := by
    intro listed hsz hnil i
    induction i using Nat.strongRecOn with
    | _ i ih =>
      intro hi
      cases hb : listed.getD i false with
      | true => rfl
      | false =>
        exfalso
        have hm : i ∈ Region.ready .any os listed := by
          rw [mem_ready]
          refine ⟨?_, os[i], by simp [hi], fun e he hbd => ?_⟩
          · have : i < listed.size := by omega
            simpa [Array.getD, this] using hb
          · have := ho.low i os[i] (by simp [hi]) e he hbd
            exact ih e.on this (by omega)
        rw [hnil] at hm; cases hm
  intro fuel
  induction fuel with
  | zero =>
    intro t listed hsz hclo hleft
    simp only [Region.linearise.go, List.reverse_nil, Sched]
    intro i hi
    rw [ho.len] at hi
    cases hb : listed.getD i false with
    | true => rfl
    | false =>
      exfalso
      have : i ∈ left os.size listed := by
        have hl : i < listed.size := by omega
        simp only [left, List.mem_filter, List.mem_range, hi, true_and]
        simpa [Array.getD, hl] using hb
      have h0 : left os.size listed = [] := List.eq_nil_of_length_eq_zero (by omega)
      rw [h0] at this; cases this
  | succ fuel ih =>
    intro t listed hsz hclo hleft
    simp only [Region.linearise.go]
    change Sched ds _ (match (Region.ready .any os listed)[t % (Region.ready .any os listed).length]? with
      | some i => Region.linearise.go .any os fuel (t / (Region.ready .any os listed).length) (listed.setIfInBounds i true) [i]
      | none => [].reverse)
    cases hi : (Region.ready .any os listed)[t % (Region.ready .any os listed).length]? with
    | none =>
      have hnil : Region.ready .any os listed = [] := by
        cases hr : Region.ready .any os listed with
        | nil => rfl
        | cons x xs =>
          rw [hr] at hi
          have hlt : t % (x :: xs).length < (x :: xs).length := Nat.mod_lt _ (by simp)
          simp at hi
          simp at hlt
          omega
      simp only [List.reverse_nil, Sched]
      intro i hin
      exact hall listed hsz hnil i (by rw [← ho.len]; exact hin)
    | some j =>
      have hj := List.mem_of_getElem? hi
      rw [mem_ready] at hj
      obtain ⟨hjf, o, hoj, hedges⟩ := hj
      have hjn : j < os.size := (Array.getElem?_eq_some_iff.1 hoj).1
      have hjl : j < listed.size := by omega
      have hjfalse : listed.getD j false = false := by simpa [Array.getD, hjl] using hjf
      have hpre : ∀ i, ((before os).getD j 0).testBit i = true → listed.getD i false = true := by
        intro i hbit
        obtain ⟨e, he, hbd, h1⟩ := before_bits hoj hbit (ho.low j o hoj)
        have hle := hedges e he hbd
        rcases h1 with rfl | h1
        · exact hle
        · exact hclo e.on hle i h1
      simp only []
      rw [linearise_go_acc, List.reverse_singleton, List.singleton_append]
      refine ⟨⟨by rw [ho.len]; exact hjn, by rw [hjfalse]; exact Bool.false_ne_true, fun i hij hc => hpre i (ho.pair i j hij (by rw [ho.len]; exact hjn) hc), fun i hij hin hc hS => ?_⟩, ?_⟩
      · have := hclo i hS j (ho.pair j i hij hin hc)
        rw [hjfalse] at this; cases this
      · have hset : ∀ i, (listed.setIfInBounds j true).getD i false = true ↔ (listed.getD i false = true ∨ i = j) := by
          intro i
          by_cases hij : i = j
          · subst hij; simp [Array.getD, hjl]
          · rw [getD_set_ne false (Ne.symm hij)]; simp [hij]
        have hfun : (fun i => listed.getD i false = true ∨ i = j) = (fun i => (listed.setIfInBounds j true).getD i false = true) := by
          funext i; exact propext (hset i).symm
        rw [hfun]
        refine ih _ _ (by simpa using hsz) (fun k hk i hbit => ?_) ?_
        · rw [hset] at hk ⊢
          rcases hk with hk | rfl
          · exact .inl (hclo k hk i hbit)
          · exact .inl (hpre i hbit)
        · have hsub : left os.size (listed.setIfInBounds j true) = (left os.size listed).filter (fun i => i != j) := by
            unfold left
            rw [List.filter_filter]
            refine List.filter_congr fun i _ => ?_
            by_cases hij : i = j
            · subst hij; simp [Array.getD, hjl]
            · rw [getD_set_ne true (Ne.symm hij)]; simp [hij]
          have hmem : j ∈ left os.size listed := by
            simp only [left, List.mem_filter, List.mem_range, hjn, true_and]
            simp [hjf]
          have : ((left os.size listed).filter (fun i => i != j)).length < (left os.size listed).length := by
            rw [List.length_filter_lt_length_iff_exists]
            exact ⟨j, hmem, by simp⟩
          rw [hsub]; omega

theorem sched_draw {ds : List DOper} {os : Array Oper} (h : drawOk ds os = true) (hl : ds.length = os.size) (t : Nat) : Sched ds (fun _ => False) (Region.linearise .any os t) := by
  have hrep : ∀ i, (Array.replicate os.size false).getD i false = false := by
    intro i; simp only [Array.getD_eq_getD_getElem?, Array.getElem?_replicate]; split <;> rfl
  have := sched_go (ord_of h hl) os.size t (Array.replicate os.size false) (by simp) (fun j hj => by rw [hrep] at hj; cases hj) (by
    unfold left; exact Nat.le_trans (List.length_filter_le _ _) (by simp))
  have he : (fun _ : Nat => False) = (fun i => (Array.replicate os.size false).getD i false = true) := by
    funext i; rw [hrep]; exact propext ⟨fun h => h.elim, fun h => by cases h⟩
  rw [he]
  exact this

end Go.Dn
