/-
  Regions, part 4: the orders that a region may draw.
-/
import Derived.Test.YtdjbpmgbaggfbaaDoorDb
import Derived.ChangeSame
import Derived.ProofKit
import Derived.WideKeyArgs
import Derived.Carry
import Derived.OpenShut
set_option linter.unusedSimpArgs false
set_option linter.unusedVariables false

namespace Go.Dn
open Region

theorem push_low {α : Type} (g : Array Nat → α → Nat) : ∀ (l : List α) (acc : Array Nat) (i : Nat), i < acc.size → (l.foldl (fun acc o => acc.push (g acc o)) acc)[i]? = acc[i]?
  | [], acc, i, h => rfl
  | o :: l, acc, i, h => by
    simp only [List.foldl_cons]
    rw [push_low g l (acc.push (g acc o)) i (by simp; omega), Array.getElem?_push, if_neg (by omega)]

theorem push_at {α : Type} (g : Array Nat → α → Nat) : ∀ (l : List α) (acc : Array Nat) (k : Nat) (o : α), l[k]? = some o →
    ∃ acc' : Array Nat, acc'.size = acc.size + k ∧ (l.foldl (fun acc o => acc.push (g acc o)) acc)[acc.size + k]? = some (g acc' o) ∧ ∀ i, i < acc'.size → acc'[i]? = (l.foldl (fun acc o => acc.push (g acc o)) acc)[i]?
  | [], acc, k, o, h => by simp at h
  | a :: l, acc, 0, o, h => by
    simp at h; subst h
    refine ⟨acc, rfl, ?_, fun i hi => ?_⟩
    · simp only [List.foldl_cons, Nat.add_zero]
      rw [push_low g l _ _ (by simp)]
      simp
    · exact (push_low g (a :: l) acc i hi).symm
  | a :: l, acc, k + 1, o, h => by
    obtain ⟨acc', h1, h2, h3⟩ := push_at g l (acc.push (g acc a)) k o (by simpa using h)
    simp only [Array.size_push] at h1 h2
    refine ⟨acc', by omega, ?_, h3⟩
    rw [show acc.size + (k + 1) = acc.size + 1 + k by omega]
    exact h2

def oneB (acc : Array Nat) (o : Oper) : Nat := o.after.foldl (fun s e => if binds .any e then s ||| 2 ^ e.on ||| acc.getD e.on 0 else s) 0

theorem oneB_bits (acc : Array Nat) (i : Nat) : ∀ (l : List Edge) (s : Nat), (l.foldl (fun s e => if binds .any e then s ||| 2 ^ e.on ||| acc.getD e.on 0 else s) s).testBit i = true →
    s.testBit i = true ∨ ∃ e, e ∈ l ∧ binds .any e = true ∧ (i = e.on ∨ (acc.getD e.on 0).testBit i = true)
  | [], s, h => .inl h
  | e :: l, s, h => by
    simp only [List.foldl_cons] at h
    rcases oneB_bits acc i l _ h with h1 | ⟨x, hx, h2⟩
    · split at h1
      · rename_i hb
        rw [Nat.testBit_or, Nat.testBit_or, Bool.or_eq_true, Bool.or_eq_true] at h1
        rcases h1 with (h1 | h1) | h1
        · exact .inl h1
        · rw [Nat.testBit_two_pow] at h1
          exact .inr ⟨e, by simp, hb, .inl (by simp at h1; exact h1.symm)⟩
        · exact .inr ⟨e, by simp, hb, .inr h1⟩
      · exact .inl h1
    · exact .inr ⟨x, by simp [hx], h2⟩

theorem before_bits {os : Array Oper} {j i : Nat} {o : Oper} (ho : os[j]? = some o) (h : ((before os).getD j 0).testBit i = true) (hlt : ∀ e, e ∈ o.after → binds .any e = true → e.on < j) :
    ∃ e, e ∈ o.after ∧ binds .any e = true ∧ (i = e.on ∨ ((before os).getD e.on 0).testBit i = true) := by
  have hb : before os = os.toList.foldl (fun acc o => acc.push (oneB acc o)) #[] := by
    unfold before oneB
    rw [← Array.foldl_toList]
  obtain ⟨acc', h1, h2, h3⟩ := push_at oneB os.toList #[] j o (by simpa using ho)
  simp only [List.size_toArray, List.length_nil, Nat.zero_add] at h1 h2
  rw [← hb] at h2 h3
  rw [Array.getD_eq_getD_getElem?, h2] at h
  simp only [Option.getD_some, oneB] at h
  rw [← Array.foldl_toList] at h
  rcases oneB_bits acc' i _ _ h with h4 | ⟨e, he, hbd, h5⟩
  · simp at h4
  · refine ⟨e, by simpa using he, hbd, h5.imp id fun h6 => ?_⟩
    rw [Array.getD_eq_getD_getElem?, h3 e.on (by have := hlt e (by simpa using he) hbd; omega)] at h6
    rw [Array.getD_eq_getD_getElem?]; exact h6

theorem conflAll_get (y : DOper) (m : Nat) : ∀ (l : List DOper) (i0 i : Nat), conflAll y m l i0 = true → i < l.length → confl (D l i) y = true → m.testBit (i0 + i) = true
  | [], i0, i, h, hi, _ => by simp at hi
  | x :: l, i0, i, h, hi, hc => by
    simp only [conflAll, Bool.and_eq_true, Bool.or_eq_true, Bool.not_eq_true'] at h
    cases i with
    | zero =>
      rcases h.1 with h1 | h1
      · have : confl x y = true := by simpa [D] using hc
        rw [this] at h1; cases h1
      · exact h1
    | succ i =>
      have := conflAll_get y m l (i0 + 1) i h.2 (by simpa using hi) (by simpa [D] using hc)
      rw [show i0 + (i + 1) = i0 + 1 + i by omega]; exact this

theorem pairsOk_get {b : Array Nat} {ds : List DOper} : ∀ (l : List DOper) (j0 j : Nat), pairsOk b ds j0 l = true → j < l.length → conflAll (D l j) (b.getD (j0 + j) 0) (ds.take (j0 + j)) 0 = true
  | [], j0, j, h, hj => by simp at hj
  | y :: l, j0, j, h, hj => by
    simp only [pairsOk, Bool.and_eq_true] at h
    cases j with
    | zero => simpa [D] using h.1
    | succ j =>
      have := pairsOk_get l (j0 + 1) j h.2 (by simpa using hj)
      rw [show j0 + (j + 1) = j0 + 1 + j by omega]
      simpa [D] using this

structure Ord (ds : List DOper) (fr : List (Nat × Nat)) (os : Array Oper) : Prop where
  len : ds.length = os.size
  low : ∀ j o, os[j]? = some o → ∀ e, e ∈ o.after → binds .any e = true → e.on < j
  pair : ∀ i j, i < j → j < ds.length → cf ds fr i j = true → ((before os).getD j 0).testBit i = true

theorem ord_of {ds : List DOper} {os : Array Oper} (h : drawOk ds os = true) (hl : ds.length = os.size) : Ord ds [] os := by
  simp only [drawOk, Bool.and_eq_true, List.all_eq_true, Bool.or_eq_true, Bool.not_eq_true', decide_eq_true_eq] at h
  refine ⟨hl, fun j o ho e he hb => ?_, fun i j hij hj hc => ?_⟩
  · have hm : (o, j) ∈ os.toList.zipIdx := by
      rw [List.mem_zipIdx_iff_getElem?]; simpa using ho
    have := h.1 (o, j) hm e (by simpa using he)
    rcases this with h1 | h1
    · rw [hb] at h1; cases h1
    · exact h1
  · have h1 := pairsOk_get ds 0 j h.2 hj
    rw [Nat.zero_add] at h1
    have hc' : confl (D ds i) (D ds j) = true := by unfold cf at hc; rw [Bool.and_eq_true] at hc; exact hc.1
    have h2 := conflAll_get (D ds j) _ _ 0 i h1 (by simp; omega) (by
      have : D (ds.take j) i = D ds i := by simp [D, List.getElem?_take, hij]
      rw [this]; exact hc')
    rwa [Nat.zero_add] at h2

theorem cfAll_get {ds : List DOper} {fr : List (Nat × Nat)} {j m : Nat} : ∀ (n i : Nat), cfAll ds fr j m n = true → i < n → cf ds fr i j = true → m.testBit i = true
  | 0, i, _, hi, _ => by omega
  | n + 1, i, h, hi, hc => by
    simp only [cfAll, Bool.and_eq_true, Bool.or_eq_true, Bool.not_eq_true'] at h
    by_cases he : i = n
    · subst he
      rcases h.1 with h1 | h1
      · rw [hc] at h1; cases h1
      · exact h1
    · exact cfAll_get n i h.2 (by omega) hc

theorem cfPairs_get {b : Array Nat} {ds : List DOper} {fr : List (Nat × Nat)} : ∀ (n j : Nat), cfPairs b ds fr n = true → j < n → cfAll ds fr j (b.getD j 0) j = true
  | 0, j, _, hj => by omega
  | n + 1, j, h, hj => by
    simp only [cfPairs, Bool.and_eq_true] at h
    by_cases he : j = n
    · subst he; exact h.1
    · exact cfPairs_get n j h.2 (by omega)

theorem ordF_of {ds : List DOper} {fr : List (Nat × Nat)} {os : Array Oper} (h : drawOkF ds os fr = true) (hl : ds.length = os.size) : Ord ds fr os := by
  simp only [drawOkF, Bool.and_eq_true, List.all_eq_true, Bool.or_eq_true, Bool.not_eq_true', decide_eq_true_eq] at h
  refine ⟨hl, fun j o ho e he hb => ?_, fun i j hij hj hc => cfAll_get j i (cfPairs_get _ j h.2 hj) hij hc⟩
  have hm : (o, j) ∈ os.toList.zipIdx := by
    rw [List.mem_zipIdx_iff_getElem?]; simpa using ho
  have := h.1 (o, j) hm e (by simpa using he)
  rcases this with h1 | h1
  · rw [hb] at h1; cases h1
  · exact h1

def left (n : Nat) (listed : Array Bool) : List Nat := (List.range n).filter fun i => !listed.getD i true

theorem sched_go {ds : List DOper} {fr : List (Nat × Nat)} {os : Array Oper} (ho : Ord ds fr os) : ∀ (fuel t : Nat) (listed : Array Bool), listed.size = os.size →
    (∀ j, listed.getD j false = true → ∀ i, ((before os).getD j 0).testBit i = true → listed.getD i false = true) → (left os.size listed).length ≤ fuel →
    Sched ds fr (fun i => listed.getD i false = true) (Region.linearise.go .any os fuel t listed []) := by
  have hall : ∀ listed : Array Bool, listed.size = os.size → Region.ready .any os listed = [] → ∀ i, i < os.size → listed.getD i false = true := by
    intro listed hsz hnil i
    induction i using Nat.strongRecOn with
    | _ i ih =>
      intro hi
      cases hb : listed.getD i false with
      | true => rfl
      | false =>
        exfalso
        have hm : i ∈ Region.ready .any os listed := by
          rw [mem_ready]
          refine ⟨?_, os[i], by simp [hi], fun e he hbd => ?_⟩
          · have : i < listed.size := by omega
            simpa [Array.getD, this] using hb
          · have := ho.low i os[i] (by simp [hi]) e he hbd
            exact ih e.on this (by omega)
        rw [hnil] at hm; cases hm
  intro fuel
  induction fuel with
  | zero =>
    intro t listed hsz hclo hleft
    simp only [Region.linearise.go, List.reverse_nil, Sched]
    intro i hi
    rw [ho.len] at hi
    cases hb : listed.getD i false with
    | true => rfl
    | false =>
      exfalso
      have : i ∈ left os.size listed := by
        have hl : i < listed.size := by omega
        simp only [left, List.mem_filter, List.mem_range, hi, true_and]
        simpa [Array.getD, hl] using hb
      have h0 : left os.size listed = [] := List.eq_nil_of_length_eq_zero (by omega)
      rw [h0] at this; cases this
  | succ fuel ih =>
    intro t listed hsz hclo hleft
    simp only [Region.linearise.go]
    change Sched ds fr _ (match (Region.ready .any os listed)[t % (Region.ready .any os listed).length]? with
      | some i => Region.linearise.go .any os fuel (t / (Region.ready .any os listed).length) (listed.setIfInBounds i true) [i]
      | none => [].reverse)
    cases hi : (Region.ready .any os listed)[t % (Region.ready .any os listed).length]? with
    | none =>
      have hnil : Region.ready .any os listed = [] := by
        cases hr : Region.ready .any os listed with
        | nil => rfl
        | cons x xs =>
          rw [hr] at hi
          have hlt : t % (x :: xs).length < (x :: xs).length := Nat.mod_lt _ (by simp)
          simp at hi
          simp at hlt
          omega
      simp only [List.reverse_nil, Sched]
      intro i hin
      exact hall listed hsz hnil i (by rw [← ho.len]; exact hin)
    | some j =>
      have hj := List.mem_of_getElem? hi
      rw [mem_ready] at hj
      obtain ⟨hjf, o, hoj, hedges⟩ := hj
      have hjn : j < os.size := (Array.getElem?_eq_some_iff.1 hoj).1
      have hjl : j < listed.size := by omega
      have hjfalse : listed.getD j false = false := by simpa [Array.getD, hjl] using hjf
      have hpre : ∀ i, ((before os).getD j 0).testBit i = true → listed.getD i false = true := by
        intro i hbit
        obtain ⟨e, he, hbd, h1⟩ := before_bits hoj hbit (ho.low j o hoj)
        have hle := hedges e he hbd
        rcases h1 with rfl | h1
        · exact hle
        · exact hclo e.on hle i h1
      simp only []
      rw [linearise_go_acc, List.reverse_singleton, List.singleton_append]
      refine ⟨⟨by rw [ho.len]; exact hjn, by rw [hjfalse]; exact Bool.false_ne_true, fun i hij hc => hpre i (ho.pair i j hij (by rw [ho.len]; exact hjn) hc), fun i hij hin hc hS => ?_⟩, ?_⟩
      · have := hclo i hS j (ho.pair j i hij hin hc)
        rw [hjfalse] at this; cases this
      · have hset : ∀ i, (listed.setIfInBounds j true).getD i false = true ↔ (listed.getD i false = true ∨ i = j) := by
          intro i
          by_cases hij : i = j
          · subst hij; simp [Array.getD, hjl]
          · rw [getD_set_ne false (Ne.symm hij)]; simp [hij]
        have hfun : (fun i => listed.getD i false = true ∨ i = j) = (fun i => (listed.setIfInBounds j true).getD i false = true) := by
          funext i; exact propext (hset i).symm
        rw [hfun]
        refine ih _ _ (by simpa using hsz) (fun k hk i hbit => ?_) ?_
        · rw [hset] at hk ⊢
          rcases hk with hk | rfl
          · exact .inl (hclo k hk i hbit)
          · exact .inl (hpre i hbit)
        · have hsub : left os.size (listed.setIfInBounds j true) = (left os.size listed).filter (fun i => i != j) := by
            unfold left
            rw [List.filter_filter]
            refine List.filter_congr fun i _ => ?_
            by_cases hij : i = j
            · subst hij; simp [Array.getD, hjl]
            · rw [getD_set_ne true (Ne.symm hij)]; simp [hij]
          have hmem : j ∈ left os.size listed := by
            simp only [left, List.mem_filter, List.mem_range, hjn, true_and]
            simp [hjf]
          have : ((left os.size listed).filter (fun i => i != j)).length < (left os.size listed).length := by
            rw [List.length_filter_lt_length_iff_exists]
            exact ⟨j, hmem, by simp⟩
          rw [hsub]; omega

theorem sched_ord {ds : List DOper} {fr : List (Nat × Nat)} {os : Array Oper} (h : Ord ds fr os) (t : Nat) : Sched ds fr (fun _ => False) (Region.linearise .any os t) := by
  have hrep : ∀ i, (Array.replicate os.size false).getD i false = false := by
    intro i; simp only [Array.getD_eq_getD_getElem?, Array.getElem?_replicate]; split <;> rfl
  have := sched_go h os.size t (Array.replicate os.size false) (by simp) (fun j hj => by rw [hrep] at hj; cases hj) (by
    unfold left; exact Nat.le_trans (List.length_filter_le _ _) (by simp))
  have he : (fun _ : Nat => False) = (fun i => (Array.replicate os.size false).getD i false = true) := by
    funext i; rw [hrep]; exact propext ⟨fun h => h.elim, fun h => by cases h⟩
  rw [he]
  exact this

theorem sched_draw {ds : List DOper} {os : Array Oper} (h : drawOk ds os = true) (hl : ds.length = os.size) (t : Nat) : Sched ds [] (fun _ => False) (Region.linearise .any os t) := sched_ord (ord_of h hl) t

theorem sched_drawF {ds : List DOper} {fr : List (Nat × Nat)} {os : Array Oper} (h : drawOkF ds os fr = true) (hl : ds.length = os.size) (t : Nat) : Sched ds fr (fun _ => False) (Region.linearise .any os t) := sched_ord (ordF_of h hl) t

theorem Sched.more {ds : List DOper} {fr : List (Nat × Nat)} : ∀ {l : List Nat} {S : Nat → Prop}, Sched ds [] S l → Sched ds fr S l
  | [], S, h => h
  | j :: l, S, h => by
    have hcf : ∀ {i k}, cf ds fr i k = true → cf ds [] i k = true := by
      intro i k hc
      unfold cf at hc ⊢
      rw [Bool.and_eq_true] at hc
      simp [hc.1]
      exact hc.1
    exact ⟨⟨h.1.lt, h.1.new, fun i hij hc => h.1.bef i hij (hcf hc), fun i hij hin hc => h.1.aft i hij hin (hcf hc)⟩, Sched.more h.2⟩

end Go.Dn

/-
  The evaluator's code: sound. Then its limit.
-/

namespace Go.Dn

variable {P : Program} {pg : Pg} {Gz : Nat}

def Done (P : Program) (pg : Pg) (B W0 : Nat) (N : Nat) (b : Frame) (tm : Array Value) (c : List Item) (k : List Item) (ds : List Deferred) (cs : List Frame) (π : PMap) (H : Heap) (w : World) (av ex : Nat → Prop) (out : Out) : Prop :=
  ∃ tm' td ds' w' π' av', Steps P (lone (fr b tm c ds) cs w) (lone (fr b tm' td ds') cs w') ∧ tm'.size = N ∧ ExTo out.ex k td ∧ ERel π' w' av' ex out.env tm' ∧ DefOk W0 w' av' ds' ∧
      Res P B (wrK B av true) π H w av ex out.H w' π' av'

theorem exitTo_skip {id : Nat} {i : Item} {k : List Item} (h : ∀ id', i ≠ .inBlock id') : exitTo id (i :: k) = exitTo id k := by
  cases i <;> first | rfl | exact absurd rfl (h _)

theorem exitTo_block {id id' : Nat} {k : List Item} : exitTo id (.inBlock id' :: k) = if id' = id then some k else exitTo id k := by
  simp only [exitTo]
  by_cases h : id' = id <;> simp [h]

section
variable {B W0 N : Nat} {b : Frame} {ds : List Deferred} {cs : List Frame} {ex : Nat → Prop}

theorem ExTo.under {x : Ex} {i : Item} {k td : List Item} (hx : x ≠ .normal) (hi : ∀ id', i ≠ .inBlock id') (h : ExTo x (i :: k) td) : ExTo x k td := by
  cases x with
  | normal => exact absurd rfl hx
  | exit id => obtain ⟨K, rfl, h⟩ := h; exact ⟨K, rfl, by rw [h, exitTo_skip hi]⟩
  | ret => exact h

theorem rfunc_enter {tm : Array Value} {k : List Item} {w : World} {f : Operand} {params : Array Tmp} {as bd : Code} {l : Nat} {mark : List Deferred} {w1 : World} {nx : Next} {frm : Frame}
    (h1 : (Instr.enterLoop b.fn tm params as bd b.roundOf).run P w = .ok (l, mark) w1) (h2 : (invokeS (ev tm f) #[.func (.yield l) #[] #[]]).run P w1 = .ok nx w1) (h3 : callee P nx = some frm) :
    step P (lone (fr b tm (.code (.rangeFunc f params as bd) :: k) ds) cs w) = .next (lone frm (fr b tm (.inRangeFunc l :: k) (mark ++ ds) :: cs) w1) := by
  refine step_lone_go ?_
  have he : ∀ td dd, (fr b tm td dd).eval f = ev tm f := fun td dd => fr_eval (b := b) (tm := tm) (ds := dd) f td
  have hres : (do let d ← resolve (fr b tm (.inRangeFunc l :: k) (mark ++ ds)).eval { callee := .value f, args := #[.const (.func (.yield l) #[] #[])], argTypes := #[] } 0; invoke d.target d.args : Sem Next) = invokeS (ev tm f) #[.func (.yield l) #[] #[]] := by
    simp only [resolve, he, invokeS]
    simp [Frame.eval]
  simp only [fr] at hres
  simp only [stepG, stepG.exec, fr]
  simp [h1, hres, stepG.apply]
  rw [h2]
  cases nx <;> simp only [callee] at h3 <;> (try (cases h3; done)) <;> (injection h3 with h3; subst h3; rfl)

theorem st_endRange {tm : Array Value} {k : List Item} {w : World} {l : Nat} {r : Loop} (h : w.heap[l]? = some (.loop r)) (hst : r.state ≠ .busy) :
    step P (lone (fr b tm (.endRangeFunc l :: k) ds) cs w) = .next (lone (fr b tm ((r.pending.map Item.code).toList ++ k) ds) cs (setL w l { r with state := .exhausted })) := by
  refine step_lone_go ?_
  have h1 : (Instr.endLoop l).run P w = .ok r.pending (setL w l { r with state := .exhausted }) := by
    cases hs : r.state <;> simp [hs] at hst <;> simp [Instr.endLoop, Instr.getLoop, getObj, setObj, Sem.run, h, hs, setL]
  simp [stepG, stepG.exec, fr, h1]

theorem Steps.tail {m m1 m' : Machine} (h : Steps P m m') (hs : step P m = .next m1) (hne : m ≠ m') : Steps P m1 m' := by
  obtain ⟨n, hn⟩ := h
  cases n with
  | zero => simp [runN] at hn; exact absurd hn hne
  | succ n => exact ⟨n, by simpa [runN, hs] using hn⟩

end
end Go.Dn

/-
  The evaluator's code: sound, part 2.
-/

namespace Go.Dn

variable {P : Program} {pg : Pg} {Gz : Nat}

section
variable {B W0 N : Nat} {b : Frame} {ds : List Deferred} {cs : List Frame} {π : PMap} {H : Heap} {w : World} {av ex : Nat → Prop}

theorem Res.alloc (W : Bool) (h : HRel P B π H w av ex) (ob : Obj) : Res P B (wrK B av W) π H w av ex H (w.alloc ob) π av :=
  ⟨Ev.alloc _ _ _ _ _, h.alloc ob, fun _ x => absurd rfl x, fun _ x => x, Nat.le_refl _, fun _ _ _ x => absurd rfl x⟩

theorem St.alloc (hs : St P pg Gz B π H w av ex) (ob : Obj) : St P pg Gz B π H (w.alloc ob) av ex := hs.nextK (Res.alloc true hs.hr ob)

theorem enter_sound {tm : Array Value} {ks : List Nat} {e : Env} {ps : List Nat} {x y : DC} {params : Array Tmp} {a c : Code} (hs : St P pg Gz B π H w av ex) (he : ERel π w av ex e tm) (hb : RoundOk b w) (hd : DefOk W0 w av ds) (hW : W0 ≤ w.heap.size)
    (hp : ps = params.toList) (hps : (ps.all (· < tm.size)) = true) (hx : chkC P tm.size x a = true) (hy : chkC P tm.size y c = true) :
    ∃ l mark w1 π1 av1, (Instr.enterLoop b.fn tm params a c b.roundOf).run P w = .ok (l, mark) w1 ∧ DefOk W0 w1 av1 (mark ++ ds) ∧ π1 H.length = some (l, 0) ∧
      Res P B (wrK B av true) π H w av ex (H ++ [.loop { env := keepE ks e, params := ps, assign := x, body := y, st := .ready, pend := none }]) w1 π1 av1 := by
  have key : ∀ (df : Nat) (w0 : World), St P pg Gz B π H w0 av ex → ERel π w0 av ex e tm → Res P B (wrK B av true) π H w av ex H w0 π av →
      ∃ π1 av1, π1 H.length = some (w0.heap.size, 0) ∧ Ev (wrK B av true) π w0 av π1 (w0.alloc (.loop { state := .ready, pending := none, fn := b.fn, tmps := tm, params := params, assign := a, body := c, defers := df })) av1 ∧ Res P B (wrK B av true) π H w av ex (H ++ [.loop { env := keepE ks e, params := ps, assign := x, body := y, st := .ready, pend := none }])
        (w0.alloc (.loop { state := .ready, pending := none, fn := b.fn, tmps := tm, params := params, assign := a, body := c, defers := df })) π1 av1 := by
    intro df w0 hs0 he0 hr0
    have := Res.new (P := P) (wrK B av true) hs0.hr (hs0.dom _ (Nat.le_refl _)) (.loop { state := .ready, pending := none, fn := b.fn, tmps := tm, params := params, assign := a, body := c, defers := df }) (.loop { env := keepE ks e, params := ps, assign := x, body := y, st := .ready, pend := none }) (by simp)
      (fun π' w' av' e' => by
        simp only [ORel]
        exact ⟨trivial, trivial, trivial, (he0.mono e' (fun _ _ x => x.elim)).keep ks, hp.symm, hps, hx, hy⟩)
    exact ⟨_, _, PMap.add_self _ _ _, this.ev, Res.trans (W := true) hr0 this⟩
  obtain ⟨rs, hds, hnd, hrs⟩ := hd
  cases hr : b.roundOf with
  | none =>
    have h0 := Res.alloc true hs.hr (.deferred (some []))
    obtain ⟨π1, av1, h1, h2, h3⟩ := key w.heap.size (w.alloc (.deferred (some []))) (hs.alloc _) (he.mono h0.ev (wrK_av true)) h0
    refine ⟨_, [mkD w.heap.size], _, π1, av1, ?_, ?_, h1, h3⟩
    · simp [Instr.enterLoop, mkD]
    · refine ⟨w.heap.size :: rs, by simp [hds, mkD], List.nodup_cons.2 ⟨fun hm => ?_, hnd⟩, ?_⟩
      · have := (Array.getElem?_eq_some_iff.1 (hrs _ hm).2.2).1; omega
      · intro r hm
        simp only [List.mem_cons] at hm
        rcases hm with rfl | hm
        · refine ⟨hW, fun hx => ?_, ?_⟩
          · have := hs.hr.avb _ (h2.sub _ (by simp) hx); omega
          · rw [heap_push_lt _ _ (by simp), heap_push_eq]
        · obtain ⟨c1, c2, c3⟩ := hrs r hm
          have hlt := (Array.getElem?_eq_some_iff.1 c3).1
          refine ⟨c1, fun hx => c2 (h2.sub r (by simp; omega) hx), ?_⟩
          rw [heap_push_lt _ _ (by simp; omega), heap_push_lt _ _ hlt, c3]
  | some l0 =>
    obtain ⟨r0, hr0⟩ := hb l0 hr
    obtain ⟨π1, av1, h1, h2, h3⟩ := key r0.defers w hs he (Res.same _ hs.hr)
    refine ⟨_, [], _, π1, av1, ?_, ?_, h1, h3⟩
    · simp [Instr.enterLoop, Instr.getLoop, getObj, Sem.run, hr0]
    · refine ⟨rs, by simpa using hds, hnd, fun r hm => ?_⟩
      obtain ⟨c1, c2, c3⟩ := hrs r hm
      have hlt := (Array.getElem?_eq_some_iff.1 c3).1
      exact ⟨c1, fun hx => c2 (h2.sub r hlt hx), by rw [heap_push_lt _ _ hlt, c3]⟩

theorem rfunc_sound {R : Rec} (hR : CodeOk P pg Gz R) (hF : FnsOk P pg) {tm : Array Value} {f : Opnd} {ps ks : List Nat} {x y : DC} {e : Env} {out : Out} {f' : Operand} {params : Array Tmp} {a c : Code} {k : List Item} (h : runC pg R (.rfunc f ps x y ks) e H = some out)
    (hc : chkC P N (.rfunc f ps x y ks) (.rangeFunc f' params a c) = true) (hs : St P pg Gz B π H w av ex) (he : ERel π w av ex e tm) (hsz : tm.size = N) (hb : RoundOk b w) (hd : DefOk W0 w av ds) (hW : W0 ≤ w.heap.size) :
    Done P pg B W0 N b tm (.code (.rangeFunc f' params a c) :: k) k ds cs π H w av ex out := by
  subst hsz
  simp only [chkC, Bool.and_eq_true, beq_iff_eq] at hc
  obtain ⟨⟨⟨⟨hf, hp⟩, hps⟩, hx⟩, hy⟩ := hc
  simp only [runC, Option.bind_eq_some_iff] at h
  obtain ⟨fv, hfv, ⟨t, H2⟩, hcall, h⟩ := h
  have hfr := evalO_sound hs.toSt0 he hf hfv
  obtain ⟨l, mark, w1, π1, av1, h1, hd1, hl, hr1⟩ := enter_sound (ks := ks) (b := b) hs he hb hd hW hp hps hx hy
  have hs1 := hs.nextK hr1
  have hfr1 := hfr.mono hr1.ev (wrK_av true)
  obtain ⟨nx, frm, h2, h3, h4⟩ := call_sh hR hF hcall hs1 hfr1 (us := #[.func (.yield l) #[] #[]]) (.cons _ _ _ _ (.yl _ _ hl) .nil)
  obtain ⟨v, w2, π2, av2, hst2, _, hr2⟩ := h4 (fr b tm (.inRangeFunc l :: k) (mark ++ ds)) cs
  have hs2 := hs1.nextK hr2
  have hl2 := hr2.ev.map _ _ hl
  simp only at h
  split at h <;> try (cases h; done)
  rename_i L hL
  split at h <;> try (cases h; done)
  rename_i hnb
  injection h with h
  subst h
  obtain ⟨r, hg, ho, hav, hB⟩ := loop_at hs2 hl2 hL
  have ho' := ho
  simp only [ORel] at ho
  obtain ⟨_, hst0, hpend, henv, hpar, hpall, hca, hcb⟩ := ho
  have hr3 := Res.setLoop (L' := { L with st := .exhausted }) (r' := { r with state := .exhausted }) hs2 hl2 hL hg (by
    simp only [ORel]; exact ⟨trivial, trivial, hpend, henv, hpar, hpall, hca, hcb⟩)
  have hstep3 := st_endRange (P := P) (b := b) (ds := mark ++ ds) (cs := cs) (tm := tm) (k := k) hg (by rw [hst0]; exact hnb)
  have hr12 := Res.trans (W := true) hr1 hr2
  have hr13 := Res.trans (W := true) hr12 hr3
  refine ⟨tm, (r.pending.map Item.code).toList ++ k, mark ++ ds, _, π2, av2, .head (rfunc_enter h1 h2 h3) (hst2.trans (.one hstep3)), rfl, ?_, ?_, (hd1.next hr2.ev).next hr3.ev, hr13⟩
  · cases hpd : L.pend with
    | none =>
      rw [hpd] at hpend
      cases hq : r.pending with
      | none => simp [ExTo]
      | some j => rw [hq] at hpend; simp [PendRel] at hpend
    | some p =>
      rw [hpd] at hpend
      cases hq : r.pending with
      | none => rw [hq] at hpend; cases p <;> simp [PendRel] at hpend
      | some j =>
        rw [hq] at hpend
        cases p <;> cases j <;> simp only [PendRel] at hpend
        · subst hpend; exact ⟨k, rfl, rfl⟩
        · exact ⟨k, rfl⟩
  · exact (he.mono hr13.ev (wrK_av true)).keep ks

theorem Done.of_steps {tm : Array Value} {c c' k : List Item} {out : Out} (hst : Steps P (lone (fr b tm c ds) cs w) (lone (fr b tm c' ds) cs w)) (h : Done P pg B W0 N b tm c' k ds cs π H w av ex out) : Done P pg B W0 N b tm c k ds cs π H w av ex out := by
  obtain ⟨tm', td, ds', w', π', av', h1, h2⟩ := h
  exact ⟨tm', td, ds', w', π', av', hst.trans h1, h2⟩

theorem Done.bind {tm tm' : Array Value} {c k c' : List Item} {ds' : List Deferred} {w' : World} {π' : PMap} {av' : Nat → Prop} {H' : Heap} {out : Out} (h1 : Steps P (lone (fr b tm c ds) cs w) (lone (fr b tm' c' ds') cs w')) (hr : Res P B (wrK B av true) π H w av ex H' w' π' av')
    (h : Done P pg B W0 N b tm' c' k ds' cs π' H' w' av' ex out) : Done P pg B W0 N b tm c k ds cs π H w av ex out := by
  obtain ⟨tm2, td, ds2, w2, π2, av2, k1, k2, k3, k4, k5, k6⟩ := h
  exact ⟨tm2, td, ds2, w2, π2, av2, h1.trans k1, k2, k3, k4, k5, Res.trans (W := true) hr k6⟩

theorem Done.stop {tm : Array Value} {c : List Item} {k : List Item} {x : Ex} {e : Env} (hx : ExTo x k c) (hs : St P pg Gz B π H w av ex) (he : ERel π w av ex e tm) (hsz : tm.size = N) (hd : DefOk W0 w av ds) : Done P pg B W0 N b tm c k ds cs π H w av ex ⟨x, e, H⟩ :=
  ⟨tm, c, ds, w, π, av, Steps.refl _ _, hsz, hx, he, hd, Res.same _ hs.hr⟩
end

theorem runC_sound {R : Rec} (hm : P.follows .mixedOrders = true) (hR : CodeOk P pg Gz R) (hF : FnsOk P pg) (hS : SumOk P pg Gz) : CodeOk P pg Gz (runC pg R) := by
  intro dc
  have main : ∀ e H out, runC pg R dc e H = some out → ∀ N c, chkC P N dc c = true →
      ∀ (b : Frame) (tm : Array Value) (k : List Item) (ds : List Deferred) (cs : List Frame) (w : World) (π : PMap) (av ex : Nat → Prop) (B W0 : Nat), St P pg Gz B π H w av ex → ERel π w av ex e tm → tm.size = N → RoundOk b w → DefOk W0 w av ds → W0 ≤ w.heap.size →
        Done P pg B W0 N b tm (.code c :: k) k ds cs π H w av ex out := by
    induction dc with
    | skip =>
      intro e H out h N c hc b tm k ds cs w π av ex B W0 hs he hsz hb hd hW
      simp only [runC, Option.some.injEq] at h
      subst h
      cases c <;> simp only [chkC, Bool.false_eq_true] at hc
      · exact Done.of_steps (.one st_skip) (Done.stop (x := .normal) rfl hs he hsz hd)
      · exact Done.of_steps (.one st_label) (Done.stop (x := .normal) rfl hs he hsz hd)
    | reg ops ks =>
      intro e H out h N c hc b tm k ds cs w π av ex B W0 hs he hsz hb hd hW
      simp only [runC, Option.map_eq_some_iff] at h
      obtain ⟨⟨e', H'⟩, h, rfl⟩ := h
      cases c <;> simp only [chkC, Bool.false_eq_true] at hc
      rename_i id os draw
      simp only [Bool.and_eq_true, Bool.or_eq_true, Bool.not_eq_true'] at hc
      obtain ⟨hco, hdr⟩ := hc
      have hlen : ops.length = os.size := by simpa using (chkOpers_get hco).1
      cases draw with
      | false =>
        obtain ⟨tm', w', π', av', h1, h2, h3, h4⟩ := region_sound h hs he hsz hR hF hS hco (sched_text ops) b k ds cs
        rw [hlen] at h1
        exact ⟨tm', k, ds, w', π', av', .head st_region h1, h2, rfl, h3.keep ks, hd.next h4.ev, h4⟩
      | true =>
        have hdr' : drawOk ops os = true := by rcases hdr with x | x <;> first | cases x | exact x
        have h0 := Res.drawn (P := P) (B := B) (wrK B av true) hs.hr (w.drawn + 1)
        have hs0 := hs.nextK h0
        obtain ⟨tm', w', π', av', h1, h2, h3, h4⟩ := region_sound h hs0 (he.mono h0.ev (wrK_av true)) hsz hR hF hS hco (sched_draw hdr' hlen (w.tape w.drawn (.order b.fn id))) b k ds cs
        have h5 := Res.trans (W := true) h0 h4
        refine ⟨tm', k, ds, w', π', av', .head st_region_draw ?_, h2, rfl, h3.keep ks, hd.next h5.ev, h5⟩
        simp only [Region.schedule, hm, Bool.true_or, if_true]
        exact h1
    | regd ops ks fr =>
      intro e H out h N c hc b tm k ds cs w π av ex B W0 hs he hsz hb hd hW
      simp only [runC, Option.bind_eq_some_iff] at h
      obtain ⟨⟨e', hh, H'⟩, h, h2⟩ := h
      split at h2 <;> try (cases h2; done)
      rename_i hfr
      simp only [Option.some.injEq] at h2
      subst h2
      cases c <;> simp only [chkC, Bool.false_eq_true] at hc
      rename_i id os draw
      simp only [Bool.and_eq_true, Bool.or_eq_true, Bool.not_eq_true', List.all_eq_true] at hc
      obtain ⟨⟨hco, hf0⟩, hdr⟩ := hc
      have hf : FrS ops fr := hf0
      have hlen : ops.length = os.size := by simpa using (chkOpers_get hco).1
      obtain ⟨E, Hh, V, ht, rfl, rfl, rfl, rfl, hhs⟩ := opsTr_trace h
      have hD := frOk_D hf ht hhs hfr
      cases draw with
      | false =>
        obtain ⟨tm', w', π', av', h1, h2, h3, h4⟩ := region_trace hf hD ht hs he hsz hR hF hS hco (sched_text ops).more b k ds cs
        rw [hlen] at h1
        exact ⟨tm', k, ds, w', π', av', .head st_region h1, h2, rfl, h3.keep ks, hd.next h4.ev, h4⟩
      | true =>
        have hdr' : drawOkF ops os fr = true := by rcases hdr with x | x <;> first | cases x | exact x
        have h0 := Res.drawn (P := P) (B := B) (wrK B av true) hs.hr (w.drawn + 1)
        have hs0 := hs.nextK h0
        obtain ⟨tm', w', π', av', h1, h2, h3, h4⟩ := region_trace hf hD ht hs0 (he.mono h0.ev (wrK_av true)) hsz hR hF hS hco (sched_drawF hdr' hlen (w.tape w.drawn (.order b.fn id))) b k ds cs
        have h5 := Res.trans (W := true) h0 h4
        refine ⟨tm', k, ds, w', π', av', .head st_region_draw ?_, h2, rfl, h3.keep ks, hd.next h5.ev, h5⟩
        simp only [Region.schedule, hm, Bool.true_or, if_true]
        exact h1
    | seq x y ihx ihy =>
      intro e H out h N c hc b tm k ds cs w π av ex B W0 hs he hsz hb hd hW
      simp only [runC, Option.bind_eq_some_iff] at h
      obtain ⟨o, ho, h⟩ := h
      cases c <;> simp only [chkC, Bool.false_eq_true, Bool.and_eq_true] at hc
      rename_i c1 c2
      obtain ⟨tm', td, ds', w', π', av', h1, h2, h3, h4, h5, h6⟩ := ihx _ _ _ ho N c1 hc.1 b tm (.code c2 :: k) ds cs w π av ex B W0 hs he hsz hb hd hW
      refine Done.of_steps (.one st_seq) ?_
      split at h
      · rename_i hn
        rw [hn] at h3
        have : td = .code c2 :: k := h3
        subst this
        exact Done.bind h1 h6 (ihy _ _ _ h N c2 hc.2 b tm' k ds' cs w' π' av' ex B W0 (hs.nextK h6) h4 h2 (hb.next h6.ev) h5 (Nat.le_trans hW h6.ev.len))
      · rename_i hn
        injection h with h
        subst h
        exact ⟨tm', td, ds', w', π', av', h1, h2, h3.under hn (by simp), h4, h5, h6⟩
    | cond cd x y ihx ihy =>
      intro e H out h N c hc b tm k ds cs w π av ex B W0 hs he hsz hb hd hW
      simp only [runC] at h
      cases c <;> simp only [chkC, Bool.false_eq_true, Bool.and_eq_true] at hc
      rename_i cd' c1 c2
      split at h <;> try (cases h; done)
      rename_i t ht
      have hv := (evalO_sound hs.toSt0 he hc.1.1 ht).b_inv
      refine Done.of_steps (.one (st_cond hv)) ?_
      split at h
      · rename_i htt
        simp only [htt, if_true]
        exact ihx _ _ _ h N c1 hc.1.2 b tm k ds cs w π av ex B W0 hs he hsz hb hd hW
      · rename_i htt
        rw [if_neg htt]
        exact ihy _ _ _ h N c2 hc.2 b tm k ds cs w π av ex B W0 hs he hsz hb hd hW
    | block id x ih =>
      intro e H out h N c hc b tm k ds cs w π av ex B W0 hs he hsz hb hd hW
      simp only [runC, Option.map_eq_some_iff] at h
      obtain ⟨o, ho, h⟩ := h
      cases c <;> simp only [chkC, Bool.false_eq_true, Bool.and_eq_true, beq_iff_eq] at hc
      rename_i id' c1
      obtain ⟨rfl, hc⟩ := hc
      obtain ⟨tm', td, ds', w', π', av', h1, h2, h3, h4, h5, h6⟩ := ih _ _ _ ho N c1 hc b tm (.inBlock id :: k) ds cs w π av ex B W0 hs he hsz hb hd hW
      refine Done.of_steps (.one st_block) ?_
      cases hx : o.ex with
      | normal =>
        rw [hx] at h h3
        rw [if_neg (by simp)] at h
        subst h
        have : td = .inBlock id :: k := h3
        subst this
        exact ⟨tm', k, ds', w', π', av', h1.trans (.one st_inBlock), h2, by rw [hx]; rfl, h4, h5, h6⟩
      | exit i =>
        rw [hx] at h h3
        obtain ⟨K, rfl, hK⟩ := h3
        rw [exitTo_block] at hK
        split at h
        · rename_i hi
          injection hi with hi
          subst hi
          rw [if_pos rfl] at hK
          subst h
          exact ⟨tm', k, ds', w', π', av', h1.trans (.one (st_exit hK)), h2, rfl, h4, h5, h6⟩
        · rename_i hi
          subst h
          rw [if_neg (fun hh => hi (by rw [hh]))] at hK
          exact ⟨tm', _, ds', w', π', av', h1, h2, by rw [hx]; exact ⟨K, rfl, hK⟩, h4, h5, h6⟩
      | ret =>
        rw [hx] at h h3
        rw [if_neg (by simp)] at h
        subst h
        exact ⟨tm', td, ds', w', π', av', h1, h2, by rw [hx]; exact h3, h4, h5, h6⟩
    | scope x ih =>
      intro e H out h N c hc b tm k ds cs w π av ex B W0 hs he hsz hb hd hW
      simp only [runC] at h
      cases c <;> simp only [chkC, Bool.false_eq_true] at hc
      rename_i c1
      obtain ⟨tm', td, ds', w', π', av', h1, h2, h3, h4, h5, h6⟩ := ih _ _ _ h N c1 hc b tm (.inScope c1 :: k) ds cs w π av ex B W0 hs he hsz hb hd hW
      refine Done.of_steps (.one st_scope) ?_
      by_cases hn : out.ex = .normal
      · rw [hn] at h3
        have : td = .inScope c1 :: k := h3
        subst this
        exact ⟨tm', k, ds', w', π', av', h1.trans (.one st_inScope), h2, by rw [hn]; rfl, h4, h5, h6⟩
      · exact ⟨tm', td, ds', w', π', av', h1, h2, h3.under hn (by simp), h4, h5, h6⟩
    | loop ks x ih =>
      intro e H out h N c hc b tm k ds cs w π av ex B W0 hs he hsz hb hd hW
      simp only [runC, Option.bind_eq_some_iff] at h
      obtain ⟨o, ho, h⟩ := h
      have hc0 := hc
      cases c <;> simp only [chkC, Bool.false_eq_true] at hc
      rename_i c1
      obtain ⟨tm', td, ds', w', π', av', h1, h2, h3, h4, h5, h6⟩ := ih _ _ _ ho N c1 hc b tm (.inLoop c1 :: k) ds cs w π av ex B W0 hs (he.keep ks) hsz hb hd hW
      refine Done.of_steps (.one st_loop) ?_
      split at h
      · rename_i hn
        rw [hn] at h3
        have : td = .inLoop c1 :: k := h3
        subst this
        obtain ⟨tm2, td2, ds2, w2, π2, av2, k1, k2, k3, k4, k5, k6⟩ := hR _ _ _ _ h N (.loop c1) hc0 b tm' k ds' cs w' π' av' ex B W0 (hs.nextK h6) h4 h2 (hb.next h6.ev) h5 (Nat.le_trans hW h6.ev.len)
        refine ⟨tm2, td2, ds2, w2, π2, av2, h1.trans (.head st_inLoop (Steps.tail k1 st_loop ?_)), k2, k3, k4, k5, Res.trans (W := true) h6 k6⟩
        intro heq
        have htd : .code (.loop c1) :: k = td2 := by
          have := congrArg (fun m : Machine => (m.gs[0]?).map fun g => g.frame.todo) heq
          simpa [lone, fr] using this
        subst htd
        cases hx : out.ex with
        | normal => rw [hx] at k3; have := congrArg List.length (show Item.code (.loop c1) :: k = k from k3); simp at this
        | exit i => rw [hx] at k3; obtain ⟨K, hK, _⟩ := k3; cases hK
        | ret => rw [hx] at k3; obtain ⟨K, hK⟩ := k3; cases hK
      · rename_i hn
        injection h with h
        subst h
        exact ⟨tm', td, ds', w', π', av', h1, h2, h3.under hn (by simp), h4, h5, h6⟩
    | exit id =>
      intro e H out h N c hc b tm k ds cs w π av ex B W0 hs he hsz hb hd hW
      simp only [runC, Option.some.injEq] at h
      subst h
      cases c <;> simp only [chkC, Bool.false_eq_true, beq_iff_eq] at hc
      subst hc
      exact Done.stop (x := .exit id) ⟨k, rfl, rfl⟩ hs he hsz hd
    | ret =>
      intro e H out h N c hc b tm k ds cs w π av ex B W0 hs he hsz hb hd hW
      simp only [runC, Option.some.injEq] at h
      subst h
      cases c <;> simp only [chkC, Bool.false_eq_true] at hc
      exact Done.stop (x := .ret) ⟨k, rfl⟩ hs he hsz hd
    | rfunc f ps as bd ks iha ihb =>
      intro e H out h N c hc b tm k ds cs w π av ex B W0 hs he hsz hb hd hW
      cases c <;> simp only [chkC, Bool.false_eq_true] at hc
      exact rfunc_sound hR hF h (by simpa only [chkC] using hc) hs he hsz hb hd hW
    | bad => intro e H out h; simp [runC] at h
  intro e H out h N c hc b tm k ds cs w π av ex B W0 hs he hsz hb hd hW
  exact main e H out h N c hc b tm k ds cs w π av ex B W0 hs he hsz hb hd hW

theorem denN_sound (hm : P.follows .mixedOrders = true) (hF : FnsOk P pg) (hS : SumOk P pg Gz) : ∀ n, CodeOk P pg Gz (denN pg n)
  | 0 => fun _ _ _ _ h => by simp [denN] at h
  | n + 1 => runC_sound hm (denN_sound hm hF hS n) hF hS

end Go.Dn

/-
  What a result of the evaluator says of a call.
-/

namespace Go.Dn
open Go.RowKit

variable {P : Program} {pg : Pg} {Gz : Nat}

abbrev Sees (w : World) (t : TV) (v : Value) : Prop := VRel (fun _ => none) w none' none' t v
abbrev SeesAll (w : World) (ts : List TV) (vs : List Value) : Prop := VsRel (fun _ => none) w none' none' ts vs

theorem body_calls {R : Rec} (hR : CodeOk P pg Gz R) (hF : FnsOk P pg) {f : Nat} {args : List TV} {t : TV} {H' : Heap} (h : bodyRun pg R f args [] = some (t, H')) {w : World} {us : Array Value} (hu : SeesAll w args us.toList) (hG : GRel pg Gz w) (hGz : Gz ≤ w.heap.size) :
    Calls P f us w fun e w' => ∃ v, e = .returned v ∧ Below w.heap.size w w' ∧ ∃ π' av', VRel π' w' av' none' t v ∧ HRel P w.heap.size π' H' w' av' none' := by
  have hs : St P pg Gz w.heap.size (fun _ => none) [] w none' none' :=
    ⟨⟨⟨(fun _ _ _ _ h => by cases h), (fun _ _ _ _ _ _ _ h => by cases h), (fun g h => False.elim h), (fun g h => False.elim h), Nat.le_refl _⟩, hG, (fun g h => False.elim h), (fun g h => False.elim h), hGz⟩, fun _ _ => rfl⟩
  obtain ⟨h1, h2⟩ := body_sound hR hF h hs hu
  intro cs
  obtain ⟨frm, v, w', π', av', hst, hfn, hlv, hvr, hres⟩ := h2 cs
  refine ⟨.returned v, w', frm, ⟨v, rfl, ⟨hres.ev.os, hres.ev.tape, hres.ev.out, hres.ev.len, fun k hk => hres.ev.blk k hk fun x => x.2.1⟩, π', av', hvr, hres.hr⟩, hst, hfn, hlv⟩

theorem yes_calls {n : Nat} (hm : P.follows .mixedOrders = true) (hF : FnsOk P pg) (hS : SumOk P pg Gz) {f : Nat} {args : List TV} {H' : Heap} (h : bodyRun pg (denN pg n) f args [] = some (.b true, H')) {w : World} {us : Array Value} (hu : SeesAll w args us.toList) (hG : GRel pg Gz w) (hGz : Gz ≤ w.heap.size) :
    Calls P f us w fun e w' => e = .returned (.bool true) ∧ Below w.heap.size w w' := by
  refine (body_calls (denN_sound hm hF hS n) hF h hu hG hGz).mono fun e w' he => ?_
  obtain ⟨v, rfl, hb, π', av', hv, _⟩ := he
  exact ⟨by rw [hv.b_inv], hb⟩

theorem SumOk.none (F : Nat → Option DFun) (G : Nat → Option TV) : SumOk P ⟨F, G, fun _ _ => Option.none⟩ Gz := fun _ _ _ h => by cases h

theorem GRel.none (w : World) (F : Nat → Option DFun) (S : Nat → List TV → Option TV) : GRel ⟨F, fun _ => Option.none, S⟩ 0 w := fun n tv h => by cases h

end Go.Dn

/-
  The evaluator's limit: what it answers with fuel enough. Its equation.
-/

namespace Go.Dn

def Sub (R0 R : Rec) : Prop := ∀ c e H o, R0 c e H = some o → R c e H = some o

section
variable {pg : Pg} {R0 R : Rec}

theorem bodyRun_mono (h : Sub R0 R) {f : Nat} {as : List TV} {H : Heap} {r : TV × Heap} (hr : bodyRun pg R0 f as H = some r) : bodyRun pg R f as H = some r := by
  simp only [bodyRun, Option.bind_eq_some_iff] at hr ⊢
  obtain ⟨d, hd, hr⟩ := hr
  refine ⟨d, hd, ?_⟩
  split at hr <;> try (cases hr; done)
  rename_i hl
  simp only [Option.bind_eq_some_iff] at hr
  obtain ⟨o, ho, hr⟩ := hr
  simp only [hl, if_true, Option.bind_eq_some_iff]
  exact ⟨o, h _ _ _ _ ho, hr⟩

theorem yieldRun_mono (h : Sub R0 R) {id : Nat} {as : List TV} {H : Heap} {r : TV × Heap} (hr : yieldRun R0 id as H = some r) : yieldRun R id as H = some r := by
  unfold yieldRun at hr ⊢
  split at hr <;> try (cases hr; done)
  rename_i L hL
  split at hr <;> try (cases hr; done)
  rename_i hl
  simp only [Option.bind_eq_some_iff] at hr
  obtain ⟨o1, h1, hr⟩ := hr
  simp only [hL, hl, if_true, Option.bind_eq_some_iff]
  refine ⟨o1, h _ _ _ _ h1, ?_⟩
  split at hr <;> try (cases hr; done)
  rename_i hn hL1
  split at hr <;> try (cases hr; done)
  rename_i hst
  simp only [Option.bind_eq_some_iff] at hr
  obtain ⟨o2, h2, hr⟩ := hr
  simp only [hst, if_true, Option.bind_eq_some_iff]
  exact ⟨o2, h _ _ _ _ h2, hr⟩

theorem callRun_mono (h : Sub R0 R) {m : CMode} {vs : List TV} {H : Heap} {r : TV × Heap} (hr : callRun pg R0 m vs H = some r) : callRun pg R m vs H = some r := by
  rcases vs with _ | ⟨v, vs⟩
  · exact hr
  · cases v <;> simp only [callRun] at hr ⊢ <;> try (exact hr)
    · cases m with
      | sh => exact bodyRun_mono h hr
      | pu ks =>
        simp only [Option.bind_eq_some_iff] at hr ⊢
        obtain ⟨as, ha, hr⟩ := hr
        refine ⟨as, ha, ?_⟩
        split at hr
        · exact hr
        · simp only [Option.bind_eq_some_iff] at hr ⊢
          obtain ⟨x, hx, hr⟩ := hr
          exact ⟨x, bodyRun_mono h hx, hr⟩
    · cases m with
      | sh => exact yieldRun_mono h hr
      | pu ks => exact hr

theorem operRun_mono (h : Sub R0 R) {o : DOper} {e : Env} {H : Heap} {r : Env × Heap} (hr : operRun pg R0 o e H = some r) : operRun pg R o e H = some r := by
  unfold operRun at hr ⊢
  simp only [Option.bind_eq_some_iff] at hr ⊢
  obtain ⟨go, hg, hr⟩ := hr
  refine ⟨go, hg, ?_⟩
  split at hr
  · rename_i hgo
    simp only [hgo, if_true, Option.bind_eq_some_iff, Option.map_eq_some_iff] at hr ⊢
    obtain ⟨vs, hvs, x, hx, hr⟩ := hr
    refine ⟨vs, hvs, x, ?_, hr⟩
    split at hx
    · exact callRun_mono h hx
    · exact hx
  · rename_i hgo
    rw [if_neg hgo]; exact hr

theorem opsRun_mono (h : Sub R0 R) : ∀ {ops : List DOper} {e : Env} {H : Heap} {r : Env × Heap}, opsRun pg R0 ops e H = some r → opsRun pg R ops e H = some r
  | [], _, _, _, hr => hr
  | o :: os, e, H, r, hr => by
    simp only [opsRun, Option.bind_eq_some_iff] at hr ⊢
    obtain ⟨x, hx, hr⟩ := hr
    exact ⟨x, operRun_mono h hx, opsRun_mono h hr⟩

theorem opsTr_mono (h : Sub R0 R) : ∀ {ops : List DOper} {e : Env} {H : Heap} {r : Env × List Heap × Heap}, opsTr pg R0 ops e H = some r → opsTr pg R ops e H = some r
  | [], _, _, _, hr => hr
  | o :: os, e, H, r, hr => by
    simp only [opsTr, Option.bind_eq_some_iff, Option.map_eq_some_iff] at hr ⊢
    obtain ⟨x, hx, y, hy, hr⟩ := hr
    exact ⟨x, operRun_mono h hx, y, opsTr_mono h hy, hr⟩

theorem runC_mono (h : Sub R0 R) : Sub (runC pg R0) (runC pg R) := by
  intro c
  induction c with
  | skip => intro e H o hr; exact hr
  | reg ops ks =>
    intro e H o hr
    simp only [runC, Option.map_eq_some_iff] at hr ⊢
    obtain ⟨x, hx, hr⟩ := hr
    exact ⟨x, opsRun_mono h hx, hr⟩
  | regd ops ks fr =>
    intro e H o hr
    simp only [runC, Option.bind_eq_some_iff] at hr ⊢
    obtain ⟨x, hx, hr⟩ := hr
    exact ⟨x, opsTr_mono h hx, hr⟩
  | seq x y ihx ihy =>
    intro e H o hr
    simp only [runC, Option.bind_eq_some_iff] at hr ⊢
    obtain ⟨o1, h1, hr⟩ := hr
    refine ⟨o1, ihx _ _ _ h1, ?_⟩
    split at hr
    · rename_i hn; rw [if_pos hn]; exact ihy _ _ _ hr
    · rename_i hn; rw [if_neg hn]; exact hr
  | cond c x y ihx ihy =>
    intro e H o hr
    simp only [runC] at hr ⊢
    split at hr <;> try (cases hr; done)
    split at hr
    · rename_i ht; simp only [ht, if_true]; exact ihx _ _ _ hr
    · rename_i ht; rw [if_neg ht]; exact ihy _ _ _ hr
  | block id x ih =>
    intro e H o hr
    simp only [runC, Option.map_eq_some_iff] at hr ⊢
    obtain ⟨o1, h1, hr⟩ := hr
    exact ⟨o1, ih _ _ _ h1, hr⟩
  | scope x ih => intro e H o hr; exact ih _ _ _ hr
  | loop ks x ih =>
    intro e H o hr
    simp only [runC, Option.bind_eq_some_iff] at hr ⊢
    obtain ⟨o1, h1, hr⟩ := hr
    refine ⟨o1, ih _ _ _ h1, ?_⟩
    split at hr
    · rename_i hn; rw [if_pos hn]; exact h _ _ _ _ hr
    · rename_i hn; rw [if_neg hn]; exact hr
  | exit id => intro e H o hr; exact hr
  | ret => intro e H o hr; exact hr
  | rfunc f ps a b ks _ _ =>
    intro e H o hr
    simp only [runC, Option.bind_eq_some_iff] at hr ⊢
    obtain ⟨fv, hf, x, hx, hr⟩ := hr
    exact ⟨fv, hf, x, callRun_mono h hx, hr⟩
  | bad => intro e H o hr; exact hr
end

variable {pg : Pg}

theorem denN_step : ∀ n, Sub (denN pg n) (denN pg (n + 1))
  | 0 => fun _ _ _ _ h => by simp [denN] at h
  | n + 1 => runC_mono (denN_step n)

theorem denN_le {n m : Nat} (h : n ≤ m) : Sub (denN pg n) (denN pg m) := by
  induction h with
  | refl => exact fun _ _ _ _ h => h
  | step _ ih => exact fun c e H o h => denN_step _ c e H o (ih c e H o h)

open Classical in
noncomputable def den (pg : Pg) : Rec := fun c e H => if h : ∃ o n, denN pg n c e H = some o then some h.choose else none

theorem den_iff {c : DC} {e : Env} {H : Heap} {o : Out} : den pg c e H = some o ↔ ∃ n, denN pg n c e H = some o := by
  unfold den
  constructor
  · intro h
    split at h
    · rename_i hx
      injection h with h
      obtain ⟨n, hn⟩ := hx.choose_spec
      exact ⟨n, h ▸ hn⟩
    · cases h
  · rintro ⟨n, hn⟩
    have hx : ∃ o n, denN pg n c e H = some o := ⟨o, n, hn⟩
    rw [dif_pos hx]
    obtain ⟨m, hm⟩ := hx.choose_spec
    have h1 := denN_le (Nat.le_max_left n m) _ _ _ _ hn
    have h2 := denN_le (Nat.le_max_right n m) _ _ _ _ hm
    rw [h1] at h2
    exact congrArg some (Option.some.inj h2).symm

theorem denN_den (n : Nat) : Sub (denN pg n) (den pg) := fun _ _ _ _ h => den_iff.2 ⟨n, h⟩

/-! continuity: what the limit answers, some fuel answers -/
section
theorem bodyRun_cont {f : Nat} {as : List TV} {H : Heap} {r : TV × Heap} (hr : bodyRun pg (den pg) f as H = some r) : ∃ n, bodyRun pg (denN pg n) f as H = some r := by
  simp only [bodyRun, Option.bind_eq_some_iff] at hr
  obtain ⟨d, hd, hr⟩ := hr
  split at hr <;> try (cases hr; done)
  rename_i hl
  simp only [Option.bind_eq_some_iff] at hr
  obtain ⟨o, ho, hr⟩ := hr
  obtain ⟨n, hn⟩ := den_iff.1 ho
  refine ⟨n, ?_⟩
  simp only [bodyRun, Option.bind_eq_some_iff]
  refine ⟨d, hd, ?_⟩
  simp only [hl, if_true, Option.bind_eq_some_iff]
  exact ⟨o, hn, hr⟩

theorem yieldRun_cont {id : Nat} {as : List TV} {H : Heap} {r : TV × Heap} (hr : yieldRun (den pg) id as H = some r) : ∃ n, yieldRun (denN pg n) id as H = some r := by
  unfold yieldRun at hr
  split at hr <;> try (cases hr; done)
  rename_i L hL
  split at hr <;> try (cases hr; done)
  rename_i hl
  simp only [Option.bind_eq_some_iff] at hr
  obtain ⟨o1, h1, hr⟩ := hr
  split at hr <;> try (cases hr; done)
  rename_i hn hL1
  split at hr <;> try (cases hr; done)
  rename_i hst
  simp only [Option.bind_eq_some_iff] at hr
  obtain ⟨o2, h2, hr⟩ := hr
  obtain ⟨n1, k1⟩ := den_iff.1 h1
  obtain ⟨n2, k2⟩ := den_iff.1 h2
  refine ⟨max n1 n2, ?_⟩
  unfold yieldRun
  simp only [hL, hl, if_true, Option.bind_eq_some_iff]
  refine ⟨o1, denN_le (Nat.le_max_left _ _) _ _ _ _ k1, ?_⟩
  rw [hn, hL1]
  simp only [hst, if_true, Option.bind_eq_some_iff]
  exact ⟨o2, denN_le (Nat.le_max_right _ _) _ _ _ _ k2, hr⟩

theorem callRun_cont {m : CMode} {vs : List TV} {H : Heap} {r : TV × Heap} (hr : callRun pg (den pg) m vs H = some r) : ∃ n, callRun pg (denN pg n) m vs H = some r := by
  rcases vs with _ | ⟨v, vs⟩
  · exact ⟨0, hr⟩
  · cases v <;> simp only [callRun] at hr ⊢ <;> try (exact ⟨0, hr⟩)
    · cases m with
      | sh => exact bodyRun_cont hr
      | pu ks =>
        simp only [Option.bind_eq_some_iff] at hr ⊢
        obtain ⟨as, ha, hr⟩ := hr
        split at hr
        · rename_i hsm
          exact ⟨0, as, ha, by rw [hsm]; exact hr⟩
        · rename_i hsm
          simp only [Option.bind_eq_some_iff] at hr
          obtain ⟨x, hx, hr⟩ := hr
          obtain ⟨n, hn⟩ := bodyRun_cont hx
          refine ⟨n, as, ha, ?_⟩
          rw [hsm]
          exact Option.bind_eq_some_iff.2 ⟨x, hn, hr⟩
    · cases m with
      | sh => exact yieldRun_cont hr
      | pu ks => exact ⟨0, hr⟩

theorem operRun_cont {o : DOper} {e : Env} {H : Heap} {r : Env × Heap} (hr : operRun pg (den pg) o e H = some r) : ∃ n, operRun pg (denN pg n) o e H = some r := by
  unfold operRun at hr ⊢
  simp only [Option.bind_eq_some_iff] at hr ⊢
  obtain ⟨go, hg, hr⟩ := hr
  split at hr
  · rename_i hgo
    simp only [Option.bind_eq_some_iff, Option.map_eq_some_iff] at hr
    obtain ⟨vs, hvs, x, hx, hr⟩ := hr
    split at hx
    · obtain ⟨n, hn⟩ := callRun_cont hx
      exact ⟨n, go, hg, by simp only [hgo, if_true, Option.bind_eq_some_iff, Option.map_eq_some_iff]; exact ⟨vs, hvs, x, hn, hr⟩⟩
    · rename_i hne
      refine ⟨0, go, hg, ?_⟩
      simp only [hgo, if_true, Option.bind_eq_some_iff, Option.map_eq_some_iff]
      exact ⟨vs, hvs, x, hx, hr⟩
  · rename_i hgo
    exact ⟨0, go, hg, by rw [if_neg hgo]; exact hr⟩

theorem opsRun_cont : ∀ {ops : List DOper} {e : Env} {H : Heap} {r : Env × Heap}, opsRun pg (den pg) ops e H = some r → ∃ n, opsRun pg (denN pg n) ops e H = some r
  | [], _, _, _, hr => ⟨0, hr⟩
  | o :: os, e, H, r, hr => by
    simp only [opsRun, Option.bind_eq_some_iff] at hr ⊢
    obtain ⟨x, hx, hr⟩ := hr
    obtain ⟨n1, h1⟩ := operRun_cont hx
    obtain ⟨n2, h2⟩ := opsRun_cont hr
    exact ⟨max n1 n2, x, operRun_mono (denN_le (Nat.le_max_left _ _)) h1, opsRun_mono (denN_le (Nat.le_max_right _ _)) h2⟩

theorem opsTr_cont : ∀ {ops : List DOper} {e : Env} {H : Heap} {r : Env × List Heap × Heap}, opsTr pg (den pg) ops e H = some r → ∃ n, opsTr pg (denN pg n) ops e H = some r
  | [], _, _, _, hr => ⟨0, hr⟩
  | o :: os, e, H, r, hr => by
    simp only [opsTr, Option.bind_eq_some_iff, Option.map_eq_some_iff] at hr ⊢
    obtain ⟨x, hx, y, hy, hr⟩ := hr
    obtain ⟨n1, h1⟩ := operRun_cont hx
    obtain ⟨n2, h2⟩ := opsTr_cont hy
    exact ⟨max n1 n2, x, operRun_mono (denN_le (Nat.le_max_left _ _)) h1, y, opsTr_mono (denN_le (Nat.le_max_right _ _)) h2, hr⟩

theorem runC_cont : ∀ {c : DC} {e : Env} {H : Heap} {o : Out}, runC pg (den pg) c e H = some o → ∃ n, runC pg (denN pg n) c e H = some o := by
  intro c
  induction c with
  | skip => intro e H o hr; exact ⟨0, hr⟩
  | reg ops ks =>
    intro e H o hr
    simp only [runC, Option.map_eq_some_iff] at hr ⊢
    obtain ⟨x, hx, hr⟩ := hr
    obtain ⟨n, hn⟩ := opsRun_cont hx
    exact ⟨n, x, hn, hr⟩
  | regd ops ks fr =>
    intro e H o hr
    simp only [runC, Option.bind_eq_some_iff] at hr ⊢
    obtain ⟨x, hx, hr⟩ := hr
    obtain ⟨n, hn⟩ := opsTr_cont hx
    exact ⟨n, x, hn, hr⟩
  | seq x y ihx ihy =>
    intro e H o hr
    simp only [runC, Option.bind_eq_some_iff] at hr ⊢
    obtain ⟨o1, h1, hr⟩ := hr
    obtain ⟨n1, k1⟩ := ihx h1
    split at hr
    · rename_i hn
      obtain ⟨n2, k2⟩ := ihy hr
      exact ⟨max n1 n2, o1, runC_mono (denN_le (Nat.le_max_left _ _)) _ _ _ _ k1, by rw [if_pos hn]; exact runC_mono (denN_le (Nat.le_max_right _ _)) _ _ _ _ k2⟩
    · rename_i hn
      exact ⟨n1, o1, k1, by rw [if_neg hn]; exact hr⟩
  | cond c x y ihx ihy =>
    intro e H o hr
    simp only [runC] at hr ⊢
    split at hr <;> try (cases hr; done)
    split at hr
    · rename_i ht; simp only [ht, if_true]; exact ihx hr
    · rename_i ht; simp only [if_neg ht]; exact ihy hr
  | block id x ih =>
    intro e H o hr
    simp only [runC, Option.map_eq_some_iff] at hr ⊢
    obtain ⟨o1, h1, hr⟩ := hr
    obtain ⟨n, hn⟩ := ih h1
    exact ⟨n, o1, hn, hr⟩
  | scope x ih => intro e H o hr; exact ih hr
  | loop ks x ih =>
    intro e H o hr
    simp only [runC, Option.bind_eq_some_iff] at hr ⊢
    obtain ⟨o1, h1, hr⟩ := hr
    obtain ⟨n1, k1⟩ := ih h1
    split at hr
    · rename_i hn
      obtain ⟨n2, k2⟩ := den_iff.1 hr
      exact ⟨max n1 n2, o1, runC_mono (denN_le (Nat.le_max_left _ _)) _ _ _ _ k1, by rw [if_pos hn]; exact denN_le (Nat.le_max_right _ _) _ _ _ _ k2⟩
    · rename_i hn
      exact ⟨n1, o1, k1, by rw [if_neg hn]; exact hr⟩
  | exit id => intro e H o hr; exact ⟨0, hr⟩
  | ret => intro e H o hr; exact ⟨0, hr⟩
  | rfunc f ps a b ks _ _ =>
    intro e H o hr
    simp only [runC, Option.bind_eq_some_iff] at hr ⊢
    obtain ⟨fv, hf, x, hx, hr⟩ := hr
    obtain ⟨n, hn⟩ := callRun_cont hx
    exact ⟨n, fv, hf, x, hn, hr⟩
  | bad => intro e H o hr; exact ⟨0, hr⟩
end

theorem den_eq (c : DC) (e : Env) (H : Heap) : den pg c e H = runC pg (den pg) c e H := by
  cases h : runC pg (den pg) c e H with
  | some o =>
    obtain ⟨n, hn⟩ := runC_cont h
    exact den_iff.2 ⟨n + 1, hn⟩
  | none =>
    cases h' : den pg c e H with
    | none => rfl
    | some o =>
      obtain ⟨n, hn⟩ := den_iff.1 h'
      cases n with
      | zero => simp [denN] at hn
      | succ n =>
        have := runC_mono (denN_den n) _ _ _ _ hn
        rw [h] at this; cases this

theorem den_sound {P : Program} {Gz : Nat} (hm : P.follows .mixedOrders = true) (hF : FnsOk P pg) (hS : SumOk P pg Gz) : CodeOk P pg Gz (den pg) := by
  intro dc e H out h
  obtain ⟨n, hn⟩ := den_iff.1 h
  exact denN_sound hm hF hS n dc e H out hn

def Ans (pg : Pg) (f : Nat) (as : List TV) (r : TV) (H' : Heap) : Prop := bodyRun pg (den pg) f as [] = some (r, H')

theorem Ans.of {n f : Nat} {as : List TV} {r : TV} {H' : Heap} (h : bodyRun pg (denN pg n) f as [] = some (r, H')) : Ans pg f as r H' := bodyRun_mono (denN_den n) h

end Go.Dn

/-
  A table of functions, checked function by function.
-/

namespace Go.Dn

inductive Tab where
  | nil
  | one (k : Nat) (d : DFun)
  | two (m : Nat) (l r : Tab)

def Tab.look : Tab → Nat → Option DFun
  | .nil, _ => none
  | .one k d, f => if f = k then some d else none
  | .two m l r, f => if f < m then l.look f else r.look f

def Fok (P : Program) (k : Nat) (d : DFun) : Prop := ∃ fn, P.funcs[k]? = some fn ∧ (fn.name == "runtime.NumGoroutine") = false ∧ chkF P d fn = true

def Tab.Ok (P : Program) : Tab → Prop
  | .nil => True
  | .one k d => Fok P k d
  | .two _ l r => l.Ok P ∧ r.Ok P

theorem Tab.ok_look {P : Program} : ∀ {t : Tab} {f : Nat} {d : DFun}, t.Ok P → t.look f = some d → Fok P f d
  | .nil, _, _, _, h => by simp [Tab.look] at h
  | .one k d, f, d', ho, h => by
    simp only [Tab.look] at h
    split at h
    · rename_i e; subst e; injection h with h; subst h; exact ho
    · cases h
  | .two m l r, f, d, ho, h => by
    simp only [Tab.look] at h
    split at h
    · exact Tab.ok_look ho.1 h
    · exact Tab.ok_look ho.2 h

theorem Tab.fns {P : Program} {t : Tab} {G : Nat → Option TV} {S : Nat → List TV → Option TV} (h : t.Ok P) : FnsOk P ⟨t.look, G, S⟩ := fun f d hd => Tab.ok_look h hd

end Go.Dn

/-
  Running code by equations.
-/

namespace Go.Dn

theorem wrapR_i64 {n : Int} (h : -9223372036854775808 ≤ n ∧ n ≤ 9223372036854775807) : wrapR .i64 n = .i .i64 n := by
  unfold wrapR
  rw [show IntKind.wrap .i64 n = n by simp [IntKind.wrap, IntKind.signed, IntKind.bits]; omega]

theorem part_one {c : List TV} {i : Nat} {v : TV} (h : c[i]? = some v) (hv : v.isAgg = false) : Dn.part 1 false i c = some v := by simp [Dn.part, h, hv]

def thn (p q : Env → Heap → Option Out) : Env → Heap → Option Out := fun e H => (p e H).bind fun o => if o.ex = .normal then q o.env o.H else some o

theorem runC_seq (pg : Pg) (R : Rec) (x y : DC) : runC pg R (.seq x y) = thn (runC pg R x) (runC pg R y) := rfl

theorem thn_assoc (p q r : Env → Heap → Option Out) : thn (thn p q) r = thn p (thn q r) := by
  funext e H
  simp only [thn]
  cases p e H with
  | none => rfl
  | some o =>
    simp only [Option.bind_some]
    by_cases h : o.ex = .normal
    · simp only [h, if_true]
    · simp only [h, if_false, Option.bind_some]

theorem thn_some {p q : Env → Heap → Option Out} {e : Env} {H : Heap} {o : Out} (h : p e H = some o) (hn : o.ex = .normal) : thn p q e H = q o.env o.H := by
  simp only [thn, h, Option.bind_some, hn, if_true]

theorem bodyRun_of {pg : Pg} {f : Nat} {xs : List TV} {H : Heap} {d : DFun} {o : Out} {vs : List TV} (hd : pg.F f = some d) (hl : xs.length = d.np) (ho : runC pg (den pg) d.body (zipE xs 0) H = some o) (hx : ∀ id, o.ex ≠ .exit id) (hv : mapO (resRun o.env o.H) d.res = some vs) :
    bodyRun pg (den pg) f xs H = some (tupR vs, o.H) := by
  rw [← den_eq] at ho
  simp only [bodyRun, hd, Option.bind_some, hl, if_true, ho]
  cases hox : o.ex with
  | exit id => exact absurd hox (hx id)
  | normal =>
    show Option.map _ (mapO (resRun o.env o.H) d.res) = _
    rw [hv]
    rcases vs with _ | ⟨v, _ | ⟨v', vs⟩⟩ <;> rfl
  | ret =>
    show Option.map _ (mapO (resRun o.env o.H) d.res) = _
    rw [hv]
    rcases vs with _ | ⟨v, _ | ⟨v', vs⟩⟩ <;> rfl

theorem bindS {α β : Type} (x : α) (f : α → Option β) : (some x).bind f = f x := rfl
theorem mapS {α β : Type} (x : α) (f : α → β) : (some x).map f = some (f x) := rfl

end Go.Dn

/-
  A law's row: what is asked of its answer, where nothing that was there has turned.
-/

namespace Go.Dn
open Go.ChangeShapes Go.WideShapes Go.ChangeAt Go.RowKit
variable {P : Program} {H : Type} {enc : TypeId × Value → H}

theorem row_post {f : Func} {s : ChangeSpec} {apart fresh handsOn again : Bool} {W W' : World} {args : Array Value} {v : Value} {ds gs : List (DataW H)} {before pa pv : List MemPlace}
    (hW : DataW.Whole enc P f.params.toList s.vars apart W args.toList ds gs before)
    (hres : ∀ (b : Nat) (sp : Nat → Bool) (hd : Bool), DataW.TrodAll enc P W' b sp hd f.resultTypes.toList (v.resultList f.resultTypes.size) (s.fn H (ds ++ gs)).results [])
    (hargs : ∀ sp : Nat → Bool, (∀ p ∈ before, sp p.block = true) → DataW.TrodAll enc P W' 0 sp true f.params.toList args.toList (s.fn H (ds ++ gs)).args pa)
    (hvars : ∀ sp : Nat → Bool, (∀ p ∈ before, sp p.block = true) → DataW.TrodVars enc P W' sp s.vars (s.fn H (ds ++ gs)).vars pv)
    (hps : before = pa ++ pv) (hb : Below W.heap.size W W')
    (hok : ∀ (j : Nat) (t : TypeId) (r : Value), f.resultTypes[j]? = some t → (v.resultList f.resultTypes.size)[j]? = some r → Value.okWide P W' .any 0 t r) :
    s.post enc P f apart fresh handsOn again W args v W' := by
  have hold : ∀ p ∈ before, (fun b => decide (b < W.heap.size)) p.block = true := fun p hp => by simpa using hW.lt p hp
  have hlt : ∀ p ∈ before, p.block < W.heap.size := hW.lt
  refine ⟨ds, gs, before, [], pa, pv, hW, hres _ _ _, hargs _ hold, hvars _ hold, World.keptBut_mono (fun p hp => ⟨hp, ?_⟩) (hb.frame (· ∈ before)), fun _ => ?_⟩
  · rw [hps, List.mem_append] at hp
    exact Or.inr hp
  · obtain ⟨_, _, _, _, _, hz, hn⟩ := hW
    refine ⟨hok, _, _, ([] ++ pa) ++ pv, ⟨[] ++ pa, pv, trodAll_append (hargs _ (fun _ _ => rfl)) (hres _ _ _), hvars _ (fun _ _ => rfl), rfl, ?_, ?_⟩, ?_⟩
    · intro b off hp
      have hp' : MemPlace.cell b off ∈ before := by rw [hps]; simpa using hp
      rw [hb.frozen (p := ⟨b, off, none⟩) (hlt _ hp')]
      exact hz b off hp'
    · intro ha
      have := hn ha
      rw [hps] at this
      simpa using this
    · intro p hp _
      rw [hps]
      simpa using hp

end Go.Dn

/-
  Arguments by value: what a reading of the arguments says of them.
-/

namespace Go.Dn
open Go.ChangeShapes Go.WideShapes Go.ChangeAt Go.RowKit

section
variable {H : Type} {enc : TypeId × Value → H} {P : Program} {w : World} {sp : Nat → Bool} {held : Bool}

def Reads (enc : TypeId × Value → H) (P : Program) (w : World) (sp : Nat → Bool) (held : Bool) (t : TypeId) (Q : List TV → Prop) : Prop :=
  ∀ fuel cs x, DataW.trod enc P w 0 sp held fuel t cs = some x → ∃ ts, SeesAll w ts cs ∧ Q ts

def okI (k : IntKind) (n : Int) : Prop := (Lit.int k n).wf = true

theorem reads_int {t : TypeId} {k : IntKind} (ht : P.underlying t = some (.int k)) : Reads enc P w sp held t fun ts => ∃ n, ts = [.i k n] ∧ okI k n := by
  intro fuel cs x h
  cases fuel with
  | zero => simp [DataW.trod] at h
  | succ fuel =>
    simp only [DataW.trod, ht] at h
    split at h <;> simp_all
    rename_i k' n _ 
    exact ⟨[.i _ n], .cons _ _ _ _ (.i _ _) .nil, n, rfl, h.1.2⟩

theorem reads_bool {t : TypeId} (ht : P.underlying t = some .bool) : Reads enc P w sp held t fun ts => ∃ b, ts = [.b b] := by
  intro fuel cs x h
  cases fuel with
  | zero => simp [DataW.trod] at h
  | succ fuel =>
    simp only [DataW.trod, ht] at h
    rcases cs with _ | ⟨c, _ | ⟨d, cs⟩⟩
    · cases h
    · cases c <;> first | (cases h; done) | exact ⟨_, .cons _ _ _ _ (.b _) .nil, _, rfl⟩
    · cases c <;> cases h

theorem mapM_all {α β : Type} {f : α → Option β} : ∀ {l : List α} {ys : List β}, l.mapM f = some ys → ∀ a, a ∈ l → ∃ y, f a = some y
  | [], _, _, a, ha => by cases ha
  | b :: l, ys, h, a, ha => by
    simp only [List.mapM_cons, Option.bind_eq_bind, Option.bind_eq_some_iff] at h
    obtain ⟨y, hy, zs, hz, _⟩ := h
    rcases List.mem_cons.1 ha with rfl | ha
    · exact ⟨y, hy⟩
    · exact mapM_all hz a ha

theorem chunks_see {s : Nat} {Q : List TV → Prop} {cs : List Value} : ∀ n : Nat, n * s ≤ cs.length → (∀ i, i < n → ∃ ts, SeesAll w ts ((cs.drop (i * s)).take s) ∧ Q ts) →
    ∃ l : List (List TV), l.length = n ∧ SeesAll w l.flatten (cs.take (n * s)) ∧ ∀ x, x ∈ l → Q x
  | 0, _, _ => ⟨[], rfl, by simpa using VsRel.nil, fun x hx => by cases hx⟩
  | n + 1, hl, h => by
    rw [Nat.succ_mul] at hl
    obtain ⟨l, h1, h2, h3⟩ := chunks_see n (by omega) fun i hi => h i (by omega)
    obtain ⟨ts, h4, h5⟩ := h n (by omega)
    refine ⟨l ++ [ts], by simp [h1], ?_, fun x hx => ?_⟩
    · have := h2.append h4
      rw [List.flatten_append, Nat.succ_mul, List.take_add]
      simpa using this
    · rcases List.mem_append.1 hx with hx | hx
      · exact h3 x hx
      · simp at hx; subst hx; exact h5

theorem reads_arr {t e : TypeId} {n : Nat} {Q : List TV → Prop} (ht : P.underlying t = some (.array n e)) (hc : P.cellsOf t = n * P.cellsOf e) (he : Reads enc P w sp held e Q) :
    Reads enc P w sp held t fun ts => ∃ l : List (List TV), l.length = n ∧ ts = l.flatten ∧ ∀ x, x ∈ l → Q x := by
  intro fuel cs x h
  cases fuel with
  | zero => simp [DataW.trod] at h
  | succ fuel =>
    simp only [DataW.trod, ht] at h
    split at h <;> try (cases h; done)
    rename_i hl
    simp only [Option.map_eq_some_iff] at h
    obtain ⟨xs, hxs, _⟩ := h
    obtain ⟨l, h1, h2, h3⟩ := chunks_see (w := w) (Q := Q) (s := P.cellsOf e) (cs := cs) n (by omega) fun i hi => by
      obtain ⟨y, hy⟩ := mapM_all hxs i (by simpa using hi)
      exact he _ _ _ hy
    rw [List.take_of_length_le (by omega)] at h2
    exact ⟨l.flatten, h2, l, h1, rfl, h3⟩

theorem mem_chunks {a : Addr} {s : Nat} {Q : List TV → Prop} (hs : 0 < s) : ∀ n : Nat, 0 < n → (∀ i, i < n → ∃ cs ts, w.cells? 0 (a.add (i * s)) s = some cs ∧ SeesAll w ts cs ∧ Q ts) →
    ∃ (l : List (List TV)) (us : List Value), l.length = n ∧ us.length = n * s ∧ SeesAll w l.flatten us ∧ (∀ x, x ∈ l → Q x ∧ x.length = s) ∧ MemAt w a.block a.off us ∧ a.spot = none
  | 0, h0, _ => absurd h0 (by omega)
  | n + 1, _, h => by
    have cell : ∀ (i : Nat) (cs : List Value), w.cells? 0 (a.add (i * s)) s = some cs → cs.length = s ∧ ∀ j, j < s → w.cell? ((a.add (i * s)).add j) = cs[j]? := fun i cs hc => by
      have := World.cells?_some hc
      exact ⟨this.2.1, this.2.2⟩
    have hspot : a.spot = none := by
      obtain ⟨cs, ts, h1, _, _⟩ := h 0 (by omega)
      obtain ⟨hl, hcell⟩ := cell 0 cs h1
      have h2 := hcell 0 hs
      rw [show (a.add (0 * s)).add 0 = a by simp [Addr.add]] at h2
      unfold World.cell? at h2
      cases hsp : a.spot with
      | none => rfl
      | some q =>
        rw [List.getElem?_eq_getElem (by omega)] at h2
        split at h2
        · rw [hsp] at h2; simp at h2
        · cases h2
    obtain ⟨cs, ts, h1, h2, h3⟩ := h n (by omega)
    obtain ⟨hl, hcell⟩ := cell n cs h1
    have hmem : MemAt w a.block (a.off + n * s) cs := by
      intro j u hu
      have hj : j < s := by rw [← hl]; exact (List.getElem?_eq_some_iff.1 hu).1
      have := hcell j hj
      rw [hu] at this
      rw [← this]
      congr 1
      obtain ⟨b, o, q⟩ := a
      simp only at hspot
      subst hspot
      simp only [Addr.add]
      split <;> split <;> simp_all <;> omega
    rcases Nat.eq_zero_or_pos n with rfl | hn
    · refine ⟨[ts], cs, rfl, by simpa using hl, by simpa using h2, fun x hx => ?_, by simpa using hmem, hspot⟩
      simp at hx; subst hx; exact ⟨h3, by rw [h2.length]; exact hl⟩
    · obtain ⟨l, us, k1, k2, k3, k4, k5, _⟩ := mem_chunks hs n hn fun i hi => h i (by omega)
      refine ⟨l ++ [ts], us ++ cs, by simp [k1], by rw [List.length_append, k2, hl, Nat.succ_mul], by rw [List.flatten_append]; simpa using k3.append h2, fun x hx => ?_, fun j u hu => ?_, hspot⟩
      · rcases List.mem_append.1 hx with hx | hx
        · exact k4 x hx
        · simp at hx; subst hx; exact ⟨h3, by rw [h2.length]; exact hl⟩
      · rw [List.getElem?_append] at hu
        split at hu
        · exact k5 j u hu
        · rename_i hge
          have := hmem (j - us.length) u hu
          rw [k2] at this
          rw [show a.off + j = a.off + n * s + (j - n * s) by rw [k2] at hge; omega]
          exact this

theorem reads_slice {t e : TypeId} {Q : List TV → Prop} {mk : List TV → TV} (ht : P.underlying t = some (.slice e)) (hs : 0 < P.cellsOf e) (he : Reads enc P w sp held e Q) (hmk : ∀ ts, Q ts → (mk ts).cells = ts) :
    Reads enc P w sp held t fun ts => ts = [.nilsl] ∨ ∃ l : List (List TV), ts = [.bs false (P.cellsOf e) (l.map mk)] ∧ l.length ≤ maxLen ∧ ∀ x, x ∈ l → Q x ∧ x.length = P.cellsOf e := by
  intro fuel cs x h
  cases fuel with
  | zero => simp [DataW.trod] at h
  | succ fuel =>
    simp only [DataW.trod, ht] at h
    rcases cs with _ | ⟨c, _ | ⟨d, cs⟩⟩
    · cases h
    · cases c <;> try (cases h; done)
      rename_i a len cap
      cases a with
      | none =>
        cases len <;> cases cap <;> try (cases h; done)
        exact ⟨[.nilsl], .cons _ _ _ _ .nilsl .nil, .inl rfl⟩
      | some a =>
        simp only at h
        split at h <;> try (cases h; done)
        rename_i hc
        simp only [Option.bind_eq_some_iff] at h
        obtain ⟨xs, hxs, _⟩ := h
        rcases Nat.eq_zero_or_pos len with rfl | hpos
        · exact ⟨[.bs false (P.cellsOf e) []], .cons _ _ _ _ (.bs0 _ _ _ _) .nil, .inr ⟨[], rfl, by simp, fun x hx => by cases hx⟩⟩
        · obtain ⟨l, us, k1, k2, k3, k4, k5, k6⟩ := mem_chunks (w := w) (a := a) (Q := Q) hs len hpos fun i hi => by
            obtain ⟨y, hy⟩ := mapM_all hxs i (by simpa using hi)
            simp only [Option.bind_eq_some_iff] at hy
            obtain ⟨cs, hcs, hy⟩ := hy
            obtain ⟨ts, h1, h2⟩ := he _ _ _ hy
            exact ⟨cs, ts, hcs, h1, h2⟩
          have hfl : (l.map mk).flatMap TV.cells = l.flatten := by
            clear k1 k3
            induction l with
            | nil => rfl
            | cons x l ih =>
              simp only [List.map_cons, List.flatMap_cons, List.flatten_cons]
              rw [hmk x (k4 x (by simp)).1, ih fun y hy => k4 y (by simp [hy])]
          have hv : Sees w (.bs false (P.cellsOf e) (l.map mk)) (.slice (some ⟨a.block, a.off, none⟩) (l.map mk).length cap) := by
            refine .bs false _ _ a.block a.off cap us (by rw [hfl]; exact k3) (fun y hy => ?_) k5 (fun _ => ⟨fun x => x, fun _ x => x⟩) (by simp [k1]; omega)
            obtain ⟨x, hx, rfl⟩ := List.mem_map.1 hy
            rw [hmk x (k4 x hx).1]; exact (k4 x hx).2
          have ha : (⟨a.block, a.off, none⟩ : Addr) = a := by obtain ⟨b, o, q⟩ := a; simp only at k6; subst k6; rfl
          rw [ha] at hv
          simp only [List.length_map, k1] at hv
          exact ⟨_, .cons _ _ _ _ hv .nil, .inr ⟨l, rfl, by omega, k4⟩⟩
    · cases c <;> first
        | (cases h; done)
        | (rename_i a l q; cases a <;> first
            | (cases h; done)
            | (cases l <;> cases q <;> cases h))

def Tile (P : Program) : List Field → Nat → Nat → Prop
  | [], o, n => o = n
  | f :: fs, o, n => f.offset = o ∧ Tile P fs (o + P.cellsOf f.type) n

def AllQ : List (List TV → Prop) → List (List TV) → Prop
  | [], [] => True
  | Q :: Qs, l :: ls => Q l ∧ AllQ Qs ls
  | _, _ => False

def ReadsAll (enc : TypeId × Value → H) (P : Program) (w : World) (sp : Nat → Bool) (held : Bool) : List Field → List (List TV → Prop) → Prop
  | [], [] => True
  | f :: fs, Q :: Qs => Reads enc P w sp held f.type Q ∧ ReadsAll enc P w sp held fs Qs
  | _, _ => False

theorem Tile.le : ∀ {fs : List Field} {o n : Nat}, Tile P fs o n → o ≤ n
  | [], o, n, h => Nat.le_of_eq h
  | f :: fs, o, n, h => by have := Tile.le h.2; omega

theorem fields_see {cs : List Value} {fuel : Nat} : ∀ {fs : List Field} {Qs : List (List TV → Prop)} {o : Nat} {xs : List (DataW H × List MemPlace)}, Tile P fs o cs.length → ReadsAll enc P w sp held fs Qs →
    (fs.mapM fun f => DataW.trod enc P w 0 sp held fuel f.type ((cs.drop f.offset).take (P.cellsOf f.type))) = some xs → ∃ ls, AllQ Qs ls ∧ SeesAll w ls.flatten (cs.drop o)
  | [], [], o, xs, ht, _, _ => by
    have : o = cs.length := ht
    subst this
    exact ⟨[], trivial, by simpa using VsRel.nil⟩
  | f :: fs, Q :: Qs, o, xs, ht, hq, h => by
    simp only [List.mapM_cons, Option.bind_eq_bind, Option.bind_eq_some_iff] at h
    obtain ⟨y, hy, zs, hz, _⟩ := h
    obtain ⟨ts, h1, h2⟩ := hq.1 _ _ _ hy
    obtain ⟨ls, h3, h4⟩ := fields_see ht.2 hq.2 hz
    refine ⟨ts :: ls, ⟨h2, h3⟩, ?_⟩
    have hle := Tile.le ht.2
    rw [ht.1] at h1
    have := h1.append h4
    rw [← List.drop_drop, List.take_append_drop] at this
    simpa using this
  | [], _ :: _, _, _, _, hq, _ => hq.elim
  | _ :: _, [], _, _, _, hq, _ => hq.elim

theorem reads_struct {t : TypeId} {fs : Array Field} {Qs : List (List TV → Prop)} (ht : P.underlying t = some (.struct fs)) (hl : Tile P fs.toList 0 (P.cellsOf t)) (hq : ReadsAll enc P w sp held fs.toList Qs) :
    Reads enc P w sp held t fun ts => ∃ ls, AllQ Qs ls ∧ ts = ls.flatten := by
  intro fuel cs x h
  cases fuel with
  | zero => simp [DataW.trod] at h
  | succ fuel =>
    simp only [DataW.trod, ht] at h
    split at h <;> try (cases h; done)
    rename_i hlen
    simp only [Option.map_eq_some_iff] at h
    obtain ⟨xs, hxs, _⟩ := h
    obtain ⟨ls, h1, h2⟩ := fields_see (w := w) (by rw [hlen]; exact hl) hq hxs
    exact ⟨ls.flatten, by simpa using h2, ls, h1, rfl⟩

theorem sees_one {t : TypeId} {v : Value} {d : DataW H} {ps : List MemPlace} {Q : List TV → Prop} (hr : Reads enc P w sp held t Q) (hv : v.cells.toList = [v]) (hd : DataW.Trod enc P w 0 sp held t v d ps) : ∃ x, Sees w x v ∧ Q [x] := by
  obtain ⟨fuel, h⟩ := hd
  obtain ⟨ts, h1, h2⟩ := hr _ _ _ h
  rw [hv] at h1
  obtain ⟨x, rfl, hx⟩ := h1.inv1
  exact ⟨x, hx, h2⟩

theorem sees_agg {t : TypeId} {cs : Array Value} {d : DataW H} {ps : List MemPlace} {Q : List TV → Prop} (hr : Reads enc P w sp held t Q) (hd : DataW.Trod enc P w 0 sp held t (.agg cs) d ps) : ∃ ts, Sees w (.agg ts) (.agg cs) ∧ Q ts := by
  obtain ⟨fuel, h⟩ := hd
  obtain ⟨ts, h1, h2⟩ := hr _ _ _ h
  exact ⟨ts, .agg _ _ h1, h2⟩

end
end Go.Dn

/-
  A law's row, whatever data its arguments are.
-/

namespace Go.Dn
open Go.ChangeShapes Go.WideShapes Go.ChangeAt Go.RowKit

section
variable {H : Type} {enc : TypeId × Value → H} {P : Program}

theorem trodAll_stays (hl : laidOutB P = true) {W W' : World} (hb : Below W.heap.size W W') {sp : Nat → Bool} : ∀ {ts : List TypeId} {vs : List Value} {ds : List (DataW H)} {ps : List MemPlace},
    (ts.all fun t => P.readableRec t && decide (t < P.types.size)) = true → DataW.TrodAll enc P W 0 (fun _ => true) true ts vs ds ps → (∀ x, x ∈ ps → x.block < W.heap.size) → (∀ x, x ∈ ps → sp x.block = true) →
      DataW.TrodAll enc P W' 0 sp true ts vs ds ps
  | [], vs, ds, ps, _, h, _, _ => by
    obtain ⟨rfl, rfl, rfl⟩ := trodAll_nil h
    exact trodAll_mk0
  | t :: ts, vs, ds, ps, ht, h, hlt, hsp => by
    simp only [List.all_cons, Bool.and_eq_true, decide_eq_true_eq] at ht
    obtain ⟨v, vs', d, ds', p, q, rfl, rfl, rfl, h1, h2⟩ := trodAll_cons h
    exact trodAll_cons_mk (WideElems.Trod_stays hl ht.1.1 ht.1.2 h1 (fun x hx => hb.same (hlt x (by simp [hx]))) fun x hx => hsp x (by simp [hx]))
      (trodAll_stays hl hb ht.2 h2 (fun x hx => hlt x (by simp [hx])) fun x hx => hsp x (by simp [hx]))

theorem law_post {f : Func} {s : ChangeSpec} {apart : Bool} {W W' : World} {args : Array Value} {ds gs : List (DataW H)} {before : List MemPlace} {tb : TypeId}
    (hl : laidOutB P = true) (hts : (f.params.toList.all fun t => P.readableRec t && decide (t < P.types.size)) = true) (hvars : s.vars = []) (hres : f.resultTypes = #[tb]) (hbool : P.underlying tb = some .bool)
    (hW : DataW.Whole enc P f.params.toList s.vars apart W args.toList ds gs before) (hfn : (s.fn H (ds ++ gs)).results = [.lit (.bool true)] ∧ (s.fn H (ds ++ gs)).args = ds ∧ (s.fn H (ds ++ gs)).vars = [])
    (hb : Below W.heap.size W W') {fresh handsOn again : Bool} : s.post enc P f apart fresh handsOn again W args (.bool true) W' := by
  have hlt := hW.lt
  have hW' := hW
  obtain ⟨p, q, hA, hV, hpq, hfz, hnd⟩ := hW
  rw [hvars] at hV
  obtain ⟨rfl, rfl⟩ := trodVars_none hV
  rw [List.append_nil] at hpq
  subst hpq
  refine row_post (pa := before) (pv := []) hW' (fun b sp hd => ?_) (fun sp hsp => ?_) (fun sp hsp => ?_) (by simp) hb (ok_one hres rfl (okWide_bool_mk hbool _))
  · rw [hfn.1, hres]
    exact trodAll_cons_mk (shut_bool hbool _) trodAll_mk0
  · rw [hfn.2.1]
    exact trodAll_stays hl hb hts hA hlt hsp
  · rw [hfn.2.2, hvars]
    rfl
end

theorem one_cell {P : Program} {w : World} {r : Reach} {base : Nat} {t : TypeId} {v : Value} (h : Value.okWide P w r base t v) (ht : aggT P t = false) : v.cells.toList = [v] := by
  cases v <;> try rfl
  exfalso
  rename_i cs
  have hn : ¬ Cell.okWide P w r base t (.agg cs) := by
    intro hc
    unfold Cell.okWide Cell.ok at hc
    cases hu : P.underlying t with
    | none => simp [hu] at hc
    | some d => cases d <;> simp [hu] at hc
  unfold Value.okWide at h
  unfold aggT at ht
  cases hu : P.underlying t with
  | none => simp only [hu] at h; exact hn h
  | some d =>
    cases d <;> simp only [hu] at h ht
    all_goals first | exact hn h | simp at ht

end Go.Dn

