/-
  Regions, part 4: the orders that a region may draw.
-/
import Derived.Test.YtijeefncmgjlpaaDb
import Derived.Maps.RangeRun
import Derived.ChangeSame
import Derived.ProofKit
import Derived.WideKeyArgs
import Derived.Carry
import Derived.OpenShut
set_option linter.unusedSimpArgs false
set_option linter.unusedVariables false

namespace Go.Dn
open Region

theorem push_low {α : Type} (g : Array Nat -> α -> Nat) : ∀ (l : List α) (acc : Array Nat) (i : Nat), i < acc.size -> (l.foldl (fun acc o => acc.push (g acc o)) acc)[i]? = acc[i]?
 | [], acc, i, h => rfl
 | o :: l, acc, i, h => by
  simp only [List.foldl_cons]
  rw [push_low g l (acc.push (g acc o)) i (by simp; omega), Array.getElem?_push, if_neg (by omega)]

theorem push_at {α : Type} (g : Array Nat -> α -> Nat) : ∀ (l : List α) (acc : Array Nat) (k : Nat) (o : α), l[k]? = some o ->
  ∃ acc' : Array Nat, acc'.size = acc.size + k /\ (l.foldl (fun acc o => acc.push (g acc o)) acc)[acc.size + k]? = some (g acc' o) /\ ∀ i, i < acc'.size -> acc'[i]? = (l.foldl (fun acc o => acc.push (g acc o)) acc)[i]?
 | [], acc, k, o, h => by simp at h
 | a :: l, acc, 0, o, h => by
  simp at h; subst h
  refine ⟨acc, rfl, ?_, fun i hi => ?_⟩
  ·simp only [List.foldl_cons, Nat.add_zero]
   rw [push_low g l _ _ (by simp)]
   simp
  ·exact (push_low g (a :: l) acc i hi).symm
 | a :: l, acc, k + 1, o, h => by
  obtain ⟨acc', h1, h2, h3⟩ := push_at g l (acc.push (g acc a)) k o (by simpa using h)
  simp only [Array.size_push] at h1 h2
  refine ⟨acc', by omega, ?_, h3⟩
  rw [show acc.size + (k + 1) = acc.size + 1 + k by omega]
  exact h2

def oneB (acc : Array Nat) (o : Oper) : Nat := o.after.foldl (fun s e => if binds .any e then s ||| 2 ^ e.on ||| acc.getD e.on 0 else s) 0

theorem oneB_bits (acc : Array Nat) (i : Nat) : ∀ (l : List Edge) (s : Nat), (l.foldl (fun s e => if binds .any e then s ||| 2 ^ e.on ||| acc.getD e.on 0 else s) s).testBit i = true ->
  s.testBit i = true \/ ∃ e, e ∈ l /\ binds .any e = true /\ (i = e.on \/ (acc.getD e.on 0).testBit i = true)
 | [], s, h => .inl h
 | e :: l, s, h => by
  simp only [List.foldl_cons] at h
  rcases oneB_bits acc i l _ h with h1 | ⟨x, hx, h2⟩
  ·split at h1
   ·rename_i hb
    rw [Nat.testBit_or, Nat.testBit_or, Bool.or_eq_true, Bool.or_eq_true] at h1
    rcases h1 with (h1 | h1) | h1
    ·exact .inl h1
    ·rw [Nat.testBit_two_pow] at h1
     exact .inr ⟨e, by simp, hb, .inl (by simp at h1; exact h1.symm)⟩
    ·exact .inr ⟨e, by simp, hb, .inr h1⟩
   ·exact .inl h1
  ·exact .inr ⟨x, by simp [hx], h2⟩

theorem before_bits {os : Array Oper} {j i : Nat} {o : Oper} (ho : os[j]? = some o) (h : ((before os).getD j 0).testBit i = true) (hlt : ∀ e, e ∈ o.after -> binds .any e = true -> e.on < j) :
  ∃ e, e ∈ o.after /\ binds .any e = true /\ (i = e.on \/ ((before os).getD e.on 0).testBit i = true) := by
 have hb : before os = os.toList.foldl (fun acc o => acc.push (oneB acc o)) #[] := by
  unfold before oneB
  rw [<- Array.foldl_toList]
 obtain ⟨acc', h1, h2, h3⟩ := push_at oneB os.toList #[] j o (by simpa using ho)
 simp only [List.size_toArray, List.length_nil, Nat.zero_add] at h1 h2
 rw [<- hb] at h2 h3
 rw [Array.getD_eq_getD_getElem?, h2] at h
 simp only [Option.getD_some, oneB] at h
 rw [<- Array.foldl_toList] at h
 rcases oneB_bits acc' i _ _ h with h4 | ⟨e, he, hbd, h5⟩
 ·simp at h4
 ·refine ⟨e, by simpa using he, hbd, h5.imp id fun h6 => ?_⟩
  rw [Array.getD_eq_getD_getElem?, h3 e.on (by have := hlt e (by simpa using he) hbd; omega)] at h6
  rw [Array.getD_eq_getD_getElem?]; exact h6

theorem conflAll_get (y : DOper) (m : Nat) : ∀ (l : List DOper) (i0 i : Nat), conflAll y m l i0 = true -> i < l.length -> confl (D l i) y = true -> m.testBit (i0 + i) = true
 | [], i0, i, h, hi, _ => by simp at hi
 | x :: l, i0, i, h, hi, hc => by
  simp only [conflAll, Bool.and_eq_true, Bool.or_eq_true, Bool.not_eq_true'] at h
  cases i with
  | zero =>
   rcases h.1 with h1 | h1
   ·have : confl x y = true := by simpa [D] using hc
    rw [this] at h1; cases h1
   ·exact h1
  | succ i =>
   have := conflAll_get y m l (i0 + 1) i h.2 (by simpa using hi) (by simpa [D] using hc)
   rw [show i0 + (i + 1) = i0 + 1 + i by omega]; exact this

theorem pairsOk_get {b : Array Nat} {ds : List DOper} : ∀ (l : List DOper) (j0 j : Nat), pairsOk b ds j0 l = true -> j < l.length -> conflAll (D l j) (b.getD (j0 + j) 0) (ds.take (j0 + j)) 0 = true
 | [], j0, j, h, hj => by simp at hj
 | y :: l, j0, j, h, hj => by
  simp only [pairsOk, Bool.and_eq_true] at h
  cases j with
  | zero => simpa [D] using h.1
  | succ j =>
   have := pairsOk_get l (j0 + 1) j h.2 (by simpa using hj)
   rw [show j0 + (j + 1) = j0 + 1 + j by omega]
   simpa [D] using this

structure Ord (ds : List DOper) (fr : List (Nat × Nat)) (os : Array Oper) : Prop where
 len : ds.length = os.size
 low : ∀ j o, os[j]? = some o -> ∀ e, e ∈ o.after -> binds .any e = true -> e.on < j
 pair : ∀ i j, i < j -> j < ds.length -> cf ds fr i j = true -> ((before os).getD j 0).testBit i = true

theorem ord_of {ds : List DOper} {os : Array Oper} (h : drawOk ds os = true) (hl : ds.length = os.size) : Ord ds [] os := by
 simp only [drawOk, Bool.and_eq_true, List.all_eq_true, Bool.or_eq_true, Bool.not_eq_true', decide_eq_true_eq] at h
 refine ⟨hl, fun j o ho e he hb => ?_, fun i j hij hj hc => ?_⟩
 ·have hm : (o, j) ∈ os.toList.zipIdx := by
   rw [List.mem_zipIdx_iff_getElem?]; simpa using ho
  have := h.1 (o, j) hm e (by simpa using he)
  rcases this with h1 | h1
  ·rw [hb] at h1; cases h1
  ·exact h1
 ·have h1 := pairsOk_get ds 0 j h.2 hj
  rw [Nat.zero_add] at h1
  have hc' : confl (D ds i) (D ds j) = true := by unfold cf at hc; rw [Bool.and_eq_true] at hc; exact hc.1
  have h2 := conflAll_get (D ds j) _ _ 0 i h1 (by simp; omega) (by
   have : D (ds.take j) i = D ds i := by simp [D, List.getElem?_take, hij]
   rw [this]; exact hc')
  rwa [Nat.zero_add] at h2

theorem cfAll_get {ds : List DOper} {fr : List (Nat × Nat)} {j m : Nat} : ∀ (n i : Nat), cfAll ds fr j m n = true -> i < n -> cf ds fr i j = true -> m.testBit i = true
 | 0, i, _, hi, _ => by omega
 | n + 1, i, h, hi, hc => by
  simp only [cfAll, Bool.and_eq_true, Bool.or_eq_true, Bool.not_eq_true'] at h
  by_cases he : i = n
  ·subst he
   rcases h.1 with h1 | h1
   ·rw [hc] at h1; cases h1
   ·exact h1
  ·exact cfAll_get n i h.2 (by omega) hc

theorem cfPairs_get {b : Array Nat} {ds : List DOper} {fr : List (Nat × Nat)} : ∀ (n j : Nat), cfPairs b ds fr n = true -> j < n -> cfAll ds fr j (b.getD j 0) j = true
 | 0, j, _, hj => by omega
 | n + 1, j, h, hj => by
  simp only [cfPairs, Bool.and_eq_true] at h
  by_cases he : j = n
  ·subst he; exact h.1
  ·exact cfPairs_get n j h.2 (by omega)

theorem ordF_of {ds : List DOper} {fr : List (Nat × Nat)} {os : Array Oper} (h : drawOkF ds os fr = true) (hl : ds.length = os.size) : Ord ds fr os := by
 simp only [drawOkF, Bool.and_eq_true, List.all_eq_true, Bool.or_eq_true, Bool.not_eq_true', decide_eq_true_eq] at h
 refine ⟨hl, fun j o ho e he hb => ?_, fun i j hij hj hc => cfAll_get j i (cfPairs_get _ j h.2 hj) hij hc⟩
 have hm : (o, j) ∈ os.toList.zipIdx := by
  rw [List.mem_zipIdx_iff_getElem?]; simpa using ho
 have := h.1 (o, j) hm e (by simpa using he)
 rcases this with h1 | h1
 ·rw [hb] at h1; cases h1
 ·exact h1

def left (n : Nat) (listed : Array Bool) : List Nat := (List.range n).filter fun i => !listed.getD i true

theorem sched_go {ds : List DOper} {fr : List (Nat × Nat)} {os : Array Oper} (ho : Ord ds fr os) : ∀ (fuel t : Nat) (listed : Array Bool), listed.size = os.size ->
  (∀ j, listed.getD j false = true -> ∀ i, ((before os).getD j 0).testBit i = true -> listed.getD i false = true) -> (left os.size listed).length <= fuel ->
  Sched ds fr (fun i => listed.getD i false = true) (Region.linearise.go .any os fuel t listed []) := by
 have hall : ∀ listed : Array Bool, listed.size = os.size -> Region.ready .any os listed = [] -> ∀ i, i < os.size -> listed.getD i false = true := by
  intro listed hsz hnil i
  induction i using Nat.strongRecOn with
  | _ i ih =>
   intro hi
   cases hb : listed.getD i false with
   | true => rfl
   | false =>
    exfalso
    have hm : i ∈ Region.ready .any os listed := by
     rw [mem_ready]
     refine ⟨?_, os[i], by simp [hi], fun e he hbd => ?_⟩
     ·have : i < listed.size := by omega
      simpa [Array.getD, this] using hb
     ·have := ho.low i os[i] (by simp [hi]) e he hbd
      exact ih e.on this (by omega)
    rw [hnil] at hm; cases hm
 intro fuel
 induction fuel with
 | zero =>
  intro t listed hsz hclo hleft
  simp only [Region.linearise.go, List.reverse_nil, Sched]
  intro i hi
  rw [ho.len] at hi
  cases hb : listed.getD i false with
  | true => rfl
  | false =>
   exfalso
   have : i ∈ left os.size listed := by
    have hl : i < listed.size := by omega
    simp only [left, List.mem_filter, List.mem_range, hi, true_and]
    simpa [Array.getD, hl] using hb
   have h0 : left os.size listed = [] := List.eq_nil_of_length_eq_zero (by omega)
   rw [h0] at this; cases this
 | succ fuel ih =>
  intro t listed hsz hclo hleft
  simp only [Region.linearise.go]
  change Sched ds fr _ (match (Region.ready .any os listed)[t % (Region.ready .any os listed).length]? with
   | some i => Region.linearise.go .any os fuel (t / (Region.ready .any os listed).length) (listed.setIfInBounds i true) [i]
   | none => [].reverse)
  cases hi : (Region.ready .any os listed)[t % (Region.ready .any os listed).length]? with
  | none =>
   have hnil : Region.ready .any os listed = [] := by
    cases hr : Region.ready .any os listed with
    | nil => rfl
    | cons x xs =>
     rw [hr] at hi
     have hlt : t % (x :: xs).length < (x :: xs).length := Nat.mod_lt _ (by simp)
     simp at hi
     simp at hlt
     omega
   simp only [List.reverse_nil, Sched]
   intro i hin
   exact hall listed hsz hnil i (by rw [<- ho.len]; exact hin)
  | some j =>
   have hj := List.mem_of_getElem? hi
   rw [mem_ready] at hj
   obtain ⟨hjf, o, hoj, hedges⟩ := hj
   have hjn : j < os.size := (Array.getElem?_eq_some_iff.1 hoj).1
   have hjl : j < listed.size := by omega
   have hjfalse : listed.getD j false = false := by simpa [Array.getD, hjl] using hjf
   have hpre : ∀ i, ((before os).getD j 0).testBit i = true -> listed.getD i false = true := by
    intro i hbit
    obtain ⟨e, he, hbd, h1⟩ := before_bits hoj hbit (ho.low j o hoj)
    have hle := hedges e he hbd
    rcases h1 with rfl | h1
    ·exact hle
    ·exact hclo e.on hle i h1
   simp only []
   rw [linearise_go_acc, List.reverse_singleton, List.singleton_append]
   refine ⟨⟨by rw [ho.len]; exact hjn, by rw [hjfalse]; exact Bool.false_ne_true, fun i hij hc => hpre i (ho.pair i j hij (by rw [ho.len]; exact hjn) hc), fun i hij hin hc hS => ?_⟩, ?_⟩
   ·have := hclo i hS j (ho.pair j i hij hin hc)
    rw [hjfalse] at this; cases this
   ·have hset : ∀ i, (listed.setIfInBounds j true).getD i false = true ↔ (listed.getD i false = true \/ i = j) := by
     intro i
     by_cases hij : i = j
     ·subst hij; simp [Array.getD, hjl]
     ·rw [getD_set_ne false (Ne.symm hij)]; simp [hij]
    have hfun : (fun i => listed.getD i false = true \/ i = j) = (fun i => (listed.setIfInBounds j true).getD i false = true) := by
     funext i; exact propext (hset i).symm
    rw [hfun]
    refine ih _ _ (by simpa using hsz) (fun k hk i hbit => ?_) ?_
    ·rw [hset] at hk ⊢
     rcases hk with hk | rfl
     ·exact .inl (hclo k hk i hbit)
     ·exact .inl (hpre i hbit)
    ·have hsub : left os.size (listed.setIfInBounds j true) = (left os.size listed).filter (fun i => i != j) := by
      unfold left
      rw [List.filter_filter]
      refine List.filter_congr fun i _ => ?_
      by_cases hij : i = j
      ·subst hij; simp [Array.getD, hjl]
      ·rw [getD_set_ne true (Ne.symm hij)]; simp [hij]
     have hmem : j ∈ left os.size listed := by
      simp only [left, List.mem_filter, List.mem_range, hjn, true_and]
      simp [hjf]
     have : ((left os.size listed).filter (fun i => i != j)).length < (left os.size listed).length := by
      rw [List.length_filter_lt_length_iff_exists]
      exact ⟨j, hmem, by simp⟩
     rw [hsub]; omega

theorem sched_ord {ds : List DOper} {fr : List (Nat × Nat)} {os : Array Oper} (h : Ord ds fr os) (t : Nat) : Sched ds fr (fun _ => False) (Region.linearise .any os t) := by
 have hrep : ∀ i, (Array.replicate os.size false).getD i false = false := by
  intro i; simp only [Array.getD_eq_getD_getElem?, Array.getElem?_replicate]; split <;> rfl
 have := sched_go h os.size t (Array.replicate os.size false) (by simp) (fun j hj => by rw [hrep] at hj; cases hj) (by
  unfold left; exact Nat.le_trans (List.length_filter_le _ _) (by simp))
 have he : (fun _ : Nat => False) = (fun i => (Array.replicate os.size false).getD i false = true) := by
  funext i; rw [hrep]; exact propext ⟨fun h => h.elim, fun h => by cases h⟩
 rw [he]
 exact this

theorem sched_draw {ds : List DOper} {os : Array Oper} (h : drawOk ds os = true) (hl : ds.length = os.size) (t : Nat) : Sched ds [] (fun _ => False) (Region.linearise .any os t) := sched_ord (ord_of h hl) t

theorem sched_drawF {ds : List DOper} {fr : List (Nat × Nat)} {os : Array Oper} (h : drawOkF ds os fr = true) (hl : ds.length = os.size) (t : Nat) : Sched ds fr (fun _ => False) (Region.linearise .any os t) := sched_ord (ordF_of h hl) t

theorem Sched.more {ds : List DOper} {fr : List (Nat × Nat)} : ∀ {l : List Nat} {S : Nat -> Prop}, Sched ds [] S l -> Sched ds fr S l
 | [], S, h => h
 | j :: l, S, h => by
  have hcf : ∀ {i k}, cf ds fr i k = true -> cf ds [] i k = true := by
   intro i k hc
   unfold cf at hc ⊢
   rw [Bool.and_eq_true] at hc
   simp [hc.1]
   exact hc.1
  exact ⟨⟨h.1.lt, h.1.new, fun i hij hc => h.1.bef i hij (hcf hc), fun i hij hin hc => h.1.aft i hij hin (hcf hc)⟩, Sched.more h.2⟩

end Go.Dn

/-
 The evaluator's code: sound. Then its limit.
-/

namespace Go.Dn

variable {P : Program} {pg : Pg} {Gz : Nat}

def Done (P : Program) (pg : Pg) (B W0 : Nat) (N : Nat) (b : Frame) (tm : Array Value) (c : List Item) (k : List Item) (ds : List Deferred) (cs : List Frame) (π : PMap) (H : Heap) (w : World) (av ex : Nat -> Prop) (out : Out) : Prop :=
 ∃ tm' td ds' w' π' av', Steps P (lone (fr b tm c ds) cs w) (lone (fr b tm' td ds') cs w') /\ tm'.size = N /\ ExTo out.ex k td /\ ERel π' w' av' ex out.env tm' /\ DefOk W0 w' av' ds' /\
   Res P B (wrK B av true) π H w av ex out.H w' π' av'

theorem exitTo_skip {id : Nat} {i : Item} {k : List Item} (h : ∀ id', i ≠ .inBlock id') : exitTo id (i :: k) = exitTo id k := by
 cases i <;> first | rfl | exact absurd rfl (h _)

theorem exitTo_block {id id' : Nat} {k : List Item} : exitTo id (.inBlock id' :: k) = if id' = id then some k else exitTo id k := by
 simp only [exitTo]
 by_cases h : id' = id <;> simp [h]

section
variable {B W0 N : Nat} {b : Frame} {ds : List Deferred} {cs : List Frame} {ex : Nat -> Prop}

theorem ExTo.under {x : Ex} {i : Item} {k td : List Item} (hx : x ≠ .normal) (hi : ∀ id', i ≠ .inBlock id') (h : ExTo x (i :: k) td) : ExTo x k td := by
 cases x with
 | normal => exact absurd rfl hx
 | exit id => obtain ⟨K, rfl, h⟩ := h; exact ⟨K, rfl, by rw [h, exitTo_skip hi]⟩
 | ret => exact h

theorem rfunc_enter {tm : Array Value} {k : List Item} {w : World} {f : Operand} {params : Array Tmp} {ags bd : Code} {l : Nat} {mark : List Deferred} {w1 : World} {nx : Next} {frm : Frame}
  (h1 : (Instr.enterLoop b.fn tm params ags bd b.roundOf).run P w = .ok (l, mark) w1) (h2 : (invokeS (ev tm f) #[.func (.yield l) #[] #[]]).run P w1 = .ok nx w1) (h3 : callee P nx = some frm) :
  step P (lone (fr b tm (.code (.rangeFunc f params ags bd) :: k) ds) cs w) = .next (lone frm (fr b tm (.inRangeFunc l :: k) (mark ++ ds) :: cs) w1) := by
 refine step_lone_go ?_
 have he : ∀ td dd, (fr b tm td dd).eval f = ev tm f := fun td dd => fr_eval (b := b) (tm := tm) (ds := dd) f td
 have hres : (do let d <- resolve (fr b tm (.inRangeFunc l :: k) (mark ++ ds)).eval { callee := .value f, args := #[.const (.func (.yield l) #[] #[])], argTypes := #[] } 0; invoke d.target d.args : Sem Next) = invokeS (ev tm f) #[.func (.yield l) #[] #[]] := by
  simp only [resolve, he, invokeS]
  simp [Frame.eval]
 simp only [fr] at hres
 simp only [stepG, stepG.exec, fr]
 simp [h1, hres, stepG.apply]
 rw [h2]
 cases nx <;> simp only [callee] at h3 <;> (try (cases h3; done)) <;> (injection h3 with h3; subst h3; rfl)

theorem st_endRange {tm : Array Value} {k : List Item} {w : World} {l : Nat} {r : Loop} (h : w.heap[l]? = some (.loop r)) (hst : r.state ≠ .busy) :
  step P (lone (fr b tm (.endRangeFunc l :: k) ds) cs w) = .next (lone (fr b tm ((r.pending.map Item.code).toList ++ k) ds) cs (setL w l { r with state := .exhausted })) := by
 refine step_lone_go ?_
 have h1 : (Instr.endLoop l).run P w = .ok r.pending (setL w l { r with state := .exhausted }) := by
  cases hs : r.state <;> simp [hs] at hst <;> simp [Instr.endLoop, Instr.getLoop, getObj, setObj, Sem.run, h, hs, setL]
 simp [stepG, stepG.exec, fr, h1]

theorem Steps.tail {m m1 m' : Machine} (h : Steps P m m') (hs : step P m = .next m1) (hne : m ≠ m') : Steps P m1 m' := by
 obtain ⟨n, hn⟩ := h
 cases n with
 | zero => simp [runN] at hn; exact absurd hn hne
 | succ n => exact ⟨n, by simpa [runN, hs] using hn⟩

end
end Go.Dn

/-
 Loops over a map: sound.
-/

namespace Go.Dn
open Go.ChangeMaps (setBlock)

variable {P : Program} {pg : Pg} {Gz : Nat}

theorem permOk_get {α β : Type} {f : List α -> Option β} {l : List α} {r : β} (h : permOk f l = true) (hf : f l = some r) {p : List α} (hp : p.Perm l) : f p = some r := by
 unfold permOk at h
 split at h
 ·rename_i hl
  have : p = l := by
   match l, hl with
   | [], _ => exact hp.eq_nil
   | [a], _ => exact List.perm_singleton.1 hp
  rw [this]; exact hf
 ·rw [@of_decide_eq_true _ (Classical.propDecidable _) h p hp]; exact hf

theorem permOk_of {α β : Type} {f : List α -> Option β} {l : List α} {r : β} (hl : f l = some r) (h : ∀ p : List α, p.Perm l -> f p = some r) : permOk f l = true := by
 unfold permOk
 split
 ·rfl
 ·exact @decide_eq_true _ (Classical.propDecidable _) fun p hp => (h p hp).trans hl.symm

/-! ### worlds in which all rows of cells are alike -/
def CellsKept (w w' : World) : Prop := ∀ (g : Nat) (c : Array Value) (el : TypeId) (f : Nat × Nat), w.heap[g]? = some (.cells c el f) -> w'.heap[g]? = some (.cells c el f)

theorem CellsKept.cell {w w' : World} (h : CellsKept w w') {a : Addr} {u : Value} (hc : w.cell? a = some u) : w'.cell? a = some u := by
 unfold World.cell? at hc ⊢
 split at hc
 ·rename_i cc el fr hb
  rw [h _ _ _ _ hb]
  exact hc
 ·cases hc

theorem cells_of_cell {w : World} {g o : Nat} {u : Value} (h : w.cell? ⟨g, o, none⟩ = some u) : ∃ c el f, w.heap[g]? = some (.cells c el f) := by
 unfold World.cell? at h
 split at h
 ·rename_i cc el fr hb; exact ⟨_, _, _, hb⟩
 ·cases h

mutual
theorem VRel.shift {π : PMap} {w w' : World} {av av' ex : Nat -> Prop} (e : CellsKept w w') (ha : ∀ g c el f, w.heap[g]? = some (.cells c el f) -> av' g -> av g) {t : TV} {v : Value} : VRel π w av ex t v -> VRel π w' av' ex t v
 | .undef => .undef
 | .b x => .b x
 | .i k n => .i k n
 | .s x => .s x
 | .nilp => .nilp
 | .nilsl => .nilsl
 | .nilmap => .nilmap
 | .nilfn => .nilfn
 | .nilif => .nilif
 | .agg l cs h => .agg l cs (VsRel.shift e ha h)
 | .tup l cs h => .tup l cs (VsRel.shift e ha h)
 | .fn f fs cs fa ca h1 h2 => .fn f fs cs fa ca (VsRel.shift e ha h1) (VsRel.shift e ha h2)
 | .yl id g h => .yl id g h
 | .ref id off g sh h => .ref id off g sh h
 | .sl id off sz ag len cap g sh c cc el fr h hb hl hc hs => .sl id off sz ag len cap g sh c cc el fr h (e _ _ _ _ hb) hl hc hs
 | .sl0 id off sz ag cap a hc => .sl0 id off sz ag cap a hc
 | .esl a => .esl a
 | .mp id g h => .mp id g h
 | .bp bo v g off us h hm hx => .bp bo v g off us (VsRel.shift e ha h) (fun j u hu => e.cell (hm j u hu)) fun hn => by
   cases us with
   | nil => exact absurd rfl hn
   | cons u us =>
    obtain ⟨c, el, f, hc⟩ := cells_of_cell (hm 0 u rfl)
    exact ⟨fun x => (hx hn).1 (ha g c el f hc x), (hx hn).2⟩
 | .bs bo sz es g off c us h hz hm hx hl => .bs bo sz es g off c us (VsRel.shift e ha h) hz (fun j u hu => e.cell (hm j u hu)) (fun hn => by
   cases us with
   | nil => exact absurd rfl hn
   | cons u us =>
    obtain ⟨c, el, f, hc⟩ := cells_of_cell (hm 0 u rfl)
    exact ⟨fun x => (hx hn).1 (ha g c el f hc x), (hx hn).2⟩) hl
 | .bs0 bo sz a c => .bs0 bo sz a c
theorem VsRel.shift {π : PMap} {w w' : World} {av av' ex : Nat -> Prop} (e : CellsKept w w') (ha : ∀ g c el f, w.heap[g]? = some (.cells c el f) -> av' g -> av g) {ts : List TV} {vs : List Value} : VsRel π w av ex ts vs -> VsRel π w' av' ex ts vs
 | .nil => .nil
 | .cons t v ts vs h hs => .cons t v ts vs (VRel.shift e ha h) (VsRel.shift e ha hs)
end

theorem EsRel.shift {π : PMap} {w w' : World} {av av' ex : Nat -> Prop} (e : CellsKept w w') (ha : ∀ g c el f, w.heap[g]? = some (.cells c el f) -> av' g -> av g) : ∀ {es : List (TV × TV × Nat)} {ces : List MapEntry}, EsRel π w av ex es ces -> EsRel π w' av' ex es ces
 | [], [], _ => trivial
 | (k, v, n) :: r, c :: cs, h => ⟨h.1.shift e ha, h.2.1.shift e ha, h.2.2.1, EsRel.shift e ha h.2.2.2⟩
 | [], _ :: _, h => h.elim
 | _ :: _, [], h => h.elim

theorem ERel.shift {π : PMap} {w w' : World} {av av' ex : Nat -> Prop} (e : CellsKept w w') (ha : ∀ g c el f, w.heap[g]? = some (.cells c el f) -> av' g -> av g) {en : Env} {tm : Array Value} (h : ERel π w av ex en tm) : ERel π w' av' ex en tm :=
 fun s t hs => (h s t hs).shift e ha

theorem ORel.shift {π : PMap} {w w' : World} {av av' ex : Nat -> Prop} (e : CellsKept w w') (ha : ∀ g c el f, w.heap[g]? = some (.cells c el f) -> av' g -> av g) {sh : Nat} {o : AObj} {ob : Obj} (h : ORel P π w av ex sh o ob) : ORel P π w' av' ex sh o ob := by
 cases o <;> cases ob <;> simp only [ORel] at h ⊢
 case cells.cells =>
  obtain ⟨h1, h0, h2, us, h3, h4⟩ := h
  exact ⟨h1, h0, h2, us, h3.shift e ha, h4⟩
 case map.map => exact ⟨h.1, h.2.1, h.2.2.shift e ha⟩
 case mapS.map => obtain ⟨h1, h2, es0, h3, h4⟩ := h; exact ⟨h1, h2, es0, h3, h4.shift e ha⟩
 case iter.mapIter => exact h
 case loop.loop =>
  obtain ⟨h1, h2, h3, h4, h5⟩ := h
  exact ⟨h1, h2, h3, h4.shift e ha, h5⟩

section
variable {B : Nat} {π : PMap} {H : Heap} {w : World} {av ex : Nat -> Prop}

def Free (π : PMap) (H : Heap) (g0 : Nat) : Prop := ∀ id g sh o, π id = some (g, sh) -> H[id]? = some o -> o ≠ .dead -> g ≠ g0

theorem HRel.less (h : HRel P B π H w av ex) {av' : Nat -> Prop} (ha : ∀ g, av' g -> av g) (hl : ∀ id g sh o, π id = some (g, sh) -> H[id]? = some o -> o ≠ .dead -> av' g) : HRel P B π H w av' ex where
 obj id g sh o hp ho hd := by
  obtain ⟨h1, h2, ob, h3, h4⟩ := h.obj id g sh o hp ho hd
  exact ⟨h1, hl id g sh o hp ho hd, ob, h3, h4.shift (fun _ _ _ _ x => x) fun g _ _ _ _ x => ha g x⟩
 inj := h.inj
 avb g x := h.avb g (ha g x)
 exb := h.exb
 bsz := h.bsz

theorem HRel.more (h : HRel P B π H w av ex) {w' : World} {av' : Nat -> Prop} (e : CellsKept w w') (hb : ∀ g, av g -> w'.heap[g]? = w.heap[g]?) (hs : w'.heap.size = w.heap.size) (ha : ∀ g, av g -> av' g) (ha' : ∀ g, av' g -> g < w.heap.size)
  (hc : ∀ g c el f, w.heap[g]? = some (.cells c el f) -> av' g -> av g) : HRel P B π H w' av' ex where
 obj id g sh o hp ho hd := by
  obtain ⟨h1, h2, ob, h3, h4⟩ := h.obj id g sh o hp ho hd
  exact ⟨h1, ha g h2, ob, by rw [hb g h2]; exact h3, h4.shift e hc⟩
 inj := h.inj
 avb g x := by rw [hs]; exact ha' g x
 exb g x := by rw [hs]; exact h.exb g x
 bsz := by rw [hs]; exact h.bsz

theorem HRel.turn (h : HRel P B π H w av ex) {w' : World} {r : Nat} (hf : Free π H r) (hb : ∀ g, g ≠ r -> w'.heap[g]? = w.heap[g]?) (hs : w'.heap.size = w.heap.size) (hc : ∀ c el f, w.heap[r]? ≠ some (.cells c el f)) : HRel P B π H w' av ex where
 obj id g sh o hp ho hd := by
  obtain ⟨h1, h2, ob, h3, h4⟩ := h.obj id g sh o hp ho hd
  refine ⟨h1, h2, ob, by rw [hb g (hf id g sh o hp ho hd)]; exact h3, h4.shift (fun g c el f x => ?_) fun _ _ _ _ _ x => x⟩
  rw [hb g fun he => hc c el f (he ▸ x)]; exact x
 inj := h.inj
 avb g x := by rw [hs]; exact h.avb g x
 exb g x := by rw [hs]; exact h.exb g x
 bsz := by rw [hs]; exact h.bsz

theorem Free.set {g0 : Nat} (hf : Free π H g0) (id : Nat) : Free π (H.set id .dead) g0 := fun i g sh o hp ho hd => by
 rw [List.getElem?_set] at ho
 split at ho
 ·split at ho
  ·injection ho with ho; exact absurd ho.symm hd
  ·cases ho
 ·exact hf i g sh o hp ho hd

theorem HRel.free (h : HRel P B π H w av ex) {id g sh : Nat} {o : AObj} (hp : π id = some (g, sh)) (hi : H[id]? = some o) (hd : o ≠ .dead) : Free π (H.set id .dead) g := fun i g' sh' o' hp' ho' hd' he => by
 subst he
 rw [List.getElem?_set] at ho'
 split at ho'
 ·split at ho'
  ·injection ho' with ho'; exact absurd ho'.symm hd'
  ·cases ho'
 ·rename_i hne
  exact hne (h.inj i id g' sh' sh o' o hp' ho' hd' hp hi hd).symm

theorem HRel.revive (h : HRel P B π H w av ex) {id g : Nat} {o : AObj} {ob : Obj} (hp : π id = some (g, 0)) (hf : Free π H g) (hav : av g) (hB : B <= g) (hb : w.heap[g]? = some ob) (ho : ORel P π w av ex 0 o ob) : HRel P B π (H.set id o) w av ex := by
 have hidx : ∀ i oo, (H.set id o)[i]? = some oo -> (i ≠ id /\ H[i]? = some oo) \/ (i = id /\ oo = o) := by
  intro i oo hh
  rw [List.getElem?_set] at hh
  by_cases he : id = i
  ·subst he
   simp only [if_true] at hh
   split at hh
   ·injection hh with hh; exact .inr ⟨rfl, hh.symm⟩
   ·cases hh
  ·rw [if_neg he] at hh; exact .inl ⟨fun x => he x.symm, hh⟩
 refine ⟨?_, ?_, h.avb, h.exb, h.bsz⟩
 ·intro i g' sh' oo hp' hh hdd
  rcases hidx i oo hh with ⟨hne, hq⟩ | ⟨rfl, rfl⟩
  ·exact h.obj i g' sh' oo hp' hq hdd
  ·rw [hp] at hp'
   simp only [Option.some.injEq, Prod.mk.injEq] at hp'
   obtain ⟨rfl, rfl⟩ := hp'
   exact ⟨hB, hav, ob, hb, ho⟩
 ·intro i i' g' s1 s2 o1 o2 hp1 hh1 hd1 hp2 hh2 hd2
  rcases hidx i o1 hh1 with ⟨hn1, hq1⟩ | ⟨rfl, rfl⟩ <;> rcases hidx i' o2 hh2 with ⟨hn2, hq2⟩ | ⟨rfl, rfl⟩
  ·exact h.inj i i' g' s1 s2 o1 o2 hp1 hq1 hd1 hp2 hq2 hd2
  ·rw [hp] at hp2
   simp only [Option.some.injEq, Prod.mk.injEq] at hp2
   obtain ⟨rfl, rfl⟩ := hp2
   exact absurd rfl (hf i g s1 o1 hp1 hq1 hd1)
  ·rw [hp] at hp1
   simp only [Option.some.injEq, Prod.mk.injEq] at hp1
   obtain ⟨rfl, rfl⟩ := hp1
   exact absurd rfl (hf i' g s2 o2 hp2 hq2 hd2)
  ·rfl
end

/-! ### what is left of a map -/
theorem leftOf_split {ces : Array MapEntry} {seen : Array Nat} (hn : (ces.toList.map (·.born)).Nodup) {e : MapEntry} (he : e ∈ (leftOf ces seen).toList) :
  ∃ A C, (leftOf ces seen).toList = A ++ e :: C /\ (leftOf ces (seen.push e.born)).toList = A ++ C := by
 obtain ⟨A, C, hAC⟩ := List.append_of_mem he
 refine ⟨A, C, hAC, ?_⟩
 have h1 : (leftOf ces (seen.push e.born)).toList = (leftOf ces seen).toList.filter fun x => !(x.born == e.born) := by
  unfold leftOf
  rw [Array.toList_filter, Array.toList_filter, List.filter_filter]
  refine List.filter_congr fun x _ => ?_
  simp only [Array.contains_push]
  cases (x.born == e.born) <;> cases seen.contains x.born <;> rfl
 have hnd : ((leftOf ces seen).toList.map (·.born)).Nodup := by
  unfold leftOf
  rw [Array.toList_filter]
  exact (List.filter_sublist.map _).nodup hn
 rw [h1, hAC]
 rw [hAC, List.map_append, List.map_cons] at hnd
 have hd := List.nodup_append.1 hnd
 have hd2 := List.nodup_cons.1 hd.2.1
 rw [List.filter_append, List.filter_cons]
 simp only [beq_self_eq_true, Bool.not_true, Bool.false_eq_true, if_false]
 congr 1
 ·refine List.filter_eq_self.2 fun x hx => ?_
  have := hd.2.2 x.born (List.mem_map.2 ⟨x, hx, rfl⟩) e.born (List.mem_cons_self ..)
  simpa using this
 ·refine List.filter_eq_self.2 fun x hx => ?_
  have : x.born ≠ e.born := fun h => hd2.1 (h ▸ List.mem_map.2 ⟨x, hx, rfl⟩)
  simpa using this

theorem EsRel.split {π : PMap} {w : World} {av ex : Nat -> Prop} : ∀ {A : List MapEntry} {e : MapEntry} {C : List MapEntry} {es : List (TV × TV × Nat)}, EsRel π w av ex es (A ++ e :: C) ->
  ∃ a k v n c, es = a ++ (k, v, n) :: c /\ VRel π w av ex k e.key /\ VRel π w av ex v e.val /\ EsRel π w av ex (a ++ c) (A ++ C)
 | [], e, C, [], h => h.elim
 | [], e, C, (k, v, n) :: r, h => ⟨[], k, v, n, r, rfl, h.1, h.2.1, h.2.2.2⟩
 | x :: A, e, C, [], h => h.elim
 | x :: A, e, C, (k, v, n) :: r, h => by
  obtain ⟨a, k', v', n', c, h1, h2, h3, h4⟩ := EsRel.split h.2.2.2
  exact ⟨(k, v, n) :: a, k', v', n', c, by rw [h1]; rfl, h2, h3, h.1, h.2.1, h.2.2.1, h4⟩

theorem EsRel.borns {π : PMap} {w : World} {av ex : Nat -> Prop} : ∀ {es : List (TV × TV × Nat)} {ces : List MapEntry}, EsRel π w av ex es ces -> es.map (·.2.2) = ces.map (·.born)
 | [], [], _ => rfl
 | (k, v, n) :: r, c :: cs, h => by simp [h.2.2.1, EsRel.borns h.2.2.2]
 | [], _ :: _, h => h.elim
 | _ :: _, [], h => h.elim

/-! ### the loop -/
theorem Done.bind' {B W0 N : Nat} {b : Frame} {ds : List Deferred} {cs : List Frame} {π : PMap} {H : Heap} {w : World} {av ex : Nat -> Prop} {tm tm' : Array Value} {c k c' : List Item} {ds' : List Deferred} {w' : World} {π' : PMap} {av' : Nat -> Prop} {H' : Heap} {out : Out} (h1 : Steps P (lone (fr b tm c ds) cs w) (lone (fr b tm' c' ds') cs w')) (hr : Res P B (wrK B av true) π H w av ex H' w' π' av')
  (h : Done P pg B W0 N b tm' c' k ds' cs π' H' w' av' ex out) : Done P pg B W0 N b tm c k ds cs π H w av ex out := by
 obtain ⟨tm2, td, ds2, w2, π2, av2, k1, k2, k3, k4, k5, k6⟩ := h
 exact ⟨tm2, td, ds2, w2, π2, av2, h1.trans k1, k2, k3, k4, k5, Res.trans (W := true) hr k6⟩

section
variable {B W0 N : Nat} {b : Frame} {cs : List Frame} {ex : Nat -> Prop}

def SoundC (P : Program) (pg : Pg) (Gz : Nat) (R : Rec) (y : DC) : Prop := ∀ e H out, runC pg R y e H = some out -> ∀ N c, chkC P N y c = true ->
 ∀ (b : Frame) (tm : Array Value) (k : List Item) (ds : List Deferred) (cs : List Frame) (w : World) (π : PMap) (av ex : Nat -> Prop) (B W0 : Nat), St P pg Gz B π H w av ex -> ERel π w av ex e tm -> tm.size = N -> RoundOk b w -> DefOk W0 w av ds -> W0 <= w.heap.size ->
  Done P pg B W0 N b tm (.code c :: k) k ds cs π H w av ex out

def mloop (rid : Nat) (os : Array Oper) (mo out nxt rid2 : Nat) (os2 : Array Oper) (c : Code) : Code :=
 .seq (.region rid os false) (.seq (.cond (.tmp mo) .skip (.exit out)) (.block nxt (.seq (.region rid2 os2 false) c)))

theorem setIf_getD_ne {tm : Array Value} {i j : Nat} {v : Value} (h : i ≠ j) : (tm.setIfInBounds i v).getD j undef = tm.getD j undef := by
 simp [Array.getD_eq_getD_getElem?, Array.getElem?_setIfInBounds, h]
theorem setIf_getD_eq {tm : Array Value} {i : Nat} {v : Value} (h : i < tm.size) : (tm.setIfInBounds i v).getD i undef = v := by
 simp [Array.getD_eq_getD_getElem?, h]

theorem ERel.off {π : PMap} {w : World} {av : Nat -> Prop} {e : Env} {tm : Array Value} (h : ERel π w av ex e tm) {i : Nat} {v : Value} (hi : get e i = none) : ERel π w av ex e (tm.setIfInBounds i v) := by
 intro s t hs
 have : i ≠ s := by rintro rfl; rw [hi] at hs; cases hs
 rw [setIf_getD_ne this]
 exact h s t hs

theorem keepE_none {ks : List Nat} {e : Env} {s : Nat} (h : ks.contains s = false) : get (keepE ks e) s = none := by
 induction ks with
 | nil => rfl
 | cons k ks ih =>
  simp only [List.contains_cons, Bool.or_eq_false_iff] at h
  have ih := ih h.2
  unfold keepE at ih ⊢
  rw [List.filterMap_cons]
  have hk : ¬ k = s := fun x => by subst x; simp at h
  cases get e k with
  | none => exact ih
  | some v => simp only [Option.map_some, get, if_neg hk]; exact ih

theorem step_ops {os : Array Oper} {it nx mo : Nat} (h : stepOk os.toList it nx mo = true) : ∃ a b : Oper, os = #[a, b] /\ a.dst = some nx /\ a.guard = none /\ a.op = .next (.tmp it) false /\ b.dst = some mo /\ b.guard = none /\ b.op = .extract (.tmp nx) 0 := by
 rcases os with ⟨l⟩
 unfold stepOk at h
 split at h <;> try (cases h; done)
 rename_i a b hl
 simp only [Bool.and_eq_true, beq_iff_eq, Option.isNone_iff_eq_none] at h
 obtain ⟨⟨⟨⟨h1, h2⟩, h3⟩, h4⟩, h5⟩ := h
 split at h5 <;> try (cases h5; done)
 rename_i i n e1 e2
 simp only [Bool.and_eq_true, beq_iff_eq] at h5
 obtain ⟨rfl, rfl⟩ := h5
 simp only at hl
 subst hl
 exact ⟨a, b, rfl, h1, h2, e1, h3, h4, e2⟩

theorem asg_ops {N : Nat} {all : Array Oper} {ds : List DOper} {it pair : Nat} (h : asgOk P N all ds all.toList it pair = true) :
  ∃ (o : Oper) (ors : List Oper) (ds' : List DOper), all.toList = o :: ors /\ ds = ⟨some pair, .mv, [.t pair], none⟩ :: ds' /\ o.dst = some pair /\ o.guard = none /\ o.op = .entry (.tmp it) /\ chkOpers P N all ds' ors = true := by
 unfold asgOk at h
 split at h <;> try (cases h; done)
 rename_i d ds' o ors hl
 simp only [Bool.and_eq_true, beq_iff_eq, Option.isNone_iff_eq_none] at h
 obtain ⟨⟨⟨⟨⟨⟨h1, h2⟩, h3⟩, h4⟩, h5⟩, h6⟩, h7⟩ := h
 split at h3 <;> try (cases h3; done)
 rename_i i ho
 simp only [beq_iff_eq] at h3
 subst h3
 split at h6 <;> try (cases h6; done)
 rename_i s hk ha
 simp only [beq_iff_eq] at h6
 subst h6
 refine ⟨o, ors, ds', hl, ?_, h1, h2, ho, h7⟩
 obtain ⟨dd, dk, da, dg⟩ := d
 simp only at h4 h5 hk ha
 subst h4 h5 hk ha
 rfl

theorem isIt_eq {v : Option TV} {i : Nat} (h : isIt v i = true) : v = some (.ref i 0) := by
 cases v with
 | none => cases h
 | some v =>
  cases v <;> (try (cases h; done))
  rename_i j o
  cases o with
  | zero => rw [show j = i by simpa [isIt] using h]
  | succ o => cases h

theorem wanted_none {o : Oper} {f : Nat -> Option Bool} (h : o.guard = none) : Region.wanted o f = true := by simp [Region.wanted, h]

structure MInv (B : Nat) (π : PMap) (H : Heap) (w : World) (av : Nat -> Prop) (gm r ck : Nat) (ces : Array MapEntry) (seen : Array Nat) : Prop where
 map : w.heap[gm]? = some (.map ces ck)
 iter : w.heap[r]? = some (.mapIter (some gm) ck seen ck)
 fm : Free π H gm
 fr : Free π H r
 am : av gm
 ar : av r
 Bm : B <= gm
 Br : B <= r

theorem ldone {P : Program} {b : Frame} {cs : List Frame} {w : World} {tm : Array Value} {rid : Nat} {os : Array Oper} {mo out nxt rid2 : Nat} {os2 : Array Oper} {c : Code} {k : List Item} {ds : List Deferred} {it nx : Nat} {gm r ck : Nat} {ces : Array MapEntry} {seen : Array Nat}
  (hos : stepOk os.toList it nx mo = true) (hnm : nx ≠ mo) (hit : tm.getD it undef = .pointer (some ⟨r, 0, none⟩)) (hnx : nx < tm.size) (hmo : mo < tm.size) (hmap : w.heap[gm]? = some (.map ces ck)) (hiter : w.heap[r]? = some (.mapIter (some gm) ck seen ck)) (hold : ∀ x ∈ ces.toList, x.born < ck) :
  ((leftOf ces seen).size = 0 /\ ∃ v, Steps P (lone (fr b tm (.code (mloop rid os mo out nxt rid2 os2 c) :: .inLoop (mloop rid os mo out nxt rid2 os2 c) :: .inBlock out :: k) ds) cs w) (lone (fr b ((tm.setIfInBounds nx v).setIfInBounds mo (.bool false)) k ds) cs w)) \/
  ∃ e ∈ (leftOf ces seen).toList, ∃ w1 v, (w1 = w \/ w1 = w.drew) /\ Steps P (lone (fr b tm (.code (mloop rid os mo out nxt rid2 os2 c) :: .inLoop (mloop rid os mo out nxt rid2 os2 c) :: .inBlock out :: k) ds) cs w)
   (lone (fr b ((tm.setIfInBounds nx v).setIfInBounds mo (.bool true)) (.inRegion os2 (List.range os2.size) :: .code c :: .inBlock nxt :: .inLoop (mloop rid os mo out nxt rid2 os2 c) :: .inBlock out :: k) ds) cs (setBlock w1 r (.mapIter (some gm) ck (seen.push e.born) ck))) := by
 obtain ⟨a, x, rfl, a1, a2, a3, x1, x2, x3⟩ := step_ops hos
 have hev : ev tm (.tmp it) = .pointer (some ⟨r, 0, none⟩) := hit
 have pre : ∀ {m : Machine}, Steps P (lone (fr b tm (.inRegion #[a, x] [0, 1] :: .code (.seq (.cond (.tmp mo) .skip (.exit out)) (.block nxt (.seq (.region rid2 os2 false) c))) :: .inLoop (mloop rid #[a, x] mo out nxt rid2 os2 c) :: .inBlock out :: k) ds) cs w) m ->
   Steps P (lone (fr b tm (.code (mloop rid #[a, x] mo out nxt rid2 os2 c) :: .inLoop (mloop rid #[a, x] mo out nxt rid2 os2 c) :: .inBlock out :: k) ds) cs w) m := fun h => .head st_seq (.head st_region h)
 have two : ∀ {v : Value} {w' : World} {t : Bool}, (Instr.next (.pointer (some ⟨r, 0, none⟩)) false a.type).run P w = .ok v w' -> (∃ l : Array Value, v = .tuple l /\ l[0]? = some (.bool t)) ->
   Steps P (lone (fr b tm (.inRegion #[a, x] [0, 1] :: .code (.seq (.cond (.tmp mo) .skip (.exit out)) (.block nxt (.seq (.region rid2 os2 false) c))) :: .inLoop (mloop rid #[a, x] mo out nxt rid2 os2 c) :: .inBlock out :: k) ds) cs w)
    (lone (fr b ((tm.setIfInBounds nx v).setIfInBounds mo (.bool t)) (.code (if t then .skip else .exit out) :: .code (.block nxt (.seq (.region rid2 os2 false) c)) :: .inLoop (mloop rid #[a, x] mo out nxt rid2 os2 c) :: .inBlock out :: k) ds) cs w') := by
  intro v w' t hv ⟨l, hl, h0⟩
  have e1 : (execOp (ev tm) a).run P w = .ok (.value v) w' := by simp [execOp, a3, hev, hv]
  have s1 := st_value (P := P) (b := b) (tm := tm) (k := .code (.seq (.cond (.tmp mo) .skip (.exit out)) (.block nxt (.seq (.region rid2 os2 false) c))) :: .inLoop (mloop rid #[a, x] mo out nxt rid2 os2 c) :: .inBlock out :: k) (ds := ds) (cs := cs) (w := w) (ops := #[a, x]) (i := 0) (rest := [1]) (o := a) rfl (wanted_none a2) (fun c => by rw [a3]; simp) e1
  rw [a1] at s1
  have hnv : ev (tm.setIfInBounds nx v) (.tmp nx) = .tuple l := by show (tm.setIfInBounds nx v).getD nx undef = _; rw [setIf_getD_eq hnx]; exact hl
  have e2 : (execOp (ev (putT tm (some nx) v)) x).run P w' = .ok (.value (.bool t)) w' := by
   simp only [putT]
   simp [execOp, x3, hnv, Instr.extract, h0]
  have s2 := st_value (P := P) (b := b) (tm := putT tm (some nx) v) (k := .code (.seq (.cond (.tmp mo) .skip (.exit out)) (.block nxt (.seq (.region rid2 os2 false) c))) :: .inLoop (mloop rid #[a, x] mo out nxt rid2 os2 c) :: .inBlock out :: k) (ds := ds) (cs := cs) (w := w') (ops := #[a, x]) (i := 1) (rest := []) (o := x) rfl (wanted_none x2) (fun c => by rw [x3]; simp) e2
  rw [x1] at s2
  have hc : ev (putT (putT tm (some nx) v) (some mo) (.bool t)) (.tmp mo) = .bool t := by
   show ((tm.setIfInBounds nx v).setIfInBounds mo (.bool t)).getD mo undef = _
   rw [setIf_getD_eq (by simpa using hmo)]
  exact .head s1 (.head s2 (.head st_region_end (.head st_seq (.one (st_cond hc)))))
 rcases run_next_at (P := P) w a.type r gm ck ck seen ces ck hiter hmap hold (Nat.le_refl _) with ⟨h0, hrun⟩ | ⟨e, he, w1, hw1, hrun⟩
 ·left
  have h2 := two (t := false) hrun ⟨_, rfl, rfl⟩
  exact ⟨h0, _, pre (h2.trans (.one (st_exit (by simp [exitTo]))))⟩
 ·right
  have h2 := two (t := true) hrun ⟨_, rfl, rfl⟩
  exact ⟨e, he, w1, _, hw1, pre (h2.trans (.head st_skip (.head st_block (.head st_seq (.one st_region)))))⟩

theorem mloop_sound {R : Rec} (hR : CodeOk P pg Gz R) (hF : FnsOk P pg) (hSm : SumOk P pg Gz) {y : DC} (hy : SoundC P pg Gz R y) {it id nx mo out nxt pair : Nat} {ds0 : List DOper} {kas ks : List Nat} {rid rid2 : Nat} {os os2 : Array Oper} {c : Code} {gm r ck : Nat} {ces : Array MapEntry}
  (hos : stepOk os.toList it nx mo = true) (hasg : asgOk P N os2 ds0 os2.toList it pair = true) (hcy : chkC P N y c = true) (hnm : nx ≠ mo) (hni : nx ≠ it) (hmi : mo ≠ it) (hpi : pair ≠ it) (hnx : nx < N) (hmo : mo < N) (hpr : pair < N)
  (kn : ks.contains nx = false) (km : ks.contains mo = false) (kp : ks.contains pair = false) (ki : ks.contains it = true) (hold : ∀ x ∈ ces.toList, x.born < ck) (hnd : (ces.toList.map (·.born)).Nodup) (Q : Env × Heap -> Prop) :
  ∀ (n : Nat) (l : List (Int × TV)), l.length = n -> ∀ (e : Env) (H : Heap), (∀ p : List (Int × TV), p.Perm l -> ∃ res, mfold (mround pg R nxt ds0 kas (runC pg R y)) it id pair ks p e H = some res /\ Q res) ->
   ∀ (seen : Array Nat) (tm : Array Value) (k : List Item) (ds : List Deferred) (w : World) (π : PMap) (av : Nat -> Prop), St P pg Gz B π H w av ex -> ERel π w av ex e tm -> tm.size = N -> RoundOk b w -> DefOk W0 w av ds -> W0 <= w.heap.size ->
    MInv B π H w av gm r ck ces seen -> get e nx = none -> get e mo = none -> get e pair = none -> get e it = some (.ref id 0) -> π id = some (r, 0) ->
    (∃ es0, EsRel π w av ex es0 (leftOf ces seen).toList /\ (es0.map fun e => (e.1, e.2.1)).Perm (l.map fun e => (TV.i .i64 e.1, e.2))) ->
    ∃ res tm' ds' w' π' av' seen', Q res /\ Steps P (lone (fr b tm (.code (mloop rid os mo out nxt rid2 os2 c) :: .inLoop (mloop rid os mo out nxt rid2 os2 c) :: .inBlock out :: k) ds) cs w) (lone (fr b tm' k ds') cs w') /\ tm'.size = N /\ ERel π' w' av' ex res.1 tm' /\ DefOk W0 w' av' ds' /\
     Res P B (wrK B av true) π H w av ex res.2 w' π' av' /\ MInv B π' res.2 w' av' gm r ck ces seen' := by
 intro n
 induction n with
 | zero =>
  intro l hl e H hp seen tm k ds w π av hs he hsz hb hd hW hm en em ep ei hid ⟨es0, hes, hpm⟩
  subst hsz
  have hl0 : l = [] := List.eq_nil_of_length_eq_zero hl
  subst hl0
  obtain ⟨res, hres, hQ⟩ := hp [] (List.Perm.refl _)
  simp only [mfold, Option.some.injEq] at hres
  subst hres
  have hit : tm.getD it undef = .pointer (some ⟨r, 0, none⟩) := by
   have := he it _ ei
   generalize tm.getD it undef = u at this
   cases this with | ref _ _ g sh h => rw [hid] at h; simp only [Option.some.injEq, Prod.mk.injEq] at h; obtain ⟨rfl, rfl⟩ := h; rfl
  rcases ldone (P := P) (b := b) (cs := cs) (rid := rid) (out := out) (nxt := nxt) (rid2 := rid2) (os2 := os2) (c := c) (k := k) (ds := ds) hos hnm hit hnx hmo hm.map hm.iter hold with ⟨h0, v, hst⟩ | ⟨x, hx, _⟩
  ·exact ⟨_, _, ds, w, π, av, seen, hQ, hst, by simp, (he.off en).off em, hd, Res.same _ hs.hr, hm⟩
  ·exfalso
   have : es0 = [] := by simpa using hpm.length_eq
   subst this
   cases hlf : (leftOf ces seen).toList with
   | nil => rw [hlf] at hx; cases hx
   | cons a q => rw [hlf] at hes; exact hes
 | succ n ih =>
  intro l hl e H hp seen tm k ds w π av hs he hsz hb hd hW hm en em ep ei hid ⟨es0, hes, hpm⟩
  subst hsz
  have hit : tm.getD it undef = .pointer (some ⟨r, 0, none⟩) := by
   have := he it _ ei
   generalize tm.getD it undef = u at this
   cases this with | ref _ _ g sh h => rw [hid] at h; simp only [Option.some.injEq, Prod.mk.injEq] at h; obtain ⟨rfl, rfl⟩ := h; rfl
  rcases ldone (P := P) (b := b) (cs := cs) (rid := rid) (out := out) (nxt := nxt) (rid2 := rid2) (os2 := os2) (c := c) (k := k) (ds := ds) hos hnm hit hnx hmo hm.map hm.iter hold with ⟨h0, v, hst⟩ | ⟨x, hx, w1, v, hw1, hst⟩
  ·exfalso
   have h1 : (leftOf ces seen).toList = [] := by simpa using h0
   rw [h1] at hes
   cases es0 with
   | nil => have := hpm.length_eq; simp [hl] at this
   | cons a q => exact hes
  ·-- an entry
   obtain ⟨A, C, hAC, hAC'⟩ := leftOf_split hnd hx
   rw [hAC] at hes
   obtain ⟨a, kv, vv, nn, cc, rfl, hk, hv, hrest⟩ := hes.split
   have hmem : (kv, vv) ∈ l.map fun e => (TV.i .i64 e.1, e.2) := hpm.mem_iff.1 (by simp)
   obtain ⟨⟨kk, v0⟩, hkl, hke⟩ := List.mem_map.1 hmem
   simp only [Prod.mk.injEq] at hke
   obtain ⟨rfl, rfl⟩ := hke
   obtain ⟨l1, l2, rfl⟩ := List.append_of_mem hkl
   have hp' : ∀ p : List (Int × TV), p.Perm (l1 ++ l2) -> ∃ res, mfold (mround pg R nxt ds0 kas (runC pg R y)) it id pair ks ((kk, v0) :: p) e H = some res /\ Q res := fun p hpp => hp _ ((hpp.cons _).trans List.perm_middle.symm)
   have hrest' : ((a ++ cc).map fun e : TV × TV × Nat => (e.1, e.2.1)).Perm ((l1 ++ l2).map fun e : Int × TV => (TV.i .i64 e.1, e.2)) := by
    have h1 := hpm
    simp only [List.map_append, List.map_cons] at h1 ⊢
    exact ((List.perm_middle.symm.trans h1).trans List.perm_middle).cons_inv
   obtain ⟨res0, h1, _⟩ := hp' (l1 ++ l2) (List.Perm.refl _)
   simp only [mfold, Option.bind_eq_some_iff] at h1
   obtain ⟨o, ho, h1⟩ := h1
   split at h1 <;> try (cases h1; done)
   rename_i hoo
   obtain ⟨hox, hoi⟩ := hoo
   have hnext : ∀ p : List (Int × TV), p.Perm (l1 ++ l2) -> ∃ res, mfold (mround pg R nxt ds0 kas (runC pg R y)) it id pair ks p (keepE ks o.env) o.H = some res /\ Q res := fun p hpp => by
    obtain ⟨res, h2, hQ⟩ := hp' p hpp
    simp only [mfold, Option.bind_eq_some_iff] at h2
    obtain ⟨o2, ho2, h2⟩ := h2
    rw [ho] at ho2
    injection ho2 with ho2
    subst ho2
    rw [if_pos ⟨hox, hoi⟩] at h2
    exact ⟨res, h2, hQ⟩
   simp only [mround, Option.bind_eq_some_iff, Option.map_eq_some_iff] at ho
   obtain ⟨⟨e1, H1⟩, hop, o1, hyo, ho⟩ := ho
   -- memory behind the step
   have hrlt : r < w.heap.size := (Array.getElem?_eq_some_iff.1 hm.iter).1
   have hmlt : gm < w.heap.size := (Array.getElem?_eq_some_iff.1 hm.map).1
   have hrm : r ≠ gm := fun h => by have := hm.map; rw [<- h, hm.iter] at this; cases this
   generalize hw2 : setBlock w1 r (.mapIter (some gm) ck (seen.push x.born) ck) = w2 at hst
   have hheap2 : w2.heap = w.heap.setIfInBounds r (.mapIter (some gm) ck (seen.push x.born) ck) := by rw [<- hw2]; rcases hw1 with rfl | rfl <;> rfl
   have hsz2 : w2.heap.size = w.heap.size := by rw [hheap2]; simp
   have hoth : ∀ g, g ≠ r -> w2.heap[g]? = w.heap[g]? := fun g hg => by rw [hheap2, Array.getElem?_setIfInBounds, if_neg (fun h => hg h.symm)]
   have hr2 : w2.heap[r]? = some (.mapIter (some gm) ck (seen.push x.born) ck) := by rw [hheap2]; simp [hrlt]
   have hm2 : w2.heap[gm]? = some (.map ces ck) := by rw [hoth gm hrm.symm]; exact hm.map
   have hnc : ∀ c el f, w.heap[r]? ≠ some (.cells c el f) := fun c el f h => by rw [hm.iter] at h; cases h
   have hck : CellsKept w w2 := fun g c el f h => by rw [hoth g fun hg => hnc c el f (hg ▸ h)]; exact h
   have hosw : w2.os = w.os /\ (w2.tape = w.tape /\ w.drawn <= w2.drawn) /\ w2.output = w.output := by rw [<- hw2]; rcases hw1 with rfl | rfl <;> exact ⟨rfl, ⟨rfl, by first | exact Nat.le_refl _ | exact Nat.le_succ _⟩, rfl⟩
   have hev2 : Ev (wrK B av true) π w av π w2 av := by
    refine ⟨fun _ _ h => h, fun g hg hn => hoth g fun h => hn (h ▸ ⟨rfl, hm.ar, hm.Br⟩), fun g c el f h => ⟨c, hck g c el f h, rfl⟩, fun g q h => ⟨q, ?_⟩, fun _ _ h => h, by omega, hosw.1, hosw.2.1, hosw.2.2⟩
    rw [hoth g fun hg => by rw [hg, hm.iter] at h; cases h]; exact h
   have hres2 : Res P B (wrK B av true) π H w av ex H w2 π av := ⟨hev2, hs.hr.turn hm.fr hoth hsz2 hnc, fun _ h => absurd rfl h, fun _ h => h, Nat.le_refl _, fun _ _ _ h => absurd rfl h⟩
   have hs2 := hs.nextK hres2
   -- the entry's slot
   obtain ⟨eo, ors, ds', hl2, rfl, q1, q2, q3, q4⟩ := asg_ops hasg
   have hev3 : ev ((tm.setIfInBounds nx v).setIfInBounds mo (.bool true)) (.tmp it) = .pointer (some ⟨r, 0, none⟩) := by
    show ((tm.setIfInBounds nx v).setIfInBounds mo (.bool true)).getD it undef = _
    rw [setIf_getD_ne hmi, setIf_getD_ne hni]; exact hit
   have hxc : x ∈ ces.toList := by
    have := hx
    unfold leftOf at this
    rw [Array.toList_filter] at this
    exact (List.mem_filter.1 this).1
   have hentry := run_entry_at (P := P) w2 r gm ck seen ces ck x hr2 hm2 hxc hnd
   have hexec : (execOp (ev ((tm.setIfInBounds nx v).setIfInBounds mo (.bool true))) eo).run P w2 = .ok (.value (.tuple #[x.key, x.val])) w2 := by simp [execOp, q3, hev3, hentry]
   have h0s : os2[0]? = some eo := by rw [<- Array.getElem?_toList, hl2]; rfl
   have hlen2 : os2.size = ds'.length + 1 := by
    have := (chkOpers_get q4).1
    rw [<- Array.length_toList, hl2]; simp [this]
   have hstE : step P (lone (fr b ((tm.setIfInBounds nx v).setIfInBounds mo (.bool true)) (.inRegion os2 (0 :: List.range' 1 ds'.length) :: .code c :: .inBlock nxt :: .inLoop (mloop rid os mo out nxt rid2 os2 c) :: .inBlock out :: k) ds) cs w2) =
     .next (lone (fr b (putT ((tm.setIfInBounds nx v).setIfInBounds mo (.bool true)) eo.dst (.tuple #[x.key, x.val])) (.inRegion os2 (List.range' 1 ds'.length) :: .code c :: .inBlock nxt :: .inLoop (mloop rid os mo out nxt rid2 os2 c) :: .inBlock out :: k) ds) cs w2) :=
    st_value h0s (wanted_none q2) (fun c => by rw [q3]; simp) hexec
   rw [show List.range os2.size = 0 :: List.range' 1 ds'.length by rw [hlen2, List.range_eq_range', List.range'_succ]] at hst
   rw [q1] at hstE
   generalize htm3 : putT ((tm.setIfInBounds nx v).setIfInBounds mo (.bool true)) (some pair) (.tuple #[x.key, x.val]) = tm3 at hstE
   have hsz3 : tm3.size = tm.size := by rw [<- htm3]; simp [putT]
   have he2 : ERel π w2 av ex e ((tm.setIfInBounds nx v).setIfInBounds mo (.bool true)) := ((he.shift hck fun _ _ _ _ _ h => h).off en).off em
   have he3 : ERel π w2 av ex ((pair, .tup [.i .i64 kk, v0]) :: e) tm3 := by
    rw [<- htm3]
    refine he2.put (by simpa using hpr) (.tup _ _ (.cons _ _ _ _ (hk.shift hck fun _ _ _ _ _ h => h) (.cons _ _ _ _ (hv.shift hck fun _ _ _ _ _ h => h) .nil)))
   -- the body: the map's block and the iterator's are given up for it
   let avd : Nat -> Prop := fun g => av g /\ g ≠ r /\ g ≠ gm
   have hsd : St P pg Gz B π H w2 avd ex := ⟨⟨hs2.hr.less (fun g h => h.1) fun i g sh o hpi' ho' hd' => ⟨(hs2.hr.obj i g sh o hpi' ho' hd').2.1, hm.fr i g sh o hpi' ho' hd', hm.fm i g sh o hpi' ho' hd'⟩, hs2.gl, fun g h => hs2.avg g h.1, hs2.exg, hs2.gB⟩, hs2.dom⟩
   have hed : ERel π w2 avd ex ((pair, .tup [.i .i64 kk, v0]) :: e) tm3 := he3.shift (fun _ _ _ _ h => h) fun _ _ _ _ _ h => h.1
   have hbd := hb.next hev2
   have hdd : DefOk W0 w2 avd ds := by
    obtain ⟨rs, d1, d2, d3⟩ := hd.next hev2
    exact ⟨rs, d1, d2, fun i hi => ⟨(d3 i hi).1, fun h => (d3 i hi).2.1 h.1, (d3 i hi).2.2⟩⟩
   obtain ⟨tm4, w4, π4, av4, hst4, hsz4, he4, hr4⟩ := region_tail hop hsd hed hsz3 hR hF hSm hl2 q4 b (.code c :: .inBlock nxt :: .inLoop (mloop rid os mo out nxt rid2 os2 c) :: .inBlock out :: k) ds cs
   have hs4 := hsd.nextK hr4
   obtain ⟨tm5, td5, ds5, w5, π5, av5, hst5, hsz5, hx5, he5, hd5, hr5⟩ := hy _ _ _ hyo tm.size c hcy b tm4 (.inBlock nxt :: .inLoop (mloop rid os mo out nxt rid2 os2 c) :: .inBlock out :: k) ds cs w4 π4 av4 ex B W0 hs4 (he4.keep kas) hsz4 (hbd.next hr4.ev) (hdd.next hr4.ev) (by have := hr4.ev.len; omega)
   have hr45 := Res.trans (W := true) hr4 hr5
   -- the round's end
   have hst6 : Steps P (lone (fr b tm5 td5 ds5) cs w5) (lone (fr b tm5 (.code (mloop rid os mo out nxt rid2 os2 c) :: .inLoop (mloop rid os mo out nxt rid2 os2 c) :: .inBlock out :: k) ds5) cs w5) := by
    split at ho
    ·rename_i hxn
     rw [hxn] at hx5
     obtain ⟨K, rfl, hK⟩ := hx5
     rw [exitTo_block, if_pos rfl] at hK
     exact .head (st_exit hK) (.one st_inLoop)
    ·rename_i hxn
     subst ho
     rw [hox] at hx5
     have : td5 = .inBlock nxt :: .inLoop (mloop rid os mo out nxt rid2 os2 c) :: .inBlock out :: k := hx5
     subst this
     exact .head st_inBlock (.one st_inLoop)
   have hoe : o.env = o1.env /\ o.H = o1.H := by
    split at ho <;> (subst ho; exact ⟨rfl, rfl⟩)
   -- .. taken back
   have hrn : ¬ wrK B avd true r := fun h => h.2.1.2.1 rfl
   have hmn : ¬ wrK B avd true gm := fun h => h.2.1.2.2 rfl
   have hr5' : w5.heap[r]? = some (.mapIter (some gm) ck (seen.push x.born) ck) := (hr45.ev.blk r (by omega) hrn).trans hr2
   have hm5' : w5.heap[gm]? = some (.map ces ck) := (hr45.ev.blk gm (by omega) hmn).trans hm2
   let av6 : Nat -> Prop := fun g => av5 g \/ g = r \/ g = gm
   have hc6 : ∀ g c el f, w5.heap[g]? = some (.cells c el f) -> av6 g -> av5 g := fun g c el f h hg => by
    rcases hg with hg | rfl | rfl
    ·exact hg
    ·rw [hr5'] at h; cases h
    ·rw [hm5'] at h; cases h
   have hlen45 := hr45.ev.len
   have hres6 : Res P B (wrK B av true) π H w2 av ex o.H w5 π5 av6 := by
    rw [hoe.2]
    refine ⟨⟨hr45.ev.map, fun g hg hn => hr45.ev.blk g hg fun h => hn ⟨rfl, h.2.1.1, h.2.2⟩, hr45.ev.siz, hr45.ev.lop, fun g hg h => ?_, hlen45, hr45.ev.os, hr45.ev.tape, hr45.ev.out⟩,
     hr45.hr.more (fun _ _ _ _ h => h) (fun _ _ => rfl) rfl (fun g h => .inl h) (fun g h => ?_) hc6, hr45.dom, fun g h => ?_, hr45.hl, fun i g sh h1 h2 => (hr45.frs i g sh h1 h2).imp (fun x => x) fun h => ⟨rfl, h.2.1.1, h.2.2⟩⟩
    ·rcases h with h | rfl | rfl
     ·exact (hr45.ev.sub g hg h).1
     ·exact hm.ar
     ·exact hm.am
    ·rcases h with h | rfl | rfl
     ·exact hr45.hr.avb g h
     ·omega
     ·omega
    ·by_cases h1 : g = r
     ·exact .inr (.inl h1)
     ·by_cases h2 : g = gm
      ·exact .inr (.inr h2)
      ·exact .inl (hr45.ext g ⟨h, h1, h2⟩)
   have hs6 := hs2.nextK hres6
   have hfree : ∀ g0, g0 = r \/ g0 = gm -> Free π5 o.H g0 := fun g0 hg0 i g sh ob hp1 ho1 hd1 he1 => by
    subst he1
    rw [hoe.2] at ho1
    have h1 := (hr45.hr.obj i g sh ob hp1 ho1 hd1).2.1
    have h2 := hr45.ev.sub g (by rcases hg0 with rfl | rfl <;> omega) h1
    rcases hg0 with rfl | rfl
    ·exact h2.2.1 rfl
    ·exact h2.2.2 rfl
   have hm6 : MInv B π5 o.H w5 av6 gm r ck ces (seen.push x.born) := ⟨hm5', hr5', hfree gm (.inr rfl), hfree r (.inl rfl), .inr (.inr rfl), .inr (.inl rfl), hm.Bm, hm.Br⟩
   have he6 : ERel π5 w5 av6 ex (keepE ks o.env) tm5 := by rw [hoe.1]; exact (he5.keep ks).shift (fun _ _ _ _ h => h) hc6
   have hd6 : DefOk W0 w5 av6 ds5 := by
    obtain ⟨rs, d1, d2, d3⟩ := hd5
    refine ⟨rs, d1, d2, fun i hi => ⟨(d3 i hi).1, fun h => ?_, (d3 i hi).2.2⟩⟩
    rcases h with h | rfl | rfl
    ·exact (d3 i hi).2.1 h
    ·have := (d3 _ hi).2.2; rw [hr5'] at this; cases this
    ·have := (d3 _ hi).2.2; rw [hm5'] at this; cases this
   have hit6 : get (keepE ks o.env) it = some (.ref id 0) := by
    rw [get_keepE_mem (by simpa using ki)]
    exact isIt_eq hoi
   have hid6 : π5 id = some (r, 0) := hr45.ev.map _ _ hid
   have hes6 : EsRel π5 w5 av6 ex (a ++ cc) (leftOf ces (seen.push x.born)).toList := by
    rw [hAC']
    have h2 := (hrest.shift hck fun _ _ _ _ _ h => h : EsRel π w2 av ex (a ++ cc) (A ++ C))
    have h3 : EsRel π w2 avd ex (a ++ cc) (A ++ C) := h2.shift (fun _ _ _ _ h => h) fun _ _ _ _ _ h => h.1
    exact (h3.mono hr45.ev (wrK_av true)).shift (fun _ _ _ _ h => h) hc6
   obtain ⟨res, tm7, ds7, w7, π7, av7, seen7, kQ, k1, k2, k3, k4, k5, k6⟩ := ih (l1 ++ l2) (by simp at hl ⊢; omega) (keepE ks o.env) o.H hnext (seen.push x.born) tm5 k ds5 w5 π5 av6 hs6 he6 hsz5 ((hbd.next hr4.ev).next hr5.ev) hd6 (by have := hr45.ev.len; omega) hm6 (keepE_none kn) (keepE_none km) (keepE_none kp) hit6 hid6 ⟨a ++ cc, hes6, hrest'⟩
   exact ⟨res, tm7, ds7, w7, π7, av7, seen7, kQ, hst.trans (.head hstE (hst4.trans (hst5.trans (hst6.trans k1)))), k2, k3, k4, Res.trans (W := true) (Res.trans (W := true) hres2 hres6) k5, k6⟩

theorem mrange_core {R : Rec} (hR : CodeOk P pg Gz R) (hF : FnsOk P pg) (hSm : SumOk P pg Gz) {y z : DC} (hy : SoundC P pg Gz R y) {it nx mo out nxt pair o1 m o2 n2 : Nat} {ds0 : List DOper} {kas ks : List Nat} {e : Env} {H : Heap} {o : Out} {rid rid2 : Nat} {os os2 : Array Oper} {c : Code} {tm : Array Value} {k : List Item} {ds : List Deferred} {w : World} {π : PMap} {av : Nat -> Prop}
  (h : runC pg R (.mrange it nx mo out nxt pair ds0 kas y ks z) e H = some o) (hm0 : mOk N it nx mo out nxt pair ks o1 m o2 n2 os.toList = true) (c18 : asgOk P N os2 ds0 os2.toList it pair = true) (c19 : chkC P N y c = true) (hs : St P pg Gz B π H w av ex) (he : ERel π w av ex e tm) (hsz : tm.size = N) (hb : RoundOk b w) (hd : DefOk W0 w av ds) (hW : W0 <= w.heap.size) :
  ∃ e' H' tm' ds' w' π' av', runC pg R z e' H' = some o /\ Steps P (lone (fr b tm (.code (.block o1 (.loop (mloop rid os m o2 n2 rid2 os2 c))) :: k) ds) cs w) (lone (fr b tm' k ds') cs w') /\ tm'.size = N /\ ERel π' w' av' ex e' tm' /\ DefOk W0 w' av' ds' /\ Res P B (wrK B av true) π H w av ex H' w' π' av' := by
 simp only [mOk, Bool.and_eq_true, beq_iff_eq, decide_eq_true_eq, bne_iff_ne, ne_eq, Bool.not_eq_true'] at hm0
 obtain ⟨⟨⟨⟨⟨⟨⟨⟨⟨⟨⟨⟨⟨⟨⟨⟨c1, c2⟩, c3⟩, c4⟩, c5⟩, c6⟩, c7⟩, c8⟩, c9⟩, c10⟩, c11⟩, c12⟩, c13⟩, c14⟩, c15⟩, c16⟩, c17⟩ := hm0
 subst c1 c3 c4
 subst c2
 simp only [runC] at h
 split at h <;> try (cases h; done)
 rename_i id hit
 split at h <;> try (cases h; done)
 rename_i mid ck hid
 split at h <;> try (cases h; done)
 rename_i es ck' hes
 split at h <;> try (cases h; done)
 rename_i hck
 subst hck
 split at h <;> try (cases h; done)
 rename_i hperm
 obtain ⟨r, hpid⟩ : ∃ r, π id = some (r, 0) /\ B <= r /\ av r /\ ∃ gm, w.heap[r]? = some (.mapIter (some gm) ck #[] ck) /\ π mid = some (gm, 0) := by
  have h1 := he it _ hit
  generalize tm.getD it undef = u at h1
  cases h1 with
  | ref _ _ g sh hp =>
   obtain ⟨hB, hav, ob, hob, hor⟩ := hs.hr.obj id g sh _ hp hid (by simp)
   cases ob <;> simp only [ORel] at hor
   obtain ⟨rfl, rfl, rfl, rfl, gm, rfl, hgm⟩ := hor
   exact ⟨g, hp, hB, hav, gm, hob, hgm⟩
 obtain ⟨hpi, hBr, har, gm, hiter, hpm⟩ := hpid
 obtain ⟨es0, hst, _, _, ham, hBm, ces, hmap, hers⟩ := hs.hr.stamps hpm hes
 have hne : id ≠ mid := fun x => by rw [x, hes] at hid; cases hid
 have hborn : es0.map (·.2.2) = ces.toList.map (·.born) := hers.borns
 have hold : ∀ x ∈ ces.toList, x.born < ck := fun x hx => by
  have : x.born ∈ es0.map (·.2.2) := by rw [hborn]; exact List.mem_map.2 ⟨x, hx, rfl⟩
  obtain ⟨y, hy, hyx⟩ := List.mem_map.1 this
  rw [<- hyx]; exact hst.lt y hy
 have hnd : (ces.toList.map (·.born)).Nodup := by rw [<- hborn]; exact hst.nodup
 have hmid' : (H.set id .dead)[mid]? = some (.mapS es ck) := by rw [List.getElem?_set_ne hne]; exact hes
 have hres1 : Res P B (wrK B av true) π H w av ex ((H.set id .dead).set mid .dead) w π av := ⟨Ev.refl _ _ _ _, (hs.hr.drop id).drop mid, fun _ x => absurd rfl x, fun _ x => x, by simp, fun _ _ _ x => absurd rfl x⟩
 have hm : MInv B π ((H.set id .dead).set mid .dead) w av gm r ck ces #[] := ⟨hmap, hiter, (hs.hr.drop id).free hpm hmid' (by simp), (hs.hr.free hpi hid (by simp)).set mid, ham, har, hBm, hBr⟩
 have hlf : (leftOf ces #[]).toList = ces.toList := by simp [leftOf]
 obtain ⟨res, tm', ds', w', π', av', seen', kQ, k1, k2, k3, k4, k5, k6⟩ := mloop_sound (P := P) (pg := pg) (Gz := Gz) (B := B) (W0 := W0) (b := b) (cs := cs) (ex := ex) hR hF hSm hy (rid := rid) (rid2 := rid2) (out := out) c17 c18 c19 c9 c10 c11 c12 c6 c7 c8 c13 c14 c15 c16 hold hnd
  (fun res => runC pg R z res.1 (res.2.set mid (.mapS es ck)) = some o) es.length es rfl (keepE ks e) ((H.set id .dead).set mid .dead)
  (fun p hp => by
   have := permOk_get hperm h hp
   simp only [mthen, Option.bind_eq_some_iff] at this
   exact this) #[] tm k ds w π av (hs.nextK hres1) (he.keep ks) hsz hb hd hW hm (keepE_none c13) (keepE_none c14) (keepE_none c15) (by rw [get_keepE_mem (by simpa using c16)]; exact hit) hpi ⟨es0, by rw [hlf]; exact hers, hst.perm⟩
 have hk5 := Res.trans (W := true) hres1 k5
 refine ⟨res.1, res.2.set mid (.mapS es ck), tm', ds', w', π', av', kQ, .head st_block (.head st_loop k1), k2, k3, k4, ?_⟩
 refine ⟨hk5.ev, k5.hr.revive (k5.ev.map _ _ hpm) k6.fm k6.am hBm k6.map ⟨rfl, rfl, es0, hst, hers.mono hk5.ev (wrK_av true)⟩, fun i hi => ?_, hk5.ext, ?_, hk5.frs⟩
 ·have := hk5.dom i hi
  simpa using this
 ·have := hk5.hl
  simpa using this

theorem mpartsB_eq {c : Code} {p : MParts} (h : mpartsB c = some p) : c = .block p.o1 (.loop (mloop p.rid p.os p.m p.o2 p.n2 p.rid2 p.os2 p.c)) := by
 unfold mpartsB at h
 split at h <;> try (cases h; done)
 injection h with h
 subst h
 rfl

theorem mparts_none {c : Code} {p : MParts} (h : mparts c = some (p, none)) : c = .block p.o1 (.loop (mloop p.rid p.os p.m p.o2 p.n2 p.rid2 p.os2 p.c)) := by
 unfold mparts at h
 split at h
 ·simp only [Option.map_eq_some_iff, Prod.mk.injEq] at h
  obtain ⟨_, _, _, h⟩ := h
  cases h
 ·simp only [Option.map_eq_some_iff, Prod.mk.injEq] at h
  obtain ⟨q, hq, rfl, _⟩ := h
  exact mpartsB_eq hq

theorem mparts_some {c c2 : Code} {p : MParts} (h : mparts c = some (p, some c2)) : c = .seq (.block p.o1 (.loop (mloop p.rid p.os p.m p.o2 p.n2 p.rid2 p.os2 p.c))) c2 := by
 unfold mparts at h
 split at h
 ·simp only [Option.map_eq_some_iff, Prod.mk.injEq, Option.some.injEq] at h
  obtain ⟨q, hq, rfl, rfl⟩ := h
  rw [mpartsB_eq hq]
 ·simp only [Option.map_eq_some_iff, Prod.mk.injEq] at h
  obtain ⟨_, _, _, h⟩ := h
  cases h

theorem mrange_sound {R : Rec} (hR : CodeOk P pg Gz R) (hF : FnsOk P pg) (hSm : SumOk P pg Gz) {y z : DC} (hy : SoundC P pg Gz R y) (hz : SoundC P pg Gz R z) {it nx mo out nxt pair : Nat} {ds0 : List DOper} {kas ks : List Nat} {e : Env} {H : Heap} {o : Out} {code : Code} {tm : Array Value} {k : List Item} {ds : List Deferred} {w : World} {π : PMap} {av : Nat -> Prop}
  (h : runC pg R (.mrange it nx mo out nxt pair ds0 kas y ks z) e H = some o) (hc : chkC P N (.mrange it nx mo out nxt pair ds0 kas y ks z) code = true) (hs : St P pg Gz B π H w av ex) (he : ERel π w av ex e tm) (hsz : tm.size = N) (hb : RoundOk b w) (hd : DefOk W0 w av ds) (hW : W0 <= w.heap.size) :
  Done P pg B W0 N b tm (.code code :: k) k ds cs π H w av ex o := by
 simp only [chkC] at hc
 split at hc
 ·rename_i p hp
  have hcd := mparts_none hp
  subst hcd
  simp only [Bool.and_eq_true] at hc
  obtain ⟨⟨⟨hc1, hc2⟩, hc3⟩, hc4⟩ := hc
  obtain ⟨e', H', tm', ds', w', π', av', h1, h2, h3, h4, h5, h6⟩ := mrange_core (P := P) (pg := pg) (Gz := Gz) (B := B) (W0 := W0) (b := b) (cs := cs) (ex := ex) (k := k) (rid := p.rid) (rid2 := p.rid2) hR hF hSm hy h hc1 hc2 hc3 hs he hsz hb hd hW
  cases z <;> simp only [DC.isSkip, Bool.false_eq_true] at hc4
  simp only [runC, Option.some.injEq] at h1
  subst h1
  exact ⟨tm', k, ds', w', π', av', h2, h3, rfl, h4, h5, h6⟩
 ·rename_i p c2 hp
  have hcd := mparts_some hp
  subst hcd
  simp only [Bool.and_eq_true] at hc
  obtain ⟨⟨⟨hc1, hc2⟩, hc3⟩, hc4⟩ := hc
  obtain ⟨e', H', tm', ds', w', π', av', h1, h2, h3, h4, h5, h6⟩ := mrange_core (P := P) (pg := pg) (Gz := Gz) (B := B) (W0 := W0) (b := b) (cs := cs) (ex := ex) (k := .code c2 :: k) (rid := p.rid) (rid2 := p.rid2) hR hF hSm hy h hc1 hc2 hc3 hs he hsz hb hd hW
  exact Done.bind' (.head st_seq h2) h6 (hz _ _ _ h1 N c2 hc4 b tm' k ds' cs w' π' av' ex B W0 (hs.nextK h6) h4 h3 (hb.next h6.ev) h5 (Nat.le_trans hW h6.ev.len))
 ·cases hc

end
end Go.Dn

/-
 The evaluator's code: sound, part 2.
-/

namespace Go.Dn

variable {P : Program} {pg : Pg} {Gz : Nat}

section
variable {B W0 N : Nat} {b : Frame} {ds : List Deferred} {cs : List Frame} {π : PMap} {H : Heap} {w : World} {av ex : Nat -> Prop}

theorem Res.alloc (W : Bool) (h : HRel P B π H w av ex) (ob : Obj) : Res P B (wrK B av W) π H w av ex H (w.alloc ob) π av :=
 ⟨Ev.alloc _ _ _ _ _, h.alloc ob, fun _ x => absurd rfl x, fun _ x => x, Nat.le_refl _, fun _ _ _ x => absurd rfl x⟩

theorem St.alloc (hs : St P pg Gz B π H w av ex) (ob : Obj) : St P pg Gz B π H (w.alloc ob) av ex := hs.nextK (Res.alloc true hs.hr ob)

theorem enter_sound {tm : Array Value} {ks : List Nat} {e : Env} {ps : List Nat} {x y : DC} {params : Array Tmp} {a c : Code} (hs : St P pg Gz B π H w av ex) (he : ERel π w av ex e tm) (hb : RoundOk b w) (hd : DefOk W0 w av ds) (hW : W0 <= w.heap.size)
  (hp : ps = params.toList) (hps : (ps.all (· < tm.size)) = true) (hx : chkC P tm.size x a = true) (hy : chkC P tm.size y c = true) :
  ∃ l mark w1 π1 av1, (Instr.enterLoop b.fn tm params a c b.roundOf).run P w = .ok (l, mark) w1 /\ DefOk W0 w1 av1 (mark ++ ds) /\ π1 H.length = some (l, 0) /\
   Res P B (wrK B av true) π H w av ex (H ++ [.loop { env := keepE ks e, params := ps, assign := x, body := y, st := .ready, pend := none }]) w1 π1 av1 := by
 have key : ∀ (df : Nat) (w0 : World), St P pg Gz B π H w0 av ex -> ERel π w0 av ex e tm -> Res P B (wrK B av true) π H w av ex H w0 π av ->
   ∃ π1 av1, π1 H.length = some (w0.heap.size, 0) /\ Ev (wrK B av true) π w0 av π1 (w0.alloc (.loop { state := .ready, pending := none, fn := b.fn, tmps := tm, params := params, assign := a, body := c, defers := df })) av1 /\ Res P B (wrK B av true) π H w av ex (H ++ [.loop { env := keepE ks e, params := ps, assign := x, body := y, st := .ready, pend := none }])
    (w0.alloc (.loop { state := .ready, pending := none, fn := b.fn, tmps := tm, params := params, assign := a, body := c, defers := df })) π1 av1 := by
  intro df w0 hs0 he0 hr0
  have := Res.new (P := P) (wrK B av true) hs0.hr (hs0.dom _ (Nat.le_refl _)) (.loop { state := .ready, pending := none, fn := b.fn, tmps := tm, params := params, assign := a, body := c, defers := df }) (.loop { env := keepE ks e, params := ps, assign := x, body := y, st := .ready, pend := none }) (by simp)
   (fun π' w' av' e' => by
    simp only [ORel]
    exact ⟨trivial, trivial, trivial, (he0.mono e' (fun _ _ x => x.elim)).keep ks, hp.symm, hps, hx, hy⟩)
  exact ⟨_, _, PMap.add_self _ _ _, this.ev, Res.trans (W := true) hr0 this⟩
 obtain ⟨rs, hds, hnd, hrs⟩ := hd
 cases hr : b.roundOf with
 | none =>
  have h0 := Res.alloc true hs.hr (.deferred (some []))
  obtain ⟨π1, av1, h1, h2, h3⟩ := key w.heap.size (w.alloc (.deferred (some []))) (hs.alloc _) (he.mono h0.ev (wrK_av true)) h0
  refine ⟨_, [mkD w.heap.size], _, π1, av1, ?_, ?_, h1, h3⟩
  ·simp [Instr.enterLoop, mkD]
  ·refine ⟨w.heap.size :: rs, by simp [hds, mkD], List.nodup_cons.2 ⟨fun hm => ?_, hnd⟩, ?_⟩
   ·have := (Array.getElem?_eq_some_iff.1 (hrs _ hm).2.2).1; omega
   ·intro r hm
    simp only [List.mem_cons] at hm
    rcases hm with rfl | hm
    ·refine ⟨hW, fun hx => ?_, ?_⟩
     ·have := hs.hr.avb _ (h2.sub _ (by simp) hx); omega
     ·rw [heap_push_lt _ _ (by simp), heap_push_eq]
    ·obtain ⟨c1, c2, c3⟩ := hrs r hm
     have hlt := (Array.getElem?_eq_some_iff.1 c3).1
     refine ⟨c1, fun hx => c2 (h2.sub r (by simp; omega) hx), ?_⟩
     rw [heap_push_lt _ _ (by simp; omega), heap_push_lt _ _ hlt, c3]
 | some l0 =>
  obtain ⟨r0, hr0⟩ := hb l0 hr
  obtain ⟨π1, av1, h1, h2, h3⟩ := key r0.defers w hs he (Res.same _ hs.hr)
  refine ⟨_, [], _, π1, av1, ?_, ?_, h1, h3⟩
  ·simp [Instr.enterLoop, Instr.getLoop, getObj, Sem.run, hr0]
  ·refine ⟨rs, by simpa using hds, hnd, fun r hm => ?_⟩
   obtain ⟨c1, c2, c3⟩ := hrs r hm
   have hlt := (Array.getElem?_eq_some_iff.1 c3).1
   exact ⟨c1, fun hx => c2 (h2.sub r hlt hx), by rw [heap_push_lt _ _ hlt, c3]⟩

theorem rfunc_sound {R : Rec} (hR : CodeOk P pg Gz R) (hF : FnsOk P pg) {tm : Array Value} {f : Opnd} {ps ks : List Nat} {x y : DC} {e : Env} {out : Out} {f' : Operand} {params : Array Tmp} {a c : Code} {k : List Item} (h : runC pg R (.rfunc f ps x y ks) e H = some out)
  (hc : chkC P N (.rfunc f ps x y ks) (.rangeFunc f' params a c) = true) (hs : St P pg Gz B π H w av ex) (he : ERel π w av ex e tm) (hsz : tm.size = N) (hb : RoundOk b w) (hd : DefOk W0 w av ds) (hW : W0 <= w.heap.size) :
  Done P pg B W0 N b tm (.code (.rangeFunc f' params a c) :: k) k ds cs π H w av ex out := by
 subst hsz
 simp only [chkC, Bool.and_eq_true, beq_iff_eq] at hc
 obtain ⟨⟨⟨⟨hf, hp⟩, hps⟩, hx⟩, hy⟩ := hc
 simp only [runC, Option.bind_eq_some_iff] at h
 obtain ⟨fv, hfv, ⟨t, H2⟩, hcall, h⟩ := h
 have hfr := evalO_sound hs.toSt0 he hf hfv
 obtain ⟨l, mark, w1, π1, av1, h1, hd1, hl, hr1⟩ := enter_sound (ks := ks) (b := b) hs he hb hd hW hp hps hx hy
 have hs1 := hs.nextK hr1
 have hfr1 := hfr.mono hr1.ev (wrK_av true)
 obtain ⟨nx, frm, h2, h3, h4⟩ := call_sh hR hF hcall hs1 hfr1 (us := #[.func (.yield l) #[] #[]]) (.cons _ _ _ _ (.yl _ _ hl) .nil)
 obtain ⟨v, w2, π2, av2, hst2, _, hr2⟩ := h4 (fr b tm (.inRangeFunc l :: k) (mark ++ ds)) cs
 have hs2 := hs1.nextK hr2
 have hl2 := hr2.ev.map _ _ hl
 simp only at h
 split at h <;> try (cases h; done)
 rename_i L hL
 split at h <;> try (cases h; done)
 rename_i hnb
 injection h with h
 subst h
 obtain ⟨r, hg, ho, hav, hB⟩ := loop_at hs2 hl2 hL
 have ho' := ho
 simp only [ORel] at ho
 obtain ⟨_, hst0, hpend, henv, hpar, hpall, hca, hcb⟩ := ho
 have hr3 := Res.setLoop (L' := { L with st := .exhausted }) (r' := { r with state := .exhausted }) hs2 hl2 hL hg (by
  simp only [ORel]; exact ⟨trivial, trivial, hpend, henv, hpar, hpall, hca, hcb⟩)
 have hstep3 := st_endRange (P := P) (b := b) (ds := mark ++ ds) (cs := cs) (tm := tm) (k := k) hg (by rw [hst0]; exact hnb)
 have hr12 := Res.trans (W := true) hr1 hr2
 have hr13 := Res.trans (W := true) hr12 hr3
 refine ⟨tm, (r.pending.map Item.code).toList ++ k, mark ++ ds, _, π2, av2, .head (rfunc_enter h1 h2 h3) (hst2.trans (.one hstep3)), rfl, ?_, ?_, (hd1.next hr2.ev).next hr3.ev, hr13⟩
 ·cases hpd : L.pend with
  | none =>
   rw [hpd] at hpend
   cases hq : r.pending with
   | none => simp [ExTo]
   | some j => rw [hq] at hpend; simp [PendRel] at hpend
  | some p =>
   rw [hpd] at hpend
   cases hq : r.pending with
   | none => rw [hq] at hpend; cases p <;> simp [PendRel] at hpend
   | some j =>
    rw [hq] at hpend
    cases p <;> cases j <;> simp only [PendRel] at hpend
    ·subst hpend; exact ⟨k, rfl, rfl⟩
    ·exact ⟨k, rfl⟩
 ·exact (he.mono hr13.ev (wrK_av true)).keep ks

theorem Done.of_steps {tm : Array Value} {c c' k : List Item} {out : Out} (hst : Steps P (lone (fr b tm c ds) cs w) (lone (fr b tm c' ds) cs w)) (h : Done P pg B W0 N b tm c' k ds cs π H w av ex out) : Done P pg B W0 N b tm c k ds cs π H w av ex out := by
 obtain ⟨tm', td, ds', w', π', av', h1, h2⟩ := h
 exact ⟨tm', td, ds', w', π', av', hst.trans h1, h2⟩

theorem Done.bind {tm tm' : Array Value} {c k c' : List Item} {ds' : List Deferred} {w' : World} {π' : PMap} {av' : Nat -> Prop} {H' : Heap} {out : Out} (h1 : Steps P (lone (fr b tm c ds) cs w) (lone (fr b tm' c' ds') cs w')) (hr : Res P B (wrK B av true) π H w av ex H' w' π' av')
  (h : Done P pg B W0 N b tm' c' k ds' cs π' H' w' av' ex out) : Done P pg B W0 N b tm c k ds cs π H w av ex out := by
 obtain ⟨tm2, td, ds2, w2, π2, av2, k1, k2, k3, k4, k5, k6⟩ := h
 exact ⟨tm2, td, ds2, w2, π2, av2, h1.trans k1, k2, k3, k4, k5, Res.trans (W := true) hr k6⟩

theorem Done.stop {tm : Array Value} {c : List Item} {k : List Item} {x : Ex} {e : Env} (hx : ExTo x k c) (hs : St P pg Gz B π H w av ex) (he : ERel π w av ex e tm) (hsz : tm.size = N) (hd : DefOk W0 w av ds) : Done P pg B W0 N b tm c k ds cs π H w av ex ⟨x, e, H⟩ :=
 ⟨tm, c, ds, w, π, av, Steps.refl _ _, hsz, hx, he, hd, Res.same _ hs.hr⟩
end

theorem chk_seqr {N : Nat} {x y : DC} {c : Code} (h : chkC P N (.seqr x y) c = true) : ∃ a b c', c = .seq (.seq a b) c' /\ chkC P N x a = true /\ chkC P N y (.seq b c') = true := by
 simp only [chkC] at h
 split at h
 ·rename_i a b c' hp
  unfold seqParts at hp
  split at hp <;> try (cases hp; done)
  injection hp with hp
  simp only [Prod.mk.injEq] at hp
  obtain ⟨rfl, rfl, rfl⟩ := hp
  simp only [Bool.and_eq_true] at h
  exact ⟨_, _, _, rfl, h.1, h.2⟩
 ·cases h

set_option maxHeartbeats 2000000 in
theorem runC_sound {R : Rec} (hm : P.follows .mixedOrders = true) (hR : CodeOk P pg Gz R) (hF : FnsOk P pg) (hS : SumOk P pg Gz) : CodeOk P pg Gz (runC pg R) := by
 intro dc
 have main : ∀ e H out, runC pg R dc e H = some out -> ∀ N c, chkC P N dc c = true ->
   ∀ (b : Frame) (tm : Array Value) (k : List Item) (ds : List Deferred) (cs : List Frame) (w : World) (π : PMap) (av ex : Nat -> Prop) (B W0 : Nat), St P pg Gz B π H w av ex -> ERel π w av ex e tm -> tm.size = N -> RoundOk b w -> DefOk W0 w av ds -> W0 <= w.heap.size ->
    Done P pg B W0 N b tm (.code c :: k) k ds cs π H w av ex out := by
  induction dc with
  | skip =>
   intro e H out h N c hc b tm k ds cs w π av ex B W0 hs he hsz hb hd hW
   simp only [runC, Option.some.injEq] at h
   subst h
   cases c <;> simp only [chkC, Bool.false_eq_true] at hc
   ·exact Done.of_steps (.one st_skip) (Done.stop (x := .normal) rfl hs he hsz hd)
   ·exact Done.of_steps (.one st_label) (Done.stop (x := .normal) rfl hs he hsz hd)
  | reg ops ks =>
   intro e H out h N c hc b tm k ds cs w π av ex B W0 hs he hsz hb hd hW
   simp only [runC, Option.map_eq_some_iff] at h
   obtain ⟨⟨e', H'⟩, h, rfl⟩ := h
   cases c <;> simp only [chkC, Bool.false_eq_true] at hc
   rename_i id os draw
   simp only [Bool.and_eq_true, Bool.or_eq_true, Bool.not_eq_true'] at hc
   obtain ⟨hco, hdr⟩ := hc
   have hlen : ops.length = os.size := by simpa using (chkOpers_get hco).1
   cases draw with
   | false =>
    obtain ⟨tm', w', π', av', h1, h2, h3, h4⟩ := region_sound h hs he hsz hR hF hS hco (sched_text ops) b k ds cs
    rw [hlen] at h1
    exact ⟨tm', k, ds, w', π', av', .head st_region h1, h2, rfl, h3.keep ks, hd.next h4.ev, h4⟩
   | true =>
    have hdr' : drawOk ops os = true := by rcases hdr with x | x <;> first | cases x | exact x
    have h0 := Res.drawn (P := P) (B := B) (wrK B av true) hs.hr (w.drawn + 1) (Nat.le_succ _)
    have hs0 := hs.nextK h0
    obtain ⟨tm', w', π', av', h1, h2, h3, h4⟩ := region_sound h hs0 (he.mono h0.ev (wrK_av true)) hsz hR hF hS hco (sched_draw hdr' hlen (w.tape w.drawn (.order b.fn id))) b k ds cs
    have h5 := Res.trans (W := true) h0 h4
    refine ⟨tm', k, ds, w', π', av', .head st_region_draw ?_, h2, rfl, h3.keep ks, hd.next h5.ev, h5⟩
    simp only [Region.schedule, hm, Bool.true_or, if_true]
    exact h1
  | regd ops ks fr =>
   intro e H out h N c hc b tm k ds cs w π av ex B W0 hs he hsz hb hd hW
   simp only [runC, Option.bind_eq_some_iff] at h
   obtain ⟨⟨e', hh, H'⟩, h, h2⟩ := h
   split at h2 <;> try (cases h2; done)
   rename_i hfr
   simp only [Option.some.injEq] at h2
   subst h2
   cases c <;> simp only [chkC, Bool.false_eq_true] at hc
   rename_i id os draw
   simp only [Bool.and_eq_true, Bool.or_eq_true, Bool.not_eq_true', List.all_eq_true] at hc
   obtain ⟨⟨hco, hf0⟩, hdr⟩ := hc
   have hf : FrS ops fr := hf0
   have hlen : ops.length = os.size := by simpa using (chkOpers_get hco).1
   obtain ⟨E, Hh, V, ht, rfl, rfl, rfl, rfl, hhs⟩ := opsTr_trace h
   have hD := frOk_D hf ht hhs hfr
   cases draw with
   | false =>
    obtain ⟨tm', w', π', av', h1, h2, h3, h4⟩ := region_trace hf hD ht hs he hsz hR hF hS hco (sched_text ops).more b k ds cs
    rw [hlen] at h1
    exact ⟨tm', k, ds, w', π', av', .head st_region h1, h2, rfl, h3.keep ks, hd.next h4.ev, h4⟩
   | true =>
    have hdr' : drawOkF ops os fr = true := by rcases hdr with x | x <;> first | cases x | exact x
    have h0 := Res.drawn (P := P) (B := B) (wrK B av true) hs.hr (w.drawn + 1) (Nat.le_succ _)
    have hs0 := hs.nextK h0
    obtain ⟨tm', w', π', av', h1, h2, h3, h4⟩ := region_trace hf hD ht hs0 (he.mono h0.ev (wrK_av true)) hsz hR hF hS hco (sched_drawF hdr' hlen (w.tape w.drawn (.order b.fn id))) b k ds cs
    have h5 := Res.trans (W := true) h0 h4
    refine ⟨tm', k, ds, w', π', av', .head st_region_draw ?_, h2, rfl, h3.keep ks, hd.next h5.ev, h5⟩
    simp only [Region.schedule, hm, Bool.true_or, if_true]
    exact h1
  | seq x y ihx ihy =>
   intro e H out h N c hc b tm k ds cs w π av ex B W0 hs he hsz hb hd hW
   simp only [runC, Option.bind_eq_some_iff] at h
   obtain ⟨o, ho, h⟩ := h
   cases c <;> simp only [chkC, Bool.false_eq_true, Bool.and_eq_true] at hc
   rename_i c1 c2
   obtain ⟨tm', td, ds', w', π', av', h1, h2, h3, h4, h5, h6⟩ := ihx _ _ _ ho N c1 hc.1 b tm (.code c2 :: k) ds cs w π av ex B W0 hs he hsz hb hd hW
   refine Done.of_steps (.one st_seq) ?_
   split at h
   ·rename_i hn
    rw [hn] at h3
    have : td = .code c2 :: k := h3
    subst this
    exact Done.bind h1 h6 (ihy _ _ _ h N c2 hc.2 b tm' k ds' cs w' π' av' ex B W0 (hs.nextK h6) h4 h2 (hb.next h6.ev) h5 (Nat.le_trans hW h6.ev.len))
   ·rename_i hn
    injection h with h
    subst h
    exact ⟨tm', td, ds', w', π', av', h1, h2, h3.under hn (by simp), h4, h5, h6⟩
  | seqr x y ihx ihy =>
   intro e H out h N c hc b tm k ds cs w π av ex B W0 hs he hsz hb hd hW
   simp only [runC, Option.bind_eq_some_iff] at h
   obtain ⟨o, ho, h⟩ := h
   obtain ⟨a, b', c', rfl, hca, hcb⟩ := chk_seqr hc
   obtain ⟨tm', td, ds', w', π', av', h1, h2, h3, h4, h5, h6⟩ := ihx _ _ _ ho N a hca b tm (.code b' :: .code c' :: k) ds cs w π av ex B W0 hs he hsz hb hd hW
   refine Done.of_steps (.head st_seq (.one st_seq)) ?_
   split at h
   ·rename_i hn
    rw [hn] at h3
    have : td = .code b' :: .code c' :: k := h3
    subst this
    obtain ⟨tm2, td2, ds2, w2, π2, av2, k1, k2, k3, k4, k5, k6⟩ := ihy _ _ _ h N (.seq b' c') hcb b tm' k ds' cs w' π' av' ex B W0 (hs.nextK h6) h4 h2 (hb.next h6.ev) h5 (Nat.le_trans hW h6.ev.len)
    refine ⟨tm2, td2, ds2, w2, π2, av2, h1.trans (Steps.tail k1 st_seq ?_), k2, k3, k4, k5, Res.trans (W := true) h6 k6⟩
    intro heq
    have htd : .code (.seq b' c') :: k = td2 := by
     have := congrArg (fun m : Machine => (m.gs[0]?).map fun g => g.frame.todo) heq
     simpa [lone, fr] using this
    subst htd
    cases hx : out.ex with
    | normal => rw [hx] at k3; have := congrArg List.length (show Item.code (.seq b' c') :: k = k from k3); simp at this
    | exit i => rw [hx] at k3; obtain ⟨K, hK, _⟩ := k3; cases hK
    | ret => rw [hx] at k3; obtain ⟨K, hK⟩ := k3; cases hK
   ·rename_i hn
    injection h with h
    subst h
    exact ⟨tm', td, ds', w', π', av', h1, h2, (h3.under hn (by simp)).under hn (by simp), h4, h5, h6⟩
  | cond cd x y ihx ihy =>
   intro e H out h N c hc b tm k ds cs w π av ex B W0 hs he hsz hb hd hW
   simp only [runC] at h
   cases c <;> simp only [chkC, Bool.false_eq_true, Bool.and_eq_true] at hc
   rename_i cd' c1 c2
   split at h <;> try (cases h; done)
   rename_i t ht
   have hv := (evalO_sound hs.toSt0 he hc.1.1 ht).b_inv
   refine Done.of_steps (.one (st_cond hv)) ?_
   split at h
   ·rename_i htt
    simp only [htt, if_true]
    exact ihx _ _ _ h N c1 hc.1.2 b tm k ds cs w π av ex B W0 hs he hsz hb hd hW
   ·rename_i htt
    rw [if_neg htt]
    exact ihy _ _ _ h N c2 hc.2 b tm k ds cs w π av ex B W0 hs he hsz hb hd hW
  | block id x ih =>
   intro e H out h N c hc b tm k ds cs w π av ex B W0 hs he hsz hb hd hW
   simp only [runC, Option.map_eq_some_iff] at h
   obtain ⟨o, ho, h⟩ := h
   cases c <;> simp only [chkC, Bool.false_eq_true, Bool.and_eq_true, beq_iff_eq] at hc
   rename_i id' c1
   obtain ⟨rfl, hc⟩ := hc
   obtain ⟨tm', td, ds', w', π', av', h1, h2, h3, h4, h5, h6⟩ := ih _ _ _ ho N c1 hc b tm (.inBlock id :: k) ds cs w π av ex B W0 hs he hsz hb hd hW
   refine Done.of_steps (.one st_block) ?_
   cases hx : o.ex with
   | normal =>
    rw [hx] at h h3
    rw [if_neg (by simp)] at h
    subst h
    have : td = .inBlock id :: k := h3
    subst this
    exact ⟨tm', k, ds', w', π', av', h1.trans (.one st_inBlock), h2, by rw [hx]; rfl, h4, h5, h6⟩
   | exit i =>
    rw [hx] at h h3
    obtain ⟨K, rfl, hK⟩ := h3
    rw [exitTo_block] at hK
    split at h
    ·rename_i hi
     injection hi with hi
     subst hi
     rw [if_pos rfl] at hK
     subst h
     exact ⟨tm', k, ds', w', π', av', h1.trans (.one (st_exit hK)), h2, rfl, h4, h5, h6⟩
    ·rename_i hi
     subst h
     rw [if_neg (fun hh => hi (by rw [hh]))] at hK
     exact ⟨tm', _, ds', w', π', av', h1, h2, by rw [hx]; exact ⟨K, rfl, hK⟩, h4, h5, h6⟩
   | ret =>
    rw [hx] at h h3
    rw [if_neg (by simp)] at h
    subst h
    exact ⟨tm', td, ds', w', π', av', h1, h2, by rw [hx]; exact h3, h4, h5, h6⟩
  | scope x ih =>
   intro e H out h N c hc b tm k ds cs w π av ex B W0 hs he hsz hb hd hW
   simp only [runC] at h
   cases c <;> simp only [chkC, Bool.false_eq_true] at hc
   rename_i c1
   obtain ⟨tm', td, ds', w', π', av', h1, h2, h3, h4, h5, h6⟩ := ih _ _ _ h N c1 hc b tm (.inScope c1 :: k) ds cs w π av ex B W0 hs he hsz hb hd hW
   refine Done.of_steps (.one st_scope) ?_
   by_cases hn : out.ex = .normal
   ·rw [hn] at h3
    have : td = .inScope c1 :: k := h3
    subst this
    exact ⟨tm', k, ds', w', π', av', h1.trans (.one st_inScope), h2, by rw [hn]; rfl, h4, h5, h6⟩
   ·exact ⟨tm', td, ds', w', π', av', h1, h2, h3.under hn (by simp), h4, h5, h6⟩
  | loop ks x ih =>
   intro e H out h N c hc b tm k ds cs w π av ex B W0 hs he hsz hb hd hW
   simp only [runC, Option.bind_eq_some_iff] at h
   obtain ⟨o, ho, h⟩ := h
   have hc0 := hc
   cases c <;> simp only [chkC, Bool.false_eq_true] at hc
   rename_i c1
   obtain ⟨tm', td, ds', w', π', av', h1, h2, h3, h4, h5, h6⟩ := ih _ _ _ ho N c1 hc b tm (.inLoop c1 :: k) ds cs w π av ex B W0 hs (he.keep ks) hsz hb hd hW
   refine Done.of_steps (.one st_loop) ?_
   split at h
   ·rename_i hn
    rw [hn] at h3
    have : td = .inLoop c1 :: k := h3
    subst this
    obtain ⟨tm2, td2, ds2, w2, π2, av2, k1, k2, k3, k4, k5, k6⟩ := hR _ _ _ _ h N (.loop c1) hc0 b tm' k ds' cs w' π' av' ex B W0 (hs.nextK h6) h4 h2 (hb.next h6.ev) h5 (Nat.le_trans hW h6.ev.len)
    refine ⟨tm2, td2, ds2, w2, π2, av2, h1.trans (.head st_inLoop (Steps.tail k1 st_loop ?_)), k2, k3, k4, k5, Res.trans (W := true) h6 k6⟩
    intro heq
    have htd : .code (.loop c1) :: k = td2 := by
     have := congrArg (fun m : Machine => (m.gs[0]?).map fun g => g.frame.todo) heq
     simpa [lone, fr] using this
    subst htd
    cases hx : out.ex with
    | normal => rw [hx] at k3; have := congrArg List.length (show Item.code (.loop c1) :: k = k from k3); simp at this
    | exit i => rw [hx] at k3; obtain ⟨K, hK, _⟩ := k3; cases hK
    | ret => rw [hx] at k3; obtain ⟨K, hK⟩ := k3; cases hK
   ·rename_i hn
    injection h with h
    subst h
    exact ⟨tm', td, ds', w', π', av', h1, h2, h3.under hn (by simp), h4, h5, h6⟩
  | exit id =>
   intro e H out h N c hc b tm k ds cs w π av ex B W0 hs he hsz hb hd hW
   simp only [runC, Option.some.injEq] at h
   subst h
   cases c <;> simp only [chkC, Bool.false_eq_true, beq_iff_eq] at hc
   subst hc
   exact Done.stop (x := .exit id) ⟨k, rfl, rfl⟩ hs he hsz hd
  | ret =>
   intro e H out h N c hc b tm k ds cs w π av ex B W0 hs he hsz hb hd hW
   simp only [runC, Option.some.injEq] at h
   subst h
   cases c <;> simp only [chkC, Bool.false_eq_true] at hc
   exact Done.stop (x := .ret) ⟨k, rfl⟩ hs he hsz hd
  | rfunc f ps ags bd ks iha ihb =>
   intro e H out h N c hc b tm k ds cs w π av ex B W0 hs he hsz hb hd hW
   cases c <;> simp only [chkC, Bool.false_eq_true] at hc
   exact rfunc_sound hR hF h (by simpa only [chkC] using hc) hs he hsz hb hd hW
  | mrange it nx mo ou nxt pair ds0 kas y ks z ihy ihz =>
   intro e H out h N c hc b tm k ds cs w π av ex B W0 hs he hsz hb hd hW
   exact mrange_sound hR hF hS (fun e H out h N c hc b tm k ds cs w π av ex B W0 hs he hsz hb hd hW => ihy e H out h N c hc b tm k ds cs w π av ex B W0 hs he hsz hb hd hW) (fun e H out h N c hc b tm k ds cs w π av ex B W0 hs he hsz hb hd hW => ihz e H out h N c hc b tm k ds cs w π av ex B W0 hs he hsz hb hd hW) h hc hs he hsz hb hd hW
  | bad => intro e H out h; simp [runC] at h
 intro e H out h N c hc b tm k ds cs w π av ex B W0 hs he hsz hb hd hW
 exact main e H out h N c hc b tm k ds cs w π av ex B W0 hs he hsz hb hd hW

theorem denN_sound (hm : P.follows .mixedOrders = true) (hF : FnsOk P pg) (hS : SumOk P pg Gz) : ∀ n, CodeOk P pg Gz (denN pg n)
 | 0 => fun _ _ _ _ h => by simp [denN] at h
 | n + 1 => runC_sound hm (denN_sound hm hF hS n) hF hS

end Go.Dn

/-
 What a result of the evaluator says of a call.
-/

namespace Go.Dn
open Go.RowKit

variable {P : Program} {pg : Pg} {Gz : Nat}

abbrev Sees (w : World) (t : TV) (v : Value) : Prop := VRel (fun _ => none) w none' none' t v
abbrev SeesAll (w : World) (ts : List TV) (vs : List Value) : Prop := VsRel (fun _ => none) w none' none' ts vs

theorem body_calls {R : Rec} (hR : CodeOk P pg Gz R) (hF : FnsOk P pg) {f : Nat} {args : List TV} {t : TV} {H' : Heap} (h : bodyRun pg R f args [] = some (t, H')) {w : World} {us : Array Value} (hu : SeesAll w args us.toList) (hG : GRel pg Gz w) (hGz : Gz <= w.heap.size) :
  Calls P f us w fun e w' => ∃ v, e = .returned v /\ Below w.heap.size w w' /\ ∃ π' av', VRel π' w' av' none' t v /\ HRel P w.heap.size π' H' w' av' none' := by
 have hs : St P pg Gz w.heap.size (fun _ => none) [] w none' none' :=
  ⟨⟨⟨(fun _ _ _ _ h => by cases h), (fun _ _ _ _ _ _ _ h => by cases h), (fun g h => False.elim h), (fun g h => False.elim h), Nat.le_refl _⟩, hG, (fun g h => False.elim h), (fun g h => False.elim h), hGz⟩, fun _ _ => rfl⟩
 obtain ⟨h1, h2⟩ := body_sound hR hF h hs hu
 intro cs
 obtain ⟨frm, v, w', π', av', hst, hfn, hlv, hvr, hres⟩ := h2 cs
 refine ⟨.returned v, w', frm, ⟨v, rfl, ⟨hres.ev.os, hres.ev.tape.1, hres.ev.out, hres.ev.len, fun k hk => hres.ev.blk k hk fun x => x.2.1⟩, π', av', hvr, hres.hr⟩, hst, hfn, hlv⟩

theorem SumOk.none (F : Nat -> Option DFun) (G : Nat -> Option TV) : SumOk P ⟨F, G, fun _ _ => Option.none, fun _ => Option.none⟩ Gz := ⟨fun _ _ h => (by cases h), fun _ _ _ h => (by cases h)⟩

theorem GRel.none (w : World) (F : Nat -> Option DFun) (S : Nat -> List TV -> Option TV) (Q : Nat -> Option Nat) : GRel ⟨F, fun _ => Option.none, S, Q⟩ 0 w := fun n tv h => by cases h

end Go.Dn

/-
 The evaluator's limit: what it answers with fuel enough. Its equation.
-/

namespace Go.Dn

def Sub (R0 R : Rec) : Prop := ∀ c e H o, R0 c e H = some o -> R c e H = some o

theorem cons_eraseIdx_perm {α : Type} : ∀ {l : List α} {i : Nat} (h : i < l.length), (l[i] :: l.eraseIdx i).Perm l
 | [], _, h => absurd h (Nat.not_lt_zero _)
 | a :: l, 0, _ => List.Perm.refl _
 | a :: l, i + 1, h => by
  have := cons_eraseIdx_perm (l := l) (i := i) (by simpa using h)
  exact (List.Perm.swap _ _ _).trans (this.cons a)

theorem perm_max {α : Type} : ∀ {P : Nat -> List α -> Prop} (hm : ∀ n m p, n <= m -> P n p -> P m p) (l : List α), (∀ p : List α, p.Perm l -> ∃ n, P n p) -> ∃ n, ∀ p : List α, p.Perm l -> P n p := by
 intro P hm l
 induction hk : l.length generalizing l P with
 | zero =>
  intro h
  obtain ⟨n, hn⟩ := h l (List.Perm.refl _)
  refine ⟨n, fun p hp => ?_⟩
  have h1 : l = [] := List.eq_nil_of_length_eq_zero hk
  subst h1
  rw [hp.eq_nil]; exact hn
 | succ k ih =>
  intro h
  have key : ∀ j, j <= l.length -> ∃ n, ∀ i, i < j -> ∀ a, l[i]? = some a -> ∀ p : List α, p.Perm (l.eraseIdx i) -> P n (a :: p) := by
   intro j
   induction j with
   | zero => intro _; exact ⟨0, fun i hi => absurd hi (by omega)⟩
   | succ j ihj =>
    intro hj
    obtain ⟨n1, h1⟩ := ihj (by omega)
    have hlt : j < l.length := by omega
    have hperm : (l[j] :: l.eraseIdx j).Perm l := cons_eraseIdx_perm hlt
    obtain ⟨n2, h2⟩ := ih (P := fun n p => P n (l[j] :: p)) (fun n m p hnm hp => hm n m _ hnm hp) (l.eraseIdx j) (by rw [List.length_eraseIdx_of_lt hlt]; omega) fun p hp => h _ ((hp.cons _).trans hperm)
    refine ⟨max n1 n2, fun i hi a ha p hp => ?_⟩
    by_cases e : i = j
    ·subst e
     rw [List.getElem?_eq_getElem hlt] at ha
     injection ha with ha
     subst ha
     exact hm _ _ _ (Nat.le_max_right _ _) (h2 p hp)
    ·exact hm _ _ _ (Nat.le_max_left _ _) (h1 i (by omega) a ha p hp)
  obtain ⟨n, hn⟩ := key l.length (Nat.le_refl _)
  refine ⟨n, fun p hp => ?_⟩
  cases p with
  | nil => have := hp.length_eq; simp at this; omega
  | cons a p =>
   have ha : a ∈ l := hp.mem_iff.1 (List.mem_cons_self ..)
   obtain ⟨i, hi, rfl⟩ := List.getElem_of_mem ha
   refine hn i hi _ (List.getElem?_eq_getElem hi) p ?_
   have := (hp.trans (cons_eraseIdx_perm hi).symm)
   exact this.cons_inv

section
variable {pg : Pg} {R0 R : Rec}

theorem bodyRun_mono (h : Sub R0 R) {f : Nat} {ags : List TV} {H : Heap} {r : TV × Heap} (hr : bodyRun pg R0 f ags H = some r) : bodyRun pg R f ags H = some r := by
 simp only [bodyRun, Option.bind_eq_some_iff] at hr ⊢
 obtain ⟨d, hd, hr⟩ := hr
 refine ⟨d, hd, ?_⟩
 split at hr <;> try (cases hr; done)
 rename_i hl
 simp only [Option.bind_eq_some_iff] at hr
 obtain ⟨o, ho, hr⟩ := hr
 simp only [hl, if_true, Option.bind_eq_some_iff]
 exact ⟨o, h _ _ _ _ ho, hr⟩

theorem yieldRun_mono (h : Sub R0 R) {id : Nat} {ags : List TV} {H : Heap} {r : TV × Heap} (hr : yieldRun R0 id ags H = some r) : yieldRun R id ags H = some r := by
 unfold yieldRun at hr ⊢
 split at hr <;> try (cases hr; done)
 rename_i L hL
 split at hr <;> try (cases hr; done)
 rename_i hl
 simp only [Option.bind_eq_some_iff] at hr
 obtain ⟨o1, h1, hr⟩ := hr
 simp only [hL, hl, if_true, Option.bind_eq_some_iff]
 refine ⟨o1, h _ _ _ _ h1, ?_⟩
 split at hr <;> try (cases hr; done)
 rename_i hn hL1
 split at hr <;> try (cases hr; done)
 rename_i hst
 simp only [Option.bind_eq_some_iff] at hr
 obtain ⟨o2, h2, hr⟩ := hr
 simp only [hst, if_true, Option.bind_eq_some_iff]
 exact ⟨o2, h _ _ _ _ h2, hr⟩

theorem mapO_imp {α β : Type} {f g : α -> Option β} (h : ∀ x r, f x = some r -> g x = some r) : ∀ {l : List α} {r : List β}, mapO f l = some r -> mapO g l = some r
 | [], r, hr => hr
 | x :: l, r, hr => by
  simp only [mapO, Option.bind_eq_some_iff, Option.some.injEq] at hr ⊢
  obtain ⟨y, hy, ys, hys, rfl⟩ := hr
  exact ⟨y, h _ _ hy, ys, mapO_imp h hys, rfl⟩

theorem cmpRun_mono (h : Sub R0 R) {H : Heap} {g : Nat} {cs : List TV} {x y : TV} {n : Int} (hr : cmpRun pg R0 H g cs x y = some n) : cmpRun pg R H g cs x y = some n := by
 unfold cmpRun at hr ⊢
 simp only [Option.bind_eq_some_iff] at hr ⊢
 obtain ⟨ags, ha, p, hp, hn⟩ := hr
 exact ⟨ags, ha, p, bodyRun_mono h hp, hn⟩

theorem sortRun_mono (h : Sub R0 R) {f : Nat} {ags : List TV} {H : Heap} {r : TV × Heap} (hr : sortRun pg R0 f ags H = some r) : sortRun pg R f ags H = some r := by
 unfold sortRun at hr ⊢
 simp only [Option.bind_eq_some_iff] at hr ⊢
 obtain ⟨k, hk, hr⟩ := hr
 refine ⟨k, hk, ?_⟩
 split at hr <;> try (exact hr)
 rename_i id off sz ag len cp g fs cs
 by_cases h0 : len = 0
 ·rw [if_pos h0] at hr ⊢; exact hr
 rw [if_neg h0] at hr ⊢
 cases hH : H[id]? with
 | none => rw [hH] at hr; cases hr
 | some o =>
 rw [hH] at hr
 cases o <;> simp only at hr ⊢ <;> try (cases hr; done)
 split at hr <;> try (cases hr; done)
 rename_i hz
 rw [if_pos hz]
 simp only [Option.bind_eq_some_iff] at hr ⊢
 obtain ⟨T, hT, hr⟩ := hr
 exact ⟨T, mapO_imp (fun i r hi => mapO_imp (fun j r hj => cmpRun_mono h hj) hi) hT, hr⟩

theorem callRun_mono (h : Sub R0 R) {m : CMode} {vs : List TV} {H : Heap} {r : TV × Heap} (hr : callRun pg R0 m vs H = some r) : callRun pg R m vs H = some r := by
 rcases vs with _ | ⟨v, vs⟩
 ·exact hr
 ·cases v <;> simp only [callRun] at hr ⊢ <;> try (exact hr)
  ·cases m with
   | sh => exact bodyRun_mono h hr
   | pu ks =>
    simp only [Option.bind_eq_some_iff] at hr ⊢
    obtain ⟨ags, ha, hr⟩ := hr
    refine ⟨ags, ha, ?_⟩
    split at hr
    ·exact hr
    ·simp only [Option.bind_eq_some_iff] at hr ⊢
     obtain ⟨x, hx, hr⟩ := hr
     exact ⟨x, bodyRun_mono h hx, hr⟩
   | gr =>
    simp only [Option.bind_eq_some_iff] at hr ⊢
    obtain ⟨ags, ha, x, hx, hr⟩ := hr
    exact ⟨ags, ha, x, bodyRun_mono h hx, hr⟩
   | so =>
    rename_i f fs cs
    have hr' : (if fs = [] /\ cs = [] then sortRun pg R0 f vs H else none) = some r := hr
    show (if fs = [] /\ cs = [] then sortRun pg R f vs H else none) = some r
    by_cases hz : fs = [] /\ cs = []
    ·rw [if_pos hz] at hr' ⊢; exact sortRun_mono h hr'
    ·rw [if_neg hz] at hr'; cases hr'
  ·cases m with
   | sh => exact yieldRun_mono h hr
   | pu ks => exact hr
   | gr => exact hr
   | so => exact hr

theorem operRun_mono (h : Sub R0 R) {o : DOper} {e : Env} {H : Heap} {r : Env × Heap} (hr : operRun pg R0 o e H = some r) : operRun pg R o e H = some r := by
 unfold operRun at hr ⊢
 simp only [Option.bind_eq_some_iff] at hr ⊢
 obtain ⟨go, hg, hr⟩ := hr
 refine ⟨go, hg, ?_⟩
 split at hr
 ·rename_i hgo
  simp only [hgo, if_true, Option.bind_eq_some_iff, Option.map_eq_some_iff] at hr ⊢
  obtain ⟨vs, hvs, x, hx, hr⟩ := hr
  refine ⟨vs, hvs, x, ?_, hr⟩
  split at hx
  ·exact callRun_mono h hx
  ·exact hx
 ·rename_i hgo
  rw [if_neg hgo]; exact hr

theorem opsRun_mono (h : Sub R0 R) : ∀ {ops : List DOper} {e : Env} {H : Heap} {r : Env × Heap}, opsRun pg R0 ops e H = some r -> opsRun pg R ops e H = some r
 | [], _, _, _, hr => hr
 | o :: os, e, H, r, hr => by
  simp only [opsRun, Option.bind_eq_some_iff] at hr ⊢
  obtain ⟨x, hx, hr⟩ := hr
  exact ⟨x, operRun_mono h hx, opsRun_mono h hr⟩

theorem opsTr_mono (h : Sub R0 R) : ∀ {ops : List DOper} {e : Env} {H : Heap} {r : Env × List Heap × Heap}, opsTr pg R0 ops e H = some r -> opsTr pg R ops e H = some r
 | [], _, _, _, hr => hr
 | o :: os, e, H, r, hr => by
  simp only [opsTr, Option.bind_eq_some_iff, Option.map_eq_some_iff] at hr ⊢
  obtain ⟨x, hx, y, hy, hr⟩ := hr
  exact ⟨x, operRun_mono h hx, y, opsTr_mono h hy, hr⟩

theorem mround_mono (h : Sub R0 R) {nxt : Nat} {ops : List DOper} {kas : List Nat} {y0 y : Env -> Heap -> Option Out} (hy : ∀ e H o, y0 e H = some o -> y e H = some o) {e : Env} {H : Heap} {o : Out}
  (hr : mround pg R0 nxt ops kas y0 e H = some o) : mround pg R nxt ops kas y e H = some o := by
 simp only [mround, Option.bind_eq_some_iff, Option.map_eq_some_iff] at hr ⊢
 obtain ⟨p, hp, q, hq, hr⟩ := hr
 exact ⟨p, opsRun_mono h hp, q, hy _ _ _ hq, hr⟩

theorem runC_mono (h : Sub R0 R) : Sub (runC pg R0) (runC pg R) := by
 intro c
 induction c with
 | skip => intro e H o hr; exact hr
 | reg ops ks =>
  intro e H o hr
  simp only [runC, Option.map_eq_some_iff] at hr ⊢
  obtain ⟨x, hx, hr⟩ := hr
  exact ⟨x, opsRun_mono h hx, hr⟩
 | regd ops ks fr =>
  intro e H o hr
  simp only [runC, Option.bind_eq_some_iff] at hr ⊢
  obtain ⟨x, hx, hr⟩ := hr
  exact ⟨x, opsTr_mono h hx, hr⟩
 | seq x y ihx ihy =>
  intro e H o hr
  simp only [runC, Option.bind_eq_some_iff] at hr ⊢
  obtain ⟨o1, h1, hr⟩ := hr
  refine ⟨o1, ihx _ _ _ h1, ?_⟩
  split at hr
  ·rename_i hn; rw [if_pos hn]; exact ihy _ _ _ hr
  ·rename_i hn; rw [if_neg hn]; exact hr
 | seqr x y ihx ihy =>
  intro e H o hr
  simp only [runC, Option.bind_eq_some_iff] at hr ⊢
  obtain ⟨o1, h1, hr⟩ := hr
  refine ⟨o1, ihx _ _ _ h1, ?_⟩
  split at hr
  ·rename_i hn; rw [if_pos hn]; exact ihy _ _ _ hr
  ·rename_i hn; rw [if_neg hn]; exact hr
 | cond c x y ihx ihy =>
  intro e H o hr
  simp only [runC] at hr ⊢
  split at hr <;> try (cases hr; done)
  split at hr
  ·rename_i ht; simp only [ht, if_true]; exact ihx _ _ _ hr
  ·rename_i ht; rw [if_neg ht]; exact ihy _ _ _ hr
 | block id x ih =>
  intro e H o hr
  simp only [runC, Option.map_eq_some_iff] at hr ⊢
  obtain ⟨o1, h1, hr⟩ := hr
  exact ⟨o1, ih _ _ _ h1, hr⟩
 | scope x ih => intro e H o hr; exact ih _ _ _ hr
 | loop ks x ih =>
  intro e H o hr
  simp only [runC, Option.bind_eq_some_iff] at hr ⊢
  obtain ⟨o1, h1, hr⟩ := hr
  refine ⟨o1, ih _ _ _ h1, ?_⟩
  split at hr
  ·rename_i hn; rw [if_pos hn]; exact h _ _ _ _ hr
  ·rename_i hn; rw [if_neg hn]; exact hr
 | exit id => intro e H o hr; exact hr
 | ret => intro e H o hr; exact hr
 | rfunc f ps a b ks _ _ =>
  intro e H o hr
  simp only [runC, Option.bind_eq_some_iff] at hr ⊢
  obtain ⟨fv, hf, x, hx, hr⟩ := hr
  exact ⟨fv, hf, x, callRun_mono h hx, hr⟩
 | mrange it nx mo out nxt pair ops kas y ks z ih ihz =>
  intro e H o hr
  simp only [runC] at hr ⊢
  split at hr <;> try (cases hr; done)
  rename_i id hit
  split at hr <;> try (cases hr; done)
  rename_i mid ck hid
  split at hr <;> try (cases hr; done)
  rename_i es ck' hes
  split at hr <;> try (cases hr; done)
  rename_i hck
  subst hck
  simp only [if_true]
  have hm : ∀ (l : List (Int × TV)) (e : Env) (H : Heap) (r : Env × Heap), mfold (mround pg R0 nxt ops kas (runC pg R0 y)) it id pair ks l e H = some r -> mfold (mround pg R nxt ops kas (runC pg R y)) it id pair ks l e H = some r := by
   intro l
   induction l with
   | nil => intro e H r h; exact h
   | cons p l ihl =>
    obtain ⟨k, v⟩ := p
    intro e H r h'
    simp only [mfold, Option.bind_eq_some_iff] at h' ⊢
    obtain ⟨o1, h1, h'⟩ := h'
    refine ⟨o1, mround_mono h (fun e H o => ih e H o) h1, ?_⟩
    split at h' <;> try (cases h'; done)
    rename_i hn
    rw [if_pos hn]
    exact ihl _ _ _ h'
  have ht : ∀ (l : List (Int × TV)) (r : Out), mthen (mround pg R0 nxt ops kas (runC pg R0 y)) (runC pg R0 z) it id pair ks mid es ck (keepE ks e) ((H.set id .dead).set mid .dead) l = some r ->
    mthen (mround pg R nxt ops kas (runC pg R y)) (runC pg R z) it id pair ks mid es ck (keepE ks e) ((H.set id .dead).set mid .dead) l = some r := by
   intro l r h'
   simp only [mthen, Option.bind_eq_some_iff] at h' ⊢
   obtain ⟨p, h1, h2⟩ := h'
   exact ⟨p, hm _ _ _ _ h1, ihz _ _ _ h2⟩
  split at hr <;> try (cases hr; done)
  rename_i hp
  have hr' := ht _ _ hr
  rw [if_pos (permOk_of hr' fun p hpp => ht _ _ (permOk_get hp hr hpp)), hr']
 | bad => intro e H o hr; exact hr
end

variable {pg : Pg}

theorem denN_step : ∀ n, Sub (denN pg n) (denN pg (n + 1))
 | 0 => fun _ _ _ _ h => by simp [denN] at h
 | n + 1 => runC_mono (denN_step n)

theorem denN_le {n m : Nat} (h : n <= m) : Sub (denN pg n) (denN pg m) := by
 induction h with
 | refl => exact fun _ _ _ _ h => h
 | step _ ih => exact fun c e H o h => denN_step _ c e H o (ih c e H o h)

open Classical in
noncomputable def den (pg : Pg) : Rec := fun c e H => if h : ∃ o n, denN pg n c e H = some o then some h.choose else none

theorem den_iff {c : DC} {e : Env} {H : Heap} {o : Out} : den pg c e H = some o ↔ ∃ n, denN pg n c e H = some o := by
 unfold den
 constructor
 ·intro h
  split at h
  ·rename_i hx
   injection h with h
   obtain ⟨n, hn⟩ := hx.choose_spec
   exact ⟨n, h ▸ hn⟩
  ·cases h
 ·rintro ⟨n, hn⟩
  have hx : ∃ o n, denN pg n c e H = some o := ⟨o, n, hn⟩
  rw [dif_pos hx]
  obtain ⟨m, hm⟩ := hx.choose_spec
  have h1 := denN_le (Nat.le_max_left n m) _ _ _ _ hn
  have h2 := denN_le (Nat.le_max_right n m) _ _ _ _ hm
  rw [h1] at h2
  exact congrArg some (Option.some.inj h2).symm

theorem denN_den (n : Nat) : Sub (denN pg n) (den pg) := fun _ _ _ _ h => den_iff.2 ⟨n, h⟩

/-! continuity: what the limit answers, some fuel answers -/
section
theorem bodyRun_cont {f : Nat} {ags : List TV} {H : Heap} {r : TV × Heap} (hr : bodyRun pg (den pg) f ags H = some r) : ∃ n, bodyRun pg (denN pg n) f ags H = some r := by
 simp only [bodyRun, Option.bind_eq_some_iff] at hr
 obtain ⟨d, hd, hr⟩ := hr
 split at hr <;> try (cases hr; done)
 rename_i hl
 simp only [Option.bind_eq_some_iff] at hr
 obtain ⟨o, ho, hr⟩ := hr
 obtain ⟨n, hn⟩ := den_iff.1 ho
 refine ⟨n, ?_⟩
 simp only [bodyRun, Option.bind_eq_some_iff]
 refine ⟨d, hd, ?_⟩
 simp only [hl, if_true, Option.bind_eq_some_iff]
 exact ⟨o, hn, hr⟩

theorem yieldRun_cont {id : Nat} {ags : List TV} {H : Heap} {r : TV × Heap} (hr : yieldRun (den pg) id ags H = some r) : ∃ n, yieldRun (denN pg n) id ags H = some r := by
 unfold yieldRun at hr
 split at hr <;> try (cases hr; done)
 rename_i L hL
 split at hr <;> try (cases hr; done)
 rename_i hl
 simp only [Option.bind_eq_some_iff] at hr
 obtain ⟨o1, h1, hr⟩ := hr
 split at hr <;> try (cases hr; done)
 rename_i hn hL1
 split at hr <;> try (cases hr; done)
 rename_i hst
 simp only [Option.bind_eq_some_iff] at hr
 obtain ⟨o2, h2, hr⟩ := hr
 obtain ⟨n1, k1⟩ := den_iff.1 h1
 obtain ⟨n2, k2⟩ := den_iff.1 h2
 refine ⟨max n1 n2, ?_⟩
 unfold yieldRun
 simp only [hL, hl, if_true, Option.bind_eq_some_iff]
 refine ⟨o1, denN_le (Nat.le_max_left _ _) _ _ _ _ k1, ?_⟩
 rw [hn, hL1]
 simp only [hst, if_true, Option.bind_eq_some_iff]
 exact ⟨o2, denN_le (Nat.le_max_right _ _) _ _ _ _ k2, hr⟩

theorem mapO_cont {α β : Type} {F : Nat -> α -> Option β} {f : α -> Option β} (hm : ∀ m n x r, m <= n -> F m x = some r -> F n x = some r) (hc : ∀ x r, f x = some r -> ∃ n, F n x = some r) : ∀ {l : List α} {r : List β}, mapO f l = some r -> ∃ n, mapO (F n) l = some r
 | [], r, hr => ⟨0, hr⟩
 | x :: l, r, hr => by
  simp only [mapO, Option.bind_eq_some_iff, Option.some.injEq] at hr
  obtain ⟨y, hy, ys, hys, rfl⟩ := hr
  obtain ⟨n1, h1⟩ := hc _ _ hy
  obtain ⟨n2, h2⟩ := mapO_cont hm hc hys
  refine ⟨max n1 n2, ?_⟩
  simp only [mapO, Option.bind_eq_some_iff, Option.some.injEq]
  exact ⟨y, hm _ _ _ _ (Nat.le_max_left _ _) h1, ys, mapO_imp (fun x r hx => hm _ _ _ _ (Nat.le_max_right _ _) hx) h2, rfl⟩

theorem cmpRun_cont {H : Heap} {g : Nat} {cs : List TV} {x y : TV} {n : Int} (hr : cmpRun pg (den pg) H g cs x y = some n) : ∃ k, cmpRun pg (denN pg k) H g cs x y = some n := by
 unfold cmpRun at hr ⊢
 simp only [Option.bind_eq_some_iff] at hr ⊢
 obtain ⟨ags, ha, p, hp, hn⟩ := hr
 obtain ⟨k, hk⟩ := bodyRun_cont hp
 exact ⟨k, ags, ha, p, hk, hn⟩

theorem sortRun_cont {f : Nat} {ags : List TV} {H : Heap} {r : TV × Heap} (hr : sortRun pg (den pg) f ags H = some r) : ∃ n, sortRun pg (denN pg n) f ags H = some r := by
 unfold sortRun at hr ⊢
 simp only [Option.bind_eq_some_iff] at hr ⊢
 obtain ⟨k, hk, hr⟩ := hr
 split at hr <;> try (exact ⟨0, k, hk, hr⟩)
 rename_i id off sz ag len cp g fs cs
 by_cases h0 : len = 0
 ·exact ⟨0, k, hk, by rw [if_pos h0] at hr ⊢; exact hr⟩
 rw [if_neg h0] at hr
 cases hH : H[id]? with
 | none => rw [hH] at hr; cases hr
 | some o =>
 rw [hH] at hr
 cases o <;> simp only at hr <;> try (cases hr; done)
 split at hr <;> try (cases hr; done)
 rename_i hz
 simp only [Option.bind_eq_some_iff] at hr
 obtain ⟨T, hT, hr⟩ := hr
 rename_i c ag'
 obtain ⟨n, hn⟩ := mapO_cont (F := fun n i => mapO (fun j => cmpRun pg (denN pg n) (H.set id .dead) g cs (.agg (elAt sz off c i)) (.agg (elAt sz off c j))) (List.range len)) (fun m n x r hmn hx => mapO_imp (fun j r hj => cmpRun_mono (denN_le hmn) hj) hx)
  (fun x r hx => mapO_cont (F := fun n j => cmpRun pg (denN pg n) (H.set id .dead) g cs (.agg (elAt sz off c x)) (.agg (elAt sz off c j))) (fun m n x r hmn hx => cmpRun_mono (denN_le hmn) hx) (fun x r hx => cmpRun_cont hx) hx) hT
 refine ⟨n, k, hk, ?_⟩
 simp only
 rw [if_neg h0]
 rw [if_pos hz]
 simp only [Option.bind_eq_some_iff]
 exact ⟨T, hn, hr⟩

theorem callRun_cont {m : CMode} {vs : List TV} {H : Heap} {r : TV × Heap} (hr : callRun pg (den pg) m vs H = some r) : ∃ n, callRun pg (denN pg n) m vs H = some r := by
 rcases vs with _ | ⟨v, vs⟩
 ·exact ⟨0, hr⟩
 ·cases v <;> simp only [callRun] at hr ⊢ <;> try (exact ⟨0, hr⟩)
  ·cases m with
   | sh => exact bodyRun_cont hr
   | pu ks =>
    simp only [Option.bind_eq_some_iff] at hr ⊢
    obtain ⟨ags, ha, hr⟩ := hr
    split at hr
    ·rename_i hsm
     exact ⟨0, ags, ha, by rw [hsm]; exact hr⟩
    ·rename_i hsm
     simp only [Option.bind_eq_some_iff] at hr
     obtain ⟨x, hx, hr⟩ := hr
     obtain ⟨n, hn⟩ := bodyRun_cont hx
     refine ⟨n, ags, ha, ?_⟩
     rw [hsm]
     exact Option.bind_eq_some_iff.2 ⟨x, hn, hr⟩
   | gr =>
    simp only [Option.bind_eq_some_iff] at hr ⊢
    obtain ⟨ags, ha, x, hx, hr⟩ := hr
    obtain ⟨n, hn⟩ := bodyRun_cont hx
    exact ⟨n, ags, ha, x, hn, hr⟩
   | so =>
    rename_i f fs cs
    have hr' : (if fs = [] /\ cs = [] then sortRun pg (den pg) f vs H else none) = some r := hr
    by_cases hz : fs = [] /\ cs = []
    ·rw [if_pos hz] at hr'
     obtain ⟨n, hn⟩ := sortRun_cont hr'
     exact ⟨n, show (if fs = [] /\ cs = [] then sortRun pg (denN pg n) f vs H else none) = some r by rw [if_pos hz]; exact hn⟩
    ·rw [if_neg hz] at hr'; cases hr'
  ·cases m with
   | sh => exact yieldRun_cont hr
   | pu ks => exact ⟨0, hr⟩
   | gr => exact ⟨0, hr⟩
   | so => exact ⟨0, hr⟩

theorem operRun_cont {o : DOper} {e : Env} {H : Heap} {r : Env × Heap} (hr : operRun pg (den pg) o e H = some r) : ∃ n, operRun pg (denN pg n) o e H = some r := by
 unfold operRun at hr ⊢
 simp only [Option.bind_eq_some_iff] at hr ⊢
 obtain ⟨go, hg, hr⟩ := hr
 split at hr
 ·rename_i hgo
  simp only [Option.bind_eq_some_iff, Option.map_eq_some_iff] at hr
  obtain ⟨vs, hvs, x, hx, hr⟩ := hr
  split at hx
  ·obtain ⟨n, hn⟩ := callRun_cont hx
   exact ⟨n, go, hg, by simp only [hgo, if_true, Option.bind_eq_some_iff, Option.map_eq_some_iff]; exact ⟨vs, hvs, x, hn, hr⟩⟩
  ·rename_i hne
   refine ⟨0, go, hg, ?_⟩
   simp only [hgo, if_true, Option.bind_eq_some_iff, Option.map_eq_some_iff]
   exact ⟨vs, hvs, x, hx, hr⟩
 ·rename_i hgo
  exact ⟨0, go, hg, by rw [if_neg hgo]; exact hr⟩

theorem opsRun_cont : ∀ {ops : List DOper} {e : Env} {H : Heap} {r : Env × Heap}, opsRun pg (den pg) ops e H = some r -> ∃ n, opsRun pg (denN pg n) ops e H = some r
 | [], _, _, _, hr => ⟨0, hr⟩
 | o :: os, e, H, r, hr => by
  simp only [opsRun, Option.bind_eq_some_iff] at hr ⊢
  obtain ⟨x, hx, hr⟩ := hr
  obtain ⟨n1, h1⟩ := operRun_cont hx
  obtain ⟨n2, h2⟩ := opsRun_cont hr
  exact ⟨max n1 n2, x, operRun_mono (denN_le (Nat.le_max_left _ _)) h1, opsRun_mono (denN_le (Nat.le_max_right _ _)) h2⟩

theorem opsTr_cont : ∀ {ops : List DOper} {e : Env} {H : Heap} {r : Env × List Heap × Heap}, opsTr pg (den pg) ops e H = some r -> ∃ n, opsTr pg (denN pg n) ops e H = some r
 | [], _, _, _, hr => ⟨0, hr⟩
 | o :: os, e, H, r, hr => by
  simp only [opsTr, Option.bind_eq_some_iff, Option.map_eq_some_iff] at hr ⊢
  obtain ⟨x, hx, y, hy, hr⟩ := hr
  obtain ⟨n1, h1⟩ := operRun_cont hx
  obtain ⟨n2, h2⟩ := opsTr_cont hy
  exact ⟨max n1 n2, x, operRun_mono (denN_le (Nat.le_max_left _ _)) h1, y, opsTr_mono (denN_le (Nat.le_max_right _ _)) h2, hr⟩

theorem mround_cont {nxt : Nat} {ops : List DOper} {kas : List Nat} {y : DC} (hy : ∀ e H o, runC pg (den pg) y e H = some o -> ∃ n, runC pg (denN pg n) y e H = some o) {e : Env} {H : Heap} {o : Out}
  (hr : mround pg (den pg) nxt ops kas (runC pg (den pg) y) e H = some o) : ∃ n, mround pg (denN pg n) nxt ops kas (runC pg (denN pg n) y) e H = some o := by
 simp only [mround, Option.bind_eq_some_iff, Option.map_eq_some_iff] at hr ⊢
 obtain ⟨p, hp, q, hq, hr⟩ := hr
 obtain ⟨n1, h1⟩ := opsRun_cont hp
 obtain ⟨n2, h2⟩ := hy _ _ _ hq
 exact ⟨max n1 n2, p, opsRun_mono (denN_le (Nat.le_max_left _ _)) h1, q, runC_mono (denN_le (Nat.le_max_right _ _)) _ _ _ _ h2, hr⟩

theorem runC_cont : ∀ {c : DC} {e : Env} {H : Heap} {o : Out}, runC pg (den pg) c e H = some o -> ∃ n, runC pg (denN pg n) c e H = some o := by
 intro c
 induction c with
 | skip => intro e H o hr; exact ⟨0, hr⟩
 | reg ops ks =>
  intro e H o hr
  simp only [runC, Option.map_eq_some_iff] at hr ⊢
  obtain ⟨x, hx, hr⟩ := hr
  obtain ⟨n, hn⟩ := opsRun_cont hx
  exact ⟨n, x, hn, hr⟩
 | regd ops ks fr =>
  intro e H o hr
  simp only [runC, Option.bind_eq_some_iff] at hr ⊢
  obtain ⟨x, hx, hr⟩ := hr
  obtain ⟨n, hn⟩ := opsTr_cont hx
  exact ⟨n, x, hn, hr⟩
 | seq x y ihx ihy =>
  intro e H o hr
  simp only [runC, Option.bind_eq_some_iff] at hr ⊢
  obtain ⟨o1, h1, hr⟩ := hr
  obtain ⟨n1, k1⟩ := ihx h1
  split at hr
  ·rename_i hn
   obtain ⟨n2, k2⟩ := ihy hr
   exact ⟨max n1 n2, o1, runC_mono (denN_le (Nat.le_max_left _ _)) _ _ _ _ k1, by rw [if_pos hn]; exact runC_mono (denN_le (Nat.le_max_right _ _)) _ _ _ _ k2⟩
  ·rename_i hn
   exact ⟨n1, o1, k1, by rw [if_neg hn]; exact hr⟩
 | seqr x y ihx ihy =>
  intro e H o hr
  simp only [runC, Option.bind_eq_some_iff] at hr ⊢
  obtain ⟨o1, h1, hr⟩ := hr
  obtain ⟨n1, k1⟩ := ihx h1
  split at hr
  ·rename_i hn
   obtain ⟨n2, k2⟩ := ihy hr
   exact ⟨max n1 n2, o1, runC_mono (denN_le (Nat.le_max_left _ _)) _ _ _ _ k1, by rw [if_pos hn]; exact runC_mono (denN_le (Nat.le_max_right _ _)) _ _ _ _ k2⟩
  ·rename_i hn
   exact ⟨n1, o1, k1, by rw [if_neg hn]; exact hr⟩
 | cond c x y ihx ihy =>
  intro e H o hr
  simp only [runC] at hr ⊢
  split at hr <;> try (cases hr; done)
  split at hr
  ·rename_i ht; simp only [ht, if_true]; exact ihx hr
  ·rename_i ht; simp only [if_neg ht]; exact ihy hr
 | block id x ih =>
  intro e H o hr
  simp only [runC, Option.map_eq_some_iff] at hr ⊢
  obtain ⟨o1, h1, hr⟩ := hr
  obtain ⟨n, hn⟩ := ih h1
  exact ⟨n, o1, hn, hr⟩
 | scope x ih => intro e H o hr; exact ih hr
 | loop ks x ih =>
  intro e H o hr
  simp only [runC, Option.bind_eq_some_iff] at hr ⊢
  obtain ⟨o1, h1, hr⟩ := hr
  obtain ⟨n1, k1⟩ := ih h1
  split at hr
  ·rename_i hn
   obtain ⟨n2, k2⟩ := den_iff.1 hr
   exact ⟨max n1 n2, o1, runC_mono (denN_le (Nat.le_max_left _ _)) _ _ _ _ k1, by rw [if_pos hn]; exact denN_le (Nat.le_max_right _ _) _ _ _ _ k2⟩
  ·rename_i hn
   exact ⟨n1, o1, k1, by rw [if_neg hn]; exact hr⟩
 | exit id => intro e H o hr; exact ⟨0, hr⟩
 | ret => intro e H o hr; exact ⟨0, hr⟩
 | rfunc f ps a b ks _ _ =>
  intro e H o hr
  simp only [runC, Option.bind_eq_some_iff] at hr ⊢
  obtain ⟨fv, hf, x, hx, hr⟩ := hr
  obtain ⟨n, hn⟩ := callRun_cont hx
  exact ⟨n, fv, hf, x, hn, hr⟩
 | mrange it nx mo out nxt pair ops kas y ks z ih ihz =>
  intro e H o hr
  simp only [runC] at hr
  split at hr <;> try (cases hr; done)
  rename_i id hit
  split at hr <;> try (cases hr; done)
  rename_i mid ck hid
  split at hr <;> try (cases hr; done)
  rename_i es ck' hes
  split at hr <;> try (cases hr; done)
  rename_i hck
  have hm : ∀ (n m : Nat), n <= m -> ∀ (l : List (Int × TV)) (e : Env) (H : Heap) (r : Env × Heap), mfold (mround pg (denN pg n) nxt ops kas (runC pg (denN pg n) y)) it id pair ks l e H = some r -> mfold (mround pg (denN pg m) nxt ops kas (runC pg (denN pg m) y)) it id pair ks l e H = some r := by
   intro n m hnm l
   induction l with
   | nil => intro e H r h; exact h
   | cons p l ihl =>
    obtain ⟨k, v⟩ := p
    intro e H r h
    simp only [mfold, Option.bind_eq_some_iff] at h ⊢
    obtain ⟨o1, h1, h⟩ := h
    refine ⟨o1, mround_mono (denN_le hnm) (fun e H o => runC_mono (denN_le hnm) _ e H o) h1, ?_⟩
    split at h <;> try (cases h; done)
    rename_i hn
    rw [if_pos hn]
    exact ihl _ _ _ h
  have hc : ∀ (l : List (Int × TV)) (e : Env) (H : Heap) (r : Env × Heap), mfold (mround pg (den pg) nxt ops kas (runC pg (den pg) y)) it id pair ks l e H = some r -> ∃ n, mfold (mround pg (denN pg n) nxt ops kas (runC pg (denN pg n) y)) it id pair ks l e H = some r := by
   intro l
   induction l with
   | nil => intro e H r h; exact ⟨0, h⟩
   | cons p l ihl =>
    obtain ⟨k, v⟩ := p
    intro e H r h
    simp only [mfold, Option.bind_eq_some_iff] at h ⊢
    obtain ⟨o1, h1, h⟩ := h
    obtain ⟨n1, k1⟩ := mround_cont (fun e H o => ih) h1
    split at h <;> try (cases h; done)
    rename_i hn
    obtain ⟨n2, k2⟩ := ihl _ _ _ h
    refine ⟨max n1 n2, o1, mround_mono (denN_le (Nat.le_max_left _ _)) (fun e H o => runC_mono (denN_le (Nat.le_max_left _ _)) _ e H o) k1, ?_⟩
    rw [if_pos hn]
    exact hm _ _ (Nat.le_max_right _ _) _ _ _ _ k2
  have ht : ∀ (l : List (Int × TV)) (r : Out), mthen (mround pg (den pg) nxt ops kas (runC pg (den pg) y)) (runC pg (den pg) z) it id pair ks mid es ck (keepE ks e) ((H.set id .dead).set mid .dead) l = some r ->
    ∃ n, mthen (mround pg (denN pg n) nxt ops kas (runC pg (denN pg n) y)) (runC pg (denN pg n) z) it id pair ks mid es ck (keepE ks e) ((H.set id .dead).set mid .dead) l = some r := by
   intro l r h'
   simp only [mthen, Option.bind_eq_some_iff] at h' ⊢
   obtain ⟨p, h1, h2⟩ := h'
   obtain ⟨n1, k1⟩ := hc _ _ _ _ h1
   obtain ⟨n2, k2⟩ := ihz h2
   exact ⟨max n1 n2, p, hm _ _ (Nat.le_max_left _ _) _ _ _ _ k1, runC_mono (denN_le (Nat.le_max_right _ _)) _ _ _ _ k2⟩
  subst hck
  split at hr <;> try (cases hr; done)
  rename_i hp
  obtain ⟨n, hn⟩ := perm_max (P := fun n p => mthen (mround pg (denN pg n) nxt ops kas (runC pg (denN pg n) y)) (runC pg (denN pg n) z) it id pair ks mid es ck (keepE ks e) ((H.set id .dead).set mid .dead) p = some o) (fun n m p hnm h => by
   simp only [mthen, Option.bind_eq_some_iff] at h ⊢
   obtain ⟨q, h1, h2⟩ := h
   exact ⟨q, hm n m hnm p _ _ _ h1, runC_mono (denN_le hnm) _ _ _ _ h2⟩) es fun p hpp => ht _ _ (permOk_get hp hr hpp)
  refine ⟨n, ?_⟩
  simp only [runC, hit, hid, hes, if_true]
  rw [if_pos (permOk_of (hn es (List.Perm.refl _)) hn)]; exact hn es (List.Perm.refl _)
 | bad => intro e H o hr; exact ⟨0, hr⟩
end

theorem den_eq (c : DC) (e : Env) (H : Heap) : den pg c e H = runC pg (den pg) c e H := by
 cases h : runC pg (den pg) c e H with
 | some o =>
  obtain ⟨n, hn⟩ := runC_cont h
  exact den_iff.2 ⟨n + 1, hn⟩
 | none =>
  cases h' : den pg c e H with
  | none => rfl
  | some o =>
   obtain ⟨n, hn⟩ := den_iff.1 h'
   cases n with
   | zero => simp [denN] at hn
   | succ n =>
    have := runC_mono (denN_den n) _ _ _ _ hn
    rw [h] at this; cases this

theorem den_sound {P : Program} {Gz : Nat} (hm : P.follows .mixedOrders = true) (hF : FnsOk P pg) (hS : SumOk P pg Gz) : CodeOk P pg Gz (den pg) := by
 intro dc e H out h
 obtain ⟨n, hn⟩ := den_iff.1 h
 exact denN_sound hm hF hS n dc e H out hn

def Ans (pg : Pg) (f : Nat) (ags : List TV) (r : TV) (H' : Heap) : Prop := bodyRun pg (den pg) f ags [] = some (r, H')

theorem Ans.of {n f : Nat} {ags : List TV} {r : TV} {H' : Heap} (h : bodyRun pg (denN pg n) f ags [] = some (r, H')) : Ans pg f ags r H' := bodyRun_mono (denN_den n) h

end Go.Dn

/-
 A table of functions, checked function by function.
-/

namespace Go.Dn
abbrev oM (a b : Nat) : DOper := ⟨some a, .mv, [.t b], none⟩
abbrev oO (a : Nat) (k : DK) (l : List Opnd) : DOper := ⟨some a, k, l, none⟩
abbrev oP (a : Nat) (k : DK) (l : List Opnd) (g : Nat) (w : Bool) : DOper := ⟨some a, k, l, some (g, w)⟩

inductive Tab where
 | nil
 | one (k : Nat) (d : DFun)
 | two (m : Nat) (l r : Tab)

def Tab.look : Tab -> Nat -> Option DFun
 | .nil, _ => none
 | .one k d, f => if f = k then some d else none
 | .two m l r, f => if f < m then l.look f else r.look f

def Fok (P : Program) (k : Nat) (d : DFun) : Prop := ∃ fn, P.funcs[k]? = some fn /\ (fn.name == "runtime.NumGoroutine") = false /\ chkF P d fn = true

def Tab.Ok (P : Program) : Tab -> Prop
 | .nil => True
 | .one k d => Fok P k d
 | .two _ l r => l.Ok P /\ r.Ok P

theorem Tab.ok_look {P : Program} : ∀ {t : Tab} {f : Nat} {d : DFun}, t.Ok P -> t.look f = some d -> Fok P f d
 | .nil, _, _, _, h => by simp [Tab.look] at h
 | .one k d, f, d', ho, h => by
  simp only [Tab.look] at h
  split at h
  ·rename_i e; subst e; injection h with h; subst h; exact ho
  ·cases h
 | .two m l r, f, d, ho, h => by
  simp only [Tab.look] at h
  split at h
  ·exact Tab.ok_look ho.1 h
  ·exact Tab.ok_look ho.2 h

theorem Tab.fns {P : Program} {t : Tab} {G : Nat -> Option TV} {S : Nat -> List TV -> Option TV} {Q : Nat -> Option Nat} (h : t.Ok P) : FnsOk P ⟨t.look, G, S, Q⟩ := fun f d hd => Tab.ok_look h hd

end Go.Dn

/-
 Running code by equations.
-/

namespace Go.Dn

theorem Yn {n : Int} (h : -9223372036854775808 <= n /\ n <= 9223372036854775807) : wrapR .i64 n = .i .i64 n := by
 unfold wrapR
 rw [show IntKind.wrap .i64 n = n by simp [IntKind.wrap, IntKind.signed, IntKind.bits]; omega]

theorem part_one {c : List TV} {i : Nat} {v : TV} (h : c[i]? = some v) (hv : v.isAgg = false) : Dn.part 1 false i c = some v := by simp [Dn.part, h, hv]

theorem bodyRun_of {pg : Pg} {f : Nat} {xs : List TV} {H : Heap} {d : DFun} {o : Out} {vs : List TV} (hd : pg.F f = some d) (hl : xs.length = d.np) (ho : runC pg (den pg) d.body (zipE xs 0) H = some o) (hx : ∀ id, o.ex ≠ .exit id) (hv : mapO (resRun o.env o.H) d.res = some vs) :
  bodyRun pg (den pg) f xs H = some (tupR vs, o.H) := by
 rw [<- den_eq] at ho
 simp only [bodyRun, hd, Option.bind_some, hl, if_true, ho]
 cases hox : o.ex with
 | exit id => exact absurd hox (hx id)
 | normal =>
  show Option.map _ (mapO (resRun o.env o.H) d.res) = _
  rw [hv]
  rcases vs with _ | ⟨v, _ | ⟨v', vs⟩⟩ <;> rfl
 | ret =>
  show Option.map _ (mapO (resRun o.env o.H) d.res) = _
  rw [hv]
  rcases vs with _ | ⟨v, _ | ⟨v', vs⟩⟩ <;> rfl

theorem mapS {α β : Type} (x : α) (f : α -> β) : (some x).map f = some (f x) := rfl

end Go.Dn

/-
 A law's row: what is asked of its answer, where nothing that was there has turned.
-/

namespace Go.Dn
open Go.ChangeShapes Go.WideShapes Go.ChangeAt Go.RowKit
variable {P : Program} {H : Type} {enc : TypeId × Value -> H}

theorem row_post {f : Func} {s : ChangeSpec} {apart fresh handsOn again : Bool} {W W' : World} {args : Array Value} {v : Value} {ds gs : List (DataW H)} {before pa pv : List MemPlace}
  (hW : DataW.Whole enc P f.params.toList s.vars apart W args.toList ds gs before)
  (hres : ∀ (b : Nat) (sp : Nat -> Bool) (hd : Bool), DataW.TrodAll enc P W' b sp hd f.resultTypes.toList (v.resultList f.resultTypes.size) (s.fn H (ds ++ gs)).results [])
  (hargs : ∀ sp : Nat -> Bool, (∀ p ∈ before, sp p.block = true) -> DataW.TrodAll enc P W' 0 sp true f.params.toList args.toList (s.fn H (ds ++ gs)).args pa)
  (hvars : ∀ sp : Nat -> Bool, (∀ p ∈ before, sp p.block = true) -> DataW.TrodVars enc P W' sp s.vars (s.fn H (ds ++ gs)).vars pv)
  (hps : before = pa ++ pv) (hb : Below W.heap.size W W')
  (hok : ∀ (j : Nat) (t : TypeId) (r : Value), f.resultTypes[j]? = some t -> (v.resultList f.resultTypes.size)[j]? = some r -> Value.okWide P W' .any 0 t r) :
  s.post enc P f apart fresh handsOn again W args v W' := by
 have hold : ∀ p ∈ before, (fun b => decide (b < W.heap.size)) p.block = true := fun p hp => by simpa using hW.lt p hp
 have hlt : ∀ p ∈ before, p.block < W.heap.size := hW.lt
 refine ⟨ds, gs, before, [], pa, pv, hW, hres _ _ _, hargs _ hold, hvars _ hold, World.keptBut_mono (fun p hp => ⟨hp, ?_⟩) (hb.frame (· ∈ before)), fun _ => ?_⟩
 ·rw [hps, List.mem_append] at hp
  exact Or.inr hp
 ·obtain ⟨_, _, _, _, _, hz, hn⟩ := hW
  refine ⟨hok, _, _, ([] ++ pa) ++ pv, ⟨[] ++ pa, pv, trodAll_append (hargs _ (fun _ _ => rfl)) (hres _ _ _), hvars _ (fun _ _ => rfl), rfl, ?_, ?_⟩, ?_⟩
  ·intro b off hp
   have hp' : MemPlace.cell b off ∈ before := by rw [hps]; simpa using hp
   rw [hb.frozen (p := ⟨b, off, none⟩) (hlt _ hp')]
   exact hz b off hp'
  ·intro ha
   have := hn ha
   rw [hps] at this
   simpa using this
  ·intro p hp _
   rw [hps]
   simpa using hp

end Go.Dn

/-
 Arguments by value: what a reading of the arguments says of them.
-/

namespace Go.Dn
open Go.ChangeShapes Go.WideShapes Go.ChangeAt Go.RowKit

section
variable {H : Type} {enc : TypeId × Value -> H} {P : Program} {w : World} {sp : Nat -> Bool} {held : Bool}

def Reads (enc : TypeId × Value -> H) (P : Program) (w : World) (sp : Nat -> Bool) (held : Bool) (t : TypeId) (Q : List TV -> Prop) : Prop :=
 ∀ fuel cs x, DataW.trod enc P w 0 sp held fuel t cs = some x -> ∃ ts, SeesAll w ts cs /\ Q ts

def okI (k : IntKind) (n : Int) : Prop := (Lit.int k n).wf = true

theorem reads_int {t : TypeId} {k : IntKind} (ht : P.underlying t = some (.int k)) : Reads enc P w sp held t fun ts => ∃ n, ts = [.i k n] /\ okI k n := by
 intro fuel cs x h
 cases fuel with
 | zero => simp [DataW.trod] at h
 | succ fuel =>
  simp only [DataW.trod, ht] at h
  split at h <;> simp_all
  rename_i k' n _ 
  exact ⟨[.i _ n], .cons _ _ _ _ (.i _ _) .nil, n, rfl, h.1.2⟩

theorem mapM_all {α β : Type} {f : α -> Option β} : ∀ {l : List α} {ys : List β}, l.mapM f = some ys -> ∀ a, a ∈ l -> ∃ y, f a = some y
 | [], _, _, a, ha => by cases ha
 | b :: l, ys, h, a, ha => by
  simp only [List.mapM_cons, Option.bind_eq_bind, Option.bind_eq_some_iff] at h
  obtain ⟨y, hy, zs, hz, _⟩ := h
  rcases List.mem_cons.1 ha with rfl | ha
  ·exact ⟨y, hy⟩
  ·exact mapM_all hz a ha

theorem mem_chunks {a : Addr} {s : Nat} {Q : List TV -> Prop} (hs : 0 < s) : ∀ n : Nat, 0 < n -> (∀ i, i < n -> ∃ cs ts, w.cells? 0 (a.add (i * s)) s = some cs /\ SeesAll w ts cs /\ Q ts) ->
  ∃ (l : List (List TV)) (us : List Value), l.length = n /\ us.length = n * s /\ SeesAll w l.flatten us /\ (∀ x, x ∈ l -> Q x /\ x.length = s) /\ MemAt w a.block a.off us /\ a.spot = none
 | 0, h0, _ => absurd h0 (by omega)
 | n + 1, _, h => by
  have cell : ∀ (i : Nat) (cs : List Value), w.cells? 0 (a.add (i * s)) s = some cs -> cs.length = s /\ ∀ j, j < s -> w.cell? ((a.add (i * s)).add j) = cs[j]? := fun i cs hc => by
   have := World.cells?_some hc
   exact ⟨this.2.1, this.2.2⟩
  have hspot : a.spot = none := by
   obtain ⟨cs, ts, h1, _, _⟩ := h 0 (by omega)
   obtain ⟨hl, hcell⟩ := cell 0 cs h1
   have h2 := hcell 0 hs
   rw [show (a.add (0 * s)).add 0 = a by simp [Addr.add]] at h2
   unfold World.cell? at h2
   cases hsp : a.spot with
   | none => rfl
   | some q =>
    rw [List.getElem?_eq_getElem (by omega)] at h2
    split at h2
    ·rw [hsp] at h2; simp at h2
    ·cases h2
  obtain ⟨cs, ts, h1, h2, h3⟩ := h n (by omega)
  obtain ⟨hl, hcell⟩ := cell n cs h1
  have hmem : MemAt w a.block (a.off + n * s) cs := by
   intro j u hu
   have hj : j < s := by rw [<- hl]; exact (List.getElem?_eq_some_iff.1 hu).1
   have := hcell j hj
   rw [hu] at this
   rw [<- this]
   congr 1
   obtain ⟨b, o, q⟩ := a
   simp only at hspot
   subst hspot
   simp only [Addr.add]
   split <;> split <;> simp_all <;> omega
  rcases Nat.eq_zero_or_pos n with rfl | hn
  ·refine ⟨[ts], cs, rfl, by simpa using hl, by simpa using h2, fun x hx => ?_, by simpa using hmem, hspot⟩
   simp at hx; subst hx; exact ⟨h3, by rw [h2.length]; exact hl⟩
  ·obtain ⟨l, us, k1, k2, k3, k4, k5, _⟩ := mem_chunks hs n hn fun i hi => h i (by omega)
   refine ⟨l ++ [ts], us ++ cs, by simp [k1], by rw [List.length_append, k2, hl, Nat.succ_mul], by rw [List.flatten_append]; simpa using k3.append h2, fun x hx => ?_, fun j u hu => ?_, hspot⟩
   ·rcases List.mem_append.1 hx with hx | hx
    ·exact k4 x hx
    ·simp at hx; subst hx; exact ⟨h3, by rw [h2.length]; exact hl⟩
   ·rw [List.getElem?_append] at hu
    split at hu
    ·exact k5 j u hu
    ·rename_i hge
     have := hmem (j - us.length) u hu
     rw [k2] at this
     rw [show a.off + j = a.off + n * s + (j - n * s) by rw [k2] at hge; omega]
     exact this

theorem reads_slice {t e : TypeId} {Q : List TV -> Prop} {mk : List TV -> TV} (ht : P.underlying t = some (.slice e)) (hs : 0 < P.cellsOf e) (he : Reads enc P w sp held e Q) (hmk : ∀ ts, Q ts -> (mk ts).cells = ts) :
  Reads enc P w sp held t fun ts => ts = [.nilsl] \/ ∃ l : List (List TV), ts = [.bs false (P.cellsOf e) (l.map mk)] /\ l.length <= maxLen /\ ∀ x, x ∈ l -> Q x /\ x.length = P.cellsOf e := by
 intro fuel cs x h
 cases fuel with
 | zero => simp [DataW.trod] at h
 | succ fuel =>
  simp only [DataW.trod, ht] at h
  rcases cs with _ | ⟨c, _ | ⟨d, cs⟩⟩
  ·cases h
  ·cases c <;> try (cases h; done)
   rename_i a len cap
   cases a with
   | none =>
    cases len <;> cases cap <;> try (cases h; done)
    exact ⟨[.nilsl], .cons _ _ _ _ .nilsl .nil, .inl rfl⟩
   | some a =>
    simp only at h
    split at h <;> try (cases h; done)
    rename_i hc
    simp only [Option.bind_eq_some_iff] at h
    obtain ⟨xs, hxs, _⟩ := h
    rcases Nat.eq_zero_or_pos len with rfl | hpos
    ·exact ⟨[.bs false (P.cellsOf e) []], .cons _ _ _ _ (.bs0 _ _ _ _) .nil, .inr ⟨[], rfl, by simp, fun x hx => by cases hx⟩⟩
    ·obtain ⟨l, us, k1, k2, k3, k4, k5, k6⟩ := mem_chunks (w := w) (a := a) (Q := Q) hs len hpos fun i hi => by
      obtain ⟨y, hy⟩ := mapM_all hxs i (by simpa using hi)
      simp only [Option.bind_eq_some_iff] at hy
      obtain ⟨cs, hcs, hy⟩ := hy
      obtain ⟨ts, h1, h2⟩ := he _ _ _ hy
      exact ⟨cs, ts, hcs, h1, h2⟩
     have hfl : (l.map mk).flatMap TV.cells = l.flatten := by
      clear k1 k3
      induction l with
      | nil => rfl
      | cons x l ih =>
       simp only [List.map_cons, List.flatMap_cons, List.flatten_cons]
       rw [hmk x (k4 x (by simp)).1, ih fun y hy => k4 y (by simp [hy])]
     have hv : Sees w (.bs false (P.cellsOf e) (l.map mk)) (.slice (some ⟨a.block, a.off, none⟩) (l.map mk).length cap) := by
      refine .bs false _ _ a.block a.off cap us (by rw [hfl]; exact k3) (fun y hy => ?_) k5 (fun _ => ⟨fun x => x, fun _ x => x⟩) (by simp [k1]; omega)
      obtain ⟨x, hx, rfl⟩ := List.mem_map.1 hy
      rw [hmk x (k4 x hx).1]; exact (k4 x hx).2
     have ha : (⟨a.block, a.off, none⟩ : Addr) = a := by obtain ⟨b, o, q⟩ := a; simp only at k6; subst k6; rfl
     rw [ha] at hv
     simp only [List.length_map, k1] at hv
     exact ⟨_, .cons _ _ _ _ hv .nil, .inr ⟨l, rfl, by omega, k4⟩⟩
  ·cases c <;> first
    | (cases h; done)
    | (rename_i a l q; cases a <;> first
      | (cases h; done)
      | (cases l <;> cases q <;> cases h))

theorem sees_one {t : TypeId} {v : Value} {d : DataW H} {ps : List MemPlace} {Q : List TV -> Prop} (hr : Reads enc P w sp held t Q) (hv : v.cells.toList = [v]) (hd : DataW.Trod enc P w 0 sp held t v d ps) : ∃ x, Sees w x v /\ Q [x] := by
 obtain ⟨fuel, h⟩ := hd
 obtain ⟨ts, h1, h2⟩ := hr _ _ _ h
 rw [hv] at h1
 obtain ⟨x, rfl, hx⟩ := h1.inv1
 exact ⟨x, hx, h2⟩

end
end Go.Dn

/-
 A law's row, whatever data its arguments are.
-/

namespace Go.Dn
open Go.ChangeShapes Go.WideShapes Go.ChangeAt Go.RowKit

section
variable {H : Type} {enc : TypeId × Value -> H} {P : Program}

theorem trodAll_stays (hl : laidOutB P = true) {W W' : World} (hb : Below W.heap.size W W') {sp : Nat -> Bool} : ∀ {ts : List TypeId} {vs : List Value} {ds : List (DataW H)} {ps : List MemPlace},
  (ts.all fun t => P.readableRec t && decide (t < P.types.size)) = true -> DataW.TrodAll enc P W 0 (fun _ => true) true ts vs ds ps -> (∀ x, x ∈ ps -> x.block < W.heap.size) -> (∀ x, x ∈ ps -> sp x.block = true) ->
   DataW.TrodAll enc P W' 0 sp true ts vs ds ps
 | [], vs, ds, ps, _, h, _, _ => by
  obtain ⟨rfl, rfl, rfl⟩ := trodAll_nil h
  exact trodAll_mk0
 | t :: ts, vs, ds, ps, ht, h, hlt, hsp => by
  simp only [List.all_cons, Bool.and_eq_true, decide_eq_true_eq] at ht
  obtain ⟨v, vs', d, ds', p, q, rfl, rfl, rfl, h1, h2⟩ := trodAll_cons h
  exact trodAll_cons_mk (WideElems.Trod_stays hl ht.1.1 ht.1.2 h1 (fun x hx => hb.same (hlt x (by simp [hx]))) fun x hx => hsp x (by simp [hx]))
   (trodAll_stays hl hb ht.2 h2 (fun x hx => hlt x (by simp [hx])) fun x hx => hsp x (by simp [hx]))

theorem law_post {f : Func} {s : ChangeSpec} {apart : Bool} {W W' : World} {args : Array Value} {ds gs : List (DataW H)} {before : List MemPlace} {tb : TypeId}
  (hl : laidOutB P = true) (hts : (f.params.toList.all fun t => P.readableRec t && decide (t < P.types.size)) = true) (hvars : s.vars = []) (hres : f.resultTypes = #[tb]) (hbool : P.underlying tb = some .bool)
  (hW : DataW.Whole enc P f.params.toList s.vars apart W args.toList ds gs before) (hfn : (s.fn H (ds ++ gs)).results = [.lit (.bool true)] /\ (s.fn H (ds ++ gs)).args = ds /\ (s.fn H (ds ++ gs)).vars = [])
  (hb : Below W.heap.size W W') {fresh handsOn again : Bool} : s.post enc P f apart fresh handsOn again W args (.bool true) W' := by
 have hlt := hW.lt
 have hW' := hW
 obtain ⟨p, q, hA, hV, hpq, hfz, hnd⟩ := hW
 rw [hvars] at hV
 obtain ⟨rfl, rfl⟩ := trodVars_none hV
 rw [List.append_nil] at hpq
 subst hpq
 refine row_post (pa := before) (pv := []) hW' (fun b sp hd => ?_) (fun sp hsp => ?_) (fun sp hsp => ?_) (by simp) hb (ok_one hres rfl (okWide_bool_mk hbool _))
 ·rw [hfn.1, hres]
  exact trodAll_cons_mk (shut_bool hbool _) trodAll_mk0
 ·rw [hfn.2.1]
  exact trodAll_stays hl hb hts hA hlt hsp
 ·rw [hfn.2.2, hvars]
  rfl
end

theorem one_cell {P : Program} {w : World} {r : Reach} {base : Nat} {t : TypeId} {v : Value} (h : Value.okWide P w r base t v) (ht : aggT P t = false) : v.cells.toList = [v] := by
 cases v <;> try rfl
 exfalso
 rename_i cs
 have hn : ¬ Cell.okWide P w r base t (.agg cs) := by
  intro hc
  unfold Cell.okWide Cell.ok at hc
  cases hu : P.underlying t with
  | none => simp [hu] at hc
  | some d => cases d <;> simp [hu] at hc
 unfold Value.okWide at h
 unfold aggT at ht
 cases hu : P.underlying t with
 | none => simp only [hu] at h; exact hn h
 | some d =>
  cases d <;> simp only [hu] at h ht
  all_goals first | exact hn h | simp at ht

end Go.Dn

