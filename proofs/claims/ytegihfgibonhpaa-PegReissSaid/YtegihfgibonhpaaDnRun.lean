/-
  Calls, snapshots, frames: what is to be shown of a run, and how its parts fit.
-/
import Derived.Test.YtegihfgibonhpaaDnStep
set_option linter.unusedVariables false
set_option linter.unusedSimpArgs false
namespace Go.Dn

/-! ### worlds that differ in spent blocks alone -/
def SameW (w w' : World) : Prop := w'.heap.size = w.heap.size ∧ w'.os = w.os ∧ w'.tape = w.tape ∧ w'.output = w.output ∧ ∀ (g : Nat) (ob : Obj), w.heap[g]? = some ob → (∀ d, ob ≠ Obj.deferred d) → w'.heap[g]? = some ob

theorem SameW.cell {w w' : World} (h : SameW w w') {a : Addr} {u : Value} (hc : w.cell? a = some u) : w'.cell? a = some u := by
  unfold World.cell? at hc ⊢
  split at hc
  · rename_i cc el fr hb
    rw [h.2.2.2.2 _ _ hb (by simp)]
    exact hc
  · cases hc

mutual
theorem VRel.same {π : PMap} {w w' : World} {av ex : Nat → Prop} (e : SameW w w') {t : TV} {v : Value} : VRel π w av ex t v → VRel π w' av ex t v
  | .undef v => .undef v
  | .b x => .b x
  | .i k n => .i k n
  | .s x => .s x
  | .nilp => .nilp
  | .nilsl => .nilsl
  | .nilmap => .nilmap
  | .nilfn => .nilfn
  | .nilif => .nilif
  | .agg l cs h => .agg l cs (VsRel.same e h)
  | .tup l cs h => .tup l cs (VsRel.same e h)
  | .fn f fs cs fa ca h1 h2 => .fn f fs cs fa ca (VsRel.same e h1) (VsRel.same e h2)
  | .yl id g h => .yl id g h
  | .ref id off g sh h => .ref id off g sh h
  | .sl id off sz ag len cap g sh c cc el fr h hb hl hc hs => .sl id off sz ag len cap g sh c cc el fr h (e.2.2.2.2 _ _ hb (by simp)) hl hc hs
  | .sl0 id off sz ag cap a hc => .sl0 id off sz ag cap a hc
  | .esl a => .esl a
  | .mp id g h => .mp id g h
  | .bp bo v g off us h hm ha => .bp bo v g off us (VsRel.same e h) (fun j u hu => e.cell (hm j u hu)) ha
  | .bs bo sz es g off c us h hz hm ha hl => .bs bo sz es g off c us (VsRel.same e h) hz (fun j u hu => e.cell (hm j u hu)) ha hl
  | .bs0 bo sz a c => .bs0 bo sz a c
theorem VsRel.same {π : PMap} {w w' : World} {av ex : Nat → Prop} (e : SameW w w') {ts : List TV} {vs : List Value} : VsRel π w av ex ts vs → VsRel π w' av ex ts vs
  | .nil => .nil
  | .cons t v ts vs h hs => .cons t v ts vs (VRel.same e h) (VsRel.same e hs)
end

theorem EsRel.same {π : PMap} {w w' : World} {av ex : Nat → Prop} (e : SameW w w') : ∀ {es : List (TV × TV × Nat)} {ces : List MapEntry}, EsRel π w av ex es ces → EsRel π w' av ex es ces
  | [], [], _ => trivial
  | (k, v, n) :: r, c :: cs, h => ⟨h.1.same e, h.2.1.same e, h.2.2.1, EsRel.same e h.2.2.2⟩
  | [], _ :: _, h => h.elim
  | _ :: _, [], h => h.elim

theorem HRel.same {P : Program} {B : Nat} {π : PMap} {H : Heap} {w w' : World} {av ex : Nat → Prop} (h : HRel P B π H w av ex) (e : SameW w w') : HRel P B π H w' av ex where
  obj id g sh o hp ho hd := by
    obtain ⟨h1, h2, ob, h3, h4⟩ := h.obj id g sh o hp ho hd
    refine ⟨h1, h2, ob, e.2.2.2.2 _ _ h3 (fun d => by rintro rfl; cases o <;> simp [ORel] at h4), ?_⟩
    cases o <;> cases ob <;> simp only [ORel] at h4 ⊢
    case cells.cells =>
      obtain ⟨a1, a2, a3, us, a4, a5⟩ := h4
      exact ⟨a1, a2, a3, us, a4.same e, a5⟩
    case map.map => exact ⟨h4.1, h4.2.1, h4.2.2.same e⟩
    case loop.loop =>
      obtain ⟨a1, a2, a3, a4, a5⟩ := h4
      exact ⟨a1, a2, a3, fun s t hs => (a4 s t hs).same e, a5⟩
  inj := h.inj
  avb g x := by rw [e.1]; exact h.avb g x
  exb g x := by rw [e.1]; exact h.exb g x
  bsz := by rw [e.1]; exact h.bsz

theorem SameW.take (w : World) {r : Nat} {d d' : Option (List Deferred)} (h : w.heap[r]? = some (.deferred d)) : SameW w { w with heap := w.heap.setIfInBounds r (.deferred d') } := by
  refine ⟨by simp, rfl, rfl, rfl, fun g ob hg hn => ?_⟩
  show (w.heap.setIfInBounds r (.deferred d'))[g]? = some ob
  rw [Array.getElem?_setIfInBounds]
  split
  · rename_i he; subst he; rw [h] at hg; injection hg with hg; exact absurd hg.symm (hn _)
  · exact hg

/-! ### the state of a run -/
section
variable (P : Program) (pg : Pg) (Gz : Nat)

def GRel (w : World) : Prop := ∀ n tv, pg.G n = some tv → n < Gz ∧ ∃ us, chkVs tv.cells us = true ∧ MemAt w n 0 us

structure St0 (B : Nat) (π : PMap) (H : Heap) (w : World) (av ex : Nat → Prop) : Prop where
  hr : HRel P B π H w av ex
  gl : GRel pg Gz w
  avg : ∀ g, av g → Gz ≤ g
  exg : ∀ g, ex g → Gz ≤ g
  gB : Gz ≤ B

structure St (B : Nat) (π : PMap) (H : Heap) (w : World) (av ex : Nat → Prop) : Prop extends St0 P pg Gz B π H w av ex where
  dom : ∀ id, H.length ≤ id → π id = none
end

variable {P : Program} {pg : Pg} {Gz : Nat} {B : Nat} {π : PMap} {H : Heap} {w : World} {av ex : Nat → Prop}

theorem GRel.mono {wr : Nat → Prop} {π' : PMap} {w' : World} {av' : Nat → Prop} (h : GRel pg Gz w) (e : Ev wr π w av π' w' av') (hw : ∀ g, wr g → Gz ≤ g) : GRel pg Gz w' := by
  intro n tv hn
  obtain ⟨h1, us, h2, h3⟩ := h n tv hn
  exact ⟨h1, us, h2, h3.mono e fun _ x => by have := hw n x; omega⟩

theorem wrK_gz (hs : St P pg Gz B π H w av ex) (W : Bool) : ∀ g, wrK B av W g → Gz ≤ g := fun g h => hs.avg g h.2.1
theorem wrK_av (W : Bool) : ∀ g, g < w.heap.size → wrK B av W g → av g := fun g _ h => h.2.1

theorem St.next {wr : Nat → Prop} {H' : Heap} {w' : World} {π' : PMap} {av' : Nat → Prop} (hs : St P pg Gz B π H w av ex) (r : Res P B wr π H w av ex H' w' π' av') (hw : ∀ g, wr g → Gz ≤ g) : St P pg Gz B π' H' w' av' ex where
  hr := r.hr
  dom id hid := by
    by_cases h : π' id = π id
    · rw [h]; exact hs.dom id (Nat.le_trans r.hl hid)
    · have := (r.dom id h).2; omega
  gl := hs.gl.mono r.ev hw
  avg g hg := by
    rcases Nat.lt_or_ge g w.heap.size with h | h
    · exact hs.avg g (r.ev.sub g h hg)
    · have := hs.hr.bsz; have := hs.gB; omega
  exg := hs.exg
  gB := hs.gB

theorem St.nextK {W : Bool} {H' : Heap} {w' : World} {π' : PMap} {av' : Nat → Prop} (hs : St P pg Gz B π H w av ex) (r : Res P B (wrK B av W) π H w av ex H' w' π' av') : St P pg Gz B π' H' w' av' ex := hs.next r (wrK_gz hs W)

theorem Res.trans {W : Bool} {H1 H2 : Heap} {w1 w2 : World} {π1 π2 : PMap} {av1 av2 : Nat → Prop} (h : Res P B (wrK B av true) π H w av ex H1 w1 π1 av1) (h' : Res P B (wrK B av1 W) π1 H1 w1 av1 ex H2 w2 π2 av2) :
    Res P B (wrK B av true) π H w av ex H2 w2 π2 av2 where
  ev := h.ev.trans h'.ev fun g hg x => ⟨rfl, h.ev.sub g hg x.2.1, x.2.2⟩
  hr := h'.hr
  dom id hn := by
    by_cases h1 : π1 id = π id
    · have := h'.dom id (by rw [h1]; exact hn)
      have := h.hl
      omega
    · have := h.dom id h1
      have := h'.hl
      omega
  ext g x := h'.ext g (h.ext g x)
  hl := Nat.le_trans h.hl h'.hl
  frs id g sh hn hg := by
    by_cases h2 : π2 id = π1 id
    · exact h.frs id g sh (by rw [← h2]; exact hn) (by rw [← h2]; exact hg)
    · have hlen := h.ev.len
      rcases h'.frs id g sh h2 hg with x | x
      · exact .inl (by omega)
      · rcases Nat.lt_or_ge g w.heap.size with y | y
        · exact .inr ⟨rfl, h.ev.sub g y x.2.1, x.2.2⟩
        · exact .inl y

theorem Res.widen {W : Bool} {H1 : Heap} {w1 : World} {π1 : PMap} {av1 : Nat → Prop} (h : Res P B (wrK B av W) π H w av ex H1 w1 π1 av1) : Res P B (wrK B av true) π H w av ex H1 w1 π1 av1 :=
  { h with ev := h.ev.wider fun g x => ⟨rfl, x.2.1, x.2.2⟩, frs := fun id g sh hn hg => (h.frs id g sh hn hg).imp (fun x => x) fun x => ⟨rfl, x.2⟩ }

theorem Res.sameW {H1 : Heap} {w1 w2 : World} {π1 : PMap} {av1 : Nat → Prop} (h : Res P B (wrK B av true) π H w av ex H1 w1 π1 av1) (e : SameW w1 w2) (hn : ∀ g, g < w.heap.size → w2.heap[g]? = w1.heap[g]?) :
    Res P B (wrK B av true) π H w av ex H1 w2 π1 av1 where
  ev := ⟨h.ev.map, fun g hg hx => (hn g hg).trans (h.ev.blk g hg hx), fun g cc el fr hb => by
      obtain ⟨c, hc, hs⟩ := h.ev.siz g cc el fr hb
      exact ⟨c, by rw [hn g (Array.getElem?_eq_some_iff.1 hb).1]; exact hc, hs⟩, fun g r hb => by
      obtain ⟨c, hc⟩ := h.ev.lop g r hb
      exact ⟨c, by rw [hn g (Array.getElem?_eq_some_iff.1 hb).1]; exact hc⟩, h.ev.sub, by rw [e.1]; exact h.ev.len, e.2.1.trans h.ev.os, e.2.2.1.trans h.ev.tape, e.2.2.2.1.trans h.ev.out⟩
  hr := h.hr.same e
  dom := h.dom
  ext := h.ext
  hl := h.hl
  frs := h.frs

/-! ### operands -/
theorem evalO_sound (hs : St0 P pg Gz B π H w av ex) {e : Env} {tm : Array Value} (he : ERel π w av ex e tm) {x : Opnd} {y : Operand} {t : TV} (hc : chkO x y = true) (hv : evalO pg e x = some t) : VRel π w av ex t (ev tm y) := by
  cases x with
  | t s =>
    cases y <;> simp only [chkO, Bool.false_eq_true, beq_iff_eq] at hc
    subst hc
    exact he s t hv
  | c v =>
    simp only [evalO, Option.some.injEq] at hv
    subst hv
    cases y with
    | const u => exact chkV_sound (v := u) (by cases v <;> simpa [chkO] using hc)
    | func f =>
      cases v <;> simp only [chkO, Bool.false_eq_true] at hc
      rename_i f' a b
      cases a <;> cases b <;> simp only [chkO, Bool.false_eq_true, beq_iff_eq] at hc
      subst hc
      exact .fn _ _ _ _ _ .nil .nil
    | tmp s => simp [chkO] at hc
    | global g => simp [chkO] at hc
  | g n =>
    cases y <;> simp only [chkO, Bool.false_eq_true, beq_iff_eq] at hc
    subst hc
    simp only [evalO, Option.map_eq_some_iff] at hv
    obtain ⟨tv, htv, rfl⟩ := hv
    obtain ⟨h1, us, h2, h3⟩ := hs.gl n tv htv
    exact .bp false tv n 0 us (chkVs_sound h2) h3 fun _ => ⟨fun h => by have := hs.avg n h; omega, fun _ h => by have := hs.exg n h; omega⟩

theorem evalOs_sound (hs : St0 P pg Gz B π H w av ex) {e : Env} {tm : Array Value} (he : ERel π w av ex e tm) : ∀ {xs : List Opnd} {ys : List Operand} {ts : List TV}, chkOs xs ys = true → mapO (evalO pg e) xs = some ts → VsRel π w av ex ts (ys.map (ev tm))
  | [], [], ts, _, h => by simp [mapO] at h; subst h; exact .nil
  | x :: xs, y :: ys, ts, hc, h => by
    simp only [chkOs, Bool.and_eq_true] at hc
    simp only [mapO, Option.bind_eq_some_iff, Option.some.injEq] at h
    obtain ⟨t, ht, ts', hts, rfl⟩ := h
    exact .cons _ _ _ _ (evalO_sound hs he hc.1 ht) (evalOs_sound hs he hc.2 hts)
  | [], _ :: _, _, hc, _ => by simp [chkOs] at hc
  | _ :: _, [], _, hc, _ => by simp [chkOs] at hc

/-! ### snapshots -/
/-- what a mode asks of the places that by-value parts may lie in -/
structure SnOk (m : SM) (B : Nat) (av ex av2 ex2 : Nat → Prop) : Prop where
  byv : ∀ g bo bo', m.flag bo = some bo' → ¬ av g ∧ (bo = false → ¬ ex g) → ¬ av2 g ∧ (bo' = false → ¬ ex2 g)
  own : ∀ g, m ≠ .keep → av g → B ≤ g → ¬ av2 g ∧ ((m == .borrow) = false → ¬ ex2 g)

theorem snap_sound {m : SM} (hH : HRel P B π H w av ex) {av2 ex2 : Nat → Prop} {π2 : PMap} (hm : SnOk m B av ex av2 ex2) : ∀ (n : Nat) {t t' : TV} {v : Value}, snap m H n t = some t' → VRel π w av ex t v → VRel π2 w av2 ex2 t' v := by
  intro n
  induction n with
  | zero => intro t t' v h; simp [snap] at h
  | succ n ih =>
    have ihs : ∀ {ts ts' : List TV} {vs : List Value}, mapO (snap m H n) ts = some ts' → VsRel π w av ex ts vs → VsRel π2 w av2 ex2 ts' vs := by
      intro ts
      induction ts with
      | nil => intro ts' vs h hv; simp [mapO] at h; subst h; cases hv; exact .nil
      | cons a ts iht =>
        intro ts' vs h hv
        simp only [mapO, Option.bind_eq_some_iff, Option.some.injEq] at h
        obtain ⟨a', ha, ts'', hts, rfl⟩ := h
        cases hv with | cons _ v _ vs hv hvs => exact .cons _ _ _ _ (ih ha hv) (iht hts hvs)
    -- a by-value value's cells
    have icells : ∀ {t t' : TV} {us : List Value}, snap m H n t = some t' → VsRel π w av ex t.cells us → VsRel π2 w av2 ex2 t'.cells us ∧ t'.cells.length = t.cells.length := by
      intro t t' us h hv
      cases n with
      | zero => simp [snap] at h
      | succ n' =>
        cases t
        case agg l =>
          have h0 := h
          simp only [snap, Option.map_eq_some_iff] at h
          obtain ⟨l', hl, rfl⟩ := h
          have hv2 : VRel π w av ex (.agg l) (.agg us.toArray) := .agg _ _ (by simpa [TV.cells] using hv)
          have := ih h0 hv2
          cases this with | agg _ _ h3 =>
          simp only [TV.cells] at hv ⊢
          exact ⟨by simpa using h3, by rw [(show VsRel π2 w av2 ex2 l' us by simpa using h3).length, hv.length]⟩
        all_goals
          simp only [TV.cells] at hv
          have hl := hv.length
          obtain ⟨u, rfl⟩ : ∃ u, us = [u] := by
            cases us with
            | nil => simp at hl
            | cons u r => cases r with
              | nil => exact ⟨u, rfl⟩
              | cons => simp at hl
          cases hv with | cons _ _ _ _ h1 h2 =>
          have h3 := ih h h1
          have hna : t'.isAgg = false := by
            cases h1 <;> simp only [snap] at h <;> (try (cases h; done))
            all_goals
              first
              | (injection h with h; subst h; rfl)
              | (simp only [Option.map_eq_some_iff] at h; obtain ⟨_, _, rfl⟩ := h; rfl)
              | (simp only [Option.bind_eq_some_iff, Option.map_eq_some_iff] at h; obtain ⟨_, _, _, _, rfl⟩ := h; rfl)
              | (repeat' split at h) <;> (try (cases h; done)) <;> (simp only [Option.map_eq_some_iff] at h; obtain ⟨_, _, rfl⟩ := h; rfl)
          have : t'.cells = [t'] := by cases t' <;> first | rfl | simp [TV.isAgg] at hna
          rw [this]
          exact ⟨.cons _ _ _ _ h3 .nil, by simp [TV.cells]⟩
    -- elements
    have iels : ∀ {es es' : List TV} {us : List Value}, mapO (snap m H n) es = some es' → VsRel π w av ex (es.flatMap TV.cells) us → VsRel π2 w av2 ex2 (es'.flatMap TV.cells) us ∧ es'.length = es.length ∧
        (∀ sz, (∀ e, e ∈ es → e.cells.length = sz) → ∀ e, e ∈ es' → e.cells.length = sz) := by
      intro es
      induction es with
      | nil => intro es' us h hv; simp [mapO] at h; subst h; cases hv; exact ⟨.nil, rfl, fun _ _ e he => by simp at he⟩
      | cons a es iht =>
        intro es' us h hv
        simp only [mapO, Option.bind_eq_some_iff, Option.some.injEq] at h
        obtain ⟨a', ha, es'', hes, rfl⟩ := h
        simp only [List.flatMap_cons] at hv ⊢
        obtain ⟨h1, h2⟩ := hv.split
        obtain ⟨g1, g2⟩ := icells ha h1
        obtain ⟨k1, k2, k3⟩ := iht hes h2
        refine ⟨?_, by simp [k2], ?_⟩
        · have := g1.append k1
          rwa [List.take_append_drop] at this
        · intro sz hz e he
          simp only [List.mem_cons] at he
          rcases he with rfl | he
          · rw [g2]; exact hz a (by simp)
          · exact k3 sz (fun e he => hz e (by simp [he])) e he
    intro t t' v h hv
    cases hv <;> simp only [snap] at h <;> (try (cases h; done))
    case b x => injection h with h; subst h; exact .b x
    case i k x => injection h with h; subst h; exact .i k x
    case s x => injection h with h; subst h; exact .s x
    case nilp => injection h with h; subst h; exact .nilp
    case nilsl => injection h with h; subst h; exact .nilsl
    case nilmap => injection h with h; subst h; exact .nilmap
    case nilfn => injection h with h; subst h; exact .nilfn
    case nilif => injection h with h; subst h; exact .nilif
    case esl a => injection h with h; subst h; exact .esl a
    case agg l cs hl =>
      simp only [Option.map_eq_some_iff] at h
      obtain ⟨l', hl', rfl⟩ := h
      exact .agg _ _ (ihs hl' hl)
    case tup l cs hl =>
      simp only [Option.map_eq_some_iff] at h
      obtain ⟨l', hl', rfl⟩ := h
      exact .tup _ _ (ihs hl' hl)
    case fn f fs cs fa ca h1 h2 =>
      simp only [Option.bind_eq_some_iff, Option.map_eq_some_iff] at h
      obtain ⟨fs', hfs, cs', hcs, rfl⟩ := h
      exact .fn _ _ _ _ _ (ihs hfs h1) (ihs hcs h2)
    case bp bo x g off us h1 hmm ha =>
      simp only [Option.bind_eq_some_iff, Option.map_eq_some_iff] at h
      obtain ⟨bo', hbo, x', hx, rfl⟩ := h
      exact .bp bo' x' g off us (icells hx h1).1 hmm fun hn => hm.byv g bo bo' hbo (ha hn)
    case bs bo sz es g off c us h1 hz hmm ha hl =>
      simp only [Option.bind_eq_some_iff, Option.map_eq_some_iff] at h
      obtain ⟨bo', hbo, es', hes, rfl⟩ := h
      obtain ⟨k1, k2, k3⟩ := iels hes h1
      rw [← k2]
      exact .bs bo' sz es' g off c us k1 (k3 sz hz) hmm (fun hn => hm.byv g bo bo' hbo (ha hn)) (by omega)
    case bs0 bo sz a c =>
      simp only [Option.bind_eq_some_iff, Option.map_eq_some_iff, mapO, Option.some.injEq] at h
      obtain ⟨bo', hbo, es', rfl, rfl⟩ := h
      exact .bs0 bo' sz a c
    case ref id off g sh hp =>
      split at h <;> try (cases h; done)
      rename_i hc
      have hmk : m ≠ .keep := fun x => hc (.inl x)
      have hoff : off = 0 := by
        rcases Nat.eq_zero_or_pos off with h0 | h0
        · exact h0
        · exact absurd (.inr (by omega)) hc
      subst hoff
      split at h <;> try (cases h; done)
      rename_i c ag hi
      obtain ⟨cc, el, us, hb, hl, ho, hus, hmm, hB, hav⟩ := obj_mem hH hp hi
      obtain ⟨n1, n2⟩ := hm.own g hmk hav hB
      split at h
      · simp only [Option.map_eq_some_iff] at h
        obtain ⟨c', hc', rfl⟩ := h
        exact .bp _ _ g (sh + 0) us (by simpa [TV.cells] using ihs hc' hus) hmm fun _ => ⟨n1, n2⟩
      · split at h <;> try (cases h; done)
        rename_i x
        simp only [Option.map_eq_some_iff] at h
        obtain ⟨x', hx, rfl⟩ := h
        have hx1 : x.cells = [x] := by
          simp only [List.all_cons, List.all_nil, Bool.and_true] at ho
          cases x <;> first | rfl | simp [TV.one] at ho
        exact .bp _ _ g (sh + 0) us (icells hx (by rw [hx1]; exact hus)).1 hmm fun _ => ⟨n1, n2⟩
    case sl id off sz ag len cap g sh c0 cc0 el0 fr0 hp hb0 hlc hcap hs =>
      split at h <;> try (cases h; done)
      rename_i hmk
      split at h <;> try (cases h; done)
      rename_i c ag0 hi
      obtain ⟨cc, el, us, hb, hl, ho, hus, hmm, hB, hav⟩ := obj_mem hH hp hi
      obtain ⟨n1, n2⟩ := hm.own g hmk hav hB
      split at h <;> try (cases h; done)
      rename_i hc
      obtain ⟨hc1, hc2⟩ := hc
      simp only [Option.map_eq_some_iff] at h
      obtain ⟨es, hes, rfl⟩ := h
      have hsub : ((c.drop off).take (len * sz)).all TV.one = true := by
        rw [List.all_eq_true] at ho ⊢
        exact fun x hx => ho x (List.mem_of_mem_drop (List.mem_of_mem_take hx))
      obtain ⟨e1, e2, e3⟩ := elems_spec (sz := sz) (n := len) (ag := ag) (l := (c.drop off).take (len * sz)) (by simp; omega) hc2 hsub
      obtain ⟨k1, k2, k3⟩ := iels hes (by rw [e1]; exact (hus.drop off).take (len * sz))
      rw [e3] at k2
      have := VRel.bs (π := π2) (w := w) (av := av2) (ex := ex2) (m == .borrow) sz es g (sh + off) c0 _ k1 (k3 sz e2) hmm.sub (fun _ => ⟨n1, n2⟩) (by omega)
      rwa [k2] at this
    case sl0 id off sz ag cap a hcap =>
      split at h <;> try (cases h; done)
      split at h <;> try (cases h; done)
      split at h <;> try (cases h; done)
      simp only [Option.map_eq_some_iff] at h
      obtain ⟨es, hes, rfl⟩ := h
      have : ∀ c : List TV, elems sz ag 0 ((c.drop off).take (0 * sz)) = [] := fun c => by
        unfold elems; split <;> simp [chunk]
      rw [this] at hes
      simp [mapO] at hes
      subst hes
      exact .bs0 _ _ _ _

end Go.Dn
