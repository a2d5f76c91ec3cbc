/-
  Regions, part 2: the trace in the order of the text, and what holds while the operations come in another order.
-/
import Derived.Test.YtegihfgibonhpaaDnReg
set_option linter.unusedVariables false
set_option linter.unusedSimpArgs false
namespace Go.Dn

def valRun (pg : Pg) (R : Rec) (k : DK) (vs : List TV) (H : Heap) : Option (TV × Heap) :=
  match k with
  | .call m => callRun pg R m vs H
  | k => dk k vs H

theorem callRun_pu {pg : Pg} {R : Rec} {ks : List Bool} {vs : List TV} {H H' : Heap} {t : TV} (h : callRun pg R (.pu ks) vs H = some (t, H')) : H' = H := by
  rcases vs with _ | ⟨v, vs⟩
  · simp [callRun] at h
  · cases v <;> simp only [callRun] at h <;> (try (cases h; done))
    simp only [Option.bind_eq_some_iff] at h
    obtain ⟨as, _, h⟩ := h
    split at h
    · injection h with h; injection h with _ h; exact h.symm
    · simp only [Option.bind_eq_some_iff, Option.map_eq_some_iff, Prod.mk.injEq] at h
      obtain ⟨_, _, _, _, _, rfl⟩ := h
      rfl

theorem valRun_grows {pg : Pg} {R : Rec} {k : DK} {vs : List TV} {H H' : Heap} {t : TV} (h : valRun pg R k vs H = some (t, H')) (hw : k.W = false) : ∃ new, H' = H ++ new := by
  unfold valRun at h
  split at h
  · rename_i m
    cases m with
    | sh => simp [DK.W] at hw
    | pu ks => exact ⟨[], by simp [callRun_pu h]⟩
  · exact dk_grows h hw

theorem valRun_pure {pg : Pg} {R : Rec} {k : DK} {vs : List TV} {H H' : Heap} {t : TV} (h : valRun pg R k vs H = some (t, H')) (hp : k.P = true) : H' = H ∧ dk k vs [] = some (t, []) := by
  unfold valRun at h
  split at h
  · simp [DK.P] at hp
  · exact dk_pure h hp

theorem operRun_inv {pg : Pg} {R : Rec} {o : DOper} {e e' : Env} {H H' : Heap} (h : operRun pg R o e H = some (e', H')) :
    ∃ v, e' = putE e o.d v ∧ ((guardRun e o.g = some false ∧ v = .undef ∧ H' = H) ∨ (guardRun e o.g = some true ∧ ∃ vs, mapO (evalO pg e) o.a = some vs ∧ valRun pg R o.k vs H = some (v, H'))) := by
  unfold operRun at h
  cases hg : guardRun e o.g with
  | none => simp [hg] at h
  | some go =>
    simp only [hg, Option.bind_some] at h
    cases go with
    | false =>
      simp at h
      exact ⟨.undef, h.1.symm, .inl ⟨rfl, rfl, h.2.symm⟩⟩
    | true =>
      simp only [if_true, Option.bind_eq_some_iff, Option.map_eq_some_iff, Prod.mk.injEq] at h
      obtain ⟨vs, hvs, ⟨v, H2⟩, hk, rfl, rfl⟩ := h
      exact ⟨v, rfl, .inr ⟨rfl, vs, hvs, hk⟩⟩

abbrev D (ds : List DOper) (i : Nat) : DOper := ds.getD i default

structure Tr (pg : Pg) (R : Rec) (ds : List DOper) (E : Nat → Env) (Hh : Nat → Heap) (V : Nat → TV) : Prop where
  env : ∀ i, i < ds.length → E (i + 1) = putE (E i) (D ds i).d (V i)
  run : ∀ i, i < ds.length → (guardRun (E i) (D ds i).g = some false ∧ V i = .undef ∧ Hh (i + 1) = Hh i) ∨
    (guardRun (E i) (D ds i).g = some true ∧ ∃ vs, mapO (evalO pg (E i)) (D ds i).a = some vs ∧ valRun pg R (D ds i).k vs (Hh i) = some (V i, Hh (i + 1)))

theorem opsRun_trace {pg : Pg} {R : Rec} : ∀ {ds : List DOper} {e e' : Env} {H H' : Heap}, opsRun pg R ds e H = some (e', H') →
    ∃ E Hh V, Tr pg R ds E Hh V ∧ E 0 = e ∧ Hh 0 = H ∧ E ds.length = e' ∧ Hh ds.length = H'
  | [], e, e', H, H', h => by
    simp [opsRun] at h
    exact ⟨fun _ => e, fun _ => H, fun _ => .undef, ⟨fun i hi => by simp at hi, fun i hi => by simp at hi⟩, rfl, rfl, h.1, h.2⟩
  | o :: ds, e, e', H, H', h => by
    simp only [opsRun, Option.bind_eq_some_iff] at h
    obtain ⟨⟨e1, H1⟩, h1, h2⟩ := h
    obtain ⟨v, hv, hrun⟩ := operRun_inv h1
    obtain ⟨E, Hh, V, ht, rfl, rfl, h3, h4⟩ := opsRun_trace h2
    refine ⟨fun | 0 => e | i + 1 => E i, fun | 0 => H | i + 1 => Hh i, fun | 0 => v | i + 1 => V i, ⟨?_, ?_⟩, rfl, rfl, by simpa using h3, by simpa using h4⟩
    · intro i hi
      cases i with
      | zero => exact hv
      | succ i => exact ht.env i (by simpa using hi)
    · intro i hi
      cases i with
      | zero => exact hrun
      | succ i => exact ht.run i (by simpa using hi)

section
variable {pg : Pg} {R : Rec} {ds : List DOper} {E : Nat → Env} {Hh : Nat → Heap} {V : Nat → TV}

theorem Tr.grow (ht : Tr pg R ds E Hh V) {i : Nat} (hi : i < ds.length) (hw : (D ds i).k.W = false) : ∃ new, Hh (i + 1) = Hh i ++ new := by
  rcases ht.run i hi with ⟨_, _, h⟩ | ⟨_, vs, _, h⟩
  · exact ⟨[], by simp [h]⟩
  · exact valRun_grows h hw

theorem Tr.still (ht : Tr pg R ds E Hh V) {i : Nat} (hi : i < ds.length) (hp : (D ds i).k.P = true) : Hh (i + 1) = Hh i := by
  rcases ht.run i hi with ⟨_, _, h⟩ | ⟨_, vs, _, h⟩
  · exact h
  · exact (valRun_pure h hp).1

theorem Tr.grows (ht : Tr pg R ds E Hh V) {i : Nat} : ∀ {k : Nat}, i ≤ k → k ≤ ds.length → (∀ m, i ≤ m → m < k → (D ds m).k.W = false) → ∃ new, Hh k = Hh i ++ new := by
  intro k hik
  induction hik with
  | refl => intro _ _; exact ⟨[], by simp⟩
  | step hk ih =>
    rename_i k
    intro hkn h
    obtain ⟨n1, h1⟩ := ih (by omega) fun m a b => h m a (by omega)
    obtain ⟨n2, h2⟩ := ht.grow (i := k) (by omega) (h k hk (by omega))
    exact ⟨n1 ++ n2, by rw [h2, h1, List.append_assoc]⟩

theorem Tr.len (ht : Tr pg R ds E Hh V) {i : Nat} : ∀ {k : Nat}, i ≤ k → k ≤ ds.length → (∀ m, i ≤ m → m < k → (D ds m).k.W = true → (Hh m).length ≤ (Hh (m + 1)).length) → (Hh i).length ≤ (Hh k).length := by
  intro k hik
  induction hik with
  | refl => intro _ _; exact Nat.le_refl _
  | step hk ih =>
    rename_i k
    intro hkn h
    refine Nat.le_trans (ih (by omega) fun m a b => h m a (by omega)) ?_
    cases hw : (D ds k).k.W with
    | true => exact h k hk (by omega) hw
    | false =>
      obtain ⟨n2, h2⟩ := ht.grow (i := k) (by omega) hw
      rw [h2]; simp

theorem get_putE_ne {e : Env} {d : Option Nat} {v : TV} {s : Nat} (h : d ≠ some s) : get (putE e d v) s = get e s := by
  cases d with
  | none => rfl
  | some d => simp only [putE, Dn.get]; rw [if_neg (fun e => h (by rw [e]))]

theorem Tr.slot (ht : Tr pg R ds E Hh V) {i s : Nat} : ∀ {k : Nat}, i ≤ k → k ≤ ds.length → (∀ m, i ≤ m → m < k → (D ds m).d ≠ some s) → get (E k) s = get (E i) s := by
  intro k hik
  induction hik with
  | refl => intro _ _; rfl
  | step hk ih =>
    rename_i k
    intro hkn h
    rw [Nat.succ_eq_add_one, ht.env k (by omega), get_putE_ne (h k hk (by omega))]
    exact ih (by omega) fun m a b => h m a (by omega)
end

theorem DK.W_P {k : DK} (h : k.W = true) : k.P = false := by
  cases k <;> first | rfl | simp [DK.W] at h | (rename_i m; cases m <;> rfl)

theorem confl_W {x y : DOper} (h : x.k.W = true) (h' : y.k.P = false) : confl x y = true := by simp [confl, h, h']
theorem confl_W' {x y : DOper} (h : x.k.P = false) (h' : y.k.W = true) : confl x y = true := by simp [confl, h, h']
theorem confl_d {x y : DOper} {s : Nat} (h : x.d = some s) (h' : s ∈ y.names) : confl x y = true := by simp [confl, h, h']
theorem confl_d' {x y : DOper} {s : Nat} (h : s ∈ x.names) (h' : y.d = some s) : confl x y = true := by simp [confl, h, h']
theorem names_d {x : DOper} {s : Nat} (h : x.d = some s) : s ∈ x.names := by simp [DOper.names, h]

/-! ### heaps, joined -/
section
variable {P : Program} {B : Nat} {π π' : PMap} {H : Heap} {w w' : World} {av av' ex : Nat → Prop}

theorem HRel.nil (h : HRel P B π H w av ex) (π2 : PMap) : HRel P B π2 [] w av ex :=
  ⟨fun _ _ _ _ _ h => by simp at h, fun _ _ _ _ _ _ _ _ h => by simp at h, h.avb, h.exb, h.bsz⟩

theorem HRel.pad (h : HRel P B π H w av ex) (new : Heap) (hn : ∀ id, H.length ≤ id → π id = none) : HRel P B π (H ++ new) w av ex where
  obj id g sh o hp ho hd := by
    rcases Nat.lt_or_ge id H.length with hl | hl
    · rw [List.getElem?_append_left hl] at ho; exact h.obj id g sh o hp ho hd
    · rw [hn id hl] at hp; cases hp
  inj id id' g sh sh' o o' hp ho hd hp' ho' hd' := by
    have q : ∀ i oo gg ss, π i = some (gg, ss) → (H ++ new)[i]? = some oo → H[i]? = some oo := by
      intro i oo gg ss hp ho
      rcases Nat.lt_or_ge i H.length with hl | hl
      · rwa [List.getElem?_append_left hl] at ho
      · rw [hn i hl] at hp; cases hp
    exact h.inj id id' g sh sh' o o' hp (q _ _ _ _ hp ho) hd hp' (q _ _ _ _ hp' ho') hd'
  avb := h.avb
  exb := h.exb
  bsz := h.bsz

theorem HRel.join (new : Heap) (h' : HRel P B π' H w' av' ex) (h : HRel P B π (H ++ new) w av ex) (e : Ev none' π w av π' w' av') (hext : ∀ g, av g → av' g) (hn : ∀ id, π' id ≠ π id → id < H.length)
    (hfr : ∀ id g sh, π' id ≠ π id → π' id = some (g, sh) → w.heap.size ≤ g) : HRel P B π' (H ++ new) w' av' ex where
  obj id g sh o hp ho hd := by
    rcases Nat.lt_or_ge id H.length with hl | hl
    · rw [List.getElem?_append_left hl] at ho; exact h'.obj id g sh o hp ho hd
    · have hpp : π' id = π id := Classical.byContradiction fun x => by have := hn id x; omega
      obtain ⟨h1, h2, ob, h3, h4⟩ := h.obj id g sh o (hpp ▸ hp) ho hd
      exact ⟨h1, hext g h2, ob, by rw [e.blk g (h.avb g h2) (fun x => x)]; exact h3, h4.mono e fun _ _ x => x.elim⟩
  inj id id' g sh sh' o o' hp ho hd hp' ho' hd' := by
    have old : ∀ i g s, π' i = some (g, s) → π' i ≠ π i ∨ π i = some (g, s) := fun i g s h => by
      by_cases x : π' i = π i
      · exact .inr (x ▸ h)
      · exact .inl x
    rcases old id g sh hp with a | a <;> rcases old id' g sh' hp' with b | b
    · have l1 := hn id a
      have l2 := hn id' b
      rw [List.getElem?_append_left l1] at ho
      rw [List.getElem?_append_left l2] at ho'
      exact h'.inj id id' g sh sh' o o' hp ho hd hp' ho' hd'
    · have := hfr id g sh a hp
      have := h.avb g (h.obj id' g sh' o' b ho' hd').2.1
      omega
    · have := hfr id' g sh' b hp'
      have := h.avb g (h.obj id g sh o a ho hd).2.1
      omega
    · exact h.inj id id' g sh sh' o o' a ho hd b ho' hd'
  avb := h'.avb
  exb := h'.exb
  bsz := h'.bsz
end

/-! ### the invariant -/
def cutS (ds : List DOper) (S : Nat → Prop) (s k : Nat) : Prop := ∀ i, i < ds.length → (D ds i).d = some s → (S i ↔ i < k)
def cutW (ds : List DOper) (S : Nat → Prop) (c : Nat) : Prop := ∀ i, i < ds.length → (D ds i).k.W = true → (S i ↔ i < c)

structure Inv (P : Program) (N : Nat) (ds : List DOper) (E : Nat → Env) (Hh : Nat → Heap) (B : Nat) (π0 : PMap) (w0 : World) (av0 ex : Nat → Prop) (S : Nat → Prop) (π : PMap) (w : World) (av : Nat → Prop) (tm : Array Value) : Prop where
  sz : tm.size = N
  slot : ∀ s k, k ≤ ds.length → cutS ds S s k → ∀ t, get (E k) s = some t → VRel π w av ex t (tm.getD s undef)
  heap : ∀ c, c ≤ ds.length → cutW ds S c → HRel P B π (Hh c) w av ex
  base : HRel P B π [] w av ex
  dom : ∀ id, π id ≠ π0 id → ∃ i, S i ∧ i < ds.length ∧ (Hh i).length ≤ id ∧ id < (Hh (i + 1)).length
  mono : ∀ i, S i → i < ds.length → (Hh i).length ≤ (Hh (i + 1)).length
  clo : ∀ i j, S j → i < j → j < ds.length → confl (D ds i) (D ds j) = true → S i
  ev : Ev (wrK B av0 true) π0 w0 av0 π w av
  ext : ∀ g, av0 g → av g
  frs : ∀ id g sh, π id ≠ π0 id → π id = some (g, sh) → w0.heap.size ≤ g ∨ wrK B av0 true g

/-- an operation may come now -/
structure May (ds : List DOper) (S : Nat → Prop) (j : Nat) : Prop where
  lt : j < ds.length
  new : ¬ S j
  bef : ∀ i, i < j → confl (D ds i) (D ds j) = true → S i
  aft : ∀ i, j < i → i < ds.length → confl (D ds j) (D ds i) = true → ¬ S i

section
variable {P : Program} {pg : Pg} {Gz : Nat} {R : Rec} {ds : List DOper} {E : Nat → Env} {Hh : Nat → Heap} {V : Nat → TV} {N B : Nat} {π0 π : PMap} {w0 w : World} {av0 av ex : Nat → Prop} {S : Nat → Prop} {tm : Array Value} {j : Nat}

theorem May.slots (hm : May ds S j) {s : Nat} (h : s ∈ (D ds j).names) : cutS ds S s j := by
  intro i hi hd
  rcases Nat.lt_trichotomy i j with x | x | x
  · exact ⟨fun _ => x, fun _ => hm.bef i x (confl_d hd h)⟩
  · subst x; exact ⟨fun y => absurd y hm.new, fun y => by omega⟩
  · exact ⟨fun y => absurd y (hm.aft i x hi (confl_d' h hd)), fun y => by omega⟩

theorem May.cutW (hm : May ds S j) (h : (D ds j).k.P = false) : cutW ds S j := by
  intro i hi hd
  rcases Nat.lt_trichotomy i j with x | x | x
  · exact ⟨fun _ => x, fun _ => hm.bef i x (confl_W hd h)⟩
  · subst x; exact ⟨fun y => absurd y hm.new, fun y => by omega⟩
  · exact ⟨fun y => absurd y (hm.aft i x hi (confl_W' h hd)), fun y => by omega⟩

/-- where an operation that grows the heap lays its object, nothing lies -/
theorem Inv.free (hi : Inv P N ds E Hh B π0 w0 av0 ex S π w av tm) (ht : Tr pg R ds E Hh V) (hm : May ds S j) (hp : (D ds j).k.P = false) (h0 : ∀ id, (Hh 0).length ≤ id → π0 id = none) {id : Nat} (hid : (Hh j).length ≤ id)
    (hlt : (D ds j).k.W = true ∨ id < (Hh (j + 1)).length) : π id = none := by
  have hbef : ∀ m, m < j → (D ds m).k.W = true → (Hh m).length ≤ (Hh (m + 1)).length := fun m a b => hi.mono m (hm.bef m a (confl_W b hp)) (by have := hm.lt; omega)
  by_cases hd : π id = π0 id
  · rw [hd]
    exact h0 id (Nat.le_trans (ht.len (Nat.zero_le j) (Nat.le_of_lt hm.lt) fun m _ b c => hbef m b c) hid)
  · exfalso
    obtain ⟨i, hS, hin, ha, hb⟩ := hi.dom id hd
    have hiP : (D ds i).k.P = false := by
      cases hq : (D ds i).k.P with
      | false => rfl
      | true => rw [ht.still hin hq] at hb; omega
    rcases Nat.lt_trichotomy i j with x | x | x
    · have := ht.len (i := i + 1) (k := j) x (Nat.le_of_lt hm.lt) fun m _ b c => hbef m b c
      omega
    · subst x; exact hm.new hS
    · rcases hlt with hW | hlt
      · exact hm.aft i x hin (confl_W hW hiP) hS
      · have hWi : (D ds i).k.W = false := by
          cases hq : (D ds i).k.W with
          | false => rfl
          | true => exact absurd hS (hm.aft i x hin (confl_W' hp hq))
        obtain ⟨n1, h1⟩ := ht.grows (i := j + 1) (k := i) x (by omega) fun m a b => by
          cases hq : (D ds m).k.W with
          | false => rfl
          | true => exact absurd (hi.clo m i hS b hin (confl_W hq hiP)) (hm.aft m (by omega) (by omega) (confl_W' hp hq))
        rw [h1] at ha
        simp at ha
        omega

/-- what an operation's coming does -/
theorem Inv.step (hi : Inv P N ds E Hh B π0 w0 av0 ex S π w av tm) (ht : Tr pg R ds E Hh V) (hm : May ds S j) (hdN : ∀ d, (D ds j).d = some d → d < N) (h0 : ∀ id, (Hh 0).length ≤ id → π0 id = none) {π' : PMap} {w' : World} {av' : Nat → Prop} {v : Value} (hv : VRel π' w' av' ex (V j) v)
    (hr : if (D ds j).k.P = true then Res P B (wrK B av false) π [] w av ex [] w' π' av' else Res P B (wrK B av (D ds j).k.W) π (Hh j) w av ex (Hh (j + 1)) w' π' av') :
    Inv P N ds E Hh B π0 w0 av0 ex (fun i => S i ∨ i = j) π' w' av' (putT tm (D ds j).d v) := by
  have hev : Ev (wrK B av (D ds j).k.W) π w av π' w' av' := by
    split at hr
    · exact hr.ev.wider fun g x => by cases x.1
    · exact hr.ev
  have hext : ∀ g, av g → av' g := by split at hr <;> exact hr.ext
  have hhr : HRel P B π' [] w' av' ex := by split at hr <;> exact hr.hr.nil _
  have hlen : (Hh j).length ≤ (Hh (j + 1)).length := by
    split at hr
    · rename_i hp; rw [ht.still hm.lt hp]; exact Nat.le_refl _
    · exact hr.hl
  have hdom : ∀ id, π' id ≠ π id → (D ds j).k.P = false ∧ (Hh j).length ≤ id ∧ id < (Hh (j + 1)).length := by
    intro id hn
    split at hr
    · have := (hr.dom id hn).2; simp at this
    · rename_i hp; exact ⟨by simpa using hp, hr.dom id hn⟩
  have hfr : ∀ id g sh, π' id ≠ π id → π' id = some (g, sh) → w.heap.size ≤ g ∨ wrK B av (D ds j).k.W g := by
    intro id g sh hn hg
    split at hr
    · exact (hr.frs id g sh hn hg).imp (fun x => x) fun x => by cases x.1
    · exact hr.frs id g sh hn hg
  have hjn := hm.lt
  refine ⟨?_, ?_, ?_, hhr, ?_, ?_, ?_, ?_, fun g x => hext g (hi.ext g x), ?_⟩
  · cases (D ds j).d <;> simp [putT, hi.sz]
  · intro s k hk hc t hg
    by_cases hd : (D ds j).d = some s
    · have hjk : j < k := (hc j hjn hd).1 (.inr rfl)
      have hsame : get (E k) s = get (E (j + 1)) s := ht.slot hjk hk fun m a b hmd => by
        have h1 := (hc m (by omega) hmd).2 b
        rcases h1 with h1 | h1
        · exact hm.aft m (by omega) (by omega) (confl_d hd (names_d hmd)) h1
        · omega
      rw [hsame, ht.env j hjn, hd] at hg
      simp only [putE, Dn.get, if_true, Option.some.injEq] at hg
      subst hg
      have : (putT tm (D ds j).d v).getD s undef = v := by
        have := hdN s hd
        rw [hd]; simp [putT, Array.getD, hi.sz, this]
      rw [this]; exact hv
    · have hcS : cutS ds S s k := fun i hin hid => by
        rw [← hc i hin hid]
        exact ⟨.inl, fun x => x.resolve_right fun e => hd (e ▸ hid)⟩
      have := (hi.slot s k hk hcS t hg).mono hev (wrK_av _)
      have heq : (putT tm (D ds j).d v).getD s undef = tm.getD s undef := by
        cases hdd : (D ds j).d with
        | none => rfl
        | some d =>
          have : d ≠ s := fun e => hd (by rw [hdd, e])
          simp [putT, Array.getD_eq_getD_getElem?, Array.getElem?_setIfInBounds, this]
      rw [heq]; exact this
  · intro c hcn hc
    cases hW : (D ds j).k.W with
    | true =>
      have hp := DK.W_P hW
      rw [if_neg (by rw [hp]; exact Bool.false_ne_true)] at hr
      have hjc : j < c := (hc j hjn hW).1 (.inr rfl)
      obtain ⟨new, hnew⟩ := ht.grows (i := j + 1) (k := c) hjc hcn fun m a b => by
        cases hq : (D ds m).k.W with
        | false => rfl
        | true =>
          have h1 := (hc m (by omega) hq).2 b
          rcases h1 with h1 | h1
          · exact absurd h1 (hm.aft m (by omega) (by omega) (confl_W hW (DK.W_P hq)))
          · omega
      rw [hnew]
      refine hr.hr.pad new fun id hid => ?_
      by_cases hpp : π' id = π id
      · rw [hpp]
        exact hi.free ht hm hp h0 (Nat.le_trans hlen hid) (.inl hW)
      · have := (hdom id hpp).2.2; omega
    | false =>
      have hcS : cutW ds S c := fun i hin hid => by
        rw [← hc i hin hid]
        exact ⟨.inl, fun x => x.resolve_right fun e => by rw [e, hW] at hid; cases hid⟩
      have hold := hi.heap c hcn hcS
      have hev0 : Ev none' π w av π' w' av' := { hev with blk := fun g hg _ => hev.blk g hg fun x => by rw [hW] at x; cases x.1 }
      have noW : ∀ m, m < ds.length → (D ds j).k.P = false → ((c ≤ m ∧ m < j) ∨ (j ≤ m ∧ m < c)) → (D ds m).k.W = false := by
        intro m hmn hp hcase
        cases hq : (D ds m).k.W with
        | false => rfl
        | true =>
          exfalso
          have hmc := hcS m hmn hq
          have hmj := hm.cutW hp m hmn hq
          rcases hcase with ⟨a, b⟩ | ⟨a, b⟩
          · have := hmc.1 (hmj.2 b); omega
          · have := hmj.1 (hmc.2 b); omega
      rcases Nat.lt_or_ge j c with hjc | hjc
      · cases hp : (D ds j).k.P with
        | true => exact hold.mono hev0 (fun id o _ hn => by have := (hdom id hn).1; rw [hp] at this; cases this) hext hhr.avb
        | false =>
          rw [if_neg (by rw [hp]; exact Bool.false_ne_true)] at hr
          obtain ⟨new, hnew⟩ := ht.grows (i := j + 1) (k := c) hjc hcn fun m a b => noW m (by omega) hp (.inr ⟨by omega, b⟩)
          rw [hnew] at hold ⊢
          exact HRel.join new hr.hr hold hev0 hext (fun id hn => (hdom id hn).2.2) fun id g sh hn hg => (hfr id g sh hn hg).resolve_right fun x => by rw [hW] at x; cases x.1
      · refine hold.mono hev0 (fun id o ho hn => ?_) hext hhr.avb
        obtain ⟨hp, ha, hb⟩ := hdom id hn
        obtain ⟨new, hnew⟩ := ht.grows (i := c) (k := j) hjc (by omega) fun m a b => noW m (by omega) hp (.inl ⟨a, b⟩)
        rw [hnew] at ha
        simp at ha
        have := (List.getElem?_eq_some_iff.1 ho).1
        omega
  · intro id hn
    by_cases hpp : π' id = π id
    · obtain ⟨i, h1, h2⟩ := hi.dom id (hpp ▸ hn)
      exact ⟨i, .inl h1, h2⟩
    · exact ⟨j, .inr rfl, hjn, (hdom id hpp).2⟩
  · intro i hS hin
    rcases hS with hS | rfl
    · exact hi.mono i hS hin
    · exact hlen
  · intro i k hS hik hk hc
    rcases hS with hS | rfl
    · exact .inl (hi.clo i k hS hik hk hc)
    · exact .inl (hm.bef i hik hc)
  · exact hi.ev.trans hev fun g hg x => ⟨rfl, hi.ev.sub g hg x.2.1, x.2.2⟩
  · intro id g sh hn hg
    have hlw := hi.ev.len
    by_cases hpp : π' id = π id
    · exact hi.frs id g sh (hpp ▸ hn) (hpp ▸ hg)
    · rcases hfr id g sh hpp hg with x | x
      · exact .inl (by omega)
      · rcases Nat.lt_or_ge g w0.heap.size with y | y
        · exact .inr ⟨rfl, hi.ev.sub g y x.2.1, x.2.2⟩
        · exact .inl y
end

end Go.Dn
