/-
  Operations, part 7: new memory, append, length, and the rest.
-/
import Derived.Test.YtegihfgibonhpaaDnOps6
set_option linter.unusedVariables false
set_option linter.unusedSimpArgs false
namespace Go.Dn

variable {P : Program} {B : Nat} {π : PMap} {H : Heap} {w : World} {av ex : Nat → Prop}

theorem Res.new (wr : Nat → Prop) (hH : HRel P B π H w av ex) (hf : π H.length = none) (ob : Obj) (o : AObj) (hd : o ≠ .dead) (ho : ∀ π' w' av', Ev none' π w av π' w' av' → ORel P π' w' av' ex 0 o ob) :
    Res P B wr π H w av ex (H ++ [o]) (w.alloc ob) (π.add H.length w.heap.size) (avAdd av w.heap.size) := by
  refine ⟨Ev.new wr π w av ob _ hf, hH.new hf ob o hd (ho _ _ _ (Ev.new none' π w av ob _ hf)), fun id hn => ?_, fun _ x => .inl x, by simp, fun id g sh hn hg => ?_⟩
  · unfold PMap.add at hn
    split at hn
    · rename_i he; subst he; simp
    · exact absurd rfl hn
  · unfold PMap.add at hn hg
    split at hg
    · injection hg with hg; injection hg with hg; exact .inl (by omega)
    · rename_i h; rw [if_neg h] at hn; exact absurd rfl hn

theorem PMap.add_self (π : PMap) (id g : Nat) : (π.add id g) id = some (g, 0) := by simp [PMap.add]

/-- a new row of cells -/
theorem new_cells (W : Bool) (hH : HRel P B π H w av ex) (hf : π H.length = none) {c : List TV} {us : List Value} {cc : Array Value} (el : TypeId) (ag : Bool) (hc : VsRel π w av ex c us) (ho : c.all TV.one = true)
    (hu : ∀ (j : Nat) (u : Value), us[j]? = some u → cc[j]? = some u) (hl : c.length ≤ cc.size) :
    Res P B (wrK B av W) π H w av ex (H ++ [.cells c ag]) (w.alloc (.cells cc el)) (π.add H.length w.heap.size) (avAdd av w.heap.size) :=
  Res.new _ hH hf _ _ (by simp) fun π' w' av' e => ⟨rfl, by omega, ho, us, hc.mono e (fun _ _ x => x.elim), fun j u h => by simpa using hu j u h⟩

theorem VsRel.self_get {us : List Value} {cc : Array Value} (h : cc.toList = us) (j : Nat) (u : Value) (hj : us[j]? = some u) : cc[j]? = some u := by
  subst h; simpa using hj

theorem alloc_sound (W : Bool) (hH : HRel P B π H w av ex) (hf : π H.length = none) {z : List TV} {ag : Bool} {t : TV} {H' : Heap} {ty : TypeId} (hd : dk (.alloc z ag) [] H = some (t, H')) (hz : zeroOk P ty z = true) :
    ∃ v w' π' av', (Instr.alloc ty true (.tuple #[])).run P w = .ok v w' ∧ VRel π' w' av' ex t v ∧ Res P B (wrK B av W) π H w av ex H' w' π' av' := by
  simp only [dk, Option.some.injEq, Prod.mk.injEq] at hd
  obtain ⟨rfl, rfl⟩ := hd
  obtain ⟨v, hr, hc, ho, _⟩ := run_zero P w hz
  refine ⟨.pointer (some ⟨w.heap.size, 0, none⟩), _, _, _, ?_, ?_, new_cells W hH hf ty ag (chkVs_sound hc) ho (fun j u h => VsRel.self_get rfl j u h) ?_⟩
  · simp [Instr.alloc, hr, newVar, newRow]
  · exact VRel.ref H.length 0 w.heap.size 0 (PMap.add_self _ _ _)
  · have := (chkVs_sound (π := π) (w := w) (av := av) (ex := ex) hc).length; simp at this; omega

theorem box_sound (W : Bool) (hH : HRel P B π H w av ex) (hf : π H.length = none) {ag : Bool} {x t : TV} {u : Value} {H' : Heap} {ty : TypeId} (hd : dk (.box ag) [x] H = some (t, H')) (hx : VRel π w av ex x u) :
    ∃ v w' π' av', (Instr.box ty u).run P w = .ok v w' ∧ VRel π' w' av' ex t v ∧ Res P B (wrK B av W) π H w av ex H' w' π' av' := by
  simp only [dk] at hd
  split at hd <;> try (cases hd; done)
  rename_i hc
  obtain ⟨ho, _⟩ := hc
  injection hd with hd
  injection hd with h1 h2
  subst h1; subst h2
  have hne : x ≠ .undef := by rintro rfl; simp [TV.cells, TV.one] at ho
  have hxc := hx.cells hne
  refine ⟨.pointer (some ⟨w.heap.size, 0, none⟩), _, _, _, ?_, VRel.ref H.length 0 w.heap.size 0 (PMap.add_self _ _ _), new_cells W hH hf ty ag hxc ho (fun j u h => VsRel.self_get rfl j u h) ?_⟩
  · simp [Instr.box, newVar, newRow]
  · have := hxc.length; simp at this; omega

theorem heap_alloc_cell (w : World) (cc : Array Value) (el : TypeId) (j : Nat) (u : Value) (h : cc[j]? = some u) : (w.alloc (.cells cc el)).cell? ⟨w.heap.size, j, none⟩ = some u := by
  simp [h]

theorem boxV_sound (W : Bool) (hH : HRel P B π H w av ex) {x t : TV} {u : Value} {H' : Heap} {ty : TypeId} (hd : dk .boxV [x] H = some (t, H')) (hx : VRel π w av ex x u) :
    ∃ v w' π' av', (Instr.box ty u).run P w = .ok v w' ∧ VRel π' w' av' ex t v ∧ Res P B (wrK B av W) π H w av ex H' w' π' av' := by
  simp only [dk] at hd
  split at hd <;> try (cases hd; done)
  rename_i ho
  injection hd with hd
  injection hd with h1 h2
  subst h1; subst h2
  have hne : x ≠ .undef := by rintro rfl; simp [TV.cells, TV.one] at ho
  have hxc := hx.cells hne
  have e := Ev.alloc none' π w av (.cells u.cells ty)
  refine ⟨.pointer (some ⟨w.heap.size, 0, none⟩), w.alloc (.cells u.cells ty), π, av, ?_, ?_, ⟨Ev.alloc _ π w av _, hH.alloc _, fun _ x => absurd rfl x, fun _ x => x, Nat.le_refl _, fun _ _ _ x => absurd rfl x⟩⟩
  · simp [Instr.box, newVar, newRow]
  · refine .bp false x w.heap.size 0 u.cells.toList (hxc.mono e fun _ _ x => x.elim) ?_ ?_
    · intro j u hj
      rw [Nat.zero_add]
      exact heap_alloc_cell w _ _ j u (by simpa using hj)
    · intro _
      exact ⟨fun h => absurd (hH.avb _ h) (by omega), fun _ h => absurd (hH.exb _ h) (by omega)⟩

/-! ### composed values -/
theorem fill_sound {place : Nat → Option (Nat × Nat)} : ∀ {z : List TV} {ps : List (Nat × Nat)} {vs : List TV} {l : List TV} {us : Array Value} {is : List Nat} {uvs : List Value}, fillP z ps vs = some l →
    VsRel π w av ex z us.toList → VsRel π w av ex vs uvs → ps.length = is.length → (∀ (j : Nat) i p, is[j]? = some i → ps[j]? = some p → place i = some p) →
    ∃ us', Instr.fill place us (is.zip uvs) = some us' ∧ VsRel π w av ex l us'.toList
  | z, [], vs, l, us, is, uvs, h, hz, hv, hl, _ => by
    cases vs with
    | nil =>
      simp only [fillP, Option.some.injEq] at h
      subst h
      cases hv
      exact ⟨us, by simp [Instr.fill], hz⟩
    | cons => simp [fillP] at h
  | z, (off, sz) :: ps, [], l, us, is, uvs, h, _, _, _, _ => by simp [fillP] at h
  | z, (off, sz) :: ps, v :: vs, l, us, is, uvs, h, hz, hv, hl, hp => by
    simp only [fillP] at h
    split at h <;> try (cases h; done)
    rename_i hc
    obtain ⟨h1, h0, h2⟩ := hc
    have hne : v ≠ .undef := by rintro rfl; simp [TV.cells, TV.one] at h0
    cases is with
    | nil => simp at hl
    | cons i is =>
    cases hv with | cons _ uv _ uvs hv hvs =>
    have hpl := hp 0 i (off, sz) rfl rfl
    have hvc := hv.cells hne
    have hlen := hvc.length
    have hzl := hz.length
    have hstep : VsRel π w av ex (put2 z off v.cells) (uv.cells.zipIdx.foldl (fun cs (c, j) => cs.setIfInBounds (off + j) c) us).toList := by
      have key : ∀ (l : List Value) (n : Nat) (a : Array Value), n + l.length ≤ a.size - off → off ≤ a.size →
          (l.zipIdx n |>.foldl (fun (cs : Array Value) (c, j) => cs.setIfInBounds (off + j) c) a).toList = a.toList.take (off + n) ++ l ++ a.toList.drop (off + n + l.length) := by
        intro l
        induction l with
        | nil => intro n a _ _; simp
        | cons x l ih =>
          intro n a hn ho
          simp only [List.zipIdx_cons, List.foldl_cons]
          rw [ih (n + 1) _ (by simp at hn ⊢; omega) (by simpa using ho)]
          have := list_seg_step a.toList (off + n) x l (by simp at hn ⊢; omega)
          simpa [Array.toList_setIfInBounds, Nat.add_assoc] using this
      have := key uv.cells.toList 0 us (by simp at hlen hzl; simp; omega) (by simp at hzl; omega)
      rw [← Array.foldl_toList, Array.toList_zipIdx]
      simp only [Nat.add_zero] at this
      rw [this]
      exact hz.put2 hvc off
    obtain ⟨us', hf, hr⟩ := fill_sound (ps := ps) (is := is) h hstep hvs (by simpa using hl) (fun j i p a b => hp (j + 1) i p (by simpa using a) (by simpa using b))
    refine ⟨us', ?_, hr⟩
    simp only [List.zip_cons_cons, Instr.fill, hpl]
    have e1 : uv.cells.size = sz := by rw [← h1, hlen]; simp
    have e2 : off + uv.cells.size ≤ us.size := by simp at hzl; omega
    rw [if_neg (by simp; omega)]
    exact hf

end Go.Dn
