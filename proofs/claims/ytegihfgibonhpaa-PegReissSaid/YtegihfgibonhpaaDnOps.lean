/-
  Operations: what the evaluator says, the model does. Part 1: words, values, loads and stores.
-/
import Derived.Test.YtegihfgibonhpaaDnMem
set_option linter.unusedVariables false
set_option linter.unusedSimpArgs false
namespace Go.Dn

variable {P : Program} {B : Nat} {π : PMap} {H : Heap} {w : World} {av ex : Nat → Prop}

structure Res (P : Program) (B : Nat) (wr : Nat → Prop) (π : PMap) (H : Heap) (w : World) (av ex : Nat → Prop) (H' : Heap) (w' : World) (π' : PMap) (av' : Nat → Prop) : Prop where
  ev : Ev wr π w av π' w' av'
  hr : HRel P B π' H' w' av' ex
  dom : ∀ id, π' id ≠ π id → H.length ≤ id ∧ id < H'.length
  ext : ∀ g, av g → av' g
  hl : H.length ≤ H'.length
  frs : ∀ id g sh, π' id ≠ π id → π' id = some (g, sh) → w.heap.size ≤ g ∨ wr g

theorem Res.same (wr : Nat → Prop) (h : HRel P B π H w av ex) : Res P B wr π H w av ex H w π av :=
  ⟨Ev.refl _ _ _ _, h, fun _ x => absurd rfl x, fun _ x => x, Nat.le_refl _, fun _ _ _ x => absurd rfl x⟩

theorem Res.drawn (wr : Nat → Prop) (h : HRel P B π H w av ex) (n : Nat) : Res P B wr π H w av ex H { w with drawn := n } π av := by
  have e : Ev none' π w av π { w with drawn := n } av := ⟨fun _ _ h => h, fun _ _ _ => rfl, fun _ cc _ _ h => ⟨cc, h, rfl⟩, fun _ r h => ⟨r, h⟩, fun _ _ h => h, Nat.le_refl _, rfl, rfl, rfl⟩
  exact ⟨⟨fun _ _ h => h, fun _ _ _ => rfl, fun _ cc _ _ h => ⟨cc, h, rfl⟩, fun _ r h => ⟨r, h⟩, fun _ _ h => h, Nat.le_refl _, rfl, rfl, rfl⟩,
    h.mono e (fun _ _ _ x => x rfl) (fun _ x => x) h.avb, fun _ x => absurd rfl x, fun _ x => x, Nat.le_refl _, fun _ _ _ x => absurd rfl x⟩

def NxRel (π : PMap) (w : World) (av ex : Nat → Prop) (t : TV) (nx : Next) : Prop := (∃ v, nx = .value v ∧ VRel π w av ex t v) ∨ (nx = .skip ∧ t = .undef)

/-- which blocks an operation may write -/
def wrK (B : Nat) (av : Nat → Prop) (W : Bool) : Nat → Prop := fun g => W = true ∧ av g ∧ B ≤ g

def OpOk (P : Program) (B : Nat) (W : Bool) (π : PMap) (H : Heap) (w : World) (av ex : Nat → Prop) (run : Result Next) (t : TV) (H' : Heap) : Prop :=
  ∃ nx w' π' av', run = .ok nx w' ∧ NxRel π' w' av' ex t nx ∧ Res P B (wrK B av W) π H w av ex H' w' π' av'

theorem OpOk.pure {W : Bool} (h : HRel P B π H w av ex) {run : Result Next} {t : TV} {v : Value} (hr : run = .ok (.value v) w) (hv : VRel π w av ex t v) : OpOk P B W π H w av ex run t H :=
  ⟨_, _, _, _, hr, .inl ⟨v, rfl, hv⟩, Res.same _ h⟩

/-! ### lists of one, two, three -/
theorem VsRel.inv1 {ts : List TV} {u : Value} (h : VsRel π w av ex ts [u]) : ∃ t, ts = [t] ∧ VRel π w av ex t u := by
  cases h with | cons t _ ts _ h hs => cases hs; exact ⟨t, rfl, h⟩
theorem VsRel.inv2 {ts : List TV} {u v : Value} (h : VsRel π w av ex ts [u, v]) : ∃ t s, ts = [t, s] ∧ VRel π w av ex t u ∧ VRel π w av ex s v := by
  cases h with | cons t _ ts _ h hs => obtain ⟨s, rfl, h2⟩ := hs.inv1; exact ⟨t, s, rfl, h, h2⟩
theorem VsRel.inv3 {ts : List TV} {u v x : Value} (h : VsRel π w av ex ts [u, v, x]) : ∃ t s r, ts = [t, s, r] ∧ VRel π w av ex t u ∧ VRel π w av ex s v ∧ VRel π w av ex r x := by
  cases h with | cons t _ ts _ h hs => obtain ⟨s, r, rfl, h2, h3⟩ := hs.inv2; exact ⟨t, s, r, rfl, h, h2, h3⟩
theorem VsRel.inv_cons {ts : List TV} {u : Value} {us : List Value} (h : VsRel π w av ex ts (u :: us)) : ∃ t r, ts = t :: r ∧ VRel π w av ex t u ∧ VsRel π w av ex r us := by
  cases h with | cons t _ ts _ h hs => exact ⟨t, ts, rfl, h, hs⟩

/-! ### constants -/
mutual
theorem chkV_sound : ∀ {t : TV} {v : Value}, chkV t v = true → VRel π w av ex t v
  | .undef, v, h => .undef v
  | .b x, v, h => by cases v <;> simp [chkV] at h; subst h; exact .b _
  | .i k n, v, h => by cases v <;> simp [chkV] at h; obtain ⟨rfl, rfl⟩ := h; exact .i _ _
  | .s x, v, h => by cases v <;> simp [chkV] at h; subst h; exact .s _
  | .nilp, v, h => by cases v <;> simp [chkV] at h; subst h; exact .nilp
  | .nilsl, v, h => by cases v <;> simp [chkV] at h; obtain ⟨⟨rfl, rfl⟩, rfl⟩ := h; exact .nilsl
  | .nilmap, v, h => by cases v <;> simp [chkV] at h; subst h; exact .nilmap
  | .nilfn, v, h => by cases v <;> simp [chkV] at h; exact .nilfn
  | .nilif, v, h => by cases v <;> simp [chkV] at h; exact .nilif
  | .agg l, v, h => by
    cases v <;> simp [chkV] at h
    exact .agg _ _ (chkVs_sound h)
  | .tup l, v, h => by simp [chkV] at h
  | .fn f fs cs, v, h => by
    cases v <;> simp [chkV] at h
    rename_i g a b
    obtain ⟨⟨⟨⟨h0, rfl⟩, rfl⟩, rfl⟩, rfl⟩ := h
    cases g <;> simp at h0
    subst h0
    exact .fn _ _ _ _ _ .nil .nil
  | .yl _, v, h => by simp [chkV] at h
  | .ref .., v, h => by simp [chkV] at h
  | .sl .., v, h => by simp [chkV] at h
  | .esl, v, h => by simp [chkV] at h
  | .mp _, v, h => by simp [chkV] at h
  | .bp .., v, h => by simp [chkV] at h
  | .bs .., v, h => by simp [chkV] at h
theorem chkVs_sound : ∀ {ts : List TV} {vs : List Value}, chkVs ts vs = true → VsRel π w av ex ts vs
  | [], [], _ => .nil
  | t :: ts, v :: vs, h => by
    simp only [chkVs, Bool.and_eq_true] at h
    exact .cons _ _ _ _ (chkV_sound h.1) (chkVs_sound h.2)
  | [], _ :: _, h => by simp [chkVs] at h
  | _ :: _, [], h => by simp [chkVs] at h
end

/-! ### types -/
theorem run_isAgg (P : Program) (w : World) {t : TypeId} {sz : Nat} {ag : Bool} (h : tyOk P t sz ag = true) : (isAgg t).run P w = .ok ag w := by
  simp only [tyOk, Bool.and_eq_true, aggT, beq_iff_eq] at h
  obtain ⟨⟨⟨h1, h2⟩, h3⟩, h4⟩ := h
  obtain ⟨d, hd⟩ := Option.isSome_iff_exists.1 h1
  unfold isAgg
  rw [Sem.run_bind, run_underlying hd w, Result.andThen_ok]
  rw [hd] at h3
  cases d <;> simp_all

theorem run_szOf (P : Program) (w : World) {t : TypeId} {sz : Nat} (h : szT P t = some sz) : (sizeOf t).run P w = .ok sz w := by
  unfold szT at h
  cases hq : P.info? t with
  | none => simp [hq] at h
  | some i => simp [hq] at h; simp [sizeOf, typeInfo, hq, h]

theorem tyOk.sz {t : TypeId} {sz : Nat} {ag : Bool} (h : tyOk P t sz ag = true) : szT P t = some sz := by
  simp only [tyOk, Bool.and_eq_true, beq_iff_eq] at h
  exact h.1.1.2
theorem tyOk.one {t : TypeId} {sz : Nat} (h : tyOk P t sz false = true) : sz = 1 := by
  simp only [tyOk, Bool.and_eq_true, Bool.false_or, beq_iff_eq] at h
  exact h.2

theorem run_zero (P : Program) (w : World) {t : TypeId} {z : List TV} (h : zeroOk P t z = true) : ∃ v, (zeroValue t).run P w = .ok v w ∧ chkVs z v.cells.toList = true ∧ z.all TV.one = true ∧ (P.info? t).bind (·.zero) = some v := by
  unfold zeroOk at h
  cases hq : P.info? t with
  | none => simp [hq] at h
  | some i =>
    cases hz : i.zero with
    | none => simp [hq, hz] at h
    | some v =>
      simp only [hq, hz, Bool.and_eq_true] at h
      exact ⟨v, by simp [zeroValue, typeInfo, hq, hz], h.1, h.2, by simp [hz]⟩

/-! ### parts of values -/
theorem part_get {l : List TV} {off : Nat} {t : TV} (h : (l[off]?.bind fun v => if v.isAgg then none else some v) = some t) : l[off]? = some t := by
  cases hl : l[off]? with
  | none => simp [hl] at h
  | some v =>
    simp only [hl, Option.bind_some] at h
    split at h
    · cases h
    · exact h

theorem part_sound {sz : Nat} {ag : Bool} {off : Nat} {l : List TV} {t : TV} {ty : TypeId} {us : Array Value} (hp : part sz ag off l = some t) (h : VsRel π w av ex l us.toList) (ht : tyOk P ty sz ag = true) (w' : World) :
    ∃ v, (Go.part ty us off).run P w' = .ok v w' ∧ VRel π w av ex t v := by
  unfold part at hp
  unfold Go.part
  rw [Sem.run_bind, run_isAgg P w' ht, Result.andThen_ok]
  cases ag with
  | true =>
    simp only [if_true] at hp
    split at hp
    · rename_i hl
      injection hp with hp
      subst hp
      simp only [if_true, Sem.run_bind, run_szOf P w' (tyOk.sz ht), Result.andThen_ok, Sem.run_pure]
      refine ⟨_, rfl, .agg _ _ ?_⟩
      have h2 := (h.drop off).take sz
      have e : (us.extract off (off + sz)).toList = (us.toList.drop off).take sz := by
        rw [Array.toList_extract]
        simp [List.extract_eq_take_drop]
      rw [e]
      exact h2
    · cases hp
  | false =>
    simp only [Bool.false_eq_true, if_false] at hp ⊢
    obtain ⟨v, hv, hr⟩ := h.get (part_get hp)
    rw [Array.getElem?_toList] at hv
    exact ⟨v, by simp [hv], hr⟩

/-- a variable read out of a row of cells -/
theorem loadVar_sound {sz : Nat} {ag : Bool} {off g o : Nat} {l : List TV} {t : TV} {ty : TypeId} {us : List Value} (hp : part sz ag off l = some t) (h : VsRel π w av ex l us) (ht : tyOk P ty sz ag = true)
    (hm : MemAt w g o us) : ∃ v, (loadVar ty ⟨g, o + off, none⟩).run P w = .ok v w ∧ VRel π w av ex t v := by
  unfold part at hp
  cases ag with
  | true =>
    simp only [if_true] at hp
    split at hp
    · rename_i hl
      injection hp with hp
      subst hp
      have h2 := (h.drop off).take sz
      have hlen : ((us.drop off).take sz).length = sz := by
        have := h.length
        simp; omega
      have hc : ∀ (j : Nat) (v : Value), ((us.drop off).take sz)[j]? = some v → w.cell? ((⟨g, o + off, none⟩ : Addr).add j) = some v := by
        intro j v hv
        rw [Addr.add_mid]
        have : us[off + j]? = some v := by
          rw [List.getElem?_take] at hv
          split at hv
          · simpa using hv
          · cases hv
        have := hm _ _ this
        rwa [show o + (off + j) = o + off + j by omega] at this
      have hl2 := run_loadCells_list (P := P) w ⟨g, o + off, none⟩ ((us.drop off).take sz) hc
      rw [hlen] at hl2
      refine ⟨.agg ((us.drop off).take sz).toArray, ?_, .agg _ _ (by simpa using h2)⟩
      simp [loadVar, Sem.run_bind, run_isAgg P w ht, run_szOf P w (tyOk.sz ht), hl2]
    · cases hp
  | false =>
    simp only [Bool.false_eq_true, if_false] at hp
    obtain ⟨v, hv, hr⟩ := h.get (part_get hp)
    have := hm _ _ hv
    refine ⟨v, ?_, hr⟩
    simp [loadVar, Sem.run_bind, run_isAgg P w ht, this]

theorem ld_sound (hH : HRel P B π H w av ex) {sz : Nat} {ag : Bool} {x t : TV} {u : Value} {H' : Heap} {ty : TypeId} (hd : dk (.ld sz ag) [x] H = some (t, H')) (hx : VRel π w av ex x u) (ht : tyOk P ty sz ag = true) :
    H' = H ∧ ∃ v, (Instr.loadAt ty u).run P w = .ok v w ∧ VRel π w av ex t v := by
  cases hx <;> simp only [dk] at hd <;> try (cases hd; done)
  case ref id off g sh hp =>
    split at hd
    · rename_i c ag' hi
      simp only [Option.map_eq_some_iff, Prod.mk.injEq] at hd
      obtain ⟨t', hpt, rfl, rfl⟩ := hd
      obtain ⟨_, _, ob, hb, ho⟩ := hH.obj id g sh _ hp hi (by simp)
      cases ob <;> simp only [ORel] at ho
      rename_i cc el fr
      obtain ⟨rfl, _, _, us, hus, hcc⟩ := ho
      have hm : MemAt w g sh us := fun j u hu => by simp [World.cell?, hb, hcc j u hu]
      obtain ⟨v, hv, hr⟩ := loadVar_sound hpt hus ht hm
      exact ⟨rfl, v, by simp [Instr.loadAt, Instr.sureAddr, hv], hr⟩
    · cases hd
  case bp bo v g off us h hm ha =>
    have key : part sz ag 0 v.cells = some t ∧ H' = H := by
      cases v <;> simp only [] at hd
      case agg l =>
        split at hd
        · rename_i hc
          injection hd with hd
          injection hd with h1 h2
          subst h1; subst h2
          obtain ⟨rfl, rfl⟩ := hc
          simp [part, TV.cells]
        · cases hd
      all_goals
        cases ag <;> simp at hd
        obtain ⟨rfl, rfl⟩ := hd
        simp [part, TV.cells, TV.isAgg]
    obtain ⟨hk, rfl⟩ := key
    obtain ⟨v', hv', hr⟩ := loadVar_sound (o := off) hk h ht hm
    exact ⟨rfl, v', by simpa [Instr.loadAt, Instr.sureAddr] using hv', hr⟩

theorem all_one {l : List TV} {us : List Value} (h : VsRel π w av ex l us) (ho : l.all TV.one = true) : ∀ v ∈ us, v.oneCell' = true := by
  intro v hv
  obtain ⟨j, hj⟩ := List.getElem?_of_mem hv
  have hlt : j < us.length := (List.getElem?_eq_some_iff.1 hj).1
  rw [← h.length] at hlt
  obtain ⟨u, hu, hr⟩ := h.get (List.getElem?_eq_getElem hlt)
  rw [hj] at hu
  injection hu with hu
  subst hu
  exact hr.one (by simpa using List.all_eq_true.1 ho _ (List.getElem_mem hlt))

theorem put2_get {α : Type} {l c : List α} {off j : Nat} {u : α} (hl : off + c.length ≤ l.length) (h : (put2 l off c)[j]? = some u) :
    (off ≤ j ∧ j < off + c.length ∧ c[j - off]? = some u) ∨ ((j < off ∨ off + c.length ≤ j) ∧ l[j]? = some u) := by
  unfold put2 at h
  rw [List.append_assoc, List.getElem?_append] at h
  have hlt : (l.take off).length = off := by simp; omega
  rw [hlt] at h
  split at h
  · rename_i hj
    rw [List.getElem?_take, if_pos hj] at h
    exact .inr ⟨.inl hj, h⟩
  · rename_i hj
    rw [List.getElem?_append] at h
    split at h
    · exact .inl ⟨by omega, by omega, h⟩
    · rename_i hj2
      rw [List.getElem?_drop] at h
      refine .inr ⟨.inr (by omega), ?_⟩
      rwa [show off + c.length + (j - off - c.length) = j by omega] at h

theorem seg_get {α : Type} {l : List α} {c : List α} {a : Nat} (ha : a + c.length ≤ l.length) (j : Nat) :
    (l.take a ++ c ++ l.drop (a + c.length))[j]? = if j < a then l[j]? else if j < a + c.length then c[j - a]? else l[j]? := by
  rw [List.append_assoc, List.getElem?_append]
  have hlt : (l.take a).length = a := by simp; omega
  rw [hlt]
  split
  · rw [List.getElem?_take, if_pos (by assumption)]
  · rw [List.getElem?_append]
    split
    · rw [if_pos (by omega)]
    · rw [if_neg (by omega), List.getElem?_drop]
      congr 1
      omega

/-- cells of an object written -/
theorem write_sound (hH : HRel P B π H w av ex) {id g sh off : Nat} {c xs : List TV} {ag : Bool} {vs : List Value} (hp : π id = some (g, sh)) (hi : H[id]? = some (.cells c ag))
    (hv : VsRel π w av ex xs vs) (ho : xs.all TV.one = true) (hl : off + xs.length ≤ c.length) :
    ∃ w', (storeCells ⟨g, sh + off, none⟩ vs).run P w = .ok () w' ∧ Ev (only g) π w av π w' av ∧ HRel P B π (H.set id (.cells (put2 c off xs) ag)) w' av ex := by
  obtain ⟨hB, hav, ob, hb, hob⟩ := hH.obj id g sh _ hp hi (by simp)
  cases ob <;> simp only [ORel] at hob
  rename_i cc el fr
  obtain ⟨rfl, hroom0, hone, us, hus, hcc⟩ := hob
  have hlen := hus.length
  have hvl := hv.length
  have hroom : sh + off + vs.length ≤ cc.size := by omega
  have hst := run_storeCells_at P g (sh + off) el vs 0 cc w hb (by omega) (all_one hv ho)
  simp only [Nat.add_zero] at hst
  have e := Ev.setRow π w av (new := (cc.toList.take (sh + off) ++ vs ++ cc.toList.drop (sh + off + vs.length)).toArray) hb (by simp; omega)
  have hw : ∀ x, x < w.heap.size → only g x → av x := fun x _ hx => by rw [show x = g from hx]; exact hav
  refine ⟨_, hst, e, hH.set hp hi (by simp) e _ _ (setRow_heap w g _ _ _ _ hb) ?_⟩
  refine ⟨rfl, by simp [put2]; omega, ?_, put2 us off vs, (hus.put2 hv off).mono e hw, ?_⟩
  · rw [List.all_eq_true]
    intro x hx
    unfold put2 at hx
    simp only [List.mem_append] at hx
    rcases hx with (hx | hx) | hx
    · exact List.all_eq_true.1 hone x (List.mem_of_mem_take hx)
    · exact List.all_eq_true.1 ho x hx
    · exact List.all_eq_true.1 hone x (List.mem_of_mem_drop hx)
  · intro j u hu
    have hh := put2_get (by omega) hu
    rw [List.getElem?_toArray, seg_get (by simp; omega)]
    rcases hh with ⟨h1, h2, h3⟩ | ⟨h1, h2⟩
    · rw [if_neg (by omega), if_pos (by omega)]
      rwa [show sh + j - (sh + off) = j - off by omega]
    · have := hcc j u h2
      rw [← Array.getElem?_toList] at this
      split
      · exact this
      · rw [if_neg (by omega)]; exact this

end Go.Dn
