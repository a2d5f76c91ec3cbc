/-
  The relation between abstract values and the model's values and memory; what becomes of it while memory grows.
-/
import Derived.Test.YtegihfgibonhpaaDnCore
import Derived.Below
set_option linter.unusedVariables false
namespace Go.Dn

abbrev PMap := Nat → Option (Nat × Nat)

/-- so many values stand in a block from a place on -/
def MemAt (w : World) (g off : Nat) (us : List Value) : Prop := ∀ j u, us[j]? = some u → w.cell? ⟨g, off + j, none⟩ = some u

mutual
inductive VRel (π : PMap) (w : World) (av ex : Nat → Prop) : TV → Value → Prop
  | undef (v : Value) : VRel π w av ex .undef v
  | b (x : Bool) : VRel π w av ex (.b x) (.bool x)
  | i (k : IntKind) (n : Int) : VRel π w av ex (.i k n) (.int k n)
  | s (x : ByteArray) : VRel π w av ex (.s x) (.string x)
  | nilp : VRel π w av ex .nilp (.pointer none)
  | nilsl : VRel π w av ex .nilsl (.slice none 0 0)
  | nilmap : VRel π w av ex .nilmap (.map none)
  | nilfn : VRel π w av ex .nilfn .nilFunc
  | nilif : VRel π w av ex .nilif .nilIface
  | agg (l : List TV) (cs : Array Value) (h : VsRel π w av ex l cs.toList) : VRel π w av ex (.agg l) (.agg cs)
  | tup (l : List TV) (cs : Array Value) (h : VsRel π w av ex l cs.toList) : VRel π w av ex (.tup l) (.tuple cs)
  | fn (f : Nat) (fs cs : List TV) (fa ca : Array Value) (h1 : VsRel π w av ex fs fa.toList) (h2 : VsRel π w av ex cs ca.toList) : VRel π w av ex (.fn f fs cs) (.func (.func f) fa ca)
  | yl (id g : Nat) (h : π id = some (g, 0)) : VRel π w av ex (.yl id) (.func (.yield g) #[] #[])
  | ref (id off g sh : Nat) (h : π id = some (g, sh)) : VRel π w av ex (.ref id off) (.pointer (some ⟨g, sh + off, none⟩))
  | sl (id off sz : Nat) (ag : Bool) (len : Nat) (cap : Option Nat) (g sh c : Nat) (cc : Array Value) (el : TypeId) (fr : Nat × Nat)
      (h : π id = some (g, sh)) (hb : w.heap[g]? = some (.cells cc el fr)) (hl : len ≤ c) (hc : ∀ k, cap = some k → k = c) (hs : sh + off + c * sz ≤ cc.size) :
      VRel π w av ex (.sl id off sz ag len cap) (.slice (some ⟨g, sh + off, none⟩) len c)
  | sl0 (id off sz : Nat) (ag : Bool) (cap : Option Nat) (a : Addr) (hc : ∀ k, cap = some k → k = 0) : VRel π w av ex (.sl id off sz ag 0 cap) (.slice (some a) 0 0)
  | esl (a : Addr) : VRel π w av ex .esl (.slice (some a) 0 0)
  | mp (id g : Nat) (h : π id = some (g, 0)) : VRel π w av ex (.mp id) (.map (some g))
  | bp (bo : Bool) (v : TV) (g off : Nat) (us : List Value) (h : VsRel π w av ex v.cells us) (hm : MemAt w g off us) (ha : us ≠ [] → ¬ av g ∧ (bo = false → ¬ ex g)) :
      VRel π w av ex (.bp bo v) (.pointer (some ⟨g, off, none⟩))
  | bs (bo : Bool) (sz : Nat) (es : List TV) (g off c : Nat) (us : List Value) (h : VsRel π w av ex (es.flatMap TV.cells) us) (hz : ∀ e, e ∈ es → e.cells.length = sz) (hm : MemAt w g off us)
      (ha : us ≠ [] → ¬ av g ∧ (bo = false → ¬ ex g)) (hl : es.length ≤ c) : VRel π w av ex (.bs bo sz es) (.slice (some ⟨g, off, none⟩) es.length c)
  | bs0 (bo : Bool) (sz : Nat) (a : Addr) (c : Nat) : VRel π w av ex (.bs bo sz []) (.slice (some a) 0 c)
inductive VsRel (π : PMap) (w : World) (av ex : Nat → Prop) : List TV → List Value → Prop
  | nil : VsRel π w av ex [] []
  | cons (t : TV) (v : Value) (ts : List TV) (vs : List Value) (h : VRel π w av ex t v) (hs : VsRel π w av ex ts vs) : VsRel π w av ex (t :: ts) (v :: vs)
end

/-- What becomes of the map, the world and the blocks that values must keep out of. 'wr': the blocks that may have been written. -/
structure Ev (wr : Nat → Prop) (π : PMap) (w : World) (av : Nat → Prop) (π' : PMap) (w' : World) (av' : Nat → Prop) : Prop where
  map : ∀ id p, π id = some p → π' id = some p
  blk : ∀ g, g < w.heap.size → ¬ wr g → w'.heap[g]? = w.heap[g]?
  siz : ∀ (g : Nat) (cc : Array Value) (el : TypeId) (fr : Nat × Nat), w.heap[g]? = some (Obj.cells cc el fr) → ∃ cc' : Array Value, w'.heap[g]? = some (Obj.cells cc' el fr) ∧ cc'.size = cc.size
  lop : ∀ (g : Nat) (r : Loop), w.heap[g]? = some (Obj.loop r) → ∃ r' : Loop, w'.heap[g]? = some (Obj.loop r')
  sub : ∀ g, g < w.heap.size → av' g → av g
  len : w.heap.size ≤ w'.heap.size
  os : w'.os = w.os
  tape : w'.tape = w.tape
  out : w'.output = w.output

theorem Ev.refl (wr : Nat → Prop) (π : PMap) (w : World) (av : Nat → Prop) : Ev wr π w av π w av :=
  ⟨fun _ _ h => h, fun _ _ _ => rfl, fun _ cc _ _ h => ⟨cc, h, rfl⟩, fun _ r h => ⟨r, h⟩, fun _ _ h => h, Nat.le_refl _, rfl, rfl, rfl⟩

theorem Ev.trans {wr wr' : Nat → Prop} {π π1 π2 : PMap} {w w1 w2 : World} {av av1 av2 : Nat → Prop} (h : Ev wr π w av π1 w1 av1) (h' : Ev wr' π1 w1 av1 π2 w2 av2)
    (hw : ∀ g, g < w.heap.size → wr' g → wr g) : Ev wr π w av π2 w2 av2 where
  map id p e := h'.map id p (h.map id p e)
  blk g hg hn := (h'.blk g (Nat.lt_of_lt_of_le hg h.len) fun x => hn (hw g hg x)).trans (h.blk g hg hn)
  siz g cc el fr e := by
    obtain ⟨c1, e1, s1⟩ := h.siz g cc el fr e
    obtain ⟨c2, e2, s2⟩ := h'.siz g c1 el fr e1
    exact ⟨c2, e2, s2.trans s1⟩
  lop g r e := by
    obtain ⟨r1, e1⟩ := h.lop g r e
    exact h'.lop g r1 e1
  sub g hg x := h.sub g hg (h'.sub g (Nat.lt_of_lt_of_le hg h.len) x)
  len := Nat.le_trans h.len h'.len
  os := h'.os.trans h.os
  tape := h'.tape.trans h.tape
  out := h'.out.trans h.out

theorem Ev.wider {wr wr' : Nat → Prop} {π π' : PMap} {w w' : World} {av av' : Nat → Prop} (h : Ev wr π w av π' w' av') (hw : ∀ g, wr g → wr' g) : Ev wr' π w av π' w' av' :=
  { h with blk := fun g hg hn => h.blk g hg fun x => hn (hw g x) }

theorem lt_of_cell {w : World} {a : Addr} {u : Value} (h : w.cell? a = some u) : a.block < w.heap.size := by
  unfold World.cell? at h
  split at h
  · rename_i hb
    exact (Array.getElem?_eq_some_iff.1 hb).1
  · cases h

theorem MemAt.mono {wr : Nat → Prop} {π π' : PMap} {w w' : World} {av av' : Nat → Prop} (e : Ev wr π w av π' w' av') {g off : Nat} {us : List Value} (h : MemAt w g off us) (hn : us ≠ [] → ¬ wr g) : MemAt w' g off us := by
  intro j u hu
  have hc := h j u hu
  have hne : us ≠ [] := by rintro rfl; simp at hu
  have hb := e.blk g (lt_of_cell hc) (hn hne)
  exact (World.cell?_of_block (a := ⟨g, off + j, none⟩) hb).trans hc

theorem MemAt.lt {w : World} {g off : Nat} {us : List Value} (h : MemAt w g off us) (hn : us ≠ []) : g < w.heap.size := by
  cases us with
  | nil => exact absurd rfl hn
  | cons u us => exact lt_of_cell (h 0 u (by simp))

mutual
theorem VRel.mono {wr : Nat → Prop} {π π' : PMap} {w w' : World} {av av' ex : Nat → Prop} (e : Ev wr π w av π' w' av') (hw : ∀ g, g < w.heap.size → wr g → av g) {t : TV} {v : Value} :
    VRel π w av ex t v → VRel π' w' av' ex t v
  | .undef v => .undef v
  | .b x => .b x
  | .i k n => .i k n
  | .s x => .s x
  | .nilp => .nilp
  | .nilsl => .nilsl
  | .nilmap => .nilmap
  | .nilfn => .nilfn
  | .nilif => .nilif
  | .agg l cs h => .agg l cs (VsRel.mono e hw h)
  | .tup l cs h => .tup l cs (VsRel.mono e hw h)
  | .fn f fs cs fa ca h1 h2 => .fn f fs cs fa ca (VsRel.mono e hw h1) (VsRel.mono e hw h2)
  | .yl id g h => .yl id g (e.map _ _ h)
  | .ref id off g sh h => .ref id off g sh (e.map _ _ h)
  | .sl id off sz ag len cap g sh c cc el fr h hb hl hc hs => by
    obtain ⟨cc', e1, e2⟩ := e.siz g cc el fr hb
    exact .sl id off sz ag len cap g sh c cc' el fr (e.map _ _ h) e1 hl hc (by omega)
  | .sl0 id off sz ag cap a hc => .sl0 id off sz ag cap a hc
  | .esl a => .esl a
  | .mp id g h => .mp id g (e.map _ _ h)
  | .bp bo v g off us h hm ha =>
    .bp bo v g off us (VsRel.mono e hw h) (hm.mono e fun hn hx => (ha hn).1 (hw g (hm.lt hn) hx)) fun hn => ⟨fun hx => (ha hn).1 (e.sub g (hm.lt hn) hx), (ha hn).2⟩
  | .bs bo sz es g off c us h hz hm ha hl =>
    .bs bo sz es g off c us (VsRel.mono e hw h) hz (hm.mono e fun hn hx => (ha hn).1 (hw g (hm.lt hn) hx)) (fun hn => ⟨fun hx => (ha hn).1 (e.sub g (hm.lt hn) hx), (ha hn).2⟩) hl
  | .bs0 bo sz a c => .bs0 bo sz a c
theorem VsRel.mono {wr : Nat → Prop} {π π' : PMap} {w w' : World} {av av' ex : Nat → Prop} (e : Ev wr π w av π' w' av') (hw : ∀ g, g < w.heap.size → wr g → av g) {ts : List TV} {vs : List Value} :
    VsRel π w av ex ts vs → VsRel π' w' av' ex ts vs
  | .nil => .nil
  | .cons t v ts vs h hs => .cons t v ts vs (VRel.mono e hw h) (VsRel.mono e hw hs)
end

/-! lists -/
theorem VsRel.length {π : PMap} {w : World} {av ex : Nat → Prop} {ts : List TV} {vs : List Value} (h : VsRel π w av ex ts vs) : ts.length = vs.length := by
  induction ts generalizing vs with
  | nil => cases h; rfl
  | cons t ts ih => cases h with | cons _ _ _ _ h hs => simp [ih hs]

theorem VsRel.get {π : PMap} {w : World} {av ex : Nat → Prop} {ts : List TV} {vs : List Value} (h : VsRel π w av ex ts vs) {j : Nat} {t : TV} (hj : ts[j]? = some t) : ∃ v, vs[j]? = some v ∧ VRel π w av ex t v := by
  induction ts generalizing vs j with
  | nil => simp at hj
  | cons a ts ih =>
    cases h with
    | cons _ v _ vs h hs =>
      cases j with
      | zero => simp at hj; subst hj; exact ⟨v, by simp, h⟩
      | succ j => simpa using ih hs (by simpa using hj)

theorem VsRel.of_get {π : PMap} {w : World} {av ex : Nat → Prop} {ts : List TV} {vs : List Value} (hl : ts.length = vs.length)
    (h : ∀ (j : Nat) (t : TV) (v : Value), ts[j]? = some t → vs[j]? = some v → VRel π w av ex t v) : VsRel π w av ex ts vs := by
  induction ts generalizing vs with
  | nil => cases vs with
    | nil => exact .nil
    | cons => simp at hl
  | cons t ts ih => cases vs with
    | nil => simp at hl
    | cons v vs => exact .cons _ _ _ _ (h 0 t v rfl rfl) (ih (by simpa using hl) fun j a b ha hb => h (j + 1) a b (by simpa using ha) (by simpa using hb))

theorem VsRel.append {π : PMap} {w : World} {av ex : Nat → Prop} {ts ts' : List TV} {vs vs' : List Value} (h : VsRel π w av ex ts vs) (h' : VsRel π w av ex ts' vs') : VsRel π w av ex (ts ++ ts') (vs ++ vs') := by
  induction ts generalizing vs with
  | nil => cases h; exact h'
  | cons t ts ih => cases h with | cons _ _ _ _ h hs => exact .cons _ _ _ _ h (ih hs)

theorem VsRel.take {π : PMap} {w : World} {av ex : Nat → Prop} {ts : List TV} {vs : List Value} (h : VsRel π w av ex ts vs) (n : Nat) : VsRel π w av ex (ts.take n) (vs.take n) := by
  induction n generalizing ts vs with
  | zero => simpa using VsRel.nil
  | succ n ih => cases h with
    | nil => simpa using VsRel.nil
    | cons _ _ _ _ h hs => exact .cons _ _ _ _ h (ih hs)

theorem VsRel.drop {π : PMap} {w : World} {av ex : Nat → Prop} {ts : List TV} {vs : List Value} (h : VsRel π w av ex ts vs) (n : Nat) : VsRel π w av ex (ts.drop n) (vs.drop n) := by
  induction n generalizing ts vs with
  | zero => simpa using h
  | succ n ih => cases h with
    | nil => simpa using VsRel.nil
    | cons _ _ _ _ h hs => simpa using ih hs

theorem VsRel.split {π : PMap} {w : World} {av ex : Nat → Prop} {ts ts' : List TV} {vs : List Value} (h : VsRel π w av ex (ts ++ ts') vs) :
    VsRel π w av ex ts (vs.take ts.length) ∧ VsRel π w av ex ts' (vs.drop ts.length) := by
  have h1 := h.take ts.length
  have h2 := h.drop ts.length
  simp at h1 h2
  exact ⟨h1, h2⟩

theorem VsRel.put2 {π : PMap} {w : World} {av ex : Nat → Prop} {ts c : List TV} {vs d : List Value} (h : VsRel π w av ex ts vs) (hc : VsRel π w av ex c d) (off : Nat) :
    VsRel π w av ex (Dn.put2 ts off c) (Dn.put2 vs off d) := by
  unfold Dn.put2
  rw [hc.length]
  exact ((h.take off).append hc).append (h.drop _)

theorem VRel.cells {π : PMap} {w : World} {av ex : Nat → Prop} {t : TV} {v : Value} (h : VRel π w av ex t v) (hu : t ≠ .undef) : VsRel π w av ex t.cells v.cells.toList := by
  cases h <;> first | exact absurd rfl hu | skip
  case agg l cs h => exact h
  all_goals (simp only [TV.cells, Value.cells]; refine .cons _ _ _ _ ?_ .nil)
  all_goals first | constructor <;> assumption | (constructor) 

theorem VRel.one {π : PMap} {w : World} {av ex : Nat → Prop} {t : TV} {v : Value} (h : VRel π w av ex t v) (ho : t.one = true) : v.oneCell' = true := by
  cases h <;> first | rfl | simp [TV.one] at ho

/-! ### memory -/

/-- environment: what is known of a frame's slots -/
def ERel (π : PMap) (w : World) (av ex : Nat → Prop) (e : Env) (tmps : Array Value) : Prop := ∀ s t, get e s = some t → VRel π w av ex t (tmps.getD s undef)

theorem ERel.mono {wr : Nat → Prop} {π π' : PMap} {w w' : World} {av av' ex : Nat → Prop} (e : Ev wr π w av π' w' av') (hw : ∀ g, g < w.heap.size → wr g → av g) {en : Env} {tmps : Array Value}
    (h : ERel π w av ex en tmps) : ERel π' w' av' ex en tmps := fun s t hs => (h s t hs).mono e hw

theorem get_keepE (ks : List Nat) (e : Env) (s : Nat) (t : TV) (h : get (keepE ks e) s = some t) : get e s = some t := by
  unfold keepE at h
  induction ks with
  | nil => simp [get] at h
  | cons k ks ih =>
    simp only [List.filterMap_cons] at h
    cases hk : get e k with
    | none => simp only [hk, Option.map_none] at h; exact ih h
    | some v =>
      simp only [hk, Option.map_some, get] at h
      split at h
      · rename_i he; subst he; rw [hk]; exact h
      · exact ih h

theorem ERel.keep {π : PMap} {w : World} {av ex : Nat → Prop} {e : Env} {tmps : Array Value} (h : ERel π w av ex e tmps) (ks : List Nat) : ERel π w av ex (keepE ks e) tmps :=
  fun s t hs => h s t (get_keepE ks e s t hs)

theorem ERel.put {π : PMap} {w : World} {av ex : Nat → Prop} {e : Env} {tmps : Array Value} (h : ERel π w av ex e tmps) {d : Nat} (hd : d < tmps.size) {t : TV} {v : Value} (hv : VRel π w av ex t v) :
    ERel π w av ex ((d, t) :: e) (tmps.setIfInBounds d v) := by
  intro s u hs
  simp only [get] at hs
  split at hs
  · rename_i he
    subst he
    injection hs with hs
    subst hs
    simpa [Array.getD, hd] using hv
  · rename_i he
    have := h s u hs
    simpa [Array.getD_eq_getD_getElem?, Array.getElem?_setIfInBounds, he] using this

end Go.Dn
