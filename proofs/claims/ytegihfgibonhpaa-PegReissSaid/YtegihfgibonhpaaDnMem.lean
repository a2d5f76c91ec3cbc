/-
  The heap's relation to memory, and what becomes of it: a new object, an object written.
-/
import Derived.Test.YtegihfgibonhpaaDnChk
import Derived.Deep.MidRow
import Derived.Laws.CopyRow
import Derived.Laws.Append
set_option linter.unusedVariables false
namespace Go.Dn

def EsRel (π : PMap) (w : World) (av ex : Nat → Prop) : List (TV × TV × Nat) → List MapEntry → Prop
  | [], [] => True
  | (k, v, n) :: r, e :: es => VRel π w av ex k e.key ∧ VRel π w av ex v e.val ∧ e.born = n ∧ EsRel π w av ex r es
  | _, _ => False

def PendRel : Option Ex → Option Code → Prop
  | none, none => True
  | some (.exit i), some (.exit j) => i = j
  | some .ret, some .ret => True
  | _, _ => False

def ORel (P : Program) (π : PMap) (w : World) (av ex : Nat → Prop) (sh : Nat) : AObj → Obj → Prop
  | .cells c _, .cells cc _ fr => fr = (0, 0) ∧ sh + c.length ≤ cc.size ∧ c.all TV.one = true ∧ ∃ us, VsRel π w av ex c us ∧ ∀ (j : Nat) (u : Value), us[j]? = some u → cc[sh + j]? = some u
  | .map es ck, .map ces ck' => sh = 0 ∧ ck' = ck ∧ EsRel π w av ex es ces.toList
  | .loop L, .loop r => sh = 0 ∧ r.state = L.st ∧ PendRel L.pend r.pending ∧ ERel π w av ex L.env r.tmps ∧ r.params.toList = L.params ∧ (L.params.all (· < r.tmps.size)) = true ∧
      chkC P r.tmps.size L.assign r.assign = true ∧ chkC P r.tmps.size L.body r.body = true
  | _, _ => False

structure HRel (P : Program) (B : Nat) (π : PMap) (H : Heap) (w : World) (av ex : Nat → Prop) : Prop where
  obj : ∀ id g sh o, π id = some (g, sh) → H[id]? = some o → o ≠ .dead → B ≤ g ∧ av g ∧ ∃ ob, w.heap[g]? = some ob ∧ ORel P π w av ex sh o ob
  inj : ∀ id id' g sh sh' o o', π id = some (g, sh) → H[id]? = some o → o ≠ .dead → π id' = some (g, sh') → H[id']? = some o' → o' ≠ .dead → id = id'
  avb : ∀ g, av g → g < w.heap.size
  exb : ∀ g, ex g → g < w.heap.size
  bsz : B ≤ w.heap.size

theorem EsRel.mono {wr : Nat → Prop} {π π' : PMap} {w w' : World} {av av' ex : Nat → Prop} (e : Ev wr π w av π' w' av') (hw : ∀ g, g < w.heap.size → wr g → av g) :
    ∀ {es : List (TV × TV × Nat)} {ces : List MapEntry}, EsRel π w av ex es ces → EsRel π' w' av' ex es ces
  | [], [], _ => trivial
  | (k, v, n) :: r, c :: cs, h => ⟨h.1.mono e hw, h.2.1.mono e hw, h.2.2.1, EsRel.mono e hw h.2.2.2⟩
  | [], _ :: _, h => h.elim
  | _ :: _, [], h => h.elim

theorem ORel.mono {P : Program} {wr : Nat → Prop} {π π' : PMap} {w w' : World} {av av' ex : Nat → Prop} (e : Ev wr π w av π' w' av') (hw : ∀ g, g < w.heap.size → wr g → av g) {sh : Nat} {o : AObj} {ob : Obj}
    (h : ORel P π w av ex sh o ob) : ORel P π' w' av' ex sh o ob := by
  cases o <;> cases ob <;> simp only [ORel] at h ⊢
  case cells.cells =>
    obtain ⟨h1, h0, h2, us, h3, h4⟩ := h
    exact ⟨h1, h0, h2, us, h3.mono e hw, h4⟩
  case map.map => exact ⟨h.1, h.2.1, h.2.2.mono e hw⟩
  case loop.loop =>
    obtain ⟨h1, h2, h3, h4, h5⟩ := h
    exact ⟨h1, h2, h3, h4.mono e hw, h5⟩

/-- nothing that was there is written -/
def none' : Nat → Prop := fun _ => False

theorem HRel.mono {P : Program} {B : Nat} {π π' : PMap} {H : Heap} {w w' : World} {av av' ex : Nat → Prop} (h : HRel P B π H w av ex) (e : Ev none' π w av π' w' av')
    (hn : ∀ id o, H[id]? = some o → π' id ≠ π id → False) (hav : ∀ g, av g → av' g) (hb : ∀ g, av' g → g < w'.heap.size) : HRel P B π' H w' av' ex where
  obj id g sh o hp ho hd := by
    have hp' : π id = some (g, sh) := by
      by_cases hq : π' id = π id
      · rw [← hq]; exact hp
      · exact (hn id o ho hq).elim
    obtain ⟨h1, h2, ob, h3, h4⟩ := h.obj id g sh o hp' ho hd
    exact ⟨h1, hav g h2, ob, by rw [e.blk g (h.avb g h2) (fun x => x)]; exact h3, h4.mono e fun _ _ x => x.elim⟩
  inj id id' g sh sh' o o' hp ho hd hp' ho' hd' := by
    have q : ∀ i oo gg ss, π' i = some (gg, ss) → H[i]? = some oo → π i = some (gg, ss) := by
      intro i oo gg ss hp ho
      by_cases hq : π' i = π i
      · rw [← hq]; exact hp
      · exact (hn i oo ho hq).elim
    exact h.inj id id' g sh sh' o o' (q _ _ _ _ hp ho) ho hd (q _ _ _ _ hp' ho') ho' hd'
  avb := hb
  exb g x := Nat.lt_of_lt_of_le (h.exb g x) e.len
  bsz := Nat.le_trans h.bsz e.len

/-! ### a new object -/
def PMap.add (π : PMap) (id g : Nat) : PMap := fun i => if i = id then some (g, 0) else π i
def avAdd (av : Nat → Prop) (g : Nat) : Nat → Prop := fun x => av x ∨ x = g

theorem heap_push_lt (w : World) (o : Obj) {g : Nat} (h : g < w.heap.size) : (w.alloc o).heap[g]? = w.heap[g]? := by
  show (w.heap.push o)[g]? = _
  rw [Array.getElem?_push, if_neg (by omega)]
theorem heap_push_eq (w : World) (o : Obj) : (w.alloc o).heap[w.heap.size]? = some o := by
  show (w.heap.push o)[w.heap.size]? = _
  simp

theorem Ev.alloc (wr : Nat → Prop) (π : PMap) (w : World) (av : Nat → Prop) (ob : Obj) : Ev wr π w av π (w.alloc ob) av where
  map _ _ h := h
  blk g hg _ := heap_push_lt w ob hg
  siz g cc el fr h := ⟨cc, by rw [heap_push_lt w ob (Array.getElem?_eq_some_iff.1 h).1]; exact h, rfl⟩
  lop g r h := ⟨r, by rw [heap_push_lt w ob (Array.getElem?_eq_some_iff.1 h).1]; exact h⟩
  sub g _ h := h
  len := by simp
  os := rfl
  tape := rfl
  out := rfl

theorem Ev.new (wr : Nat → Prop) (π : PMap) (w : World) (av : Nat → Prop) (ob : Obj) (id : Nat) (hf : π id = none) : Ev wr π w av (π.add id w.heap.size) (w.alloc ob) (avAdd av w.heap.size) where
  map i p h := by
    unfold PMap.add
    split
    · rename_i e; subst e; rw [hf] at h; cases h
    · exact h
  blk g hg _ := heap_push_lt w ob hg
  siz g cc el fr h := ⟨cc, by rw [heap_push_lt w ob (Array.getElem?_eq_some_iff.1 h).1]; exact h, rfl⟩
  lop g r h := ⟨r, by rw [heap_push_lt w ob (Array.getElem?_eq_some_iff.1 h).1]; exact h⟩
  sub g hg h := h.resolve_right (by omega)
  len := by simp
  os := rfl
  tape := rfl
  out := rfl

/-- By value: memory that the heap does not name. -/
theorem HRel.alloc {P : Program} {B : Nat} {π : PMap} {H : Heap} {w : World} {av ex : Nat → Prop} (h : HRel P B π H w av ex) (ob : Obj) : HRel P B π H (w.alloc ob) av ex :=
  h.mono (Ev.alloc none' π w av ob) (fun _ _ _ x => x rfl) (fun _ x => x) (fun g x => by have := h.avb g x; simp; omega)

theorem HRel.new {P : Program} {B : Nat} {π : PMap} {H : Heap} {w : World} {av ex : Nat → Prop} (h : HRel P B π H w av ex) (hf : π H.length = none) (ob : Obj) (o : AObj)
    (hd : o ≠ .dead) (ho : ORel P (π.add H.length w.heap.size) (w.alloc ob) (avAdd av w.heap.size) ex 0 o ob) :
    HRel P B (π.add H.length w.heap.size) (H ++ [o]) (w.alloc ob) (avAdd av w.heap.size) ex := by
  have e := Ev.new none' π w av ob H.length hf
  have h1 : HRel P B (π.add H.length w.heap.size) H (w.alloc ob) (avAdd av w.heap.size) ex := by
    refine h.mono e (fun id oo ho hn => hn ?_) (fun _ x => .inl x) (fun g x => ?_)
    · have : id < H.length := (List.getElem?_eq_some_iff.1 ho).1
      unfold PMap.add; rw [if_neg (by omega)]
    · rcases x with x | x
      · have := h.avb g x; simp; omega
      · simp; omega
  have hself : (π.add H.length w.heap.size) H.length = some (w.heap.size, 0) := by simp [PMap.add]
  have hidx : ∀ id oo, (H ++ [o])[id]? = some oo → (id < H.length ∧ H[id]? = some oo) ∨ (id = H.length ∧ oo = o) := by
    intro id oo hh
    rw [List.getElem?_append] at hh
    split at hh
    · exact .inl ⟨by assumption, hh⟩
    · rename_i hl
      have : id - H.length = 0 := by
        rcases Nat.eq_zero_or_pos (id - H.length) with h | h
        · exact h
        · rw [List.getElem?_eq_none (by simp; omega)] at hh; cases hh
      rw [this] at hh
      simp at hh
      exact .inr ⟨by omega, hh.symm⟩
  have hold : ∀ id g sh oo, (π.add H.length w.heap.size) id = some (g, sh) → H[id]? = some oo → oo ≠ .dead → g < w.heap.size := by
    intro id g sh oo hp hh hdd
    have hlt : id < H.length := (List.getElem?_eq_some_iff.1 hh).1
    have : π id = some (g, sh) := by unfold PMap.add at hp; rw [if_neg (by omega)] at hp; exact hp
    exact h.avb g (h.obj id g sh oo this hh hdd).2.1
  refine ⟨?_, ?_, h1.avb, h1.exb, h1.bsz⟩
  · intro id g sh oo hp hh hdd
    rcases hidx id oo hh with ⟨hl, hh⟩ | ⟨rfl, rfl⟩
    · exact h1.obj id g sh oo hp hh hdd
    · rw [hself] at hp
      simp only [Option.some.injEq, Prod.mk.injEq] at hp
      obtain ⟨rfl, rfl⟩ := hp
      exact ⟨h.bsz, .inr rfl, ob, heap_push_eq w ob, ho⟩
  · intro id id' g sh sh' oo oo' hp hh hdd hp' hh' hdd'
    rcases hidx id oo hh with ⟨hl, hq⟩ | ⟨rfl, rfl⟩ <;> rcases hidx id' oo' hh' with ⟨hl', hq'⟩ | ⟨rfl, rfl⟩
    · exact h1.inj id id' g sh sh' oo oo' hp hq hdd hp' hq' hdd'
    · rw [hself] at hp'
      simp only [Option.some.injEq, Prod.mk.injEq] at hp'
      have := hold id g sh oo hp hq hdd
      omega
    · rw [hself] at hp
      simp only [Option.some.injEq, Prod.mk.injEq] at hp
      have := hold id' g sh' oo' hp' hq' hdd'
      omega
    · rfl

/-! ### an object written -/
/-- the block that is written -/
def only (g : Nat) : Nat → Prop := fun x => x = g

theorem HRel.set {P : Program} {B : Nat} {π : PMap} {H : Heap} {w w' : World} {av ex : Nat → Prop} (h : HRel P B π H w av ex) {id g sh : Nat} {o : AObj} (hp : π id = some (g, sh)) (hi : H[id]? = some o) (hd : o ≠ .dead)
    (e : Ev (only g) π w av π w' av) (o' : AObj) (ob' : Obj) (hb : w'.heap[g]? = some ob') (ho : ORel P π w' av ex sh o' ob') : HRel P B π (H.set id o') w' av ex := by
  have hav : av g := (h.obj id g sh o hp hi hd).2.1
  have hlt : id < H.length := (List.getElem?_eq_some_iff.1 hi).1
  have hw : ∀ x, x < w.heap.size → only g x → av x := fun x _ hx => by rw [show x = g from hx]; exact hav
  have hidx : ∀ i oo, (H.set id o')[i]? = some oo → (i ≠ id ∧ H[i]? = some oo) ∨ (i = id ∧ oo = o') := by
    intro i oo hh
    rw [List.getElem?_set] at hh
    by_cases he : id = i
    · subst he; simp [hlt] at hh; exact .inr ⟨rfl, hh.symm⟩
    · rw [if_neg he] at hh; exact .inl ⟨fun x => he x.symm, hh⟩
  refine ⟨?_, ?_, fun x hx => Nat.lt_of_lt_of_le (h.avb x hx) e.len, fun x hx => Nat.lt_of_lt_of_le (h.exb x hx) e.len, Nat.le_trans h.bsz e.len⟩
  · intro i g' sh' oo hp' hh hdd
    rcases hidx i oo hh with ⟨hne, hq⟩ | ⟨rfl, rfl⟩
    · obtain ⟨h1, h2, ob, h3, h4⟩ := h.obj i g' sh' oo hp' hq hdd
      have hne' : g' ≠ g := fun he => hne (h.inj i id g sh' sh oo o (he ▸ hp') hq hdd hp hi hd)
      exact ⟨h1, h2, ob, by rw [e.blk g' (h.avb g' h2) hne']; exact h3, h4.mono e hw⟩
    · rw [hp] at hp'
      simp only [Option.some.injEq, Prod.mk.injEq] at hp'
      obtain ⟨rfl, rfl⟩ := hp'
      exact ⟨(h.obj i g sh o hp hi hd).1, hav, ob', hb, ho⟩
  · intro i i' g' s1 s2 o1 o2 hp1 hh1 hd1 hp2 hh2 hd2
    rcases hidx i o1 hh1 with ⟨hn1, hq1⟩ | ⟨rfl, rfl⟩ <;> rcases hidx i' o2 hh2 with ⟨hn2, hq2⟩ | ⟨rfl, rfl⟩
    · exact h.inj i i' g' s1 s2 o1 o2 hp1 hq1 hd1 hp2 hq2 hd2
    · rw [hp] at hp2
      simp only [Option.some.injEq, Prod.mk.injEq] at hp2
      obtain ⟨rfl, rfl⟩ := hp2
      exact h.inj i i' g s1 sh o1 o hp1 hq1 hd1 hp hi hd
    · rw [hp] at hp1
      simp only [Option.some.injEq, Prod.mk.injEq] at hp1
      obtain ⟨rfl, rfl⟩ := hp1
      exact h.inj i i' g sh s2 o o2 hp hi hd hp2 hq2 hd2
    · rfl

/-- an object is given up -/
theorem HRel.drop {P : Program} {B : Nat} {π : PMap} {H : Heap} {w : World} {av ex : Nat → Prop} (h : HRel P B π H w av ex) (id : Nat) : HRel P B π (H.set id .dead) w av ex := by
  have hidx : ∀ (i : Nat) (oo : AObj), (H.set id .dead)[i]? = some oo → oo ≠ .dead → H[i]? = some oo := by
    intro i oo hh hd
    rw [List.getElem?_set] at hh
    split at hh
    · rename_i he
      split at hh
      · injection hh with hh; exact absurd hh.symm hd
      · cases hh
    · exact hh
  exact ⟨fun i g sh o hp hh hd => h.obj i g sh o hp (hidx i o hh hd) hd, fun i i' g s1 s2 o1 o2 hp1 hh1 hd1 hp2 hh2 hd2 => h.inj i i' g s1 s2 o1 o2 hp1 (hidx i o1 hh1 hd1) hd1 hp2 (hidx i' o2 hh2 hd2) hd2, h.avb, h.exb, h.bsz⟩

theorem Ev.setRow (π : PMap) (w : World) (av : Nat → Prop) {g : Nat} {cur new : Array Value} {el : TypeId} {fr : Nat × Nat} (hg : w.heap[g]? = some (.cells cur el fr)) (hs : new.size = cur.size) :
    Ev (only g) π w av π (w.setRow g new) av where
  map _ _ h := h
  blk x hx hn := setRow_other w g x new (fun e => hn e)
  siz x cc el' fr' h := by
    by_cases he : x = g
    · subst he
      rw [hg] at h
      simp only [Option.some.injEq, Obj.cells.injEq] at h
      obtain ⟨rfl, rfl, rfl⟩ := h
      exact ⟨new, setRow_heap w x _ _ _ _ hg, hs⟩
    · exact ⟨cc, (setRow_other w g x new he).trans h, rfl⟩
  lop x r h := by
    by_cases he : x = g
    · subst he; rw [hg] at h; cases h
    · exact ⟨r, (setRow_other w g x new he).trans h⟩
  sub _ _ h := h
  len := by simp [World.setRow]
  os := rfl
  tape := rfl
  out := rfl

end Go.Dn
