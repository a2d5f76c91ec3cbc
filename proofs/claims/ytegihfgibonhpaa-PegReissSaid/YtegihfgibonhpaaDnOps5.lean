/-
  Operations, part 5: a map written; new memory; places.
-/
import Derived.Test.YtegihfgibonhpaaDnOps4
set_option linter.unusedVariables false
set_option linter.unusedSimpArgs false
namespace Go.Dn

variable {P : Program} {B : Nat} {π : PMap} {H : Heap} {w : World} {av ex : Nat → Prop}

theorem Ev.setObj (π : PMap) (w : World) (av : Nat → Prop) {g : Nat} {ob ob' : Obj} (hg : w.heap[g]? = some ob) (hc : ∀ c e f, ob ≠ .cells c e f) (hlp : ∀ r, ob = .loop r → ∃ r', ob' = .loop r') : Ev (only g) π w av π { w with heap := w.heap.setIfInBounds g ob' } av where
  map _ _ h := h
  blk x hx hn := by
    show (w.heap.setIfInBounds g ob')[x]? = _
    rw [Array.getElem?_setIfInBounds, if_neg (fun e => hn e.symm)]
  siz x cc el' fr' h := by
    by_cases he : x = g
    · subst he
      rw [hg] at h
      injection h with h
      exact absurd h (hc _ _ _)
    · refine ⟨cc, ?_, rfl⟩
      show (w.heap.setIfInBounds g ob')[x]? = _
      rw [Array.getElem?_setIfInBounds, if_neg (fun e => he e.symm)]
      exact h
  lop x r h := by
    by_cases he : x = g
    · subst he
      rw [hg] at h
      injection h with h
      obtain ⟨r', hr⟩ := hlp r h
      refine ⟨r', ?_⟩
      show (w.heap.setIfInBounds x ob')[x]? = _
      have := (Array.getElem?_eq_some_iff.1 hg).1
      simp [this, hr]
    · refine ⟨r, ?_⟩
      show (w.heap.setIfInBounds g ob')[x]? = _
      rw [Array.getElem?_setIfInBounds, if_neg (fun e => he e.symm)]
      exact h
  sub _ _ h := h
  len := by simp
  os := rfl
  tape := rfl
  out := rfl

theorem heap_setObj {w : World} {g : Nat} {ob ob' : Obj} (hg : w.heap[g]? = some ob) : (w.heap.setIfInBounds g ob')[g]? = some ob' := by
  have := (Array.getElem?_eq_some_iff.1 hg).1
  simp [this]

theorem EsRel.push {π : PMap} {w : World} : ∀ {es : List (TV × TV × Nat)} {ces : List MapEntry} {k v : TV} {uk uv : Value} {n : Nat}, EsRel π w av ex es ces → VRel π w av ex k uk → VRel π w av ex v uv →
    EsRel π w av ex (es ++ [(k, v, n)]) (ces ++ [{ key := uk, val := uv, born := n }])
  | [], [], k, v, uk, uv, n, _, hk, hv => ⟨hk, hv, rfl, trivial⟩
  | (a, b, c) :: es, d :: ces, k, v, uk, uv, n, h, hk, hv => ⟨h.1, h.2.1, h.2.2.1, EsRel.push h.2.2.2 hk hv⟩
  | [], _ :: _, _, _, _, _, _, h, _, _ => h.elim
  | _ :: _, [], _, _, _, _, _, h, _, _ => h.elim

theorem EsRel.modify {π : PMap} {w : World} : ∀ {es : List (TV × TV × Nat)} {ces : List MapEntry} {k v : TV} {uk uv : Value} (i : Nat), EsRel π w av ex es ces → VRel π w av ex k uk → VRel π w av ex v uv →
    EsRel π w av ex (es.modify i fun e => (k, v, e.2.2)) (ces.modify i fun e => { e with key := uk, val := uv })
  | [], [], k, v, uk, uv, i, _, hk, hv => by simp [EsRel]
  | (a, b, c) :: es, d :: ces, k, v, uk, uv, 0, h, hk, hv => by simp only [List.modify_zero_cons]; exact ⟨hk, hv, h.2.2.1, h.2.2.2⟩
  | (a, b, c) :: es, d :: ces, k, v, uk, uv, i + 1, h, hk, hv => by simp only [List.modify_succ_cons]; exact ⟨h.1, h.2.1, h.2.2.1, EsRel.modify i h.2.2.2 hk hv⟩
  | [], _ :: _, _, _, _, _, _, h, _, _ => h.elim
  | _ :: _, [], _, _, _, _, _, h, _, _ => h.elim

theorem findK_key {kt : KT} {k : TV} : ∀ {es : List (TV × TV × Nat)} {i : Nat} {v : TV}, findK kt k es = some (some (i, v)) → ∃ k' v' n, es[i]? = some (k', v', n) ∧ eqK kt k k' = some true
  | [], i, v, h => by simp [findK] at h
  | (k', v', n) :: es, i, v, h => by
    simp only [findK, Option.bind_eq_some_iff] at h
    obtain ⟨e, he, h⟩ := h
    cases e with
    | true => simp only [if_true, Option.some.injEq, Prod.mk.injEq] at h; obtain ⟨rfl, rfl⟩ := h; exact ⟨k', v', n, rfl, he⟩
    | false =>
      simp only [Bool.false_eq_true, if_false, Option.map_eq_some_iff] at h
      obtain ⟨r, hr, h⟩ := h
      cases r with
      | none => simp at h
      | some r =>
        obtain ⟨j, u⟩ := r
        simp at h
        obtain ⟨rfl, rfl⟩ := h
        obtain ⟨a, b, c, h1, h2⟩ := findK_key hr
        exact ⟨a, b, c, by simpa using h1, h2⟩

theorem EsRel.get {π : PMap} {w : World} : ∀ {es : List (TV × TV × Nat)} {ces : List MapEntry} {i : Nat} {k v : TV} {n : Nat}, EsRel π w av ex es ces → es[i]? = some (k, v, n) → ∃ c, ces[i]? = some c ∧ VRel π w av ex k c.key
  | [], [], i, k, v, n, _, h => by simp at h
  | (a, b, c) :: es, d :: ces, 0, k, v, n, h, hi => by simp at hi; obtain ⟨rfl, rfl, rfl⟩ := hi; exact ⟨d, rfl, h.1⟩
  | (a, b, c) :: es, d :: ces, i + 1, k, v, n, h, hi => by simpa using EsRel.get h.2.2.2 (by simpa using hi)
  | [], _ :: _, _, _, _, _, h, _ => h.elim
  | _ :: _, [], _, _, _, _, h, _ => h.elim

theorem sameBits_scalar {c : Bool} {x y : TV} {u v : Value} (n : Nat) (he : eqS c x y = some true) (hx : VRel π w av ex x u) (hy : VRel π w av ex y v) : Instr.sameBits n v u = true := by
  cases hx <;> cases c <;> simp only [eqS] at he <;> (try (cases he; done)) <;> cases hy <;> (try simp only [eqS] at he) <;> (try (cases he; done))
  · injection he with he; simp at he; subst he; simp [Instr.sameBits]
  · split at he
    · rename_i hk; subst hk; injection he with he; simp at he; subst he; simp [Instr.sameBits]
    · cases he

theorem sameBits_list (n : Nat) : ∀ {ks : List Bool} {x y : List TV} {us vs : List Value}, eqL ks x y = some true → VsRel π w av ex x us → VsRel π w av ex y vs → ((vs.zip us).all fun (a, b) => Instr.sameBits n a b) = true ∧ vs.length = us.length
  | [], [], [], us, vs, _, hx, hy => by cases hx; cases hy; simp
  | c :: ks, a :: x, b :: y, us, vs, h, hx, hy => by
    simp only [eqL, Option.bind_eq_some_iff, Option.map_eq_some_iff, Bool.and_eq_true] at h
    obtain ⟨e1, h1, e2, h2, he⟩ := h
    obtain ⟨rfl, rfl⟩ := he
    cases hx with | cons _ u _ us hu hus => cases hy with | cons _ v _ vs hv hvs =>
    have ih := sameBits_list n h2 hus hvs
    simp [sameBits_scalar n h1 hu hv]
    exact ⟨by simpa using ih.1, ih.2⟩
  | [], _ :: _, _, _, _, h, _, _ => by simp [eqL] at h
  | [], [], _ :: _, _, _, h, _, _ => by simp [eqL] at h
  | _ :: _, [], _, _, _, h, _, _ => by simp [eqL] at h
  | _ :: _, _ :: _, [], _, _, h, _, _ => by simp [eqL] at h

theorem keyThatStays_sound {kt : KT} {k k' : TV} {u u' : Value} (he : eqK kt k k' = some true) (hx : VRel π w av ex k u) (hy : VRel π w av ex k' u') (w' : World) : (Instr.keyThatStays u' u).run P w' = .ok u w' := by
  have : Instr.sameBits 10000 u' u = true := by
    cases kt with
    | int => exact sameBits_scalar 10000 (by simpa [eqK] using he) hx hy
    | flat ks =>
      obtain ⟨xs, ys, rfl, rfl, he⟩ := eqK_flat he
      cases hx; cases hy
      rename_i us h1 vs h2
      have := sameBits_list 9999 he h1 h2
      show Instr.sameBits (9999 + 1) _ _ = true
      simp only [Instr.sameBits, Bool.and_eq_true, beq_iff_eq]
      exact ⟨by simpa using this.2, this.1⟩
  simp [Instr.keyThatStays, this]

theorem mset_sound (hH : HRel P B π H w av ex) {kt : KT} {m k v t : TV} {um uk uv : Value} {H' : Heap} {ty kty ety : TypeId} (hd : dk (.mset kt) [m, k, v] H = some (t, H')) (hm : VRel π w av ex m um) (hx : VRel π w av ex k uk) (hv : VRel π w av ex v uv)
    (hu : P.underlying ty = some (.map kty ety)) (hk : keyT P kty kt = true) :
    t = .undef ∧ ∃ g w', av g ∧ B ≤ g ∧ (Instr.mapUpdate ty um uk uv).run P w = .ok () w' ∧ Ev (only g) π w av π w' av ∧ HRel P B π H' w' av ex := by
  cases hm <;> simp only [dk] at hd <;> try (cases hd; done)
  rename_i id g hp
  split at hd
  · rename_i es ck hi
    simp only [Option.bind_eq_some_iff, Option.map_eq_some_iff] at hd
    obtain ⟨e, he, r, hr, hd⟩ := hd
    obtain ⟨hBg, hav, ob, hb, ho⟩ := hH.obj id g 0 _ hp hi (by simp)
    cases ob <;> simp only [ORel] at ho
    rename_i ces ck'
    obtain ⟨_, rfl, hes⟩ := ho
    have hck := checkKey_sound hk he hx false w
    obtain ⟨q, hq, hf⟩ := findKey_sound (P := P) hk hx w hr hes
    have hg : (getObj g).run P w = .ok (.map ces ck') w := by simp [getObj, Sem.run, hb]
    have hset : ∀ o, (setObj g o).run P w = .ok () { w with heap := w.heap.setIfInBounds g o } := fun o => by simp [setObj, Sem.run, hb]
    have hw : ∀ x, x < w.heap.size → only g x → av x := fun x _ hx => by rw [show x = g from hx]; exact hav
    cases r with
    | none =>
      cases q with
      | some q => exact hf.elim
      | none =>
        simp only [Prod.mk.injEq] at hd
        obtain ⟨rfl, rfl⟩ := hd
        have ev := Ev.setObj π w av (ob' := .map (ces.push { key := uk, val := uv, born := ck' }) (ck' + 1)) hb (by simp) (by simp)
        refine ⟨rfl, g, _, hav, hBg, ?_, ev, hH.set hp hi (by simp) ev _ _ (heap_setObj hb) ?_⟩
        · simp [Instr.mapUpdate, run_underlying hu, hg, hck, hq, hset]
        · refine ⟨rfl, rfl, ?_⟩
          have := (EsRel.push (n := ck') hes hx hv).mono ev hw
          simpa using this
    | some r =>
      obtain ⟨i, v0⟩ := r
      cases q with
      | none => exact hf.elim
      | some q =>
        obtain ⟨j, u0⟩ := q
        simp only [FRel, Nat.zero_add] at hf
        obtain ⟨rfl, _⟩ := hf
        simp only [Prod.mk.injEq] at hd
        obtain ⟨rfl, rfl⟩ := hd
        obtain ⟨k', v', n, h1, h2⟩ := findK_key hr
        obtain ⟨c, hc, hck'⟩ := hes.get h1
        have hkts : (Instr.keyThatStays c.key uk).run P w = .ok uk w := keyThatStays_sound h2 hx hck' w
        have hc' : ces[j]? = some c := by rwa [Array.getElem?_toList] at hc
        have ev := Ev.setObj π w av (ob' := .map (ces.modify j fun e => { e with key := uk, val := uv }) ck') hb (by simp) (by simp)
        refine ⟨rfl, g, _, hav, hBg, ?_, ev, hH.set hp hi (by simp) ev _ _ (heap_setObj hb) ?_⟩
        · simp [Instr.mapUpdate, run_underlying hu, hg, hck, hq, hset, hc', hkts]
        · refine ⟨rfl, rfl, ?_⟩
          have := (EsRel.modify j hes hx hv).mono ev hw
          simpa using this
  · cases hd

/-! ### a store -/
theorem st_sound (hH : HRel P B π H w av ex) {sz : Nat} {x v t : TV} {u uv : Value} {H' : Heap} {ty : TypeId} (hd : dk (.st sz) [x, v] H = some (t, H')) (hx : VRel π w av ex x u) (hv : VRel π w av ex v uv) (ht : szT P ty = some sz) :
    t = .undef ∧ ∃ g w', av g ∧ B ≤ g ∧ (Instr.storeAt ty u uv).run P w = .ok () w' ∧ Ev (only g) π w av π w' av ∧ HRel P B π H' w' av ex := by
  cases hx <;> simp only [dk] at hd <;> try (cases hd; done)
  rename_i id off g sh hp
  split at hd
  · rename_i c ag hi
    split at hd
    · rename_i hc
      obtain ⟨h1, h2, h3⟩ := hc
      injection hd with hd
      injection hd with ht' hH'
      subst ht'; subst hH'
      have hne : v ≠ .undef := by rintro rfl; simp [TV.cells, TV.one] at h2
      have hvc := hv.cells hne
      have hlen := hvc.length
      obtain ⟨w', hr, he, hh⟩ := write_sound hH (off := off) hp hi hvc h2 (by omega)
      obtain ⟨hB, hav, _⟩ := hH.obj id g sh _ hp hi (by simp)
      refine ⟨rfl, g, w', hav, hB, ?_, he, hh⟩
      have hs : uv.cells.size = sz := by rw [← h1, hlen]; simp
      simp [Instr.storeAt, Instr.sureAddr, storeVar, run_szOf P w ht, hs, hr]
    · cases hd
  · cases hd

/-! ### numbers as bounds -/
theorem bound_sound {x : TV} {n : Nat} {u : Value} (hb : bound x = some n) (hx : VRel π w av ex x u) : ∃ k, u = .int k n := by
  cases hx <;> simp only [bound] at hb <;> try (cases hb; done)
  rename_i k m
  split at hb
  · injection hb with hb; exact ⟨k, by rw [← hb]; congr 1; omega⟩
  · cases hb

theorem addr_add (g o n : Nat) : (⟨g, o, none⟩ : Addr).add n = ⟨g, o + n, none⟩ := Addr.add_mid g o n

/-! ### fields -/
theorem bp_part {bo : Bool} {g o off sz : Nat} {ag : Bool} {l : List TV} {us : List Value} {v : TV} (h : VsRel π w av ex l us) (hm : MemAt w g o us) (ha : us ≠ [] → ¬ av g ∧ (bo = false → ¬ ex g)) (hp : part sz ag off l = some v) :
    VRel π w av ex (.bp bo v) (.pointer (some ⟨g, o + off, none⟩)) := by
  unfold part at hp
  cases ag with
  | true =>
    simp only [if_true] at hp
    split at hp
    · injection hp with hp
      subst hp
      refine .bp bo _ g (o + off) ((us.drop off).take sz) (by simpa [TV.cells] using (h.drop off).take sz) ?_ ?_
      · intro j u hj
        rw [List.getElem?_take] at hj
        split at hj
        · rw [List.getElem?_drop] at hj
          have := hm _ _ hj
          rwa [show o + (off + j) = o + off + j by omega] at this
        · cases hj
      · intro hn; exact ha (by rintro rfl; simp at hn)
    · cases hp
  | false =>
    simp only [Bool.false_eq_true, if_false] at hp
    obtain ⟨y, hy, hr⟩ := h.get (part_get hp)
    have hna : v.isAgg = false := by
      cases hl : l[off]? with
      | none => simp [hl] at hp
      | some v' =>
        simp only [hl, Option.bind_some] at hp
        split at hp
        · cases hp
        · rename_i hh; injection hp with hp; subst hp; simpa using hh
    have hone : v.cells = [v] := by cases v <;> first | rfl | simp [TV.isAgg] at hna
    refine .bp bo v g (o + off) [y] (by rw [hone]; exact .cons _ _ _ _ hr .nil) ?_ ?_
    · intro j u hj
      cases j with
      | zero => simp at hj; subst hj; simpa using hm _ _ hy
      | succ j => simp at hj
    · intro _; exact ha (by rintro rfl; simp at hy)

theorem fadr_sound {off sz : Nat} {ag : Bool} {x t : TV} {u : Value} {H' : Heap} {ty : TypeId} {fs : Array Field} {f : Nat} {fd : Field} (hd : dk (.fadr off sz ag) [x] H = some (t, H')) (hx : VRel π w av ex x u)
    (hu : P.underlying ty = some (.struct fs)) (hf : fs[f]? = some fd) (ho : fd.offset = off) (ht : tyOk P fd.type sz ag = true) (hz : sz ≠ 0) (w' : World) :
    H' = H ∧ ∃ v, (Instr.fieldAt ty u f).run P w' = .ok v w' ∧ VRel π w av ex t v := by
  have hpl : ∀ g o, (fieldPlace ⟨g, o, none⟩ fd).run P w' = .ok ⟨g, o + off, none⟩ w' := fun g o => by
    simp [fieldPlace, run_szOf P w' (tyOk.sz ht), hz, ho, addr_add]
  cases hx <;> simp only [dk] at hd <;> try (cases hd; done)
  case ref id o g sh hp =>
    injection hd with hd
    injection hd with h1 h2
    subst h1; subst h2
    refine ⟨rfl, _, ?_, .ref id (o + off) g sh hp⟩
    simp [Instr.fieldAt, run_underlying hu, hf, Instr.sureAddr, hpl, Nat.add_assoc]
  case bp bo v g o us h hm ha =>
    cases v <;> simp only [] at hd <;> try (cases hd; done)
    rename_i l
    simp only [Option.map_eq_some_iff, Prod.mk.injEq] at hd
    obtain ⟨v, hp, rfl, rfl⟩ := hd
    exact ⟨rfl, .pointer (some ⟨g, o + off, none⟩), by simp [Instr.fieldAt, run_underlying hu, hf, Instr.sureAddr, hpl], bp_part h hm ha hp⟩

theorem fld_sound {off sz : Nat} {ag : Bool} {x t : TV} {u : Value} {H' : Heap} {ty : TypeId} {fs : Array Field} {f : Nat} {fd : Field} (hd : dk (.fld off sz ag) [x] H = some (t, H')) (hx : VRel π w av ex x u)
    (hu : P.underlying ty = some (.struct fs)) (hf : fs[f]? = some fd) (ho : fd.offset = off) (ht : tyOk P fd.type sz ag = true) (w' : World) :
    H' = H ∧ ∃ v, (Instr.field ty u f).run P w' = .ok v w' ∧ VRel π w av ex t v := by
  cases hx <;> simp only [dk] at hd <;> try (cases hd; done)
  rename_i l us h
  simp only [Option.map_eq_some_iff, Prod.mk.injEq] at hd
  obtain ⟨v, hp, rfl, rfl⟩ := hd
  obtain ⟨v', hv, hr⟩ := part_sound hp h ht w'
  exact ⟨rfl, v', by simp [Instr.field, run_underlying hu, hf, asAgg, ho, hv], hr⟩

/-! ### indexes -/
theorem asIntOf_int (k : IntKind) (n : Int) (w' : World) : (asIntOf (.int k n)).run P w' = .ok (k, n) w' := rfl

theorem flat_seg {sz : Nat} : ∀ {es : List TV} {i : Nat} {e : TV}, (∀ e, e ∈ es → e.cells.length = sz) → es[i]? = some e → ((es.flatMap TV.cells).drop (i * sz)).take sz = e.cells
  | [], i, e, _, h => by simp at h
  | a :: es, 0, e, hz, h => by simp at h; subst h; simp [← hz a (by simp)]
  | a :: es, i + 1, e, hz, h => by
    have ih := flat_seg (es := es) (fun e he => hz e (by simp [he])) (i := i) (e := e) (by simpa using h)
    simp only [List.flatMap_cons]
    have ha := hz a (by simp)
    rw [show (i + 1) * sz = a.cells.length + i * sz by rw [ha, Nat.succ_mul]; omega, ← List.drop_drop]
    simpa using ih

theorem ixS_sound {sz : Nat} {ag : Bool} {x y t : TV} {u uy : Value} {H' : Heap} {ty e : TypeId} (hd : dk (.ixS sz ag) [x, y] H = some (t, H')) (hx : VRel π w av ex x u) (hy : VRel π w av ex y uy)
    (hu : P.underlying ty = some (.slice e)) (ht : tyOk P e sz ag = true) (w' : World) :
    H' = H ∧ ∃ v, (Instr.indexAt ty u uy).run P w' = .ok v w' ∧ VRel π w av ex t v := by
  simp only [dk, Option.bind_eq_some_iff] at hd
  obtain ⟨i, hb, hd⟩ := hd
  obtain ⟨k, rfl⟩ := bound_sound hb hy
  have key : ∀ (g o len c : Nat), i < len → (Instr.indexAt ty (.slice (some ⟨g, o, none⟩) len c) (.int k (i : Int))).run P w' = .ok (.pointer (some ⟨g, o + i * sz, none⟩)) w' := by
    intro g o len c hl
    simp [Instr.indexAt, asIntOf_int, run_underlying hu, hl, run_szOf P w' (tyOk.sz ht), addr_add]
  cases hx <;> simp only [] at hd <;> try (cases hd; done)
  case sl id off sz' ag' len cap g sh c cc el fr hp hbl hlc hcap hs =>
    split at hd
    · rename_i hc
      obtain ⟨hl, rfl⟩ := hc
      injection hd with hd
      injection hd with h1 h2
      subst h1; subst h2
      exact ⟨rfl, _, key g (sh + off) len c hl, by rw [Nat.add_assoc]; exact .ref id (off + i * sz') g sh hp⟩
    · cases hd
  case bs bo sz' es g off c us h hz hm ha hl =>
    split at hd
    · rename_i hsz
      subst hsz
      simp only [Option.map_eq_some_iff, Prod.mk.injEq] at hd
      obtain ⟨e', he, rfl, rfl⟩ := hd
      have hi : i < es.length := (List.getElem?_eq_some_iff.1 he).1
      refine ⟨rfl, _, key g off es.length c hi, ?_⟩
      have hseg := flat_seg hz he
      refine .bp bo e' g (off + i * sz') ((us.drop (i * sz')).take sz') (by rw [← hseg]; exact (h.drop _).take _) ?_ ?_
      · intro j u hj
        rw [List.getElem?_take] at hj
        split at hj
        · rw [List.getElem?_drop] at hj
          have := hm _ _ hj
          rwa [show off + (i * sz' + j) = off + i * sz' + j by omega] at this
        · cases hj
      · intro hn; exact ha (by rintro rfl; simp at hn)
    · cases hd
  case bs0 bo sz' a c => simp at hd

theorem ixA_sound {n sz : Nat} {ag : Bool} {x y t : TV} {u uy : Value} {H' : Heap} {ty e : TypeId} (hd : dk (.ixA n sz ag) [x, y] H = some (t, H')) (hx : VRel π w av ex x u) (hy : VRel π w av ex y uy)
    (hu : P.underlying ty = some (.array n e)) (ht : tyOk P e sz ag = true) (w' : World) :
    H' = H ∧ ∃ v, (Instr.indexAt ty u uy).run P w' = .ok v w' ∧ VRel π w av ex t v := by
  simp only [dk, Option.bind_eq_some_iff] at hd
  obtain ⟨i, hb, hd⟩ := hd
  obtain ⟨k, rfl⟩ := bound_sound hb hy
  split at hd
  · rename_i hl
    have key : ∀ (g o : Nat), (Instr.indexAt ty (.pointer (some ⟨g, o, none⟩)) (.int k (i : Int))).run P w' = .ok (.pointer (some ⟨g, o + i * sz, none⟩)) w' := by
      intro g o
      simp [Instr.indexAt, asIntOf_int, run_underlying hu, hl, run_szOf P w' (tyOk.sz ht), addr_add, Instr.sureAddr]
    cases hx <;> (try simp only [] at hd) <;> (try (cases hd; done))
    case ref id o g sh hp =>
      injection hd with hd
      injection hd with h1 h2
      subst h1; subst h2
      exact ⟨rfl, _, key g (sh + o), by rw [Nat.add_assoc]; exact .ref id (o + i * sz) g sh hp⟩
    case bp bo v g o us h hm ha =>
      cases v <;> (try simp only [] at hd) <;> (try (cases hd; done))
      simp only [Option.map_eq_some_iff, Prod.mk.injEq] at hd
      obtain ⟨v, hp, rfl, rfl⟩ := hd
      exact ⟨rfl, _, key g o, bp_part h hm ha hp⟩
  · cases hd

theorem idx_sound {n sz : Nat} {ag : Bool} {x y t : TV} {u uy : Value} {H' : Heap} {ty e : TypeId} (hd : dk (.idx n sz ag) [x, y] H = some (t, H')) (hx : VRel π w av ex x u) (hy : VRel π w av ex y uy)
    (hu : P.underlying ty = some (.array n e)) (ht : tyOk P e sz ag = true) (w' : World) :
    H' = H ∧ ∃ v, (Instr.index ty u uy).run P w' = .ok v w' ∧ VRel π w av ex t v := by
  cases hx <;> simp only [dk] at hd <;> try (cases hd; done)
  rename_i l us h
  simp only [Option.bind_eq_some_iff] at hd
  obtain ⟨i, hb, hd⟩ := hd
  obtain ⟨k, rfl⟩ := bound_sound hb hy
  split at hd
  · rename_i hl
    simp only [Option.map_eq_some_iff, Prod.mk.injEq] at hd
    obtain ⟨v, hp, rfl, rfl⟩ := hd
    obtain ⟨v', hv, hr⟩ := part_sound hp h ht w'
    exact ⟨rfl, v', by simp [Instr.index, asIntOf_int, run_underlying hu, hl, run_szOf P w' (tyOk.sz ht), hv], hr⟩
  · cases hd

theorem ixStr_sound {x y t : TV} {u uy : Value} {H' : Heap} {ty : TypeId} (hd : dk .ixStr [x, y] H = some (t, H')) (hx : VRel π w av ex x u) (hy : VRel π w av ex y uy) (hu : P.underlying ty = some .string) (w' : World) :
    H' = H ∧ ∃ v, (Instr.index ty u uy).run P w' = .ok v w' ∧ VRel π w av ex t v := by
  cases hx <;> simp only [dk] at hd <;> try (cases hd; done)
  rename_i s
  simp only [Option.bind_eq_some_iff, Option.map_eq_some_iff, Prod.mk.injEq] at hd
  obtain ⟨i, hb, b, hs, rfl, rfl⟩ := hd
  obtain ⟨k, rfl⟩ := bound_sound hb hy
  exact ⟨rfl, _, by simp [Instr.index, asIntOf_int, run_underlying hu, hs], .i _ _⟩

end Go.Dn
