/-
  Operations, part 4: maps.
-/
import Derived.Test.YtegihfgibonhpaaDnOps3
set_option linter.unusedVariables false
set_option linter.unusedSimpArgs false
namespace Go.Dn

variable {P : Program} {B : Nat} {π : PMap} {H : Heap} {w : World} {av ex : Nat → Prop}

theorem checkKey_scalar {t : TypeId} {c : Bool} (hs : scalarT P t c = true) (em : Bool) (n : Nat) (v : Value) (w' : World) : (Instr.checkKey em (n + 1) t v).run P w' = .ok () w' := by
  unfold scalarT at hs
  split at hs <;> first | (cases hs; done) | (rename_i h; simp [Instr.checkKey, run_underlying h])

theorem checkKey_fields {us : Array Value} (em : Bool) (n : Nat) : ∀ (fs : List Field) (ks : List Bool) (o : Nat) (w' : World), flatFs P fs ks o = true → o + fs.length ≤ us.size →
    (forIn fs PUnit.unit fun f r => (if f.name ≠ "_" then (do let a ← Go.part f.type us f.offset; Instr.checkKey em (n + 1) f.type a; pure (ForInStep.yield PUnit.unit)) else pure (ForInStep.yield PUnit.unit) : Sem (ForInStep PUnit))).run P w' = .ok PUnit.unit w'
  | [], _, _, w', _, _ => by simp
  | f :: fs, [], _, _, h, _ => by simp [flatFs] at h
  | f :: fs, c :: ks, o, w', h, hl => by
    simp only [flatFs, Bool.and_eq_true, bne_iff_ne, ne_eq, beq_iff_eq] at h
    obtain ⟨⟨⟨hn, ho⟩, hs⟩, hr⟩ := h
    have ih := checkKey_fields (us := us) em n fs ks (o + 1) w' hr (by simp at hl; omega)
    have hlt : o < us.size := by simp at hl; omega
    have hu : us[o]? = some us[o] := Array.getElem?_eq_getElem hlt
    rw [List.forIn_cons]
    simp only [ne_eq, hn, not_false_eq_true, if_true, Sem.run_bind, ho, scalar_part hs hu w', checkKey_scalar hs, Result.andThen_ok, Sem.run_pure]
    simpa using ih

theorem eqL_length : ∀ {ks : List Bool} {x y : List TV} {e : Bool}, eqL ks x y = some e → x.length = ks.length ∧ y.length = ks.length
  | [], [], [], _, _ => by simp
  | c :: ks, x :: xs, y :: ys, e, h => by
    simp only [eqL, Option.bind_eq_some_iff, Option.map_eq_some_iff] at h
    obtain ⟨_, _, _, h2, _⟩ := h
    have := eqL_length h2
    simp [this]
  | [], _ :: _, _, _, h => by simp [eqL] at h
  | [], [], _ :: _, _, h => by simp [eqL] at h
  | _ :: _, [], _, _, h => by simp [eqL] at h
  | _ :: _, _ :: _, [], _, h => by simp [eqL] at h

theorem flatFs_length : ∀ {fs : List Field} {ks : List Bool} {n : Nat}, flatFs P fs ks n = true → fs.length = ks.length
  | [], [], _, _ => rfl
  | _ :: fs, _ :: ks, n, h => by
    simp only [flatFs, Bool.and_eq_true] at h
    simp [flatFs_length h.2]
  | [], _ :: _, _, h => by simp [flatFs] at h
  | _ :: _, [], _, h => by simp [flatFs] at h

theorem eqK_flat {ks : List Bool} {k k' : TV} {e : Bool} (h : eqK (.flat ks) k k' = some e) : ∃ xs ys, k = .agg xs ∧ k' = .agg ys ∧ eqL ks xs ys = some e := by
  cases k <;> simp only [eqK] at h <;> try (cases h; done)
  cases k' <;> simp only [eqK] at h <;> try (cases h; done)
  exact ⟨_, _, rfl, rfl, h⟩

theorem checkKey_sound {kt : KT} {t : TypeId} {k k' : TV} {u : Value} {e : Bool} (hk : keyT P t kt = true) (he : eqK kt k k' = some e) (hx : VRel π w av ex k u) (em : Bool) (w' : World) :
    (Instr.checkKey em 10000 t u).run P w' = .ok () w' := by
  show (Instr.checkKey em (9998 + 1 + 1) t u).run P w' = .ok () w'
  cases kt with
  | int =>
    simp only [keyT] at hk
    split at hk
    · rename_i h
      simp only [eqK] at he
      cases hx <;> simp only [eqS] at he <;> try (cases he; done)
      unfold Instr.checkKey
      simp [run_underlying h]
    · cases hk
  | flat ks =>
    simp only [keyT, Bool.and_eq_true] at hk
    obtain ⟨h1, h2⟩ := hk
    split at h2
    · rename_i fs hu
      obtain ⟨xs, ys, rfl, rfl, he⟩ := eqK_flat he
      cases hx
      rename_i us h
      simp only [flatT, hu, Bool.and_eq_true] at h1
      have hl := (eqL_length he).1
      have hl2 := flatFs_length h1.1
      have hl3 := h.length
      have := checkKey_fields (P := P) (us := us) em 9998 fs.toList _ 0 w' h1.1 (by simp at hl3 hl2 ⊢; omega)
      unfold Instr.checkKey
      rw [Sem.run_bind, run_underlying hu, Result.andThen_ok]
      simp only [← Array.forIn_toList]
      simpa using this
    · cases h2

theorem eqK_int {k k' : TV} {u u' : Value} {e : Bool} (he : eqK .int k k' = some e) (hx : VRel π w av ex k u) (hy : VRel π w av ex k' u') (kk : IntKind) : Instr.sameNow (.int kk) u u' = some e := by
  simp only [eqK] at he
  cases hx <;> simp only [eqS] at he <;> try (cases he; done)
  cases hy <;> simp only [eqS] at he <;> try (cases he; done)
  split at he
  · rename_i hk; subst hk; injection he with he; subst he; simp [Instr.sameNow]
  · cases he

/-- what is found -/
def FRel (π : PMap) (w : World) (av ex : Nat → Prop) (n : Nat) : Option (Nat × TV) → Option (Nat × Value) → Prop
  | none, none => True
  | some (i, v), some (j, u) => j = n + i ∧ VRel π w av ex v u
  | _, _ => False

theorem findNow_sound {k : TV} {u : Value} (hx : VRel π w av ex k u) (kk : IntKind) : ∀ (es : List (TV × TV × Nat)) (ces : List MapEntry) (n : Nat) (r : Option (Nat × TV)), findK .int k es = some r → EsRel π w av ex es ces →
    ∃ q, Instr.findNow (.int kk) u ces n = some q ∧ FRel π w av ex n r q
  | [], [], n, r, h, _ => by simp only [findK, Option.some.injEq] at h; subst h; exact ⟨none, rfl, trivial⟩
  | (k', v, b) :: es, c :: ces, n, r, h, he => by
    obtain ⟨h1, h2, h3, h4⟩ := he
    simp only [findK, Option.bind_eq_some_iff] at h
    obtain ⟨e, heq, h⟩ := h
    simp only [Instr.findNow, eqK_int heq hx h1 kk]
    cases e with
    | true => simp only [if_true, Option.some.injEq] at h; subst h; exact ⟨_, rfl, by simp [FRel, h2]⟩
    | false =>
      simp only [Bool.false_eq_true, if_false, Option.map_eq_some_iff] at h
      obtain ⟨r', hr, rfl⟩ := h
      obtain ⟨q, hq, hf⟩ := findNow_sound hx kk es ces (n + 1) r' hr h4
      refine ⟨q, hq, ?_⟩
      cases r' <;> cases q <;> simp_all [FRel]
      omega
  | [], _ :: _, _, _, _, he => he.elim
  | _ :: _, [], _, _, _, he => he.elim

theorem findAsking_sound {ks : List Bool} {t : TypeId} (hf : flatT P t ks = true) {k : TV} {u : Value} (hx : VRel π w av ex k u) (w' : World) : ∀ (es : List (TV × TV × Nat)) (ces : List MapEntry) (n : Nat) (r : Option (Nat × TV)),
    findK (.flat ks) k es = some r → EsRel π w av ex es ces → ∃ q, (Instr.findAsking t u ces n).run P w' = .ok q w' ∧ FRel π w av ex n r q
  | [], [], n, r, h, _ => by simp only [findK, Option.some.injEq] at h; subst h; exact ⟨none, by simp [Instr.findAsking], trivial⟩
  | (k', v, b) :: es, c :: ces, n, r, h, he => by
    obtain ⟨h1, h2, h3, h4⟩ := he
    simp only [findK, Option.bind_eq_some_iff] at h
    obtain ⟨e, heq, h⟩ := h
    have hrun : (Op.equal t u c.key).run P w' = .ok e w' := by
      obtain ⟨xs, ys, rfl, rfl, heq⟩ := eqK_flat heq
      generalize c.key = ck at h1
      cases hx
      cases h1
      exact eqA_run hf heq (by assumption) (by assumption) 9998 w'
    simp only [Instr.findAsking, Sem.run_bind, hrun, Result.andThen_ok]
    cases e with
    | true => simp only [if_true, Option.some.injEq] at h; subst h; exact ⟨some (n, c.val), by simp, by simp [FRel, h2]⟩
    | false =>
      simp only [Bool.false_eq_true, if_false, Option.map_eq_some_iff] at h
      obtain ⟨r', hr, rfl⟩ := h
      obtain ⟨q, hq, hfr⟩ := findAsking_sound hf hx w' es ces (n + 1) r' hr h4
      refine ⟨q, by simpa using hq, ?_⟩
      cases r' <;> cases q <;> simp_all [FRel]
      omega
  | [], _ :: _, _, _, _, he => he.elim
  | _ :: _, [], _, _, _, he => he.elim

theorem findKey_sound {kt : KT} {t : TypeId} (hk : keyT P t kt = true) {k : TV} {u : Value} (hx : VRel π w av ex k u) (w' : World) {es : List (TV × TV × Nat)} {ces : List MapEntry} {r : Option (Nat × TV)}
    (h : findK kt k es = some r) (he : EsRel π w av ex es ces) : ∃ q, (Instr.findKey t u ces).run P w' = .ok q w' ∧ FRel π w av ex 0 r q := by
  cases kt with
  | int =>
    simp only [keyT] at hk
    split at hk
    · rename_i kk hu
      obtain ⟨q, hq, hf⟩ := findNow_sound hx kk es ces 0 r h he
      exact ⟨q, by simp [Instr.findKey, run_underlying hu, hq], hf⟩
    · cases hk
  | flat ks =>
    simp only [keyT, Bool.and_eq_true] at hk
    obtain ⟨h1, h2⟩ := hk
    split at h2
    · rename_i fs hu
      cases es with
      | nil =>
        cases ces with
        | cons => exact he.elim
        | nil => simp only [findK, Option.some.injEq] at h; subst h; exact ⟨none, by simp [Instr.findKey, run_underlying hu, Instr.findNow], trivial⟩
      | cons x es =>
        cases ces with
        | nil => exact he.elim
        | cons c ces =>
          obtain ⟨q, hq, hf⟩ := findAsking_sound h1 hx w' (x :: es) (c :: ces) 0 r h he
          exact ⟨q, by simp [Instr.findKey, run_underlying hu, Instr.findNow, Instr.sameNow, hq], hf⟩
    · cases h2

theorem lkp_sound (hH : HRel P B π H w av ex) {kt : KT} {z : TV} {ok : Bool} {m k t : TV} {um uk : Value} {H' : Heap} {ty kty ety : TypeId} (hd : dk (.lkp kt z ok) [m, k] H = some (t, H')) (hm : VRel π w av ex m um) (hx : VRel π w av ex k uk)
    (hu : P.underlying ty = some (.map kty ety)) (hk : keyT P kty kt = true) {i : TypeInfo} {zv : Value} (hi : P.info? ety = some i) (hz : i.zero = some zv) (hzv : chkV z zv = true) :
    H' = H ∧ ∃ v, (Instr.lookup ty um uk ok).run P w = .ok v w ∧ VRel π w av ex t v := by
  have hzr : VRel π w av ex z zv := chkV_sound hzv
  have hzrun : (zeroValue ety).run P w = .ok zv w := by simp [zeroValue, typeInfo, hi, hz]
  simp only [dk] at hd
  cases hm <;> simp only [] at hd <;> try (cases hd; done)
  case nilmap =>
    simp only [Option.map_eq_some_iff, Prod.mk.injEq] at hd
    obtain ⟨e, he, rfl, rfl⟩ := hd
    refine ⟨rfl, if ok then .tuple #[zv, .bool false] else zv, ?_, ?_⟩
    · have hck := checkKey_sound hk he hx true w
      obtain ⟨q, hq, hf⟩ := findKey_sound (P := P) hk hx w (es := []) (ces := []) (r := none) rfl trivial
      cases q with
      | some q => exact hf.elim
      | none =>
        simp [Instr.lookup, run_underlying hu, hck, hq, hzrun]
    · cases ok
      · simpa using hzr
      · simp only [if_true]; exact .tup _ _ (.cons _ _ _ _ hzr (.cons _ _ _ _ (.b _) .nil))
  case mp id g hp =>
    split at hd
    · rename_i es ck hi'
      simp only [Option.bind_eq_some_iff, Option.map_eq_some_iff] at hd
      obtain ⟨e, he, r, hr, hd⟩ := hd
      obtain ⟨_, _, ob, hb, ho⟩ := hH.obj id g 0 _ hp hi' (by simp)
      cases ob <;> simp only [ORel] at ho
      rename_i ces ck'
      obtain ⟨_, _, hes⟩ := ho
      have hck := checkKey_sound hk he hx ces.isEmpty w
      obtain ⟨q, hq, hf⟩ := findKey_sound (P := P) hk hx w hr hes
      have hrun : ∀ (vv : Value) (b : Bool), (match q with | some (_, v) => (v, true) | none => (zv, false)) = (vv, b) → (Instr.lookup ty (.map (some g)) uk ok).run P w = .ok (if ok then .tuple #[vv, .bool b] else vv) w := by
        intro vv b hvb
        have hg : (getObj g).run P w = .ok (.map ces ck') w := by simp [getObj, Sem.run, hb]
        cases q with
        | none => simp at hvb; obtain ⟨rfl, rfl⟩ := hvb; simp [Instr.lookup, run_underlying hu, hg, hck, hq, hzrun]
        | some q => obtain ⟨j, u⟩ := q; simp at hvb; obtain ⟨rfl, rfl⟩ := hvb; simp [Instr.lookup, run_underlying hu, hg, hck, hq, hzrun]
      cases r with
      | none =>
        cases q with
        | some q => exact hf.elim
        | none =>
          simp only [Prod.mk.injEq] at hd
          obtain ⟨rfl, rfl⟩ := hd
          refine ⟨rfl, _, hrun zv false rfl, ?_⟩
          cases ok
          · simpa using hzr
          · simp only [if_true]; exact .tup _ _ (.cons _ _ _ _ hzr (.cons _ _ _ _ (.b _) .nil))
      | some r =>
        obtain ⟨i', v⟩ := r
        cases q with
        | none => exact hf.elim
        | some q =>
          obtain ⟨j, u⟩ := q
          simp only [Prod.mk.injEq] at hd
          obtain ⟨rfl, rfl⟩ := hd
          refine ⟨rfl, _, hrun u true rfl, ?_⟩
          cases ok
          · simpa using hf.2
          · simp only [if_true]; exact .tup _ _ (.cons _ _ _ _ hf.2 (.cons _ _ _ _ (.b _) .nil))
    · cases hd

end Go.Dn
