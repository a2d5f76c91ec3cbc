/-
  Operations, part 8: composed values, literals, make, append.
-/
import Derived.Test.YtegihfgibonhpaaDnOps7
import Derived.IntWalk
set_option linter.unusedVariables false
set_option linter.unusedSimpArgs false
namespace Go.Dn

variable {P : Program} {B : Nat} {π : PMap} {H : Heap} {w : World} {av ex : Nat → Prop}

theorem run_places : ∀ (fs : List Field) (w' : World), fs.all (fun f => (szT P f.type).isSome) = true →
    (fs.mapM fun f => (do pure (f.offset, ← sizeOf f.type) : Sem (Nat × Nat))).run P w' = .ok (fs.map fun f => (f.offset, (szT P f.type).getD 0)) w'
  | [], w', _ => by simp
  | f :: fs, w', h => by
    simp only [List.all_cons, Bool.and_eq_true] at h
    obtain ⟨n, hn⟩ := Option.isSome_iff_exists.1 h.1
    simp only [List.mapM_cons, Sem.run_bind, run_szOf P w' hn, Result.andThen_ok, Sem.run_pure, run_places fs w' h.2, List.map_cons, hn, Option.getD_some]

theorem build_sound {z : List TV} {ps : List (Nat × Nat)} {vs : List TV} {t : TV} {H' : Heap} {ty : TypeId} {parts : Array (Nat × Operand)} {ρ : Operand → Value} (hd : dk (.build z ps) vs H = some (t, H')) (hz : zeroOk P ty z = true)
    (hv : VsRel π w av ex vs ((parts.toList.map (·.2)).map ρ))
    (hp : (match P.underlying ty with
      | some (.struct fs) => ps == parts.toList.map fun (i, _) => match fs[i]? with | some f => (f.offset, (szT P f.type).getD 0) | none => (0, 0)
      | some (.array _ e) => ps == parts.toList.map fun (i, _) => (i * (szT P e).getD 0, (szT P e).getD 0)
      | _ => false) = true)
    (hq : (match P.underlying ty with
      | some (.struct fs) => parts.toList.all (fun (i, _) => i < fs.size) && fs.toList.all fun f => (szT P f.type).isSome
      | some (.array _ e) => (szT P e).isSome
      | _ => false) = true) :
    H' = H ∧ ∃ v, (Instr.build ty (parts.map fun (i, x) => (i, ρ x))).run P w = .ok v w ∧ VRel π w av ex t v := by
  simp only [dk, Option.map_eq_some_iff, Prod.mk.injEq] at hd
  obtain ⟨l, hl, rfl, rfl⟩ := hd
  obtain ⟨zv, hzr, hzc, _, _⟩ := run_zero P w hz
  have hzip : (parts.map fun (i, x) => (i, ρ x)).toList = (parts.toList.map (·.1)).zip ((parts.toList.map (·.2)).map ρ) := by
    rw [Array.toList_map]
    induction parts.toList with
    | nil => rfl
    | cons a l ih => simp [ih]
  refine ⟨rfl, ?_⟩
  split at hp
  · rename_i fs hu
    rw [hu] at hq
    simp only [Bool.and_eq_true, beq_iff_eq] at hp hq
    obtain ⟨us', hf, hr⟩ := fill_sound (place := ((fs.map fun f => (f.offset, (szT P f.type).getD 0))[·]?)) (is := parts.toList.map (·.1)) hl (chkVs_sound hzc) hv (by simp [hp]) (by
      intro j i p hi hpj
      rw [hp] at hpj
      simp only [List.getElem?_map, Option.map_eq_some_iff] at hi hpj
      obtain ⟨a, ha, rfl⟩ := hi
      obtain ⟨a', ha', rfl⟩ := hpj
      rw [ha] at ha'
      injection ha' with ha'
      subst ha'
      have hlt := List.all_eq_true.1 hq.1 a (List.mem_of_getElem? ha)
      simp only [decide_eq_true_eq] at hlt
      simp [Array.getElem?_eq_getElem hlt])
    refine ⟨.agg us', ?_, .agg _ _ hr⟩
    have hpl : (fs.mapM fun f => (do pure (f.offset, ← sizeOf f.type) : Sem (Nat × Nat))).run P w = .ok (fs.map fun f => (f.offset, (szT P f.type).getD 0)) w := by
      have := run_places (P := P) fs.toList w hq.2
      rw [Array.mapM_eq_mapM_toList, Sem.run_map, this]
      simp only [Result.andThen_ok]
      congr 1
      apply Array.ext'
      simp
    unfold Instr.build
    simp only [Sem.run_bind, hzr, run_underlying hu, Result.andThen_ok]
    rw [hpl]
    simp only [Result.andThen_ok]
    rw [hzip, hf]
    rfl
  · rename_i n e hu
    rw [hu] at hq
    simp only [beq_iff_eq] at hp
    obtain ⟨sz, hsz⟩ := Option.isSome_iff_exists.1 hq
    rw [hsz] at hp
    simp only [Option.getD_some] at hp
    obtain ⟨us', hf, hr⟩ := fill_sound (place := fun i => some (i * sz, sz)) (is := parts.toList.map (·.1)) hl (chkVs_sound hzc) hv (by simp [hp]) (by
      intro j i p hi hpj
      rw [hp] at hpj
      simp only [List.getElem?_map, Option.map_eq_some_iff] at hi hpj
      obtain ⟨a, ha, rfl⟩ := hi
      obtain ⟨a', ha', rfl⟩ := hpj
      rw [ha] at ha'
      injection ha' with ha'
      subst ha'
      rfl)
    refine ⟨.agg us', ?_, .agg _ _ hr⟩
    unfold Instr.build
    simp only [Sem.run_bind, hzr, run_underlying hu, run_szOf P w hsz, Result.andThen_ok]
    rw [hzip, hf]
    rfl
  · cases hp

/-! ### rows of zeros -/
theorem repl_eq (z : List TV) (n : Nat) : repl z n = (List.replicate n z).flatten := by
  unfold repl
  split
  · rename_i x
    induction n with
    | zero => rfl
    | succ n ih => rw [List.replicate_succ, List.replicate_succ, List.flatten_cons, ← ih]; rfl
  · rfl

theorem flat_get (zc : List Value) (hpos : 0 < zc.length) : ∀ (n j : Nat), j < n * zc.length → (List.replicate n zc).flatten[j]? = zc[j % zc.length]?
  | 0, j, hj => by simp at hj
  | n + 1, j, hj => by
    rw [List.replicate_succ, List.flatten_cons, List.getElem?_append]
    split
    · rename_i hlt
      rw [Nat.mod_eq_of_lt hlt]
    · rename_i hge
      rw [flat_get zc hpos n (j - zc.length) (by rw [Nat.succ_mul] at hj; omega), ← Nat.mod_eq_sub_mod (by omega)]

theorem zeros_list (zc : Array Value) (n : Nat) : ((Array.range (n * zc.size)).map (zc[· % zc.size]!)).toList = (List.replicate n zc.toList).flatten := by
  apply List.ext_getElem?
  intro j
  have hl : ((List.replicate n zc.toList).flatten).length = n * zc.size := by simp
  by_cases hj : j < n * zc.size
  · have hpos : 0 < zc.size := by
      rcases Nat.eq_zero_or_pos zc.size with h0 | h0
      · rw [h0] at hj; simp at hj
      · exact h0
    have hmod := Nat.mod_lt j hpos
    rw [flat_get zc.toList (by simpa using hpos) n j (by simpa using hj)]
    have h1 : ((Array.range (n * zc.size)).map (zc[· % zc.size]!)).toList[j]? = some (zc[j % zc.size]!) := by
      rw [Array.getElem?_toList, Array.getElem?_map, Array.getElem?_eq_getElem (by simpa using hj)]
      simp
    rw [h1]
    rw [Array.length_toList, Array.getElem?_toList, Array.getElem?_eq_getElem hmod, getElem!_pos zc _ hmod]
  · rw [List.getElem?_eq_none (by simp; omega), List.getElem?_eq_none (by rw [hl]; omega)]

theorem zeros_sound {z : List TV} {zc : Array Value} (h : VsRel π w av ex z zc.toList) (n : Nat) : VsRel π w av ex (repl z n) ((Array.range (n * zc.size)).map (zc[· % zc.size]!)).toList := by
  rw [repl_eq, zeros_list]
  induction n with
  | zero => simpa using VsRel.nil
  | succ n ih => simp only [List.replicate_succ, List.flatten_cons]; exact h.append ih

theorem repl_one {z : List TV} (h : z.all TV.one = true) (n : Nat) : (repl z n).all TV.one = true := by
  rw [repl_eq]
  induction n with
  | zero => rfl
  | succ n ih => simp only [List.replicate_succ, List.flatten_cons, List.all_append, h, ih, Bool.and_self]

theorem repl_length (z : List TV) (n : Nat) : (repl z n).length = n * z.length := by
  rw [repl_eq]; simp

theorem fillP_length : ∀ {z : List TV} {ps : List (Nat × Nat)} {vs : List TV} {l : List TV}, fillP z ps vs = some l → l.length = z.length
  | z, [], [], l, h => by simp [fillP] at h; subst h; rfl
  | z, [], _ :: _, l, h => by simp [fillP] at h
  | z, (a, b) :: ps, [], l, h => by simp [fillP] at h
  | z, (a, b) :: ps, v :: vs, l, h => by
    simp only [fillP] at h
    split at h <;> try (cases h; done)
    rename_i hc
    rw [fillP_length h]
    simp [put2]
    omega

theorem elems_spec {sz n : Nat} {ag : Bool} : ∀ {l : List TV}, l.length = n * sz → (ag = true ∨ sz = 1) → l.all TV.one = true → (elems sz ag n l).flatMap TV.cells = l ∧ (∀ e, e ∈ elems sz ag n l → e.cells.length = sz) ∧ (elems sz ag n l).length = n := by
  intro l hl ha ho
  unfold elems
  cases ag with
  | true =>
    simp only [if_true]
    clear ha ho
    induction n generalizing l with
    | zero => simp at hl; subst hl; simp [chunk]
    | succ n ih =>
      rw [Nat.succ_mul] at hl
      obtain ⟨h1, h2, h3⟩ := ih (l := l.drop sz) (by simp; omega)
      refine ⟨by simp [chunk, h1, TV.cells], ?_, by simp [chunk, h3]⟩
      intro e he
      simp only [chunk, List.mem_cons] at he
      rcases he with rfl | he
      · simp [TV.cells]; omega
      · exact h2 e he
  | false =>
    have hs : sz = 1 := by simpa using ha
    subst hs
    simp only [Bool.false_eq_true, if_false]
    have hc : ∀ e, e ∈ l → e.cells = [e] := fun e he => by
      have := List.all_eq_true.1 ho e he
      cases e <;> first | rfl | simp [TV.one] at this
    refine ⟨?_, fun e he => by simp [hc e he], by omega⟩
    clear hl ho
    induction l with
    | nil => rfl
    | cons a l ih => simp [hc a (by simp), ih fun e he => hc e (by simp [he])]

theorem bsl_sound (W : Bool) (hH : HRel P B π H w av ex) {byV : Bool} {z : List TV} {ag : Bool} {len : Nat} {ix : List Nat} {vs : List TV} {t : TV} {H' : Heap} (hf : H.length < H'.length → π H.length = none) {ty e : TypeId} {parts : Array (Nat × Operand)} {ρ : Operand → Value}
    (hd : dk (.bsl byV z ag len ix) vs H = some (t, H')) (hv : VsRel π w av ex vs ((parts.toList.map (·.2)).map ρ)) (hix : ix = parts.toList.map (·.1)) (hu : P.underlying ty = some (.slice e)) (hz : zeroOk P e z = true)
    (ht : tyOk P e z.length ag = true) (hb : len * z.length ≤ 16777216) :
    ∃ v w' π' av', (Instr.buildSlice ty len (parts.map fun (i, x) => (i, ρ x))).run P w = .ok v w' ∧ VRel π' w' av' ex t v ∧ Res P B (wrK B av W) π H w av ex H' w' π' av' := by
  simp only [dk] at hd
  split at hd <;> try (cases hd; done)
  rename_i hag
  simp only [Option.bind_eq_some_iff] at hd
  obtain ⟨l, hl, hd⟩ := hd
  split at hd <;> try (cases hd; done)
  rename_i hone
  obtain ⟨zv, hzr, hzc, hzo, _⟩ := run_zero P w hz
  have hzv := chkVs_sound (π := π) (w := w) (av := av) (ex := ex) hzc
  have hzl := hzv.length
  simp at hzl
  have hzip : (parts.map fun (i, x) => (i, ρ x)).toList = (parts.toList.map (·.1)).zip ((parts.toList.map (·.2)).map ρ) := by
    rw [Array.toList_map]
    induction parts.toList with
    | nil => rfl
    | cons a l ih => simp [ih]
  have hz2 := zeros_sound hzv len
  obtain ⟨us', hfl, hr⟩ := fill_sound (place := fun i => some (i * z.length, z.length)) (is := parts.toList.map (·.1)) hl hz2 hv (by simp [hix]) (by
    intro j i p hi hpj
    rw [hix] at hpj
    simp only [List.getElem?_map, Option.map_eq_some_iff] at hi hpj
    obtain ⟨a, ha, rfl⟩ := hi
    obtain ⟨a', ⟨a'', ha'', rfl⟩, rfl⟩ := hpj
    rw [ha] at ha''
    injection ha'' with ha''
    subst ha''
    rfl)
  have hll : l.length = len * z.length := by rw [fillP_length hl, repl_length]
  have hrun : (Instr.buildSlice ty len (parts.map fun (i, x) => (i, ρ x))).run P w = .ok (.slice (some ⟨w.heap.size, 0, none⟩) len len) (w.alloc (.cells us' e)) := by
    unfold Instr.buildSlice
    simp only [Sem.run_bind, run_underlying hu, run_szOf P w (tyOk.sz ht), Result.andThen_ok]
    rw [if_neg (by omega)]
    by_cases h0 : len * z.length = 0
    · rw [if_pos h0]
      simp only [Sem.run_bind, Sem.run_pure, Result.andThen_ok]
      have e0 : ((Array.range (len * z.length)).map ((#[] : Array Value)[· % (#[] : Array Value).size]!)) = ((Array.range (len * zv.cells.size)).map (zv.cells[· % zv.cells.size]!)) := by
        rw [← hzl, h0]; simp
      rw [e0, hzip, hfl]
      simp [newRow]
    · rw [if_neg h0]
      simp only [Sem.run_bind, hzr, Sem.run_pure, Result.andThen_ok]
      have e0 : ((Array.range (len * z.length)).map (zv.cells[· % zv.cells.size]!)) = ((Array.range (len * zv.cells.size)).map (zv.cells[· % zv.cells.size]!)) := by rw [← hzl]
      rw [e0, hzip, hfl]
      simp [newRow]
  have hlen2 := hr.length
  simp at hlen2
  cases byV with
  | true =>
    simp only [if_true, Option.some.injEq, Prod.mk.injEq] at hd
    obtain ⟨rfl, rfl⟩ := hd
    have ev := Ev.alloc none' π w av (.cells us' e)
    obtain ⟨h1, h2, h3⟩ := elems_spec hll hag hone
    refine ⟨_, _, π, av, hrun, ?_, ⟨Ev.alloc _ π w av _, hH.alloc _, fun _ x => absurd rfl x, fun _ x => x, Nat.le_refl _, fun _ _ _ x => absurd rfl x⟩⟩
    have := VRel.bs (π := π) (w := w.alloc (.cells us' e)) (av := av) (ex := ex) false z.length (elems z.length ag len l) w.heap.size 0 len us'.toList (by rw [h1]; exact hr.mono ev fun _ _ x => x.elim) h2
      (fun j u hj => by rw [Nat.zero_add]; exact heap_alloc_cell w _ _ j u (by simpa using hj)) (fun _ => ⟨fun h => absurd (hH.avb _ h) (by omega), fun _ h => absurd (hH.exb _ h) (by omega)⟩) (by omega)
    rwa [h3] at this
  | false =>
    simp only [Bool.false_eq_true, if_false, Option.some.injEq, Prod.mk.injEq] at hd
    obtain ⟨rfl, rfl⟩ := hd
    have hf := hf (by simp)
    refine ⟨_, _, _, _, hrun, ?_, new_cells W hH hf e false hr hone (fun j u h => VsRel.self_get rfl j u h) (by omega)⟩
    exact VRel.sl H.length 0 z.length ag len (some len) w.heap.size 0 len us' e (0, 0) (PMap.add_self _ _ _) (heap_push_eq w _) (Nat.le_refl _) (fun k hk => by simpa using hk.symm) (by omega)

theorem mksl_sound (W : Bool) (hH : HRel P B π H w av ex) (hf : π H.length = none) {z : List TV} {ag : Bool} {bytes : Nat} {l c t : TV} {ul uc : Value} {H' : Heap} {ty e : TypeId} (hd : dk (.mksl z ag bytes) [l, c] H = some (t, H'))
    (hl : VRel π w av ex l ul) (hc : VRel π w av ex c uc) (hu : P.underlying ty = some (.slice e)) (hz : zeroOk P e z = true) (ht : tyOk P e z.length ag = true) (hby : (P.info? e).map (·.bytes) = some bytes) :
    ∃ v w' π' av', (Instr.makeSlice ty ul uc).run P w = .ok v w' ∧ VRel π' w' av' ex t v ∧ Res P B (wrK B av W) π H w av ex H' w' π' av' := by
  simp only [dk, Option.bind_eq_some_iff] at hd
  obtain ⟨n, hn, m, hm, hd⟩ := hd
  obtain ⟨k1, rfl⟩ := bound_sound hn hl
  obtain ⟨k2, rfl⟩ := bound_sound hm hc
  split at hd <;> try (cases hd; done)
  rename_i hcnd
  obtain ⟨h1, h2, h3⟩ := hcnd
  injection hd with hd
  injection hd with hd1 hd2
  subst hd1; subst hd2
  obtain ⟨zv, hzr, hzc, hzo, _⟩ := run_zero P w hz
  have hzv := chkVs_sound (π := π) (w := w) (av := av) (ex := ex) hzc
  have hzl := hzv.length
  simp at hzl
  have hz2 := zeros_sound hzv m
  have hlen := hz2.length
  rw [repl_length] at hlen
  simp at hlen
  cases hq : P.info? e with
  | none => simp [hq] at hby
  | some i =>
    have hib : i.bytes = bytes := by simpa [hq] using hby
    have hwr : ∀ a : Nat, a ≤ 140737488355328 → IntKind.i64.wrap (a : Int) = a := fun a ha => IntWalk.i64_in _ (by omega)
    have hrun : (Instr.makeSlice ty (.int k1 (n : Int)) (.int k2 (m : Int))).run P w = .ok (.slice (some ⟨w.heap.size, 0, none⟩) n m) (w.alloc (.cells ((Array.range (m * zv.cells.size)).map (zv.cells[· % zv.cells.size]!)) e)) := by
      unfold Instr.makeSlice
      have hb2 : (bytes : Int) * (m : Int) ≤ 140737488355328 := by rw [← Int.natCast_mul]; omega
      have h48 : (2 : Int) ^ 48 = 281474976710656 := by decide
      simp only [Sem.run_bind, run_underlying hu, asInt, asIntOf_int, Sem.run_pure, Result.andThen_ok, typeInfo, run_program, hq, hib, hwr n (by omega), hwr m h3]
      simp only [h48]
      rw [if_neg (by simp; omega)]
      simp only [Sem.run_bind, Sem.run_pure, Result.andThen_ok, run_askRoom, run_szOf P w (tyOk.sz ht), Int.toNat_natCast]
      by_cases h0 : m * z.length = 0
      · rw [if_pos h0]
        have e0 : ((Array.range (m * z.length)).map ((#[] : Array Value)[· % (#[] : Array Value).size]!)) = ((Array.range (m * zv.cells.size)).map (zv.cells[· % zv.cells.size]!)) := by rw [← hzl, h0]; simp
        simp only [Sem.run_bind, Sem.run_pure, Result.andThen_ok]
        rw [e0]
        simp [newRow]
      · rw [if_neg h0]
        have e0 : ((Array.range (m * z.length)).map (zv.cells[· % zv.cells.size]!)) = ((Array.range (m * zv.cells.size)).map (zv.cells[· % zv.cells.size]!)) := by rw [← hzl]
        simp only [Sem.run_bind, hzr, Sem.run_pure, Result.andThen_ok]
        rw [e0]
        simp [newRow]
    refine ⟨_, _, _, _, hrun, ?_, new_cells W hH hf e false hz2 (repl_one hzo m) (fun j u h => VsRel.self_get rfl j u h) (by rw [repl_length, hlen]; simp)⟩
    exact VRel.sl H.length 0 z.length ag n (some m) w.heap.size 0 m _ e (0, 0) (PMap.add_self _ _ _) (heap_push_eq w _) h1 (fun k hk => by simpa using hk.symm) (by simp; omega)

end Go.Dn
