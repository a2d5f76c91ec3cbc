/-
  Operations: all of them.
-/
import Derived.Test.YtegihfgibonhpaaDnOps9
set_option linter.unusedVariables false
set_option linter.unusedSimpArgs false
namespace Go.Dn

variable {P : Program} {B : Nat} {π : PMap} {H : Heap} {w : World} {av ex : Nat → Prop}

theorem EsRel.length : ∀ {es : List (TV × TV × Nat)} {ces : List MapEntry}, EsRel π w av ex es ces → es.length = ces.length
  | [], [], _ => rfl
  | _ :: _, _ :: _, h => by simp [EsRel.length h.2.2.2]
  | [], _ :: _, h => h.elim
  | _ :: _, [], h => h.elim

theorem len_sound (hH : HRel P B π H w av ex) {kd : Nat} {x : TV} {u : Value} {n : Nat} {ats : Array TypeId} {ty : TypeId} (hn : lenK kd x H = some n) (hx : VRel π w av ex x u)
    (ht : lenT P ats kd = true) :
    (Builtin.len_ ats ty #[u]).run P w = .ok (goInt n) w := by
  unfold lenT at ht
  cases h0 : ats[0]? with
  | none => rw [h0] at ht; simp at ht
  | some t0 =>
    rw [h0, Option.bind_some] at ht
    revert hn
    split at ht <;> (try (cases ht; done))
    · rename_i e hd
      intro hn
      cases hx <;> simp only [lenK] at hn <;> (try (cases hn; done)) <;> (injection hn with hn; subst hn; simp [Builtin.len_, h0, run_underlying hd])
    · rename_i hd
      intro hn
      cases hx <;> simp only [lenK] at hn <;> (try (cases hn; done)) <;> (injection hn with hn; subst hn; simp [Builtin.len_, h0, run_underlying hd])
    · rename_i k e hd
      intro hn
      cases hx <;> simp only [lenK] at hn <;> (try (cases hn; done))
      case nilmap => injection hn with hn; subst hn; simp [Builtin.len_, h0, run_underlying hd]
      case mp id g hp =>
        split at hn <;> try (cases hn; done)
        rename_i es ck hi
        injection hn with hn
        obtain ⟨_, _, ob, hb, ho⟩ := hH.obj id g 0 _ hp hi (by simp)
        cases ob <;> simp only [ORel] at ho
        rename_i ces ck'
        have := EsRel.length ho.2.2
        have hg : (getObj g).run P w = .ok (.map ces ck') w := by simp [getObj, Sem.run, hb]
        have e : n = ces.size := by rw [← hn, this]; simp
        subst e
        simp [Builtin.len_, h0, run_underlying hd, hg]

theorem fold_sound {f : Int → Int → Int} {g : Value → Value → Sem Value} (hg : ∀ k a b w', (g (.int k a) (.int k b)).run P w' = .ok (.int k (f a b)) w') :
    ∀ {xs : List TV} {x t : TV} {u : Value} {us : List Value} (w' : World), foldI f x xs = some t → VRel π w av ex x u → VsRel π w av ex xs us → ∃ v, (us.foldlM g u).run P w' = .ok v w' ∧ VRel π w av ex t v
  | [], x, t, u, us, w', h, hx, hs => by
    cases hs
    cases hx <;> simp only [foldI] at h <;> try (cases h; done)
    injection h with h
    subst h
    exact ⟨_, by simp, .i _ _⟩
  | y :: ys, x, t, u, us, w', h, hx, hs => by
    cases hs with | cons _ v _ vs hv hvs =>
    cases hx <;> cases hv <;> simp only [foldI] at h <;> try (cases h; done)
    split at h <;> try (cases h; done)
    rename_i hk
    subst hk
    obtain ⟨v, hr, hv⟩ := fold_sound hg w' h (.i _ _) hvs
    exact ⟨v, by simp [List.foldlM_cons, hg, hr], hv⟩

theorem OpOk.val {W : Bool} {s : Sem Value} {t : TV} {H' : Heap} (h : ∃ v w' π' av', s.run P w = .ok v w' ∧ VRel π' w' av' ex t v ∧ Res P B (wrK B av W) π H w av ex H' w' π' av') :
    OpOk P B W π H w av ex ((do Pure.pure (Next.value (← s)) : Sem Next).run P w) t H' := by
  obtain ⟨v, w', π', av', h1, h2, h3⟩ := h
  exact ⟨.value v, w', π', av', by simp [h1], .inl ⟨v, rfl, h2⟩, h3⟩

theorem OpOk.val0 {W : Bool} (hH : HRel P B π H w av ex) {s : Sem Value} {t : TV} {H' : Heap} (h : H' = H ∧ ∃ v, s.run P w = .ok v w ∧ VRel π w av ex t v) :
    OpOk P B W π H w av ex ((do Pure.pure (Next.value (← s)) : Sem Next).run P w) t H' := by
  obtain ⟨rfl, v, h1, h2⟩ := h
  exact OpOk.val ⟨v, w, π, av, h1, h2, Res.same _ hH⟩

theorem OpOk.unit (s : Sem Unit) {t : TV} {H' : Heap} (h : t = .undef ∧ ∃ g w', av g ∧ B ≤ g ∧ s.run P w = .ok () w' ∧ Ev (only g) π w av π w' av ∧ HRel P B π H' w' av ex) (hl : H.length ≤ H'.length) :
    OpOk P B true π H w av ex ((do s; Pure.pure Next.skip : Sem Next).run P w) t H' := by
  obtain ⟨rfl, g, w', ha, hB, hr, he, hh⟩ := h
  exact ⟨.skip, w', π, av, by simp [hr], .inr ⟨rfl, rfl⟩, ⟨he.wider fun x hx => by rw [show x = g from hx]; exact ⟨rfl, ha, hB⟩, hh, fun _ x => absurd rfl x, fun _ x => x, hl, fun _ _ _ x => absurd rfl x⟩⟩

theorem VRel.b_inv {x : Bool} {u : Value} (h : VRel π w av ex (.b x) u) : u = .bool x := by cases h; rfl
theorem VRel.i_inv {k : IntKind} {n : Int} {u : Value} (h : VRel π w av ex (.i k n) u) : u = .int k n := by cases h; rfl
theorem VRel.s_inv {x : ByteArray} {u : Value} (h : VRel π w av ex (.s x) u) : u = .string x := by cases h; rfl
theorem VRel.agg_inv {l : List TV} {u : Value} (h : VRel π w av ex (.agg l) u) : ∃ cs, u = .agg cs ∧ VsRel π w av ex l cs.toList := by cases h; exact ⟨_, rfl, by assumption⟩
theorem VRel.tup_inv {l : List TV} {u : Value} (h : VRel π w av ex (.tup l) u) : ∃ cs, u = .tuple cs ∧ VsRel π w av ex l cs.toList := by cases h; exact ⟨_, rfl, by assumption⟩

theorem dk_length {k : DK} {vs : List TV} {t : TV} {H' : Heap} (hd : dk k vs H = some (t, H')) : H.length ≤ H'.length ∨ True := .inr trivial

theorem map_pair {α : Type} {x : Option α} {f : α → TV} {t : TV} {H' : Heap} (h : (x.map fun v => (f v, H)) = some (t, H')) : H' = H ∧ x.map f = some t := by
  cases x with
  | none => cases h
  | some v => simp only [Option.map_some, Option.some.injEq, Prod.mk.injEq] at h; exact ⟨h.2.symm, by simp [h.1]⟩

set_option maxHeartbeats 1000000 in
/-- an operation that is no call does what the evaluator says -/
theorem dk_sound (hH : HRel P B π H w av ex) {k : DK} {a : List Opnd} {o : Oper} {vs : List TV} {t : TV} {H' : Heap} {ρ : Operand → Value} (hf : H.length < H'.length → π H.length = none)
    (hd : dk k vs H = some (t, H')) (hc : chkK P k a o.op = true) (hv : ∀ xs, chkOs a xs = true → VsRel π w av ex vs (xs.map ρ)) : OpOk P B k.W π H w av ex ((execOp ρ o).run P w) t H' := by
  generalize hop : o.op = op at hc
  unfold execOp
  rw [hop]
  cases k <;> cases op <;> simp only [chkK, Bool.and_eq_true, Bool.false_eq_true, decide_eq_true_eq, beq_iff_eq] at hc <;> (try (cases hc; done)) <;> (try (simp only [dk] at hd; cases hd; done)) <;> dsimp only
  case mv.move x =>
    obtain ⟨y, rfl, h1⟩ := (hv _ hc).inv1
    simp only [dk, Option.some.injEq, Prod.mk.injEq] at hd
    obtain ⟨rfl, rfl⟩ := hd
    exact OpOk.pure hH (v := ρ x) rfl h1
  case mv.assign x =>
    obtain ⟨y, rfl, h1⟩ := (hv _ hc).inv1
    simp only [dk, Option.some.injEq, Prod.mk.injEq] at hd
    obtain ⟨rfl, rfl⟩ := hd
    exact OpOk.pure hH (v := ρ x) rfl h1
  case pick.pick c x y =>
    obtain ⟨p, q, r, rfl, h1, h2, h3⟩ := (hv _ hc).inv3
    cases p <;> simp only [dk] at hd <;> try (cases hd; done)
    rename_i b
    simp only [Option.some.injEq, Prod.mk.injEq] at hd
    obtain ⟨rfl, rfl⟩ := hd
    refine OpOk.pure hH (v := if b then ρ x else ρ y) ?_ ?_
    · simp [h1.b_inv, asBool]
    · cases b
      · simpa using h3
      · simpa using h2
  case binI.binOp bop bop' ty x y yt =>
    obtain ⟨rfl, hc⟩ := hc
    obtain ⟨p, q, rfl, h1, h2⟩ := (hv _ hc).inv2
    simp only [dk, Option.map_eq_some_iff, Prod.mk.injEq] at hd
    obtain ⟨v, hb, rfl, rfl⟩ := hd
    obtain ⟨z, hz, hr⟩ := binI_sound (P := P) (w := w) (ty := ty) (ox := x) (oy := y) hb h1 h2
    exact OpOk.val0 hH ⟨rfl, z, hz, hr⟩
  case eqB.binOp neg bop ty x y yt =>
    obtain ⟨⟨rfl, hc⟩, ht⟩ := hc
    obtain ⟨p, q, rfl, h1, h2⟩ := (hv _ hc).inv2
    cases p <;> cases q <;> simp only [dk] at hd <;> try (cases hd; done)
    simp only [Option.some.injEq, Prod.mk.injEq] at hd
    obtain ⟨rfl, rfl⟩ := hd
    rw [h1.b_inv, h2.b_inv]
    split at ht <;> try (cases ht; done)
    exact OpOk.val0 hH ⟨rfl, _, eqB_sound (by assumption), .b _⟩
  case eqN.binOp kd neg bop ty x y yt =>
    obtain ⟨⟨rfl, hc⟩, ht⟩ := hc
    obtain ⟨p, q, rfl, h1, h2⟩ := (hv _ hc).inv2
    simp only [dk, Option.bind_eq_some_iff] at hd
    obtain ⟨b1, hb1, b2, hb2, hd⟩ := hd
    split at hd <;> try (cases hd; done)
    rename_i hpq
    simp only [Option.some.injEq, Prod.mk.injEq] at hd
    obtain ⟨rfl, rfl⟩ := hd
    exact OpOk.val0 hH ⟨rfl, _, eqN_sound ht hb1 hb2 hpq h1 h2, .b _⟩
  case eqA.binOp neg ks bop ty x y yt =>
    obtain ⟨⟨⟨rfl, hc⟩, ht⟩, hg⟩ := hc
    obtain ⟨p, q, rfl, h1, h2⟩ := (hv _ hc).inv2
    cases p <;> cases q <;> simp only [dk] at hd <;> try (cases hd; done)
    simp only [Option.map_eq_some_iff, Prod.mk.injEq] at hd
    obtain ⟨e, he, rfl, rfl⟩ := hd
    obtain ⟨us, hu, hus⟩ := h1.agg_inv
    obtain ⟨us', hu', hus'⟩ := h2.agg_inv
    rw [hu, hu']
    exact OpOk.val0 hH ⟨rfl, _, eqA_sound ht (by simpa using hg) he hus hus', .b _⟩
  case eqS.binOp neg bop ty x y yt =>
    obtain ⟨rfl, hc⟩ := hc
    obtain ⟨p, q, rfl, h1, h2⟩ := (hv _ hc).inv2
    cases p <;> cases q <;> simp only [dk] at hd <;> try (cases hd; done)
    simp only [Option.some.injEq, Prod.mk.injEq] at hd
    obtain ⟨rfl, rfl⟩ := hd
    rw [h1.s_inv, h2.s_inv]
    exact OpOk.val0 hH ⟨rfl, _, eqS_sound, .b _⟩
  case notB.unOp uop ty x =>
    cases uop <;> simp only [chkK, Bool.false_eq_true] at hc
    obtain ⟨p, rfl, h1⟩ := (hv _ hc).inv1
    cases p <;> simp only [dk] at hd <;> try (cases hd; done)
    simp only [Option.some.injEq, Prod.mk.injEq] at hd
    obtain ⟨rfl, rfl⟩ := hd
    rw [h1.b_inv]
    exact OpOk.val0 hH ⟨rfl, _, rfl, .b _⟩
  case negI.unOp k uop ty x =>
    cases uop <;> simp only [chkK, Bool.false_eq_true] at hc
    obtain ⟨p, rfl, h1⟩ := (hv _ hc).inv1
    cases p <;> simp only [dk] at hd <;> try (cases hd; done)
    split at hd <;> try (cases hd; done)
    rename_i hk
    subst hk
    simp only [Option.some.injEq, Prod.mk.injEq] at hd
    obtain ⟨rfl, rfl⟩ := hd
    rw [h1.i_inv]
    exact OpOk.val0 hH ⟨rfl, _, rfl, .i _ _⟩
  case xorI.unOp uop ty x =>
    cases uop <;> simp only [chkK, Bool.false_eq_true] at hc
    obtain ⟨p, rfl, h1⟩ := (hv _ hc).inv1
    cases p <;> simp only [dk] at hd <;> try (cases hd; done)
    simp only [Option.some.injEq, Prod.mk.injEq] at hd
    obtain ⟨rfl, rfl⟩ := hd
    rw [h1.i_inv]
    exact OpOk.val0 hH ⟨rfl, _, rfl, .i _ _⟩
  case conv.convert k sty dty x =>
    obtain ⟨⟨hc, hs⟩, ht⟩ := hc
    obtain ⟨p, rfl, h1⟩ := (hv _ hc).inv1
    cases p <;> simp only [dk] at hd <;> try (cases hd; done)
    simp only [Option.some.injEq, Prod.mk.injEq] at hd
    obtain ⟨rfl, rfl⟩ := hd
    rw [h1.i_inv]
    split at ht <;> try (cases ht; done)
    rename_i k' hu
    simp only [decide_eq_true_eq] at ht
    subst ht
    obtain ⟨d, hd⟩ := Option.isSome_iff_exists.1 hs
    refine OpOk.val0 hH ⟨rfl, _, ?_, .i _ _⟩
    simp [convert, run_underlying hd, run_underlying hu, Conv.intToInt]
  case alloc.alloc z ag ty =>
    obtain ⟨⟨hc, hz⟩, _⟩ := hc
    cases hv _ hc
    have hlt : H.length < H'.length := by
      simp only [dk, Option.some.injEq, Prod.mk.injEq] at hd
      rw [← hd.2]; simp
    exact OpOk.val (alloc_sound _ hH (hf hlt) hd hz)
  case box.box ag ty x =>
    obtain ⟨p, rfl, h1⟩ := (hv _ hc).inv1
    have hlt : H.length < H'.length := by
      simp only [dk] at hd
      split at hd <;> try (cases hd; done)
      simp only [Option.some.injEq, Prod.mk.injEq] at hd
      rw [← hd.2]; simp
    exact OpOk.val (box_sound _ hH (hf hlt) hd h1)
  case boxV.box ty x =>
    obtain ⟨p, rfl, h1⟩ := (hv _ hc).inv1
    exact OpOk.val (boxV_sound _ hH hd h1)
  case build.build z ps ty parts =>
    obtain ⟨⟨⟨hc, hz⟩, hp⟩, hq⟩ := hc
    exact OpOk.val0 hH (build_sound hd hz (hv _ hc) hp hq)
  case bsl.buildSlice byV z ag len ix ty len' parts =>
    obtain ⟨⟨⟨hc, rfl⟩, hix⟩, ht⟩ := hc
    split at ht <;> try (cases ht; done)
    rename_i e hu
    simp only [Bool.and_eq_true, decide_eq_true_eq] at ht
    obtain ⟨⟨hz, ht⟩, hb⟩ := ht
    exact OpOk.val (bsl_sound _ hH hf hd (hv _ hc) hix hu hz ht hb)
  case ld.load sz ag ty x =>
    obtain ⟨hc, ht⟩ := hc
    obtain ⟨p, rfl, h1⟩ := (hv _ hc).inv1
    exact OpOk.val0 hH (ld_sound hH hd h1 ht)
  case st.store sz ty x y =>
    obtain ⟨hc, ht⟩ := hc
    obtain ⟨p, q, rfl, h1, h2⟩ := (hv _ hc).inv2
    exact OpOk.unit _ (st_sound hH hd h1 h2 ht) (by
      cases p <;> simp only [dk] at hd <;> try (cases hd; done)
      split at hd <;> try (cases hd; done)
      split at hd <;> try (cases hd; done)
      simp only [Option.some.injEq, Prod.mk.injEq] at hd
      rw [← hd.2]; simp)
  case nilck.nilCheck x =>
    obtain ⟨p, rfl, h1⟩ := (hv _ hc).inv1
    simp only [dk] at hd
    split at hd <;> (try (cases hd; done)) <;> (simp only [Option.some.injEq, Prod.mk.injEq] at hd; obtain ⟨rfl, rfl⟩ := hd; generalize ρ x = u at h1; cases h1; exact OpOk.pure hH rfl (by constructor <;> assumption))
  case mkfn.makeFunc f nf fn first captured =>
    cases fn <;> simp only [chkK, Bool.false_eq_true, Bool.and_eq_true, beq_iff_eq] at hc
    obtain ⟨⟨rfl, rfl⟩, hc⟩ := hc
    have h1 := hv _ hc
    simp only [dk] at hd
    split at hd <;> try (cases hd; done)
    rename_i hnf
    simp only [Option.some.injEq, Prod.mk.injEq] at hd
    obtain ⟨rfl, rfl⟩ := hd
    refine OpOk.pure hH (v := .func (.func f) (first.map ρ) (captured.map ρ)) rfl ?_
    have h2 := h1.take first.size
    have h3 := h1.drop first.size
    refine .fn _ _ _ _ _ ?_ ?_
    · simpa [List.map_append, List.take_append] using h2
    · simpa [List.map_append, List.drop_append] using h3
  case mkmap.makeMap ty r =>
    obtain ⟨hc, ht⟩ := hc
    split at ht <;> try (cases ht; done)
    rename_i kt et hu
    have h1 := hv _ hc
    have hrun : (Instr.makeMap ty (r.map ρ)).run P w = .ok (.map (some w.heap.size)) (w.alloc (.map #[] 0)) ∧ t = .mp H.length ∧ H' = H ++ [.map [] 0] := by
      cases r with
      | none =>
        cases h1
        simp only [dk, Option.some.injEq, Prod.mk.injEq] at hd
        exact ⟨by simp [Instr.makeMap], hd.1.symm, hd.2.symm⟩
      | some r =>
        obtain ⟨p, rfl, h2⟩ := h1.inv1
        cases p <;> simp only [dk] at hd <;> try (cases hd; done)
        simp only [Option.some.injEq, Prod.mk.injEq] at hd
        refine ⟨?_, hd.1.symm, hd.2.symm⟩
        simp [Instr.makeMap, run_underlying hu, h2.i_inv, asInt, asIntOf_int]
    obtain ⟨hr, rfl, rfl⟩ := hrun
    have hf := hf (by simp)
    exact OpOk.val ⟨_, _, _, _, hr, .mp H.length w.heap.size (PMap.add_self _ _ _), Res.new _ hH hf _ _ (by simp) fun π' w' av' e => ⟨rfl, rfl, trivial⟩⟩
  case mksl.makeSlice z ag bytes ty l c =>
    obtain ⟨hc, ht⟩ := hc
    split at ht <;> try (cases ht; done)
    rename_i e hu
    simp only [Bool.and_eq_true, beq_iff_eq] at ht
    obtain ⟨⟨hz, ht⟩, hb⟩ := ht
    obtain ⟨p, q, rfl, h1, h2⟩ := (hv _ hc).inv2
    have hlt : H.length < H'.length := by
      simp only [dk, Option.bind_eq_some_iff] at hd
      obtain ⟨_, _, _, _, hd⟩ := hd
      split at hd <;> try (cases hd; done)
      simp only [Option.some.injEq, Prod.mk.injEq] at hd
      rw [← hd.2]; simp
    exact OpOk.val (mksl_sound _ hH (hf hlt) hd h1 h2 hu hz ht hb)
  case slc.slice lo hi mx sz ag ty x l h m =>
    obtain ⟨hc, ht⟩ := hc
    split at hc <;> try (cases hc; done)
    rename_i os hos
    split at ht <;> try (cases ht; done)
    rename_i e hu
    obtain ⟨p, r, rfl, h1, h2⟩ := (hv _ hc).inv_cons
    simp only [dk] at hd
    obtain ⟨rfl, hd⟩ := map_pair (f := id) hd
    exact OpOk.val0 hH ⟨rfl, slc_sound (by simpa using hd) h1 hos h2 hu ht w⟩
  case slcA.slice lo hi mx n sz ag ty x l h m =>
    obtain ⟨hc, ht⟩ := hc
    split at hc <;> try (cases hc; done)
    rename_i os hos
    split at ht <;> try (cases ht; done)
    rename_i n' e hu
    simp only [Bool.and_eq_true, beq_iff_eq] at ht
    obtain ⟨rfl, ht⟩ := ht
    obtain ⟨p, r, rfl, h1, h2⟩ := (hv _ hc).inv_cons
    simp only [dk] at hd
    obtain ⟨rfl, hd⟩ := map_pair (f := id) hd
    exact OpOk.val0 hH ⟨rfl, slcA_sound (by simpa using hd) hH h1 hos h2 hu ht⟩
  case fadr.fieldAddr off sz ag ty x f =>
    obtain ⟨⟨hc, hz⟩, ht⟩ := hc
    split at ht <;> try (cases ht; done)
    rename_i fs hu
    split at ht <;> try (cases ht; done)
    rename_i fd hfd
    simp only [Bool.and_eq_true, beq_iff_eq] at ht
    obtain ⟨p, rfl, h1⟩ := (hv _ hc).inv1
    exact OpOk.val0 hH (fadr_sound hd h1 hu hfd ht.1 ht.2 (by simpa using hz) w)
  case fld.field off sz ag ty x f =>
    obtain ⟨hc, ht⟩ := hc
    split at ht <;> try (cases ht; done)
    rename_i fs hu
    split at ht <;> try (cases ht; done)
    rename_i fd hfd
    simp only [Bool.and_eq_true, beq_iff_eq] at ht
    obtain ⟨p, rfl, h1⟩ := (hv _ hc).inv1
    exact OpOk.val0 hH (fld_sound hd h1 hu hfd ht.1 ht.2 w)
  case ixS.indexAddr sz ag ty x i =>
    obtain ⟨hc, ht⟩ := hc
    split at ht <;> try (cases ht; done)
    rename_i e hu
    obtain ⟨p, q, rfl, h1, h2⟩ := (hv _ hc).inv2
    exact OpOk.val0 hH (ixS_sound hd h1 h2 hu ht w)
  case ixA.indexAddr n sz ag ty x i =>
    obtain ⟨hc, ht⟩ := hc
    split at ht <;> try (cases ht; done)
    rename_i n' e hu
    simp only [Bool.and_eq_true, beq_iff_eq] at ht
    obtain ⟨rfl, ht⟩ := ht
    obtain ⟨p, q, rfl, h1, h2⟩ := (hv _ hc).inv2
    exact OpOk.val0 hH (ixA_sound hd h1 h2 hu ht w)
  case idx.index n sz ag ty x i =>
    obtain ⟨hc, ht⟩ := hc
    split at ht <;> try (cases ht; done)
    rename_i n' e hu
    simp only [Bool.and_eq_true, beq_iff_eq] at ht
    obtain ⟨rfl, ht⟩ := ht
    obtain ⟨p, q, rfl, h1, h2⟩ := (hv _ hc).inv2
    exact OpOk.val0 hH (idx_sound hd h1 h2 hu ht w)
  case ixStr.index ty x i =>
    obtain ⟨hc, ht⟩ := hc
    split at ht <;> try (cases ht; done)
    rename_i hu
    obtain ⟨p, q, rfl, h1, h2⟩ := (hv _ hc).inv2
    exact OpOk.val0 hH (ixStr_sound hd h1 h2 hu w)
  case lkp.lookup kt z ok ty m k ok' =>
    obtain ⟨⟨hc, rfl⟩, ht⟩ := hc
    split at ht <;> try (cases ht; done)
    rename_i kty ety hu
    simp only [Bool.and_eq_true] at ht
    obtain ⟨hk, ht⟩ := ht
    split at ht <;> try (cases ht; done)
    rename_i i hi
    split at ht <;> try (cases ht; done)
    rename_i zv hzv
    obtain ⟨p, q, rfl, h1, h2⟩ := (hv _ hc).inv2
    exact OpOk.val0 hH (lkp_sound hH hd h1 h2 hu hk hi hzv ht)
  case mset.mapUpdate kt ty m k v =>
    obtain ⟨hc, ht⟩ := hc
    split at ht <;> try (cases ht; done)
    rename_i kty ety hu
    obtain ⟨p, q, r, rfl, h1, h2, h3⟩ := (hv _ hc).inv3
    exact OpOk.unit _ (mset_sound hH hd h1 h2 h3 hu ht) (by
      cases p <;> simp only [dk] at hd <;> try (cases hd; done)
      split at hd <;> try (cases hd; done)
      simp only [Option.bind_eq_some_iff, Option.map_eq_some_iff] at hd
      obtain ⟨_, _, r', _, hd⟩ := hd
      cases r' <;> (simp only [Prod.mk.injEq] at hd; rw [← hd.2]; simp))
  case mset.insert kt ty m k v =>
    obtain ⟨hc, ht⟩ := hc
    split at ht <;> try (cases ht; done)
    rename_i kty ety hu
    obtain ⟨p, q, r, rfl, h1, h2, h3⟩ := (hv _ hc).inv3
    exact OpOk.unit _ (mset_sound hH hd h1 h2 h3 hu ht) (by
      cases p <;> simp only [dk] at hd <;> try (cases hd; done)
      split at hd <;> try (cases hd; done)
      simp only [Option.bind_eq_some_iff, Option.map_eq_some_iff] at hd
      obtain ⟨_, _, r', _, hd⟩ := hd
      cases r' <;> (simp only [Prod.mk.injEq] at hd; rw [← hd.2]; simp))
  case ext.extract n x n' =>
    obtain ⟨hc, rfl⟩ := hc
    obtain ⟨p, rfl, h1⟩ := (hv _ hc).inv1
    cases p <;> simp only [dk] at hd <;> try (cases hd; done)
    rename_i l
    obtain ⟨rfl, hd⟩ := map_pair (f := id) hd
    obtain ⟨cs, hcs, hl⟩ := h1.tup_inv
    obtain ⟨u, hu, hr⟩ := hl.get (by simpa using hd)
    rw [Array.getElem?_toList] at hu
    rw [hcs]
    exact OpOk.val0 hH ⟨rfl, u, by simp [Instr.extract, hu], hr⟩
  case app.call sz ag bytes c =>
    obtain ⟨callee, args, argTypes⟩ := c
    cases callee <;> (try (simp only [Bool.false_eq_true] at hc; done))
    rename_i bi
    cases bi <;> (try (simp only [Bool.false_eq_true] at hc; done))
    try simp only [Bool.and_eq_true] at hc
    obtain ⟨⟨hc, ht⟩, ht2⟩ := hc
    cases h0 : argTypes[0]? with
    | none => rw [h0] at ht; simp at ht
    | some t0 =>
      rw [h0, Option.bind_some] at ht
      split at ht <;> try (cases ht; done)
      rename_i e hu
      simp only [Bool.and_eq_true, beq_iff_eq, bne_iff_ne, ne_eq] at ht
      obtain ⟨⟨⟨⟨hty, hby⟩, hsz0⟩, hby0⟩, hz⟩ := ht
      split at hz <;> try (cases hz; done)
      rename_i i hi
      split at hz <;> try (cases hz; done)
      rename_i zv hzv
      simp only [beq_iff_eq] at hz
      cases h1 : argTypes[1]? with
      | none => rw [h1] at ht2; simp at ht2
      | some t1 =>
        simp only [h1] at ht2
        split at ht2 <;> try (cases ht2; done)
        rename_i e2 hu2
        have hvv := hv _ hc
        -- two arguments
        rcases vs with _ | ⟨p, _ | ⟨q, _ | ⟨r, rs⟩⟩⟩ <;> simp only [dk] at hd <;> try (cases hd; done)
        have hlen := hvv.length
        simp at hlen
        obtain ⟨x, y, hxy⟩ : ∃ x y, args = #[x, y] := by
          rcases args with ⟨l⟩
          rcases l with _ | ⟨x, _ | ⟨y, _ | ⟨z, r⟩⟩⟩ <;> simp at hlen
          exact ⟨x, y, rfl⟩
        subst hxy
        obtain ⟨p', q', hpq, g1, g2⟩ := hvv.inv2
        simp only [List.cons.injEq, and_true] at hpq
        obtain ⟨rfl, rfl⟩ := hpq
        have hisz : i.size = sz := by have := tyOk.sz hty; simp [szT, hi] at this; exact this
        have hiby : i.bytes = bytes := by simpa [hi] using hby
        obtain ⟨v, w', π', av', r1, r2, r3⟩ := app_sound (ty := o.type) hH hf hd g1 g2 h0 h1 hu hu2 hi hzv hisz hiby hz hsz0 hby0
        refine ⟨.value v, w', π', av', ?_, .inl ⟨v, rfl, r2⟩, r3⟩
        simp [resolve, invoke, builtin, r1]
  case len.call kd c =>
    obtain ⟨callee, args, argTypes⟩ := c
    cases callee <;> (try (simp only [Bool.false_eq_true] at hc; done))
    rename_i bi
    cases bi <;> (try (simp only [Bool.false_eq_true] at hc; done))
    try simp only [Bool.and_eq_true] at hc
    obtain ⟨hc, ht⟩ := hc
    have hvv := hv _ hc
    rcases vs with _ | ⟨p, _ | ⟨q, rs⟩⟩ <;> simp only [dk] at hd <;> try (cases hd; done)
    have hlen := hvv.length
    simp at hlen
    obtain ⟨x, hx⟩ : ∃ x, args = #[x] := by
      rcases args with ⟨l⟩
      rcases l with _ | ⟨x, _ | ⟨y, r⟩⟩ <;> simp at hlen
      exact ⟨x, rfl⟩
    subst hx
    obtain ⟨p', hp, g1⟩ := hvv.inv1
    simp only [List.cons.injEq, and_true] at hp
    subst hp
    simp only [Option.map_eq_some_iff, Prod.mk.injEq] at hd
    obtain ⟨n, hn, rfl, rfl⟩ := hd
    have hr := len_sound (ty := o.type) hH hn g1 ht
    refine OpOk.pure hH (v := goInt n) ?_ (.i _ _)
    simp [resolve, invoke, builtin, hr]
  case mxI.call c =>
    obtain ⟨callee, args, argTypes⟩ := c
    cases callee <;> (try (simp only [Bool.false_eq_true] at hc; done))
    rename_i bi
    cases bi <;> (try (simp only [Bool.false_eq_true] at hc; done))
    try simp only [Bool.and_eq_true] at hc
    have hvv := hv _ hc
    rcases vs with _ | ⟨p, xs⟩ <;> simp only [dk] at hd <;> try (cases hd; done)
    simp only [Option.map_eq_some_iff, Prod.mk.injEq] at hd
    obtain ⟨v, hfo, rfl, rfl⟩ := hd
    cases hl : args.toList with
    | nil => rw [hl] at hvv; cases hvv
    | cons x r =>
      rw [hl] at hvv
      obtain ⟨p', r', hp, g1, g2⟩ := hvv.inv_cons
      simp only [List.cons.injEq] at hp
      obtain ⟨rfl, rfl⟩ := hp
      obtain ⟨v', hr, hv'⟩ := fold_sound (P := P) (f := fun x y => if y > x then y else x) (g := Builtin.max2) (fun k a b w' => by simp [Builtin.max2]) w hfo g1 g2
      refine OpOk.pure hH (v := v') ?_ hv'
      simp [resolve, invoke, builtin, Builtin.max_, hl, hr]
  case mnI.call c =>
    obtain ⟨callee, args, argTypes⟩ := c
    cases callee <;> (try (simp only [Bool.false_eq_true] at hc; done))
    rename_i bi
    cases bi <;> (try (simp only [Bool.false_eq_true] at hc; done))
    try simp only [Bool.and_eq_true] at hc
    have hvv := hv _ hc
    rcases vs with _ | ⟨p, xs⟩ <;> simp only [dk] at hd <;> try (cases hd; done)
    simp only [Option.map_eq_some_iff, Prod.mk.injEq] at hd
    obtain ⟨v, hfo, rfl, rfl⟩ := hd
    cases hl : args.toList with
    | nil => rw [hl] at hvv; cases hvv
    | cons x r =>
      rw [hl] at hvv
      obtain ⟨p', r', hp, g1, g2⟩ := hvv.inv_cons
      simp only [List.cons.injEq] at hp
      obtain ⟨rfl, rfl⟩ := hp
      obtain ⟨v', hr, hv'⟩ := fold_sound (P := P) (f := fun x y => if y < x then y else x) (g := Builtin.min2) (fun k a b w' => by simp [Builtin.min2]) w hfo g1 g2
      refine OpOk.pure hH (v := v') ?_ hv'
      simp [resolve, invoke, builtin, Builtin.min_, hl, hr]

end Go.Dn
