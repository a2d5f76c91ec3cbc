/-
  Operations, part 3: structs and arrays compared; keys; maps.
-/
import Derived.Test.YtegihfgibonhpaaDnOps2
import Derived.Laws.StructEq
set_option linter.unusedVariables false
set_option linter.unusedSimpArgs false
namespace Go.Dn

variable {P : Program} {B : Nat} {π : PMap} {H : Heap} {w : World} {av ex : Nat → Prop}

theorem scalar_eq {c : Bool} {x y : TV} {u v : Value} {t : TypeId} {e : Bool} (hs : scalarT P t c = true) (he : eqS c x y = some e) (hx : VRel π w av ex x u) (hy : VRel π w av ex y v) (d : Nat) (w' : World) :
    (Op.equalIn (d + 1) t u v).run P w' = .ok e w' := by
  unfold scalarT at hs
  split at hs
  · rename_i k hu
    cases hx <;> simp only [eqS] at he <;> try (cases he; done)
    cases hy <;> simp only [eqS] at he <;> try (cases he; done)
    split at he
    · rename_i hk
      subst hk
      injection he with he
      subst he
      exact run_equalIn_int w' d t _ _ _ _ hu
    · cases he
  · rename_i hu
    cases hx <;> simp only [eqS] at he <;> try (cases he; done)
    cases hy <;> simp only [eqS] at he <;> try (cases he; done)
    injection he with he
    subst he
    exact run_equalIn_bool' w' d t _ _ hu
  · cases hs

theorem scalar_part {c : Bool} {t : TypeId} (hs : scalarT P t c = true) {us : Array Value} {n : Nat} {u : Value} (hu : us[n]? = some u) (w' : World) : (Go.part t us n).run P w' = .ok u w' := by
  have ht : tyOk P t 1 false = true := by
    unfold scalarT at hs
    split at hs <;> first | (cases hs; done) | (rename_i h; simp only [beq_iff_eq] at hs; simp [tyOk, h, hs, aggT])
  unfold Go.part
  rw [Sem.run_bind, run_isAgg P w' ht, Result.andThen_ok]
  simp [hu]

theorem flatFs_eq : ∀ (fs : List Field) (ks : List Bool) (n : Nat) {x y : List TV} {us vs : Array Value} {e : Bool}, flatFs P fs ks n = true → eqL ks (x.drop n) (y.drop n) = some e →
    VsRel π w av ex x us.toList → VsRel π w av ex y vs.toList → ∀ (d : Nat) (w' : World), (Op.eqFields (d + 1) us vs fs).run P w' = .ok e w'
  | [], ks, n, x, y, us, vs, e, hf, he, hx, hy, d, w' => by
    cases ks with
    | nil =>
      cases hxd : x.drop n <;> cases hyd : y.drop n <;> simp only [hxd, hyd, eqL] at he <;> try (cases he; done)
      injection he with he
      subst he
      simp [Op.eqFields]
    | cons => simp [flatFs] at hf
  | f :: fs, [], n, x, y, us, vs, e, hf, _, _, _, _, _ => by simp [flatFs] at hf
  | f :: fs, c :: ks, n, x, y, us, vs, e, hf, he, hx, hy, d, w' => by
    simp only [flatFs, Bool.and_eq_true, bne_iff_ne, ne_eq, beq_iff_eq] at hf
    obtain ⟨⟨⟨hn, ho⟩, hs⟩, hr⟩ := hf
    cases hxd : x.drop n with
    | nil => simp only [hxd, eqL] at he; cases he
    | cons a xs =>
    cases hyd : y.drop n with
    | nil => simp only [hxd, hyd, eqL] at he; cases he
    | cons b ys =>
    simp only [hxd, hyd, eqL, Option.bind_eq_some_iff, Option.map_eq_some_iff] at he
    obtain ⟨e1, h1, e2, h2, rfl⟩ := he
    have gx : x[n]? = some a := by have := List.getElem?_drop (xs := x) (i := n) (j := 0); rw [hxd] at this; simpa using this.symm
    have gy : y[n]? = some b := by have := List.getElem?_drop (xs := y) (i := n) (j := 0); rw [hyd] at this; simpa using this.symm
    obtain ⟨u, hu, hru⟩ := hx.get gx
    obtain ⟨v, hv, hrv⟩ := hy.get gy
    rw [Array.getElem?_toList] at hu hv
    have hxs : x.drop (n + 1) = xs := by rw [← List.drop_drop, hxd]; rfl
    have hys : y.drop (n + 1) = ys := by rw [← List.drop_drop, hyd]; rfl
    have ih := flatFs_eq fs ks (n + 1) hr (by rw [hxs, hys]; exact h2) hx hy d w'
    simp only [Op.eqFields, ne_eq, hn, not_false_eq_true, if_true, Sem.run_bind, ho, scalar_part hs hu w', scalar_part hs hv w', scalar_eq hs h1 hru hrv d w', Result.andThen_ok]
    cases e1 <;> simp [ih]

theorem eqL_drop {len : Nat} : ∀ (i : Nat) {x y : List TV} {e : Bool}, i ≤ len → eqL (List.replicate len true) x y = some e → ∃ e1 e2, eqL (List.replicate (len - i) true) (x.drop i) (y.drop i) = some e2 ∧ e = (e1 && e2)
  | 0, x, y, e, _, h => ⟨true, e, by simpa using h, by simp⟩
  | i + 1, x, y, e, hi, h => by
    obtain ⟨e1, e2, h2, he⟩ := eqL_drop i (by omega) h
    have hl : len - i = (len - (i + 1)) + 1 := by omega
    rw [hl, List.replicate_succ] at h2
    cases hxd : x.drop i with
    | nil => simp only [hxd, eqL] at h2; cases h2
    | cons a xs =>
    cases hyd : y.drop i with
    | nil => simp only [hxd, hyd, eqL] at h2; cases h2
    | cons b ys =>
    simp only [hxd, hyd, eqL, Option.bind_eq_some_iff, Option.map_eq_some_iff] at h2
    obtain ⟨e3, h3, e4, h4, rfl⟩ := h2
    refine ⟨e1 && e3, e4, ?_, by rw [he, Bool.and_assoc]⟩
    rw [show x.drop (i + 1) = xs by rw [← List.drop_drop, hxd]; rfl, show y.drop (i + 1) = ys by rw [← List.drop_drop, hyd]; rfl]
    exact h4

theorem eqArr_loop {elem : TypeId} (hs : scalarT P elem true = true) {us vs : Array Value} (d : Nat) :
    ∀ (m i : Nat) {x y : List TV} {e : Bool} (w' : World), eqL (List.replicate m true) x y = some e → (∀ (j : Nat) t, x[j]? = some t → ∃ u, us[i + j]? = some u ∧ VRel π w av ex t u) →
      (∀ (j : Nat) t, y[j]? = some t → ∃ u, vs[i + j]? = some u ∧ VRel π w av ex t u) →
      ((forIn (List.range' i m) ((none, ()) : Option Bool × Unit) fun i r =>
          (do
            let a ← Go.part elem us (i * 1)
            let b ← Go.part elem vs (i * 1)
            let q ← Op.equalIn (d + 1) elem a b
            if (!q) = true then pure (ForInStep.done (some false, ())) else pure (ForInStep.yield (none, ())) : Sem (ForInStep (Option Bool × Unit)))).run P w') = .ok (if e then none else some false, ()) w'
  | 0, i, x, y, e, w', he, _, _ => by
    cases x <;> cases y <;> simp only [List.replicate, eqL] at he <;> try (cases he; done)
    injection he with he
    subst he
    simp
  | m + 1, i, x, y, e, w', he, hx, hy => by
    rw [List.replicate_succ] at he
    cases x with
    | nil => simp only [eqL] at he; cases he
    | cons a xs =>
    cases y with
    | nil => simp only [eqL] at he; cases he
    | cons b ys =>
    simp only [eqL, Option.bind_eq_some_iff, Option.map_eq_some_iff] at he
    obtain ⟨e1, h1, e2, h2, rfl⟩ := he
    obtain ⟨u, hu, hru⟩ := hx 0 a rfl
    obtain ⟨v, hv, hrv⟩ := hy 0 b rfl
    have ih := eqArr_loop hs d m (i + 1) w' h2 (fun j t ht => by have := hx (j + 1) t (by simpa using ht); rwa [show i + (j + 1) = i + 1 + j by omega] at this)
      (fun j t ht => by have := hy (j + 1) t (by simpa using ht); rwa [show i + (j + 1) = i + 1 + j by omega] at this)
    simp only [Nat.add_zero] at hu hv
    rw [List.range'_succ, List.forIn_cons]
    simp only [Sem.run_bind, Nat.mul_one, scalar_part hs hu w', scalar_part hs hv w', scalar_eq hs h1 hru hrv d w', Result.andThen_ok]
    simp only [Nat.mul_one] at ih
    cases e1
    · simp
    · simpa using ih

theorem eqA_run {t : TypeId} {ks : List Bool} {x y : List TV} {us vs : Array Value} {e : Bool} (hf : flatT P t ks = true) (he : eqL ks x y = some e) (hx : VsRel π w av ex x us.toList) (hy : VsRel π w av ex y vs.toList) (d : Nat) (w' : World) :
    (Op.equalIn (d + 1 + 1) t (.agg us) (.agg vs)).run P w' = .ok e w' := by
  unfold flatT at hf
  split at hf
  · rename_i fs hu
    simp only [Bool.and_eq_true, Bool.not_eq_true'] at hf
    have hfo : P.fieldsOf t = fs := by simp [Program.fieldsOf, hu]
    rw [run_equalIn_struct (P := P) w' (d + 1) t us vs (by rw [hfo]; exact hu) hf.2, hfo]
    exact flatFs_eq fs.toList ks 0 hf.1 (by simpa using he) hx hy d w'
  · rename_i len e' hu
    simp only [Bool.and_eq_true, beq_iff_eq] at hf
    obtain ⟨hs, rfl⟩ := hf
    have hsz : szT P e' = some 1 := by
      unfold scalarT at hs
      split at hs <;> first | (cases hs; done) | simpa using hs
    have hl := eqArr_loop (P := P) (π := π) (w := w) (av := av) (ex := ex) hs (us := us) (vs := vs) d len 0 (x := x) (y := y) w' he
      (fun j t ht => by obtain ⟨u, h1, h2⟩ := hx.get ht; exact ⟨u, by simpa using h1, h2⟩) (fun j t ht => by obtain ⟨u, h1, h2⟩ := hy.get ht; exact ⟨u, by simpa using h1, h2⟩)
    unfold Op.equalIn
    rw [Sem.run_bind, run_underlying hu, Result.andThen_ok]
    simp only [Sem.run_bind, run_szOf P w' hsz, Result.andThen_ok]
    rw [Std.Legacy.Range.forIn_eq_forIn_range']
    simp only [Std.Legacy.Range.size, Nat.sub_zero, Nat.add_sub_cancel, Nat.div_one]
    rw [hl]
    cases e <;> simp
  · cases hf

theorem eqA_sound {neg : Bool} {ks : List Bool} {x y : List TV} {us vs : Array Value} {ty : TypeId} {ox oy : Operand} {e : Bool} (hf : flatT P ty ks = true) (hg : P.eqGuardType P.depth ty = false) (he : eqL ks x y = some e)
    (hx : VsRel π w av ex x us.toList) (hy : VsRel π w av ex y vs.toList) :
    (do eqGuard (eqOp neg) ty ox oy (.agg us) (.agg vs); binOp (eqOp neg) ty (.agg us) (.agg vs) : Sem Value).run P w = .ok (.bool (negb neg e)) w :=
  eqN_run (run_eqGuard_agg w _ _ _ _ _ _ hg) rfl rfl (eqA_run hf he hx hy 9998 w)

end Go.Dn
