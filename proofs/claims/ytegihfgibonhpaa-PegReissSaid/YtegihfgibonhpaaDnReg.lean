/-
  Regions: a row of operations in the order that the machine takes, and in the order of the text.
-/
import Derived.Test.YtegihfgibonhpaaDnCall2
set_option linter.unusedVariables false
set_option linter.unusedSimpArgs false
namespace Go.Dn

/-! ### what an operation does to the heap -/
theorem mapP {α : Type} {x : Option α} {f : α → TV} {t : TV} {H H' : Heap} (h : (x.map fun v => (f v, H)) = some (t, H')) : H' = H ∧ (x.map fun v => (f v, ([] : Heap))) = some (t, []) := by
  cases x <;> simp at h
  exact ⟨h.2.symm, by simp [h.1]⟩

theorem bindP {α : Type} {x : Option α} {f g : α → Option (TV × Heap)} {t : TV} {H H' : Heap} (h : x.bind f = some (t, H')) (hf : ∀ a, f a = some (t, H') → H' = H ∧ g a = some (t, [])) : H' = H ∧ x.bind g = some (t, []) := by
  cases x with
  | none => simp at h
  | some a => exact hf a h

theorem iteP {c : Prop} [Decidable c] {x y : Option (TV × Heap)} {t : TV} {H H' : Heap} (h : (if c then x else none) = some (t, H')) (hf : x = some (t, H') → H' = H ∧ y = some (t, [])) : H' = H ∧ (if c then y else none) = some (t, []) := by
  split at h
  · rw [if_pos (by assumption)]; exact hf h
  · cases h

theorem someP {v t : TV} {H H' : Heap} (h : some (v, H) = some (t, H')) : H' = H ∧ some (v, ([] : Heap)) = some (t, []) := by
  simp at h; simp [h]

theorem dk_pure {k : DK} {vs : List TV} {H H' : Heap} {t : TV} (h : dk k vs H = some (t, H')) (hp : k.P = true) : H' = H ∧ dk k vs [] = some (t, []) := by
  cases k <;> simp only [DK.P, Bool.false_eq_true] at hp
  case build => exact mapP h
  case mkfn => exact iteP h someP
  all_goals rcases vs with _ | ⟨a, vs⟩ <;> (try (simp only [dk] at h; cases h; done))
  case slc => exact mapP h
  case mxI => exact mapP h
  case mnI => exact mapP h
  case pick =>
    rcases vs with _ | ⟨b, _ | ⟨c, _ | ⟨d, vs⟩⟩⟩ <;> cases a <;> (try (simp only [dk] at h; cases h; done))
    exact someP h
  all_goals rcases vs with _ | ⟨b, _ | ⟨c, vs⟩⟩ <;> (try (simp only [dk] at h; cases h; done))
  case mv => exact someP h
  case binI => exact mapP h
  case eqB => cases a <;> cases b <;> (try (simp only [dk] at h; cases h; done)); exact someP h
  case eqN => exact bindP h fun _ h => bindP h fun _ h => iteP h someP
  case eqA => cases a <;> cases b <;> (try (simp only [dk] at h; cases h; done)); exact mapP h
  case eqS => cases a <;> cases b <;> (try (simp only [dk] at h; cases h; done)); exact someP h
  case notB => cases a <;> (try (simp only [dk] at h; cases h; done)); exact someP h
  case negI => cases a <;> (try (simp only [dk] at h; cases h; done)); exact iteP h someP
  case xorI => cases a <;> (try (simp only [dk] at h; cases h; done)); exact someP h
  case conv => cases a <;> (try (simp only [dk] at h; cases h; done)); exact someP h
  case nilck => cases a <;> (try (simp only [dk] at h; cases h; done)) <;> exact someP h
  case fadr =>
    cases a <;> (try (simp only [dk] at h; cases h; done))
    · exact someP h
    · rename_i bo v
      cases v <;> (try (simp only [dk] at h; cases h; done))
      exact mapP h
  case fld => cases a <;> (try (simp only [dk] at h; cases h; done)); exact mapP h
  case ixS =>
    refine bindP h fun i h => ?_
    cases a <;> (try (cases h; done))
    · exact iteP h someP
    · exact iteP h mapP
  case ixA =>
    refine bindP h fun i h1 => iteP h1 fun h2 => ?_
    clear h h1
    cases a <;> (try (cases h2; done))
    · exact someP h2
    · rename_i bo v
      cases v <;> (try (cases h2; done))
      exact mapP h2
  case idx => cases a <;> (try (simp only [dk] at h; cases h; done)); exact bindP h fun _ h => iteP h mapP
  case ixStr => cases a <;> (try (simp only [dk] at h; cases h; done)); exact bindP h fun _ h => mapP h
  case ext => cases a <;> (try (simp only [dk] at h; cases h; done)); exact mapP h

theorem mapQ {α : Type} {x : Option α} {f : α → TV} {t : TV} {H H' : Heap} (h : (x.map fun v => (f v, H)) = some (t, H')) : ∃ new, H' = H ++ new := by
  cases x <;> simp at h
  exact ⟨[], by simp [h.2]⟩
theorem bindQ {α : Type} {x : Option α} {f : α → Option (TV × Heap)} {t : TV} {H H' : Heap} (h : x.bind f = some (t, H')) (hf : ∀ a, f a = some (t, H') → ∃ new, H' = H ++ new) : ∃ new, H' = H ++ new := by
  cases x with
  | none => simp at h
  | some a => exact hf a h
theorem iteQ {c : Prop} [Decidable c] {x : Option (TV × Heap)} {t : TV} {H H' : Heap} (h : (if c then x else none) = some (t, H')) (hf : x = some (t, H') → ∃ new, H' = H ++ new) : ∃ new, H' = H ++ new := by
  split at h
  · exact hf h
  · cases h
theorem someQ {v t : TV} {H H' : Heap} (h : some (v, H) = some (t, H')) : ∃ new, H' = H ++ new := by
  simp at h; exact ⟨[], by simp [h]⟩
theorem newQ {v t : TV} {H H' : Heap} {o : AObj} (h : some (v, H ++ [o]) = some (t, H')) : ∃ new, H' = H ++ new := by
  simp at h; exact ⟨[o], h.2.symm⟩

theorem dk_grows {k : DK} {vs : List TV} {H H' : Heap} {t : TV} (h : dk k vs H = some (t, H')) (hw : k.W = false) : ∃ new, H' = H ++ new := by
  cases hp : k.P with
  | true => exact ⟨[], by simp [(dk_pure h hp).1]⟩
  | false =>
    cases k <;> simp only [DK.W, DK.P, Bool.true_eq_false] at hw hp
    case bsl byV z ag len ix =>
      refine iteQ h fun h => bindQ h fun _ h => iteQ h fun h => ?_
      split at h
      · exact someQ h
      · exact newQ h
    case mkmap =>
      rcases vs with _ | ⟨a, _ | ⟨b, vs⟩⟩
      · exact newQ h
      · cases a <;> first | exact newQ h | (simp only [dk] at h; cases h; done)
      · simp only [dk] at h; cases a <;> cases h
    case alloc => rcases vs with _ | ⟨a, vs⟩ <;> (try (simp only [dk] at h; cases h; done)); exact newQ h
    case slcA => rcases vs with _ | ⟨a, vs⟩ <;> (try (simp only [dk] at h; cases h; done)); exact mapQ h
    all_goals rcases vs with _ | ⟨a, vs⟩ <;> (try (simp only [dk] at h; cases h; done))
    all_goals rcases vs with _ | ⟨b, _ | ⟨c, vs⟩⟩ <;> (try (simp only [dk] at h; cases h; done))
    case false.box.cons.nil => exact iteQ h newQ
    case false.boxV.cons.nil => exact iteQ h someQ
    case false.ld.cons.nil =>
      rename_i sz ag
      cases a <;> (try (simp only [dk] at h; cases h; done))
      · simp only [dk] at h
        split at h <;> (try (cases h; done))
        exact mapQ h
      · simp only [dk] at h
        split at h
        · exact iteQ h someQ
        · split at h
          · cases h
          · exact someQ h
    case false.mksl.cons.cons.nil => exact bindQ h fun _ h => bindQ h fun _ h => iteQ h newQ
    case false.lkp.cons.cons.nil =>
      simp only [dk] at h
      split at h <;> (try (cases h; done))
      · exact mapQ h
      · split at h <;> (try (cases h; done))
        refine bindQ h fun _ h => ?_
        simp only [Option.map_eq_some_iff] at h
        obtain ⟨r, _, h⟩ := h
        split at h <;> (simp at h; exact ⟨[], by simp [h]⟩)
    case false.len.cons.nil => exact mapQ h

end Go.Dn
