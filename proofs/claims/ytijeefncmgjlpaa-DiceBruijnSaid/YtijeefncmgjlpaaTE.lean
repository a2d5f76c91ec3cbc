/-
  The reference's search, walked whole.
-/
import Derived.Test.YtijeefncmgjlpaaTD
import Derived.Test.YtijeefncmgjlpaaEe
set_option linter.unusedSimpArgs false
set_option linter.unusedVariables false

set_option maxHeartbeats 4000000
set_option maxRecDepth 100000
namespace Go.Proofs.Try.Dn
open Go.Dn

theorem growP_sz (n m : Nat) (c d : Int) : ∀ (k : Nat) (a b : List Int) (g : Int → Option Nat), a.length ≤ n → b.length ≤ m → Szs n m (growP n m c d k a b g)
  | 0, _, _, _, _, _ => fun p hp => by simp [growP] at hp
  | k + 1, a, b, g, ha, hb => by
    unfold growP
    cases leastF g with
    | none =>
      intro p hp
      simp only at hp
      split at hp
      · simp at hp
      · rw [List.mem_singleton.1 hp]
        constructor <;> simp only <;> omega
    | some l =>
      intro p hp
      simp only [List.mem_append] at hp
      rcases hp with hp | hp
      · split at hp
        · rename_i hf
          unfold fits at hf
          simp only [Bool.and_eq_true, decide_eq_true_eq] at hf
          split at hp
          · exact growP_sz n m c d k _ b _ (by simp; omega) hb p hp
          · simp at hp
        · simp at hp
      · split at hp
        · rename_i hf
          unfold fits at hf
          simp only [Bool.and_eq_true, decide_eq_true_eq] at hf
          split at hp
          · exact growP_sz n m c d k a _ _ ha (by simp; omega) p hp
          · simp at hp
        · simp at hp

theorem foldP_mem : ∀ (l o : List PL) (p : PL), p ∈ l.foldl putP o → p ∈ o ∨ p ∈ l
  | [], o, p, h => .inl h
  | x :: l, o, p, h => by
    rcases foldP_mem l (putP o x) p h with h | h
    · have put : ∀ (o : List PL), p ∈ putP o x → p ∈ o ∨ p = x := by
        intro o
        induction o with
        | nil => intro h; rw [putP] at h; exact .inr (List.mem_singleton.1 h)
        | cons y o ih =>
          intro h
          rw [putP] at h
          split at h
          · rcases List.mem_cons.1 h with rfl | h
            · exact .inl (List.mem_cons_self ..)
            · rcases ih h with h | h
              · exact .inl (List.mem_cons_of_mem _ h)
              · exact .inr h
          · split at h
            · exact .inl h
            · rcases List.mem_cons.1 h with rfl | h
              · exact .inr rfl
              · exact .inl h
      rcases put o h with h | rfl
      · exact .inl h
      · exact .inr (List.mem_cons_self ..)
    · exact .inr (List.mem_cons_of_mem _ h)

theorem Szs.fold {n m : Nat} {l o : List PL} (ho : Szs n m o) (hl : Szs n m l) : Szs n m (l.foldl putP o) := fun p hp => (foldP_mem l o p hp).elim (ho p) (hl p)

theorem fits_die {n : Nat} {a : List Int} {x : Int} (hD : DieL 60 a) (hn : n ≤ 8) (h : fits n a x = true) : DieL 60 (a ++ [x]) ∧ a.length < n := by
  obtain ⟨z, h1, h2, h3, h4, h5⟩ := die_last hD
  unfold fits at h
  rw [h2] at h
  simp only [Bool.and_eq_true, decide_eq_true_eq] at h
  refine ⟨{ le := by simp; omega, ok := fun f hf => ?_, srt := ?_, pos := by simp }, h.1.1⟩
  · rcases List.mem_append.1 hf with hf | hf
    · exact hD.ok f hf
    · rw [List.mem_singleton.1 hf]; omega
  · rw [List.pairwise_append]
    refine ⟨hD.srt, by simp, fun f hf g hg => ?_⟩
    rw [List.mem_singleton.1 hg]
    have := h5 f hf
    omega

end Go.Proofs.Try.Dn

