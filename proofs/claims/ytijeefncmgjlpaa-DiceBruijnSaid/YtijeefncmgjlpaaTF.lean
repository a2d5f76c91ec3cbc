/-
  The reference's twins; the laws of twins run.
-/
import Derived.Test.YtijeefncmgjlpaaTE
set_option linter.unusedSimpArgs false
set_option linter.unusedVariables false

set_option maxHeartbeats 4000000
set_option maxRecDepth 100000
namespace Go.Proofs.Try.Dn
open Go.Dn

theorem die_one {c : Int} (hc : 0 ≤ c ∧ c ≤ 60) : DieL 60 [c] := { le := by simp, ok := fun x hx => by rw [List.mem_singleton.1 hx]; exact hc, srt := by simp, pos := by simp }

theorem canP_short {n m : Nat} {c d : Int} {k : Nat} {a b : List Int} {g : Int → Option Nat} (hn : n ≤ 8) (hm : m ≤ 8) (ha : a.length ≤ n) (hb : b.length ≤ m) : Short (canP (growP n m c d k a b g)) ∧ (canP (growP n m c d k a b g)).length ≤ 1000000 := by
  constructor
  · intro p hp
    have := (Szs.fold (o := []) (fun p hp => by simp at hp) (growP_sz n m c d k a b g ha hb)) p hp
    omega
  · have h1 := foldP_len (growP n m c d k a b g) []
    have h2 := growP_len n m c d k a b g ha hb
    have h3 : 2 ^ ((n - a.length) + (m - b.length)) ≤ 2 ^ 16 := Nat.pow_le_pow_right (by decide) (by omega)
    unfold canP
    simp only [List.length_nil, Nat.zero_add] at h1
    omega

end Go.Proofs.Try.Dn

