/-
  The reference's twins; the laws of twins run.
-/
import Derived.Test.YtijeefncmgjlpaaTE
set_option linter.unusedSimpArgs false
set_option linter.unusedVariables false

set_option maxHeartbeats 4000000
set_option maxRecDepth 100000
namespace Go.Proofs.Try.Dn
open Go.Dn

theorem die_one {c : Int} (hc : 0 ≤ c ∧ c ≤ 60) : DieL 60 [c] := { le := by simp, ok := fun x hx => by rw [List.mem_singleton.1 hx]; exact hc, srt := by simp, pos := by simp }

theorem canP_short {n m : Nat} {c d : Int} {k : Nat} {a b : List Int} {g : Int → Option Nat} (hn : n ≤ 8) (hm : m ≤ 8) (ha : a.length ≤ n) (hb : b.length ≤ m) : Short (canP (growP n m c d k a b g)) ∧ (canP (growP n m c d k a b g)).length ≤ 1000000 := by
  constructor
  · intro p hp
    have := (Szs.fold (o := []) (fun p hp => by simp at hp) (growP_sz n m c d k a b g ha hb)) p hp
    omega
  · have h1 := foldP_len (growP n m c d k a b g) []
    have h2 := growP_len n m c d k a b g ha hb
    have h3 : 2 ^ ((n - a.length) + (m - b.length)) ≤ 2 ^ 16 := Nat.pow_le_pow_right (by decide) (by omega)
    unfold canP
    simp only [List.length_nil, Nat.zero_add] at h1
    omega

theorem twins_short {a b : List Int} (hA : DieL 60 a) (hB : DieL 60 b) : Short (twinsL a b) ∧ (twinsL a b).length ≤ 1000000 := canP_short hA.le hB.le hA.pos hB.pos

theorem call21 {pg : Pg} (hF : Free pg) (a b : List PL) (ha : a.length ≤ 1000000) (hb : b.length ≤ 1000000) (sa : Short a) (sb : Short b) (H : Heap) : callRun pg (den pg) (.pu []) [.fn 21 [] [], LPv a, LPv b] H = some (.b (decide (a = b)), H) := by
  have s : ∀ x : List PL, snap .borrow H 9 (LPv x) = some ((elS true).lt true x) := fun x => snap_pairs false false H 5 x
  exact PFn.call (fn21 hF a b ha hb sa sb) (args := [LPv a, LPv b]) (ks := []) (fs := []) (cs := []) (by simp [snapArgs, s])

theorem call20 {pg : Pg} (hF : Free pg) (hQ : pg.Q 81 = some 2) {c d : Bool} {a b : List Int} (hA : DieL 60 a) (hB : DieL 60 b) (H : Heap) : callRun pg (den pg) (.pu []) [.fn 20 [] [], elI.lt c a, elI.lt d b] H = some (.tup [LPv (twinsL a b), .i .i64 0], H) := by
  have hrow : Row 60 6 [a, b] := ⟨fun x hx => by simp at hx; rcases hx with rfl | rfl <;> assumption, by simp, by simp⟩
  exact PFn.call (fn20 hF hQ (SV.lt true a) (SV.lt true b) (chk_row hrow (by omega) (by omega))) (args := [elI.lt c a, elI.lt d b]) (ks := []) (fs := []) (cs := []) (by simp [snapArgs, El.lt_snap elI_flat])

theorem call19 {pg : Pg} (hF : Free pg) {A : TV} {l : List Int} (hA : SV A l) (hl : l.length ≤ 9223372036854775807) {most : Nat} (hm : most ≤ 1000) (H : Heap) : ∃ d, DieL most d ∧ callRun pg (den pg) (.pu []) [.fn 19 [] [], A, .i .i64 (most : Int)] H = some (elI.lt false d, H) := by
  obtain ⟨A', s1, s2⟩ := hA.snap H 7
  obtain ⟨d, h1, h2⟩ := fn19 (pg := pg) hF s2 hl hm
  exact ⟨d, h2, PFn.call h1 (args := [A, .i .i64 (most : Int)]) (ks := []) (fs := []) (cs := []) (by simp [snapArgs, s1, sn_i])⟩

end Go.Proofs.Try.Dn

