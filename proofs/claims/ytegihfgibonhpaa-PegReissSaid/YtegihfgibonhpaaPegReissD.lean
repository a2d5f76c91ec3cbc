import Derived.Test.YtegihfgibonhpaaPegRs0
import Derived.Test.YtegihfgibonhpaaPegRs1
import Derived.Test.YtegihfgibonhpaaPegRs2
import Derived.Test.YtegihfgibonhpaaPegRs3
set_option linter.unusedVariables false
namespace Go.Proofs.Try.Dn
open Go.Dn

theorem reiss_all (k : Nat) (hk : k < 16) : okO (runC pg2 (denN pg2 400) rest7 [(0, .i .i64 ((1 + k : Nat) : Int))] []) = true := by
  match k, hk with
  | 0, _ => exact reiss1
  | 1, _ => exact reiss2
  | 2, _ => exact reiss3
  | 3, _ => exact reiss4
  | 4, _ => exact reiss5
  | 5, _ => exact reiss6
  | 6, _ => exact reiss7
  | 7, _ => exact reiss8
  | 8, _ => exact reiss9
  | 9, _ => exact reiss10
  | 10, _ => exact reiss11
  | 11, _ => exact reiss12
  | 12, _ => exact reiss13
  | 13, _ => exact reiss14
  | 14, _ => exact reiss15
  | 15, _ => exact reiss16
  | n + 16, h => omega

theorem reiss_run (a : Int) (ha : -9223372036854775808 ≤ a ∧ a ≤ 9223372036854775807) : ∃ H, bodyRun pg2 (den pg2) 7 [.i .i64 a] [] = some (.b true, H) := by
  have h1 : ∃ k : Nat, k < 16 ∧ runC pg2 (den pg2) head7 [(0, .i .i64 a)] [] = some ⟨.normal, [(0, .i .i64 ((1 + k : Nat) : Int))], []⟩ := by
    refine ⟨(a % 16).toNat, by omega, ?_⟩
    have e1 : wrapR .u64 a = .i .u64 (a % 18446744073709551616) := by
      unfold wrapR; congr 1
    have e2 : (a % 18446744073709551616).tmod 16 = a % 16 := by
      rw [Int.tmod_eq_emod_of_nonneg (by omega)]; omega
    have e3 : wrapR .i64 (a % 16) = .i .i64 (a % 16) := wrapR_i64 (by omega)
    have e4 : wrapR .i64 (1 + a % 16) = .i .i64 ((1 + (a % 16).toNat : Nat) : Int) := by
      rw [wrapR_i64 (by omega)]; congr 1; omega
    simp [head7, c7, runC, opsRun, operRun, guardRun, evalO, mapO, Dn.get, putE, keepE, dk, binI, e1, e2, e3, e4]
  obtain ⟨k, hk, h1⟩ := h1
  have h2 := reiss_all k hk
  obtain ⟨H, h2⟩ := okO_iff h2
  have h3 := runC_mono (denN_den 400) _ _ _ _ h2
  have hall : runC pg2 (den pg2) c7 [(0, .i .i64 a)] [] = some ⟨.ret, [(2, .b true)], H⟩ := by
    rw [c7_eq, thn_some h1 rfl]; exact h3
  exact ⟨H, bodyRun_of (pg := pg2) (f := 7) (d := d7) (xs := [.i .i64 a]) (by rfl) rfl hall (by simp) (vs := [.b true]) (by simp [d7, mapO, resRun, Dn.get])⟩

end Go.Proofs.Try.Dn
