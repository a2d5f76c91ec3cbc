/-
  Knight: a range over the levels of a board that lies anywhere; Rides.
-/
import Derived.Test.YtdjbpmgbaggfbaaDoorKf7
set_option linter.unusedSimpArgs false
set_option linter.unusedVariables false

namespace Go.Proofs.Tryd.Dn
open Go.Dn

def Bv (r c : Nat) (H : Heap) (BV : TV) : Prop := snap .borrow H 9 BV = some (.bp true (.agg (bM r c)))

theorem Bv.bp (r c : Nat) (H : Heap) (bo : Bool) : Bv r c H (.bp bo (.agg (bM r c))) := snap_bp bo H r c

theorem Bv.ref {r c id : Nat} {H : Heap} (h : H[id]? = some (.cells (bM r c) true)) : Bv r c H (.ref id 0) := by
  have hm : mapO (snap .borrow H 8) (bM r c) = some (bM r c) := mapO_self fun x hx => by obtain ⟨k, n, rfl⟩ := bM_int hx; exact sn8_i _ _ _ _
  unfold Bv
  rw [snap]
  simp [h, hm]

theorem Bv.call71 {pg : Pg} (hF : Free pg) {r c x : Nat} {H : Heap} {BV : TV} (hb : Bv r c H BV) (h : Brd r c) (hx : x < 2 ^ (r * c)) :
    callRun pg (den pg) (.pu []) [.fn 71 [] [], BV, .i .u64 (x : Int)] H = some (.i .u64 (around r c x : Int), H) := by
  unfold Bv at hb
  exact PFn.call (fn71 hF (bo := true) h hx) (args := [BV, .i .u64 (x : Int)]) (by simp [snapArgs, sn_i, hb])

theorem mem64_range {n x : Nat} (hn : n ≤ 64) (hx : x < 2 ^ n) : mem64 x = (List.range n).filter fun t => x.testBit t := by
  unfold mem64
  rw [show 64 = n + (64 - n) by omega, List.range_add, List.filter_append]
  have h2 : ((List.range (64 - n)).map (fun t => n + t)).filter (fun i => x.testBit i) = [] := by
    rw [List.filter_eq_nil_iff]
    intro y hy
    rw [List.mem_map] at hy
    obtain ⟨z, _, rfl⟩ := hy
    have := Nat.testBit_lt_two_pow (i := n + z) (Nat.lt_of_lt_of_le hx (Nat.pow_le_pow_right (by decide) (Nat.le_add_right _ _)))
    rw [this]; exact Bool.false_ne_true
  rw [h2, List.append_nil]

def within (r c : Nat) (o : List Int) (q : Nat) : List Nat := (List.range (r * c)).filter fun t => decide (0 ≤ o.getD t 0) && decide (o.getD t 0 ≤ (q : Int))

/-! the reference -/
end Go.Proofs.Tryd.Dn

/-
  Knight: the law of rides, run.
-/

namespace Go.Proofs.Tryd.Dn
open Go.Dn

end Go.Proofs.Tryd.Dn

