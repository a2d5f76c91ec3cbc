/-
  Knight: the moves from a square, listed.
-/
import Derived.Test.YtdjbpmgbaggfbaaDoorKe
set_option linter.unusedSimpArgs false
set_option linter.unusedVariables false

namespace Go.Proofs.Tryd.Dn
open Go.Dn

def movesOf (r c s : Nat) : List Nat := mem64 (mv r c s)

end Go.Proofs.Tryd.Dn

/-
  Knight: the squares around a set.
-/

namespace Go.Proofs.Tryd.Dn
open Go.Dn

def orAll (r c : Nat) (m : Nat) (l : List Nat) : Nat := l.foldl (fun m s => m ||| mv r c s) m
def around (r c x : Nat) : Nat := orAll r c 0 (mem64 x)

theorem orAll_lt {r c : Nat} (h : Brd r c) : ∀ (l : List Nat) (m : Nat), m < 2 ^ (r * c) → (∀ k, k ∈ l → k < r * c) → orAll r c m l < 2 ^ (r * c)
  | [], m, hm, _ => hm
  | k :: l, m, hm, hl => orAll_lt h l (m ||| mv r c k) (or_lt hm (mv_bound h (hl k (by simp)))) fun k' hk' => hl k' (by simp [hk'])

theorem mem64_in {n x : Nat} (hx : x < 2 ^ n) {k : Nat} (hk : k ∈ mem64 x) : k < n := by
  unfold mem64 at hk
  rw [List.mem_filter] at hk
  apply Classical.byContradiction
  intro hc
  have := Nat.testBit_lt_two_pow (i := k) (Nat.lt_of_lt_of_le hx (Nat.pow_le_pow_right (by decide) (by omega)))
  rw [this] at hk
  cases hk.2

theorem around_lt {r c x : Nat} (h : Brd r c) (hx : x < 2 ^ (r * c)) : around r c x < 2 ^ (r * c) :=
  orAll_lt h _ 0 (Nat.two_pow_pos _) fun k hk => mem64_in hx hk

end Go.Proofs.Tryd.Dn

/-
  Knight: a range over the levels around a square.
-/

namespace Go.Proofs.Tryd.Dn
open Go.Dn

def lv (r c a : Nat) : Nat → Nat × Nat
  | 0 => (0, 2 ^ a)
  | n + 1 => ((lv r c a n).1 ||| (lv r c a n).2, andN (around r c (lv r c a n).2) ((lv r c a n).1 ||| (lv r c a n).2))

theorem lv_lt {r c a : Nat} (h : Brd r c) (ha : a < r * c) : ∀ n, (lv r c a n).1 < 2 ^ (r * c) ∧ (lv r c a n).2 < 2 ^ (r * c)
  | 0 => ⟨Nat.two_pow_pos _, Nat.pow_lt_pow_right (by decide) ha⟩
  | n + 1 => by
    obtain ⟨h1, h2⟩ := lv_lt h ha n
    have hn := h.n36
    have h64 : 2 ^ (r * c) ≤ 18446744073709551616 := by have := Nat.pow_le_pow_right (n := 2) (by decide) (show r * c ≤ 64 by omega); omega
    have h3 := around_lt h h2
    exact ⟨or_lt h1 h2, Nat.lt_of_le_of_lt (andN_le _ _ (by omega)) h3⟩

theorem mapO_self {α : Type} {f : α → Option α} : ∀ {l : List α}, (∀ x, x ∈ l → f x = some x) → mapO f l = some l
  | [], _ => rfl
  | x :: l, h => by rw [mapO, h x (List.mem_cons_self ..), Option.bind_some, mapO_self fun y hy => h y (List.mem_cons_of_mem _ hy)]; rfl

theorem bM_int {r c : Nat} {x : TV} (hx : x ∈ bM r c) : ∃ k n, x = .i k n := by
  unfold bM bC at hx
  simp only [List.mem_cons, List.mem_map] at hx
  rcases hx with rfl | rfl | rfl | ⟨s, _, rfl⟩ <;> exact ⟨_, _, rfl⟩

theorem snap_bM (m : SM) (H : Heap) (r c : Nat) : snap m H 8 (.agg (bM r c)) = some (.agg (bM r c)) := by
  rw [sn8_agg, mapO_self fun x hx => by obtain ⟨k, n, rfl⟩ := bM_int hx; exact sn7_i _ _ _ _]
  rfl

theorem snap_bp (bo : Bool) (H : Heap) (r c : Nat) : snap .borrow H 9 (.bp bo (.agg (bM r c))) = some (.bp true (.agg (bM r c))) := by
  have := snap_bM .borrow H r c
  rw [snap]
  simp [this, SM.flag]

end Go.Proofs.Tryd.Dn

/-
  Knight: a range over the levels, as code meets it.
-/

namespace Go.Proofs.Tryd.Dn
open Go.Dn

end Go.Proofs.Tryd.Dn

