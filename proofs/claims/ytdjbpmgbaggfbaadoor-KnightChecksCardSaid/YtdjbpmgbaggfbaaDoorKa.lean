/-
  Knight: counts, least members, the members of a set one by one.
-/
import Derived.Test.YtdjbpmgbaggfbaaDoorKniDT
import Derived.Test.YtdjbpmgbaggfbaaDoorDd
set_option linter.unusedSimpArgs false
set_option linter.unusedVariables false

namespace Go.Proofs.Tryd.Dn
open Go.Dn

structure Free (pg : Pg) : Prop where
  F : pg.F = tab.look
  G : pg.G 0 = some (.agg (deB.map fun n => .i .u8 n))
  S : ∀ f xs, f ≠ 25 → pg.S f xs = none

theorem body_ofs {pg : Pg} {f : Nat} {xs : List TV} {d : DFun} {x : Ex} {e : Env} {H H' : Heap} {vs : List TV} (hd : pg.F f = some d) (hl : xs.length = d.np)
    (ho : go pg (den pg) [.c d.body] .normal (zipE xs 0) H = some ⟨x, e, H'⟩) (hx : x = .ret ∨ x = .normal) (hv : mapO (resRun e H') d.res = some vs) : bodyRun pg (den pg) f xs H = some (tupR vs, H') := by
  refine bodyRun_of (o := ⟨x, e, H'⟩) hd hl (by rw [runC_go]; exact ho) ?_ hv
  intro id
  rcases hx with rfl | rfl <;> simp

end Go.Proofs.Tryd.Dn

/-
  Knight: a range over the members of a set.
-/

namespace Go.Proofs.Tryd.Dn
open Go.Dn

theorem Body.of {pg : Pg} {lp : Nat} {L : ALoop} {args : List TV} {H H5 : Heap} {e1 e2 : Env} {x : Ex} (ha : den pg L.assign ((L.params.zip args).reverse ++ L.env) H = some ⟨.normal, e1, H⟩) (hl : H[lp]? = some (.loop L))
    (hb : den pg L.body e1 (H.set lp (.loop { L with st := .busy })) = some ⟨x, e2, H5⟩) (h5 : H5[lp]? = some (.loop { L with st := .busy })) : Body pg lp L args H x (H5.set lp (.loop L)) := ⟨e1, H, e2, H5, ha, hl, hb, h5, rfl⟩

end Go.Proofs.Tryd.Dn

/-
  Knight: the board opened.
-/

namespace Go.Proofs.Tryd.Dn
open Go.Dn

theorem b_quo (k : IntKind) (x y : Int) : binI .quo (.i k x) (.i k y) = if y = 0 then none else some (wrapR k (x.tdiv y)) := by simp [binI]

def put (r c s : Nat) (m : Nat) (d : Int × Int) : Nat :=
  if 0 ≤ (s / c : Nat) + d.1 ∧ (s / c : Nat) + d.1 < (r : Int) ∧ 0 ≤ (s % c : Nat) + d.2 ∧ (s % c : Nat) + d.2 < (c : Int) then m ||| 2 ^ (((s / c : Nat) + d.1) * c + ((s % c : Nat) + d.2)).toNat else m

def signs : List (Int × Int) := [(1, 1), (1, -1), (-1, 1), (-1, -1)]
def puts (r c s : Nat) (d : Int × Int) (m : Nat) : Nat := signs.foldl (fun m g => put r c s m (d.1 * g.1, d.2 * g.2)) m
def mv (r c s : Nat) : Nat := puts r c s (2, 1) (puts r c s (1, 2) 0)

structure Brd (r c : Nat) : Prop where
  r1 : 1 ≤ r
  c1 : 1 ≤ c
  r8 : r ≤ 8
  c8 : c ≤ 8
  n36 : r * c ≤ 36

def bC (r c : Nat) (f : Nat → Nat) : List TV := .i .i64 (r : Int) :: .i .i64 (c : Int) :: .i .i64 ((r * c : Nat) : Int) :: (List.range 36).map fun s => .i .u64 (f s : Int)

def upd (f : Nat → Nat) (s v : Nat) : Nat → Nat := fun i => if i = s then v else f i

theorem bC_len (r c : Nat) (f : Nat → Nat) : (bC r c f).length = 39 := by simp [bC]
theorem bC_at (r c : Nat) (f : Nat → Nat) {s : Nat} (h : s < 36) : (bC r c f)[3 + s]? = some (.i .u64 (f s : Int)) := by
  rw [show 3 + s = s + 1 + 1 + 1 by omega]
  simp [bC, h]
theorem bC_put (r c : Nat) (f : Nat → Nat) {s : Nat} (h : s < 36) (v : Nat) : put2 (bC r c f) (3 + s) [.i .u64 (v : Int)] = bC r c (upd f s v) := by
  rw [El.put2_set _ (by rw [bC_len]; omega)]
  apply List.ext_getElem?
  intro i
  by_cases hi : i = 3 + s
  · subst hi
    rw [List.getElem?_set_self (by rw [bC_len]; omega), bC_at _ _ _ h]
    simp [upd]
  · rw [List.getElem?_set_ne (by omega)]
    match i with
    | 0 => rfl
    | 1 => rfl
    | 2 => rfl
    | i + 3 =>
      by_cases h2 : i < 36
      · rw [show i + 3 = 3 + i by omega, bC_at _ _ _ h2, bC_at _ _ _ h2]
        simp only [upd, if_neg (show ¬ i = s by omega)]
      · rw [List.getElem?_eq_none (by rw [bC_len]; omega), List.getElem?_eq_none (by rw [bC_len]; omega)]

section
variable {pg : Pg} {R : Rec}
theorem ld_n {r c : Nat} {f : Nat → Nat} {M : Nat} {H : Heap} (h : H[M]? = some (.cells (bC r c f) true)) : dkc pg R (.ld 1 false) [.ref M 2] H = some (.i .i64 ((r * c : Nat) : Int), H) := by
  rw [k_ldR, h, ldC_some, part_one (by rfl) (by rfl)]; rfl
theorem ld_m {r c : Nat} {f : Nat → Nat} {M : Nat} {H : Heap} (h : H[M]? = some (.cells (bC r c f) true)) {s : Nat} (hs : s < 36) : dkc pg R (.ld 1 false) [.ref M (3 + s)] H = some (.i .u64 (f s : Int), H) := by
  rw [k_ldR, h, ldC_some, part_one (bC_at r c f hs) (by rfl)]; rfl
theorem st_m {r c : Nat} {f : Nat → Nat} {M : Nat} {H : Heap} (h : H[M]? = some (.cells (bC r c f) true)) {s : Nat} (hs : s < 36) (v : Nat) : dkc pg R (.st 1) [.ref M (3 + s), .i .u64 (v : Int)] H = some (.undef, H.set M (.cells (bC r c (upd f s v)) true)) := by
  rw [k_stI, h, stC_some, if_pos ⟨rfl, rfl, by rw [bC_len]; omega⟩, bC_put r c f hs v]
theorem ix_m {M : Nat} {k : IntKind} {s : Nat} (hs : s < 36) (H : Heap) : dkc pg R (.ixA 36 1 false) [.ref M 3, .i k (s : Int)] H = some (.ref M (3 + s), H) := by
  rw [k_ixA _ _ _ _ _ _ _ _ (by omega) (by omega)]; simp
end

theorem mv_lt {r c s : Nat} (h : Brd r c) (hs : s < r * c) (m : Nat) (hm : m < 2 ^ (r * c)) (d : Int × Int) : put r c s m d < 2 ^ (r * c) := by
  unfold put
  split
  · rename_i h1
    obtain ⟨a1, a2, a3, a4⟩ := h1
    refine or_lt hm (Nat.pow_lt_pow_right (by decide) ?_)
    have hi : ((s / c : Nat) + d.1) + 1 ≤ (r : Int) := by omega
    have : (((s / c : Nat) + d.1) + 1) * (c : Int) ≤ (r : Int) * c := Int.mul_le_mul_of_nonneg_right hi (by omega)
    rw [Int.add_mul] at this
    have h0 : 0 ≤ ((s / c : Nat) + d.1) * (c : Int) := Int.mul_nonneg a1 (by omega)
    have hc : ((r * c : Nat) : Int) = (r : Int) * c := by simp
    omega
  · exact hm

end Go.Proofs.Tryd.Dn

