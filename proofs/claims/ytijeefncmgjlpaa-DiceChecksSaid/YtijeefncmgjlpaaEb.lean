/-
  Two dice compared, in the program and in the reference.
-/
import Derived.Test.YtijeefncmgjlpaaEa
set_option linter.unusedSimpArgs false
set_option linter.unusedVariables false

namespace Go.Proofs.Try.Dn
open Go.Dn

def cGt (x : Int) (b : List Int) : Nat := b.countP fun y => decide (y < x)
def cLt (x : Int) (b : List Int) : Nat := b.countP fun y => decide (x < y)
def cEq (x : Int) (b : List Int) : Nat := b.countP fun y => decide (x = y)
def more (a b : List Int) : Nat := (a.map fun x => cGt x b).sum
def less (a b : List Int) : Nat := (a.map fun x => cLt x b).sum
def same (a b : List Int) : Nat := (a.map fun x => cEq x b).sum

/-! the reference -/
end Go.Proofs.Try.Dn

/-
  Two dice compared by the program; which die beats which.
-/

namespace Go.Proofs.Try.Dn
open Go.Dn

def hC (m l s : Nat) : Heap := [.cells [.i .i64 0, .i .i64 0, .i .i64 0] true, .cells [.i .i64 (m : Int), .i .i64 (l : Int), .i .i64 (s : Int)] true]

end Go.Proofs.Try.Dn

/-
  Which die beats which.
-/

namespace Go.Proofs.Try.Dn
open Go.Dn

def bt (a b : List Int) : Bool := decide (less a b < more a b)

end Go.Proofs.Try.Dn

/-
  The table of which die beats which.
-/

namespace Go.Proofs.Try.Dn
open Go.Dn

theorem snapSSV {T : TV} {l : List (List Int)} (hT : SSV T l) (H : Heap) : ∃ T', snapArgs H [] [T] = some [T'] ∧ SSV T' l := by
  obtain ⟨t', h1, h2⟩ := hT.snap H 6
  exact ⟨t', by simp [snapArgs, h1], h2⟩

theorem call55 {pg : Pg} (hF : Free pg) {T : TV} {ls : List (List Int)} (hT : SSV T ls) (hl : ls.length ≤ 1000000) (hL : ∀ x ∈ ls, x.length ≤ 1000000) (H : Heap) : callRun pg (den pg) (.pu []) [.fn 55 [] [], T] H = some (.i .i64 (chkD ls), H) := by
  obtain ⟨T', s1, s2⟩ := snapSSV hT H
  exact PFn.call (fn55 hF s2 hl hL) (args := [T]) (ks := []) (fs := []) (cs := []) (by simpa using s1)

theorem fn29_bad {pg : Pg} (hF : Free pg) {T : TV} {ls : List (List Int)} (hT : SSV T ls) (hl : ls.length ≤ 1000000) (hL : ∀ x ∈ ls, x.length ≤ 1000000) (h0 : chkD ls ≠ 0) : PFn pg 29 [T] (.tup [.nilsl, .i .i64 (chkD ls)]) := by
  have c55 := call55 (pg := pg) hF hT hl hL []
  refine .of2 (x := .ret) (e := [(2, .nilsl), (3, .i .i64 (chkD ls))]) (H' := []) (hF.S _ _) (d := d29) (by rw [hF.F]; rfl) rfl ?_ (.inl rfl) rfl (by simp) (by simp [mapO, sn_i, sn_b, sn_nil, sn8_i, sn8_b, sn8_nil, sn7_i, sn7_b, sn_sl, sn8_sl, slB_some, sn_tup, sn_agg, sn8_agg, mapO, elems])
  generalize chkD ls = C at *
  simp (disch := omega) [d29, c29, zipE, go_nil, go_last, go_past, go_pastR, go_blkN, go_blkR, go_blkE, go_skip, go_exit, go_ret, go_scope, go_seq, go_reg, go_regd, go_opdN, go_opd, go_opdG, grdd_b, grdd_u, stpd_some, find_some, go_block, go_cond, cnd_b, go_opsN, go_ops, go_opsG, grd_b, grd_u, stp_some, fin_some, up_some, cont_some, k_call, k_mv, k_pick, k_bin, k_eqB, k_eqA, k_not, k_neg, k_conv, k_alloc, k_boxA, k_boxI, k_boxB, k_boxN, k_boxBs, k_ldR, k_ldA, k_ldI, k_ldB, k_stA, k_stI, k_stB, ldC_some, stC_some, k_mkfn, k_slc, k_slcA, k_ixA, k_ixBs, k_ixSl, k_fadr, k_fld, k_ext, k_len, k_app, k_mn, k_mx, k_nilck, k_build, k_bsl1, k_bsl2, b_add, b_sub, b_mul, b_eql, b_neq, b_lss, b_leq, b_gtr, b_geq, Dn.setLast, Dn.getLast, evalO, mapO, Dn.get, putE, keepE_nil, keepE_cons, kp_some, kp_none, TV.one, TV.isAgg, Dn.part, k_boxR, negb, at0, at1, at2, at3, at4, dT, dF, wrapR_i64, Option.bind_some, Option.map_some, c55, h0]

end Go.Proofs.Try.Dn

/-
  Compare: two lists, dice or not.
-/

namespace Go.Proofs.Try.Dn
open Go.Dn

theorem SV.cells' {A : TV} {a : List Int} (h : SV A a) : A.cells = [A] := by
  rcases h with ⟨rfl, _⟩ | ⟨b, rfl⟩ <;> rfl

theorem two {pg : Pg} {A B : TV} {a b : List Int} (hA : SV A a) (hB : SV B b) (H : Heap) : dkc pg (den pg) (.bsl false [.nilsl] false 2 [0, 1]) [A, B] H = some (.sl H.length 0 1 false 2 (some 2), H ++ [.cells [A, B] false]) ∧
    ∃ T, snap .borrow (H ++ [.cells [A, B] false]) 9 (.sl H.length 0 1 false 2 (some 2)) = some T ∧ SSV T [a, b] := by
  refine ⟨by simp [dkc, dk, fillP, repl, put2, hA.one, hB.one, SV.cells' hA, SV.cells' hB], ?_⟩
  obtain ⟨A', s1, hA'⟩ := hA.snap (H ++ [.cells [A, B] false]) 6
  obtain ⟨B', s2, hB'⟩ := hB.snap (H ++ [.cells [A, B] false]) 6
  refine ⟨.bs true 1 [A', B'], ?_, .inr ⟨true, _, rfl, rfl, fun i e x he hx => ?_⟩⟩
  · rw [snS_sl _ (by decide), getLast, slB_some, if_pos ⟨by simp, .inr rfl⟩]
    show (mapO (Dn.snap .borrow _ 8) [A, B]).map _ = _
    rw [mapO, s1, Option.bind_some, mapO, s2, Option.bind_some, mapO]
    rfl
  · match i with
    | 0 => simp at he hx; subst he hx; exact hA'
    | 1 => simp at he hx; subst he hx; exact hB'
    | i + 2 => simp at he

end Go.Proofs.Try.Dn

