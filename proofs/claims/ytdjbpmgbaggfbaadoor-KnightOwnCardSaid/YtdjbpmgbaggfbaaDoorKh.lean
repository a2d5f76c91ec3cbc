/-
  Knight: what the program must do whatever the input is, from the calls that it makes.
-/
import Derived.Test.YtdjbpmgbaggfbaaDoorKa
import Derived.Test.YtdjbpmgbaggfbaaDoorKg0
import Derived.Test.YtdjbpmgbaggfbaaDoorKg1
import Derived.Test.YtdjbpmgbaggfbaaDoorKg2
import Derived.Test.YtdjbpmgbaggfbaaDoorKg3
import Derived.Test.YtdjbpmgbaggfbaaDoorKg4
import Derived.Test.YtdjbpmgbaggfbaaDoorKg5
import Derived.Test.YtdjbpmgbaggfbaaDoorKg6
import Derived.Test.YtdjbpmgbaggfbaaDoorKg7
import Derived.Test.YtdjbpmgbaggfbaaDoorKg8
set_option linter.unusedSimpArgs false
set_option linter.unusedVariables false

namespace Go.Proofs.Tryd.Dn
open Go.Dn

set_option maxRecDepth 100000 in
theorem awake_of {pg : Pg} (hF : pg.F = tab.look) (hS : pg.S 25 [] = none)
    (h0 : PFn pg 28 [.i .i64 3, .i .i64 3, .i .i64 4] (.tup [.nilsl, .i .i64 0]))
    (h1 : PFn pg 20 [.i .i64 3, .i .i64 3] (.tup [.nilsl, .b false, .i .i64 0]))
    (h2 : PFn pg 20 [.i .i64 3, .i .i64 4] (.tup [.bs false 1 [.i .i64 0,.i .i64 6,.i .i64 8,.i .i64 1,.i .i64 7,.i .i64 9,.i .i64 2,.i .i64 4,.i .i64 10,.i .i64 3,.i .i64 5,.i .i64 11],.b true,.i .i64 0]))
    (h3 : PFn pg 19 [.i .i64 3, .i .i64 4] (.tup [.nilsl, .b false, .i .i64 0]))
    (h4 : PFn pg 38 [.i .i64 3, .i .i64 3, .i .i64 16] (.tup [.b true, .i .i64 0]))
    (h5 : PFn pg 29 [.i .i64 3, .i .i64 3, .i .i64 0, .i .i64 2] (.tup [.i .i64 2, .b true, .i .i64 0]))
    (h6 : PFn pg 45 [.i .i64 3, .i .i64 4] (.tup [.i .i64 2650, .i .i64 6, .i .i64 0]))
    (h7 : PFn pg 26 [.i .i64 3, .i .i64 3, .i .i64 0, .i .i64 0, .i .i64 2] (.tup [.i .i64 2, .i .i64 0]))
    (h8 : PFn pg 58 [.i .i64 0, .i .i64 1] (.i .i64 1))
    : PFn pg 25 [] (.b true) := by
  have k0 := fun H => PFn.call h0 (args := [.i .i64 3, .i .i64 3, .i .i64 4]) (ks := []) (fs := []) (cs := []) (H := H) (by simp [snapArgs, sn_i])
  have k1 := fun H => PFn.call h1 (args := [.i .i64 3, .i .i64 3]) (ks := []) (fs := []) (cs := []) (H := H) (by simp [snapArgs, sn_i])
  have k2 := fun H => PFn.call h2 (args := [.i .i64 3, .i .i64 4]) (ks := []) (fs := []) (cs := []) (H := H) (by simp [snapArgs, sn_i])
  have k3 := fun H => PFn.call h3 (args := [.i .i64 3, .i .i64 4]) (ks := []) (fs := []) (cs := []) (H := H) (by simp [snapArgs, sn_i])
  have k4 := fun H => PFn.call h4 (args := [.i .i64 3, .i .i64 3, .i .i64 16]) (ks := []) (fs := []) (cs := []) (H := H) (by simp [snapArgs, sn_i])
  have k5 := fun H => PFn.call h5 (args := [.i .i64 3, .i .i64 3, .i .i64 0, .i .i64 2]) (ks := []) (fs := []) (cs := []) (H := H) (by simp [snapArgs, sn_i])
  have k6 := fun H => PFn.call h6 (args := [.i .i64 3, .i .i64 4]) (ks := []) (fs := []) (cs := []) (H := H) (by simp [snapArgs, sn_i])
  have k7 := fun H => PFn.call h7 (args := [.i .i64 3, .i .i64 3, .i .i64 0, .i .i64 0, .i .i64 2]) (ks := []) (fs := []) (cs := []) (H := H) (by simp [snapArgs, sn_i])
  have k8 := fun H => PFn.call h8 (args := [.i .i64 0, .i .i64 1]) (ks := []) (fs := []) (cs := []) (H := H) (by simp [snapArgs, sn_i])
  refine .of1 (x := .ret) (e := [(0, .b true)]) (H' := []) (d := d25) hS (by rw [hF]; rfl) rfl ?_ (.inl rfl) rfl (by simp [snap])
  simp [d25, c25, zipE, go_nil, go_last, go_past, go_pastR, go_blkN, go_blkR, go_blkE, go_skip, go_exit, go_ret, go_scope, go_seq, go_reg, go_regd, go_opdN, go_opd, go_opdG, grdd_b, grdd_u, stpd_some, find_some, go_block, go_cond, cnd_b, go_opsN, go_ops, go_opsG, grd_b, grd_u, stp_some, fin_some, up_some, cont_some, k_call, k_mv, k_pick, k_bin, k_eqB, k_eqA, k_not, k_neg, k_conv, k_alloc, k_boxA, k_boxI, k_boxB, k_boxN, k_boxBs, k_ldR, k_ldA, k_ldI, k_ldB, k_stA, k_stI, k_stB, ldC_some, stC_some, k_mkfn, k_slc, k_slcA, k_ixA, k_ixBs, k_ixSl, k_fadr, k_fld, k_ext, k_len, k_app, k_mn, k_mx, k_nilck, k_build, k_bsl1, k_bsl2, b_add, b_sub, b_mul, b_eql, b_neq, b_lss, b_leq, b_gtr, b_geq, Dn.setLast, Dn.getLast, evalO, mapO, Dn.get, putE, keepE, TV.one, TV.isAgg, Dn.part, k0, k1, k2, k3, k4, k5, k6, k7, k8, lenK]

end Go.Proofs.Tryd.Dn

/-
  Knight: what the program must do whatever the input is.
-/

namespace Go.Proofs.Tryd.Dn
open Go.Dn

theorem awake : PFn pg0 25 [] (.b true) :=
  awake_of rfl rfl (known_iff rfl aq0) (known_iff rfl aq1) (known_iff rfl aq2) (known_iff rfl aq3) (known_iff rfl aq4) (known_iff rfl aq5) (known_iff rfl aq6) (known_iff rfl aq7) (known_iff rfl aq8)

end Go.Proofs.Tryd.Dn

