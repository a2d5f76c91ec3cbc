/-
  PegPlaces: the whole run answers true.
-/
import Derived.Test.YtegihfgibonhpaaPc
set_option linter.unusedSimpArgs false
set_option linter.unusedVariables false

namespace Go.Proofs.Try.Dn
open Go.Dn

theorem chunk_repl1 (k : Nat) : repl [.i .i64 0] k = List.replicate k (.i .i64 0) := rfl

theorem snap_rep1 (H : Heap) (id k : Nat) (cap : Option Nat) (h : H[id]? = some (.cells (repl [.i .i64 0] k) false)) : snap .borrow H 9 (.sl id 0 1 false k cap) = some (.bs true 1 (List.replicate k (.i .i64 0))) := by
  rw [sn_sl _ (by decide), h, slB_some, if_pos ⟨by simp [repl], .inr rfl⟩, List.drop_zero]
  simp only [elems, Bool.false_eq_true, if_false, repl, Nat.mul_one]
  rw [List.take_of_length_le (by simp), mapO_rep _ _ (sn8_i _ _ _ _)]
  rfl

set_option maxRecDepth 8000 in
theorem over17 {n : Int} {t : TV} {N p : Int} {m : List Line} (h18 : ∀ H, callRun pg2 (den pg2) (.pu []) [.fn 18 [] [], .i .i64 n, t, .i .i64 16, .i .i64 20] H = some (.tup [.i .i64 N, LT false m], H)) (hN : 1 ≤ N ∧ N ≤ 16) (hm : m.length ≤ 20) (ho : outOf N p = true) (hc : chk N m = 0) (hp : ¬ 0 ≤ p ∨ ¬ p < (2 : Int) ^ N.toNat) :
    ∃ H, bodyRun pg2 (den pg2) 17 [.i .i64 n, t, .i .i64 p] [] = some (.b true, H) := by
  have he : ((1 : Int) != 0) = true := rfl
  have o1 : Opn pg2 N m [.i .i64 p] 1 := by have := opn1 free2 hc p; rwa [if_pos ho] at this
  have oA : Opn pg2 N m [.i .i64 0, .i .i64 p] 1 := by have := opn2 free2 hc 0 p; rwa [if_pos (by simp [ho])] at this
  have oB : Opn pg2 N m [.i .i64 p, .i .i64 0] 1 := by have := opn2 free2 hc p 0; rwa [if_pos (by simp [ho])] at this
  have oC : Opn pg2 N m [.i .i64 p, .i .i64 p] 1 := by have := opn2 free2 hc p p; rwa [if_pos (by simp [ho])] at this
  obtain ⟨k, rfl⟩ : ∃ k : Nat, N = (k : Int) := ⟨N.toNat, by omega⟩
  have hmk1 := k_mksl (pg := pg2) (R := den pg2) [.i .i64 0] false 8 .i64 .i64 k [] (by omega) (by omega)
  have hmk2 := k_mksl (pg := pg2) (R := den pg2) [.i .i64 0, .i .i64 0] true 16 .i64 .i64 m.length [.cells (repl [.i .i64 0] k) false] (by omega) (by omega)
  have h32 := c32e free2 (b := false) he [.cells (repl [.i .i64 0] k) false] (.sl 0 0 1 false k (some k)) _ (snap_rep1 _ 0 k (some k) rfl) oA
  have h36 := c36e free2 (b := false) he [.cells (repl [.i .i64 0] k) false] m.length oC 1
  simp at hmk1 hmk2 h36
  have ln : ∀ H, lenK 0 .nilsl H = some 0 := fun _ => rfl
  have hout : ∃ b : Bool, True := ⟨true, trivial⟩
  refine ⟨[.cells (repl [.i .i64 0] k) false, .cells (repl [.i .i64 0, .i .i64 0] m.length) false], bodyRun_of (o := ⟨.ret, [(6, .b true)], [.cells (repl [.i .i64 0] k) false, .cells (repl [.i .i64 0, .i .i64 0] m.length) false]⟩) (vs := [.b true]) (d := d17) rfl rfl ?_ (by simp) rfl⟩
  rw [runC_go]
  have hsh := b_shl (k := .i64) hN
  by_cases h1 : 0 ≤ p
  · have h2 : ¬ p < (2 : Int) ^ (k : Int).toNat := by rcases hp with hp | hp; exact absurd h1 hp; exact hp
    simp only [Int.toNat_natCast] at h2 hsh
    simp [d17, c17, zipE, go_nil, go_last, go_past, go_pastR, go_blkN, go_blkR, go_blkE, go_skip, go_exit, go_ret, go_scope, go_seq, go_reg, go_block, go_cond, cnd_b, go_opsN, go_ops, go_opsG, grd_b, grd_u, stp_some, fin_some, up_some, cont_some, k_call, k_mv, k_pick, k_bin, k_eqB, k_eqA, k_not, k_neg, k_conv, k_alloc, k_boxA, k_boxI, k_boxB, k_boxN, k_boxBs, k_ldR, k_ldA, k_ldI, k_ldB, k_stA, k_stI, k_stB, ldC_some, stC_some, k_mkfn, k_slc, k_slcA, k_ixA, k_ixBs, k_ixSl, k_fadr, k_fld, k_ext, k_len, k_app, k_mn, k_mx, k_nilck, k_build, k_bsl1, k_bsl2, b_add, b_sub, b_mul, b_eql, b_neq, b_lss, b_leq, b_gtr, b_geq, Dn.setLast, Dn.getLast, evalO, mapO, Dn.get, putE, keepE, TV.one, TV.isAgg, Dn.part, h18, h1, h2, hsh, call22, c43e free2 he, c40e free2 he, c20e free2 he, c24e free2 he, c25e free2 he, c28e free2 he, h32, c41e free2 he, c42e free2 he, o1, oA, oB, oC, LT_len, ln, hmk1, hmk2, h36]
  · simp [d17, c17, zipE, go_nil, go_last, go_past, go_pastR, go_blkN, go_blkR, go_blkE, go_skip, go_exit, go_ret, go_scope, go_seq, go_reg, go_block, go_cond, cnd_b, go_opsN, go_ops, go_opsG, grd_b, grd_u, stp_some, fin_some, up_some, cont_some, k_call, k_mv, k_pick, k_bin, k_eqB, k_eqA, k_not, k_neg, k_conv, k_alloc, k_boxA, k_boxI, k_boxB, k_boxN, k_boxBs, k_ldR, k_ldA, k_ldI, k_ldB, k_stA, k_stI, k_stB, ldC_some, stC_some, k_mkfn, k_slc, k_slcA, k_ixA, k_ixBs, k_ixSl, k_fadr, k_fld, k_ext, k_len, k_app, k_mn, k_mx, k_nilck, k_build, k_bsl1, k_bsl2, b_add, b_sub, b_mul, b_eql, b_neq, b_lss, b_leq, b_gtr, b_geq, Dn.setLast, Dn.getLast, evalO, mapO, Dn.get, putE, keepE, TV.one, TV.isAgg, Dn.part, h18, h1, call22, c43e free2 he, c40e free2 he, c20e free2 he, c24e free2 he, c25e free2 he, c28e free2 he, h32, c41e free2 he, c42e free2 he, o1, oA, oB, oC, LT_len, ln, hmk1, hmk2, h36]

theorem run17 (n : Int) (t : TV) (l : List Line) (p : Int) (ht : IsLines t l) : ∃ H, bodyRun pg2 (den pg2) 17 [.i .i64 n, t, .i .i64 p] [] = some (.b true, H) := by
  obtain ⟨N, m, hN1, hN2, hm, hc, h18⟩ := call18 free2 (n := n) (most := 16) (many := 20) (by omega) ht (by omega)
  simp only [Int.cast_ofNat_Int] at h18
  have hN : 1 ≤ N ∧ N ≤ 16 := ⟨hN1, hN2⟩
  by_cases h1 : 0 ≤ p
  · by_cases h2 : p < (2 : Int) ^ N.toNat
    · refine ⟨[], bodyRun_of (o := ⟨.ret, [(6, .b true)], []⟩) (vs := [.b true]) (d := d17) rfl rfl ?_ (by simp) rfl⟩
      rw [runC_go]
      simp [d17, c17, zipE, go_nil, go_last, go_past, go_pastR, go_blkN, go_blkR, go_blkE, go_skip, go_exit, go_ret, go_scope, go_seq, go_reg, go_block, go_cond, cnd_b, go_opsN, go_ops, go_opsG, grd_b, grd_u, stp_some, fin_some, up_some, cont_some, k_call, k_mv, k_pick, k_bin, k_eqB, k_eqA, k_not, k_neg, k_conv, k_alloc, k_boxA, k_boxI, k_boxB, k_boxN, k_boxBs, k_ldR, k_ldA, k_ldI, k_ldB, k_stA, k_stI, k_stB, ldC_some, stC_some, k_mkfn, k_slc, k_slcA, k_ixA, k_ixBs, k_ixSl, k_fadr, k_fld, k_ext, k_len, k_app, k_mn, k_mx, k_nilck, k_build, k_bsl1, k_bsl2, b_add, b_sub, b_mul, b_eql, b_neq, b_lss, b_leq, b_gtr, b_geq, Dn.setLast, Dn.getLast, evalO, mapO, Dn.get, putE, keepE, TV.one, TV.isAgg, Dn.part, h18, call22, h1, h2, b_shl hN]
    · have ho : outOf N p = true := by simp [outOf]; omega
      exact over17 h18 hN hm ho hc (.inr h2)
  · have ho : outOf N p = true := by simp [outOf]; omega
    exact over17 h18 hN hm ho hc (.inl h1)

end Go.Proofs.Try.Dn

