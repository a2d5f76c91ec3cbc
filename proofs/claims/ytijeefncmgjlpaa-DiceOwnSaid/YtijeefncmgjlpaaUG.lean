/-
  Dice: Ring (35) and Rank (36).
-/
import Derived.Test.YtijeefncmgjlpaaUF
import Derived.Test.YtijeefncmgjlpaaU1
set_option linter.unusedSimpArgs false
set_option linter.unusedVariables false

set_option maxHeartbeats 4000000
set_option maxRecDepth 100000
namespace Go.Proofs.Try.Dn
open Go.Dn

theorem cGL (x y : Int) (a b : List Int) : (a.map fun x => cGt x b).sum = (b.map fun y => cLt y a).sum := by
 have hL : ∀ (y : Int) (a : List Int), cLt y a = (a.map fun x => if y < x then 1 else 0).sum := by
  intro y a
  induction a with
  | nil => rfl
  | cons z a ih => have := (cnt_cons y z a).2.1; rw [this, ih, List.map_cons, List.sum_cons]; omega
 induction b with
 | nil =>
  induction a with
  | nil => rfl
  | cons z a ih => rw [List.map_cons, List.sum_cons, ih]; rfl
 | cons w b ih =>
  rw [List.map_cons, List.sum_cons, <- ih, hL]
  clear ih
  induction a with
  | nil => rfl
  | cons z a ih =>
   have h1 := (cnt_cons z w b).1
   rw [List.map_cons, List.sum_cons, ih, List.map_cons, List.sum_cons, List.map_cons, List.sum_cons, h1]
   omega

theorem more_less (a b : List Int) : more a b = less b a := cGL 0 0 a b
theorem less_more (a b : List Int) : less a b = more b a := (more_less b a).symm

theorem bt_self (a : List Int) : bt a a = false := by unfold bt; rw [less_more]; simp
theorem bt_asym {a b : List Int} (h : bt a b = true) : bt b a = false := by
 unfold bt at h ⊢
 rw [decide_eq_true_eq] at h
 rw [less_more, more_less b a]
 simp; omega

def eN (ls : List (List Int)) (i j : Nat) : Bool := ed ls (i : Int) (j : Int)

theorem eN_self (ls : List (List Int)) (x : Nat) : eN ls x x = false := bt_self _
theorem eN_asym (ls : List (List Int)) (x y : Nat) (h : eN ls x y = true) : eN ls y x = false := bt_asym h

theorem eN_at {ls : List (List Int)} {i j : Nat} {a b : List Int} (ha : ls[i]? = some a) (hb : ls[j]? = some b) : eN ls i j = bt a b := by
 unfold eN ed
 simp only [Int.toNat_natCast, List.getD_eq_getElem?_getD, ha, hb, Option.getD_some]

theorem tabOf (ls : List (List Int)) (b : Bool) : TabOf ls.length (eN ls) ((elRw elB b).lt b (tbl ls)) := by
 refine ⟨b, tbl ls, rfl, by unfold tbl; rw [List.length_map], fun i hi => ?_⟩
 obtain ⟨a, ha⟩ : ∃ a, ls[i]? = some a := ⟨_, List.getElem?_eq_getElem hi⟩
 refine ⟨ls.map (bt a), by unfold tbl; rw [List.getElem?_map, ha]; rfl, by rw [List.length_map], fun j hj => ?_⟩
 obtain ⟨b, hb⟩ : ∃ b, ls[j]? = some b := ⟨_, List.getElem?_eq_getElem hj⟩
 rw [List.getElem?_map, hb, eN_at ha hb]; rfl

theorem ci_idx {n : Nat} {l : List Nat} (hn : l.Nodup) (hb : ∀ x ∈ l, x < n) : Idx n (ci l) := by
 constructor
 ·unfold ci
  rw [List.nodup_iff_pairwise_ne, List.pairwise_map]
  exact List.Pairwise.imp (fun h e => h (by omega)) (List.nodup_iff_pairwise_ne.1 hn)
 ·intro x hx
  unfold ci at hx
  obtain ⟨y, hy, rfl⟩ := List.mem_map.1 hx
  have := hb y hy
  omega

theorem ci_get {l : List Nat} {k : Nat} {x : Int} (h : (ci l)[k]? = some x) : ∃ y : Nat, l[k]? = some y /\ x = (y : Int) := by
 unfold ci at h
 rw [List.getElem?_map] at h
 cases hy : l[k]? with
 | none => rw [hy] at h; cases h
 | some y => rw [hy] at h; exact ⟨y, rfl, (Option.some.inj h).symm⟩

theorem ring_of {ls : List (List Int)} {r : List Nat} (h : RingN (eN ls) ls.length r) : RingL ls (ci r) := by
 refine ⟨by rw [ci_len]; exact h.1, ci_idx h.2.1 h.2.2.1, fun i x y hx hy => ?_⟩
 obtain ⟨x', hx', rfl⟩ := ci_get hx
 rw [ci_len] at hy
 obtain ⟨y', hy', rfl⟩ := ci_get hy
 exact h.2.2.2 i x' y' hx' hy'

theorem rank_of {ls : List (List Int)} {r : List Nat} (hl : r.length = ls.length) (hn : r.Nodup) (hb : ∀ x ∈ r, x < ls.length) (h : ∀ (i k x y : Nat), k < i -> r[i]? = some x -> r[k]? = some y -> eN ls x y = false) : RankL ls (ci r) := by
 refine ⟨by rw [ci_len]; exact hl, ci_idx hn hb, fun i k x y hk hx hy => ?_⟩
 obtain ⟨x', hx', rfl⟩ := ci_get hx
 obtain ⟨y', hy', rfl⟩ := ci_get hy
 exact h i k x' y' hk hx' hy'

theorem nodup_rev {l : List Nat} (h : l.Nodup) : l.reverse.Nodup := List.pairwise_reverse.2 (List.Pairwise.imp (fun h => Ne.symm h) h)

theorem body36 {pg : Pg} (hF : Free pg) {T : TV} {ls : List (List Int)} (hT : SSV T ls) (h0 : chkD ls = 0) :
  ((∃ r, RingL ls r) /\ ∃ H', bodyRun pg (den pg) 36 [T] [] = some (.tup [.nilsl, .b false, .i .i64 0], H')) \/
  (∃ r t H', RankL ls r /\ bodyRun pg (den pg) 36 [T] [] = some (.tup [t, .b true, .i .i64 0], H') /\ elI.Own H' t r) := by
 have hr := row_chk h0
 have hl := hr.le
 have hpos := hr.pos
 have hL : ∀ x ∈ ls, x.length <= 100 := fun x hx => by have := (hr.all x hx).le; omega
 have c55 := call55 (pg := pg) hF hT (by omega) (fun x hx => by have := hL x hx; omega) []
 rw [h0] at c55
 have c63 := call63 (pg := pg) hF hT (by omega) hL []
 rcases body66 (pg := pg) hF (by omega) (eN_self ls) (eN_asym ls) (tabOf ls false) with ⟨r, H', b1, b2⟩ | ⟨t, ord, H', b1, b2, b3, b4, b5, b6⟩
 ·left
  have en : ∀ K, dkc pg (den pg) (.eqN 0 true) [.nilsl, .nilsl] K = some (.b false, K) := fun K => rfl
  refine ⟨⟨_, ring_of b2⟩, H', body_ofs (vs := [.nilsl, .b false, .i .i64 0]) (x := .ret) (e := [(2, .nilsl), (3, .b false), (4, .i .i64 0)]) (d := d36) (by rw [hF.F]; rfl) rfl ?_ (.inl rfl) rfl⟩
  clear b2
  generalize elI.lt false (ci r) = RV at *
  generalize (elRw elB false).lt false (tbl ls) = TB at *
  simp (disch := omega) [d36, c36, zipE, Z0, Z1, Z2, Z3, Z4, Z5, Z6, Z7, Z8, Z9, Za, Zb, Zc, Zd, Ze, Zf, Zg, Zh, Zi, Zj, Zk, Zl, Zm, Zn, Zo, Zp, Zq, Zr, Zs, Zt, Zu, Zv, Zw, Zx, k_mv, Zy, Zz, ZA, ZB, ZC, ZD, ZE, ZF, ZG, ZH, ZI, ZJ, ZK, ZL, ZM, ZN, ZO, ZP, ZQ, ZR, ZS, ZT, ZU, ZV, ZW, ZX, ZY, ZZ, Y0, Y1, Y2, Y3, Y4, k_mn, k_mx, Y5, Y6, Y7, Y8, Y9, Ya, Yb, Yc, Yd, Ye, Yf, Yg, Yh, Dn.setLast, Dn.getLast, evalO, mapO, Dn.get, putE, Yi, Yj, Yk, Yl, TV.one, TV.isAgg, Dn.part, Ym, negb, at0, at1, at2, at3, at4, dT, dF, Yn, Option.bind_some, Option.map_some, c55, c63, sh_fn, b1, en]
 ·right
  have hne : ci ord.reverse ≠ [] := ci_ne (by intro e; have := congrArg List.length e; simp at this; rw [this] at b3; simp at b3; omega)
  have en : ∀ K, dkc pg (den pg) (.eqN 0 true) [t, .nilsl] K = some (.b true, K) := fun K => by
   rcases b2 with ⟨_, h⟩ | ⟨_, id, ag, c, rfl, _⟩
   ·exact absurd h hne
   ·rfl
  refine ⟨ci ord.reverse, t, H', rank_of (by simpa using b3) (nodup_rev b4) (fun x hx => b5 x (by simpa using hx)) b6, body_ofs (vs := [t, .b true, .i .i64 0]) (x := .ret) (e := [(2, t), (3, .b true), (4, .i .i64 0)]) (d := d36) (by rw [hF.F]; rfl) rfl ?_ (.inl rfl) rfl, b2⟩
  clear b2 b3 b4 b5 b6 hne
  generalize (elRw elB false).lt false (tbl ls) = TB at *
  simp (disch := omega) [d36, c36, zipE, Z0, Z1, Z2, Z3, Z4, Z5, Z6, Z7, Z8, Z9, Za, Zb, Zc, Zd, Ze, Zf, Zg, Zh, Zi, Zj, Zk, Zl, Zm, Zn, Zo, Zp, Zq, Zr, Zs, Zt, Zu, Zv, Zw, Zx, k_mv, Zy, Zz, ZA, ZB, ZC, ZD, ZE, ZF, ZG, ZH, ZI, ZJ, ZK, ZL, ZM, ZN, ZO, ZP, ZQ, ZR, ZS, ZT, ZU, ZV, ZW, ZX, ZY, ZZ, Y0, Y1, Y2, Y3, Y4, k_mn, k_mx, Y5, Y6, Y7, Y8, Y9, Ya, Yb, Yc, Yd, Ye, Yf, Yg, Yh, Dn.setLast, Dn.getLast, evalO, mapO, Dn.get, putE, Yi, Yj, Yk, Yl, TV.one, TV.isAgg, Dn.part, Ym, negb, at0, at1, at2, at3, at4, dT, dF, Yn, Option.bind_some, Option.map_some, c55, c63, sh_fn, b1, en]

end Go.Proofs.Try.Dn

