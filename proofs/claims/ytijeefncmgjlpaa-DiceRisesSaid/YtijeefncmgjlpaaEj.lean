/-
  Lists of pairs in a row: equal neighbours let off (slices.CompactFunc).
-/
import Derived.Test.YtijeefncmgjlpaaEa
import Derived.Test.YtijeefncmgjlpaaEc
import Derived.Test.YtijeefncmgjlpaaDd
set_option linter.unusedSimpArgs false
set_option linter.unusedVariables false

set_option maxHeartbeats 1000000
namespace Go.Proofs.Try.Dn
open Go.Dn

abbrev PL := List Int × List Int

def elP : El PL where
  sz := 2
  ag := true
  enc p := [elI.lt false p.1, elI.lt false p.2]
  pos := by decide
  len _ := rfl
  one p := by
    obtain ⟨a, b⟩ := p
    cases a <;> cases b <;> rfl
  sc := .inl rfl

theorem flat_set {α : Type} (E : El α) : ∀ (l : List α) (k : Nat) (x : α), k < l.length → E.flat (l.set k x) = put2 (E.flat l) (k * E.sz) (E.enc x)
  | [], k, x, h => by simp at h
  | a :: l, 0, x, h => by
    simp only [List.set_cons_zero, El.flat_cons, put2, Nat.zero_mul, List.take_zero, List.nil_append, Nat.zero_add, E.len]
    rw [List.drop_left' (E.len a)]
  | a :: l, k + 1, x, h => by
    have ih := flat_set E l k x (by simpa using h)
    simp only [List.set_cons_succ, El.flat_cons, ih, put2]
    rw [show (k + 1) * E.sz = (E.enc a).length + k * E.sz by rw [E.len, Nat.add_mul]; omega, List.take_length_add_append, Nat.add_assoc, List.drop_length_add_append]
    simp

def RowP (K : Heap) (r : Nat) (cur : List PL) : Prop := ∃ ag tail, K[r]? = some (.cells (elP.flat cur ++ tail) ag)

theorem RowP.mono {K K' : Heap} {r : Nat} {cur : List PL} (h : RowP K r cur) (hf : K'[r]? = K[r]?) : RowP K' r cur := by
  obtain ⟨ag, tail, h⟩ := h
  exact ⟨ag, tail, hf.trans h⟩

theorem RowP.lt {K : Heap} {r : Nat} {cur : List PL} (h : RowP K r cur) : r < K.length := by
  obtain ⟨ag, tail, h⟩ := h
  exact (List.getElem?_eq_some_iff.1 h).1

theorem RowP.view {K : Heap} {r : Nat} {cur : List PL} (h : RowP K r cur) {k : Nat} (hk : k ≤ cur.length) : elP.View K (.sl r (k * 2) 2 true (cur.length - k) none) (cur.drop k) := by
  obtain ⟨ag, tail, h⟩ := h
  have hl := elP.flat_len cur
  have hs : elP.sz = 2 := rfl
  rw [hs] at hl
  refine .inr (.inr ⟨r, k * 2, none, _, ag, by rw [List.length_drop]; rfl, by simp, h, ?_, ?_⟩)
  · rw [List.length_append, hl, List.length_drop, hs]; omega
  · rw [hs, List.length_drop, List.drop_append_of_le_length (by omega)]
    have := elP.flat_drop cur k
    rw [hs] at this
    rw [this]
    have hl2 := elP.flat_len (cur.drop k)
    rw [hs, List.length_drop] at hl2
    rw [List.take_left' hl2]

theorem RowP.set {pg : Pg} {K : Heap} {r : Nat} {cur : List PL} (h : RowP K r cur) {k : Nat} (hk : k < cur.length) (x : PL) :
    ∃ K', dkc pg (den pg) (.st 2) [.ref r (k * 2), elP.val x] K = some (.undef, K') ∧ RowP K' r (cur.set k x) ∧ (∀ j, j ≠ r → K'[j]? = K[j]?) ∧ K'.length = K.length := by
  obtain ⟨ag, tail, h⟩ := h
  have hl := elP.flat_len cur
  have hs : elP.sz = 2 := rfl
  rw [hs] at hl
  have hlt := (List.getElem?_eq_some_iff.1 h).1
  refine ⟨K.set r (.cells (put2 (elP.flat cur ++ tail) (k * 2) (elP.enc x)) ag), ?_, ⟨ag, tail, ?_⟩, fun j hj => List.getElem?_set_ne (Ne.symm hj), by simp⟩
  · show dk (.st 2) [.ref r (k * 2), .agg (elP.enc x)] K = _
    simp only [dk, h]
    rw [if_pos ⟨elP.len x, elP.one x, by rw [List.length_append, hl]; omega⟩]
    rfl
  · rw [List.getElem?_set_self hlt, flat_set _ _ _ _ hk, hs]
    congr 2
    unfold put2
    have he := elP.len x
    rw [hs] at he
    rw [he, List.take_append_of_le_length (by omega), List.drop_append_of_le_length (by omega), List.append_assoc, List.append_assoc, List.append_assoc]

def eqP (x y : PL) : Bool := decide (cmpP x y = 0)

def kpP (p : PL) : List PL → List PL
  | [] => []
  | x :: l => if eqP x p then kpP x l else x :: kpP x l
def ddP : List PL → List PL
  | [] => []
  | x :: l => x :: kpP x l

def Short (l : List PL) : Prop := ∀ p ∈ l, p.1.length ≤ 1000000 ∧ p.2.length ≤ 1000000

theorem eq_run {pg : Pg} (hF : Free pg) {r6 : Nat} {K : Heap} (h6 : K[r6]? = some (.cells [.fn 79 [] []] false)) (x y : PL) (hx : x.1.length ≤ 1000000 ∧ x.2.length ≤ 1000000) (hy : y.1.length ≤ 1000000 ∧ y.2.length ≤ 1000000) :
    ∃ K', callRun pg (den pg) .sh [.fn 83 [] [.ref r6 0], elP.val x, elP.val y] K = some (.b (eqP x y), K') ∧ ∀ j, j < K.length → K'[j]? = K[j]? := by
  obtain ⟨a, b⟩ := x
  obtain ⟨c, d⟩ := y
  have lt6 := (List.getElem?_eq_some_iff.1 h6).1
  have hbx : ∀ (p : PL) (H : Heap), dkc pg (den pg) (.box true) [elP.val p] H = some (.ref H.length 0, H ++ [.cells [elI.lt false p.1, elI.lt false p.2] true]) := fun p H => by
    have h1 := elP.one p
    show dk (.box true) [.agg (elP.enc p)] H = _
    simp only [dk]
    rw [if_pos ⟨h1, rfl⟩]; rfl
  have b1 := hbx (a, b) K
  obtain ⟨K1, hK1⟩ : ∃ K1, K1 = K ++ [AObj.cells [elI.lt false a, elI.lt false b] true] := ⟨_, rfl⟩
  simp only at b1
  rw [← hK1] at b1
  have b2 := hbx (c, d) K1
  obtain ⟨K2, hK2⟩ : ∃ K2, K2 = K1 ++ [AObj.cells [elI.lt false c, elI.lt false d] true] := ⟨_, rfl⟩
  simp only at b2
  rw [← hK2] at b2
  have l1 : K1.length = K.length + 1 := by rw [hK1]; simp
  have g1 : K2[K.length]? = some (.cells [elI.lt false a, elI.lt false b] true) := by rw [hK2, List.getElem?_append_left (by omega), hK1]; exact getLast _ _
  have g2 : K2[K1.length]? = some (.cells [elI.lt false c, elI.lt false d] true) := by rw [hK2]; exact getLast _ _
  have fr : ∀ j, j < K.length → K2[j]? = K[j]? := fun j hj => by rw [hK2, List.getElem?_append_left (by omega), hK1, List.getElem?_append_left hj]
  have ld6 : ldC K2[r6]? 1 false 0 K2 = some (.fn 79 [] [], K2) := by
    have := ld_box (pg := pg) (R := den pg) (H := K2) (id := r6) (t := .fn 79 [] []) (by rw [fr _ lt6]; exact h6) rfl
    rwa [gXb1] at this
  have ldx : ldC K2[K.length]? 2 true 0 K2 = some (elP.val (a, b), K2) := by rw [g1]; rfl
  have ldy : ldC K2[K1.length]? 2 true 0 K2 = some (elP.val (c, d), K2) := by rw [g2]; rfl
  obtain ⟨K3, r1, r2⟩ := body79 hF (SV.lt false a) (SV.lt false b) (SV.lt false c) (SV.lt false d) hx.1 hx.2 hy.1 hy.2 K2
  have r1' : callRun pg (den pg) .sh [.fn 79 [] [], elP.val (a, b), elP.val (c, d)] K2 = some (.i .i64 (cmpP (a, b) (c, d)), K3) := r1
  refine ⟨K3, ?_, fun j hj => (r2 j (by rw [hK2, List.length_append]; omega)).trans (fr j hj)⟩
  rw [sh_fn]
  refine body_of (x := .ret) (e := [(5, .b (eqP (a, b) (c, d)))]) (d := d83) (by rw [hF.F]; rfl) rfl ?_ (.inl rfl) rfl
  unfold eqP
  generalize cmpP (a, b) (c, d) = z at *
  generalize elP.val (a, b) = u at *
  generalize elP.val (c, d) = v at *
  simp (disch := omega) [d83, c83, zipE, gX0, gX1, gX2, gX3, gX4, gX5, gX6, gX7, gX8, gX9, gXa, gXb, gXc, gXd, gXe, gXf, gXg, gXh, gXi, gXj, gXk, gXl, gXm, gXn, gXo, gXp, gXq, gXr, gXs, gXt, gXu, gXv, gXw, gXx, k_mv, gXy, gXz, gX01, gX11, gX21, gX31, gX41, gX51, gX61, gX71, gX81, gX91, gXa1, gXb1, gXc1, gXd1, gXe1, gXf1, gXg1, gXh1, gXi1, gXj1, gXk1, gXl1, gXm1, gXn1, gXo1, gXp1, gXq1, gXr1, gXs1, gXt1, gXu1, k_mn, k_mx, gXv1, gXw1, gXx1, gXy1, gXz1, gX02, gX12, gX22, gX32, gX42, gX52, gX62, gX72, Dn.setLast, Dn.getLast, evalO, mapO, Dn.get, putE, gX82, gX92, gXa2, gXb2, TV.one, TV.isAgg, Dn.part, gXc2, negb, at0, at1, at2, at3, at4, dT, dF, gXd2, Option.bind_some, Option.map_some, b1, b2, ld6, ldx, ldy, r1']
  rfl

end Go.Proofs.Try.Dn

/-
  Lists of pairs in a row: equal neighbours let off, the loops.
-/

set_option maxHeartbeats 1000000
namespace Go.Proofs.Try.Dn
open Go.Dn

theorem ix_row {pg : Pg} {K : Heap} {r : Nat} {cur : List PL} (h : RowP K r cur) {k i : Nat} (hk : k ≤ cur.length) {x : PL} (hx : (cur.drop k)[i]? = some x) :
    ∃ p, dkc pg (den pg) (.ixS 2 true) [.sl r (k * 2) 2 true (cur.length - k) none, .i .i64 (i : Int)] K = some (p, K) ∧ dkc pg (den pg) (.ld 2 true) [p] K = some (elP.val x, K) := by
  obtain ⟨p, h1, h2, _⟩ := (h.view hk).ix (pg := pg) (R := den pg) hx .i64
  exact ⟨p, h1, h2.ld⟩

theorem kpP_snoc (p : PL) : ∀ (l : List PL) (x : PL), kpP p (l ++ [x]) = kpP p l ++ (if eqP x ((p :: l).getLast (by simp)) then [] else [x])
  | [], x => rfl
  | y :: l, x => by
    rw [List.cons_append, kpP, kpP]
    have e : (p :: y :: l).getLast (by simp) = (y :: l).getLast (by simp) := by simp
    rw [e]
    split <;> simp [kpP_snoc y l x]

theorem ddP_take {l : List PL} {i : Nat} {x y : PL} (hy : l[i]? = some y) (hx : l[i + 1]? = some x) : ddP (l.take (i + 2)) = ddP (l.take (i + 1)) ++ (if eqP x y then [] else [x]) := by
  cases l with
  | nil => simp at hy
  | cons p l =>
    have hx' : l[i]? = some x := by simpa using hx
    have e1 : l.take (i + 1) = l.take i ++ [x] := by rw [List.take_add_one, hx']; rfl
    have e2 : (p :: l).take (i + 2) = p :: (l.take i ++ [x]) := by rw [List.take_succ_cons, e1]
    rw [e2, List.take_succ_cons]
    show p :: kpP p (l.take i ++ [x]) = p :: kpP p (l.take i) ++ _
    rw [kpP_snoc]
    have e3 : (p :: l.take i).getLast (by simp) = y := by
      have hlen : i < l.length := (List.getElem?_eq_some_iff.1 hx').1
      rw [List.getLast_eq_getElem]
      have : (p :: l.take i)[i]? = some y := by
        cases i with
        | zero => simpa using hy
        | succ i =>
          simp only [List.getElem?_cons_succ] at hy ⊢
          rw [List.getElem?_take, if_pos (by omega)]; exact hy
      have h2 := List.getElem?_eq_some_iff.1 this
      obtain ⟨h3, h4⟩ := h2
      rw [← h4]
      congr 1
      simp; omega
    rw [e3]; rfl

structure S82 (K : Heap) (r r6 : Nat) (l cur : List PL) (k i : Nat) : Prop where
  row : RowP K r cur
  len : cur.length = l.length
  h6 : K[r6]? = some (.cells [.fn 79 [] []] false)
  ne : r6 ≠ r
  tk : cur.take k = ddP (l.take i)
  dr : cur.drop (i - 1) = l.drop (i - 1)
  k0 : 0 < k
  ki : k ≤ i
  il : i ≤ l.length

theorem l82_1_all {pg : Pg} (hF : Free pg) {r r6 : Nat} {l : List PL} (hs : Short l) (hl : l.length ≤ 1000000) {k0 : Nat} (hk0 : 1 ≤ k0) (hkl : k0 < l.length) :
    ∀ (q i k : Nat) (K : Heap) (cur : List PL), i + q = l.length → k0 + 1 ≤ i → k < i → S82 K r r6 l cur k i →
    ∃ (v : TV) (K' : Heap) (cur' : List PL) (k' : Nat), den pg l82_1 [(0, .sl r 0 2 true l.length none), (1, .fn 83 [] [.ref r6 0]), (5, .i .i64 (k : Int)), (6, .sl r (k0 * 2) 2 true (l.length - k0) none), (7, .i .i64 ((i - k0 : Nat) : Int))] K =
      some ⟨.exit 2, [(0, .sl r 0 2 true l.length none), (1, .fn 83 [] [.ref r6 0]), (5, .i .i64 (k' : Int)), (6, .sl r (k0 * 2) 2 true (l.length - k0) none), (7, .i .i64 ((l.length - k0 : Nat) : Int)), (35, v)], K'⟩ ∧ S82 K' r r6 l cur' k' l.length ∧ ∀ j, j < K.length → j ≠ r → K'[j]? = K[j]?
  | 0, i, k, K, cur, hi, hik, hki, h => by
    obtain rfl : i = l.length := by omega
    refine ⟨.b false, K, cur, k, ?_, h, fun _ _ _ => rfl⟩
    have ln : ∀ K, lenK 0 (.sl r (k0 * 2) 2 true (l.length - k0) none) K = some (l.length - k0) := fun K => rfl
    obtain ⟨M, hM⟩ : ∃ M, M = l.length - k0 := ⟨_, rfl⟩
    rw [← hM] at ln ⊢
    rw [l82_1, den_loop]
    simp (disch := omega) [b82_0, gX0, gX1, gX2, gX3, gX4, gX5, gX6, gX7, gX8, gX9, gXa, gXb, gXc, gXd, gXe, gXf, gXg, gXh, gXi, gXj, gXk, gXl, gXm, gXn, gXo, gXp, gXq, gXr, gXs, gXt, gXu, gXv, gXw, gXx, k_mv, gXy, gXz, gX01, gX11, gX21, gX31, gX41, gX51, gX61, gX71, gX81, gX91, gXa1, gXb1, gXc1, gXd1, gXe1, gXf1, gXg1, gXh1, gXi1, gXj1, gXk1, gXl1, gXm1, gXn1, gXo1, gXp1, gXq1, gXr1, gXs1, gXt1, gXu1, k_mn, k_mx, gXv1, gXw1, gXx1, gXy1, gXz1, gX02, gX12, gX22, gX32, gX42, gX52, gX62, gX72, Dn.setLast, Dn.getLast, evalO, mapO, Dn.get, putE, gX82, gX92, gXa2, gXb2, TV.one, TV.isAgg, Dn.part, gXc2, negb, at0, at1, at2, at3, at4, dT, dF, gXd2, Option.bind_some, Option.map_some, ln]
  | q + 1, i, k, K, cur, hi, hik, hki, h => by
    obtain ⟨x, hx⟩ : ∃ x, l[i]? = some x := ⟨_, List.getElem?_eq_getElem (by omega)⟩
    obtain ⟨y, hy⟩ : ∃ y, l[i - 1]? = some y := ⟨_, List.getElem?_eq_getElem (by omega)⟩
    have hcx : cur[i]? = some x := by
      have := congrArg (fun z => z[1]?) h.dr
      simp only [List.getElem?_drop] at this
      rw [show i - 1 + 1 = i by omega] at this
      rw [this]; exact hx
    have hcy : cur[i - 1]? = some y := by
      have := congrArg (fun z => z[0]?) h.dr
      simp only [List.getElem?_drop, Nat.add_zero] at this
      rw [this]; exact hy
    have hlen := h.len
    obtain ⟨p1, a1, a2⟩ := ix_row (pg := pg) h.row (k := k0) (i := i - k0) (by omega) (x := x) (by rw [List.getElem?_drop, show k0 + (i - k0) = i by omega]; exact hcx)
    obtain ⟨p2, a3, a4⟩ := ix_row (pg := pg) h.row (k := k0) (i := i - k0 - 1) (by omega) (x := y) (by rw [List.getElem?_drop, show k0 + (i - k0 - 1) = i - 1 by omega]; exact hcy)
    rw [hlen] at a1 a3
    have sx := hs x (List.mem_of_getElem? hx)
    have sy := hs y (List.mem_of_getElem? hy)
    obtain ⟨K1, e1, e2⟩ := eq_run hF h.h6 x y sx sy
    have row1 : RowP K1 r cur := h.row.mono (e2 r h.row.lt)
    have h61 : K1[r6]? = some (.cells [.fn 79 [] []] false) := by rw [e2 r6 (List.getElem?_eq_some_iff.1 h.h6).1]; exact h.h6
    have hl1 : K.length ≤ K1.length := by
      rcases Nat.lt_or_ge K1.length K.length with hh | hh
      · have := e2 (K.length - 1) (by omega)
        rw [List.getElem?_eq_none (by omega), List.getElem?_eq_getElem (by omega)] at this
        cases this
      · exact hh
    have hdt := ddP_take (l := l) (i := i - 1) hy (by rw [show i - 1 + 1 = i by omega]; exact hx)
    rw [show i - 1 + 2 = i + 1 by omega, show i - 1 + 1 = i by omega] at hdt
    have ln : ∀ K, lenK 0 (.sl r (k0 * 2) 2 true (l.length - k0) none) K = some (l.length - k0) := fun K => rfl
    have w1 : wrapR .i64 (((i - k0 : Nat) : Int) - 1) = .i .i64 ((i - k0 - 1 : Nat) : Int) := by rw [show ((i - k0 : Nat) : Int) - 1 = ((i - k0 - 1 : Nat) : Int) by omega]; exact gXd2 (by omega)
    have w2 : wrapR .i64 (((i - k0 : Nat) : Int) + 1) = .i .i64 ((i + 1 - k0 : Nat) : Int) := by rw [show ((i - k0 : Nat) : Int) + 1 = ((i + 1 - k0 : Nat) : Int) by omega]; exact gXd2 (by omega)
    have dd : decide (((i - k0 : Nat) : Int) < ((l.length - k0 : Nat) : Int)) = true := dT (by omega)
    by_cases he : eqP x y = true
    · rw [he] at e1 hdt
      rw [if_pos rfl, List.append_nil] at hdt
      have hn : S82 K1 r r6 l cur k (i + 1) := ⟨row1, hlen, h61, h.ne, by rw [hdt]; exact h.tk, by
        have := congrArg (List.drop 1) h.dr
        rw [List.drop_drop, List.drop_drop, show i - 1 + 1 = i by omega] at this
        rw [show i + 1 - 1 = i by omega]; exact this, h.k0, by omega, by omega⟩
      obtain ⟨v, K', cur', k', r1, r2, r3⟩ := l82_1_all hF hs hl hk0 hkl q (i + 1) k K1 cur (by omega) (by omega) (by omega) hn
      refine ⟨v, K', cur', k', ?_, r2, fun j hj hne => (r3 j (by omega) hne).trans (e2 j hj)⟩
      rw [← r1]
      obtain ⟨A, hA⟩ : ∃ A : Int, A = ((i - k0 : Nat) : Int) := ⟨_, rfl⟩
      obtain ⟨A1, hA1⟩ : ∃ A : Int, A = ((i - k0 - 1 : Nat) : Int) := ⟨_, rfl⟩
      obtain ⟨A2, hA2⟩ : ∃ A : Int, A = ((i + 1 - k0 : Nat) : Int) := ⟨_, rfl⟩
      obtain ⟨M, hM⟩ : ∃ M, M = l.length - k0 := ⟨_, rfl⟩
      obtain ⟨N, hN⟩ : ∃ N, N = l.length := ⟨_, rfl⟩
      rw [← hM] at a1 a3
      rw [← hM] at ln dd
      rw [← hA] at a1 w1 w2 dd
      rw [← hA1] at a3 w1
      rw [← hA2] at w2
      rw [← hM, ← hA, ← hA2, ← hN]
      generalize elP.val x = u at *
      generalize elP.val y = w at *
      clear hn r1 r2 r3 e2 row1 h61 hl1 hdt h hcx hcy hi hik hki hlen
      rw [l82_1, den_loop]
      simp (disch := omega) [l82_1, b82_0, gX0, gX1, gX2, gX3, gX4, gX5, gX6, gX7, gX8, gX9, gXa, gXb, gXc, gXd, gXe, gXf, gXg, gXh, gXi, gXj, gXk, gXl, gXm, gXn, gXo, gXp, gXq, gXr, gXs, gXt, gXu, gXv, gXw, gXx, k_mv, gXy, gXz, gX01, gX11, gX21, gX31, gX41, gX51, gX61, gX71, gX81, gX91, gXa1, gXb1, gXc1, gXd1, gXe1, gXf1, gXg1, gXh1, gXi1, gXj1, gXk1, gXl1, gXm1, gXn1, gXo1, gXp1, gXq1, gXr1, gXs1, gXt1, gXu1, k_mn, k_mx, gXv1, gXw1, gXx1, gXy1, gXz1, gX02, gX12, gX22, gX32, gX42, gX52, gX62, gX72, Dn.setLast, Dn.getLast, evalO, mapO, Dn.get, putE, gX82, gX92, gXa2, gXb2, TV.one, TV.isAgg, Dn.part, gXc2, negb, at0, at1, at2, at3, at4, dT, dF, gXd2, Option.bind_some, Option.map_some, ln, a1, a2, a3, a4, w1, w2, dd, e1]
    · have he' : eqP x y = false := by cases h9 : eqP x y with
        | true => exact absurd h9 he
        | false => rfl
      rw [he'] at e1 hdt
      rw [if_neg (by simp)] at hdt
      obtain ⟨K2, s1, s2, s3, s4⟩ := row1.set (pg := pg) (k := k) (by omega) x
      have hn : S82 K2 r r6 l (cur.set k x) (k + 1) (i + 1) := ⟨s2, by simp [hlen], by rw [s3 r6 h.ne]; exact h61, h.ne, by
        rw [hdt, ← h.tk, List.take_add_one, List.take_set_of_le (Nat.le_refl k)]
        congr 1
        rw [List.getElem?_set_self (by omega)]; rfl, by
        have := congrArg (List.drop 1) h.dr
        rw [List.drop_drop, List.drop_drop, show i - 1 + 1 = i by omega] at this
        rw [show i + 1 - 1 = i by omega, List.drop_set_of_lt (by omega)]; exact this, by omega, by omega, by omega⟩
      obtain ⟨v, K', cur', k', r1, r2, r3⟩ := l82_1_all hF hs hl hk0 hkl q (i + 1) (k + 1) K2 (cur.set k x) (by omega) (by omega) (by omega) hn
      refine ⟨v, K', cur', k', ?_, r2, fun j hj hne => (r3 j (by omega) hne).trans ((s3 j hne).trans (e2 j hj))⟩
      rw [← r1]
      have ixk : dkc pg (den pg) (.ixS 2 true) [.sl r 0 2 true l.length none, .i .i64 (k : Int)] K1 = some (.ref r (k * 2), K1) := by
        have hk2 : k < l.length := by omega
        simp [dkc, dk, bound, hk2]
      have w3 : wrapR .i64 ((k : Int) + 1) = .i .i64 ((k + 1 : Nat) : Int) := by rw [← Int.natCast_succ]; exact gXd2 (by omega)
      have b1 := (row1.view (k := k0) (by omega)).ix (pg := pg) (R := den pg) (i := i - k0) (x := x) (by rw [List.getElem?_drop, show k0 + (i - k0) = i by omega]; exact hcx) .i64
      obtain ⟨p3, b1, b2, _⟩ := b1
      have b2 := b2.ld (pg := pg) (R := den pg)
      have es : elP.sz = 2 := rfl
      have ea : elP.ag = true := rfl
      rw [es, ea] at b1 b2
      rw [hlen] at b1
      obtain ⟨A, hA⟩ : ∃ A : Int, A = ((i - k0 : Nat) : Int) := ⟨_, rfl⟩
      obtain ⟨A1, hA1⟩ : ∃ A : Int, A = ((i - k0 - 1 : Nat) : Int) := ⟨_, rfl⟩
      obtain ⟨A2, hA2⟩ : ∃ A : Int, A = ((i + 1 - k0 : Nat) : Int) := ⟨_, rfl⟩
      obtain ⟨A3, hA3⟩ : ∃ A : Int, A = ((k + 1 : Nat) : Int) := ⟨_, rfl⟩
      obtain ⟨A4, hA4⟩ : ∃ A : Int, A = (k : Int) := ⟨_, rfl⟩
      obtain ⟨M, hM⟩ : ∃ M, M = l.length - k0 := ⟨_, rfl⟩
      obtain ⟨N, hN⟩ : ∃ N, N = l.length := ⟨_, rfl⟩
      rw [← hM] at a1 a3 b1
      rw [← hM] at ln dd
      rw [← hA] at a1 w1 w2 dd b1
      rw [← hA1] at a3 w1
      rw [← hA2] at w2
      rw [← hA4, ← hN] at ixk
      rw [← hA3, ← hA4] at w3
      rw [← hM, ← hA, ← hA2, ← hA3, ← hA4, ← hN]
      generalize elP.val x = u at *
      generalize elP.val y = w at *
      clear hn r1 r2 r3 e2 row1 h61 hl1 hdt h hcx hcy hi hik hki hlen s2 s3 s4
      rw [l82_1, den_loop]
      simp (disch := omega) [l82_1, b82_0, gX0, gX1, gX2, gX3, gX4, gX5, gX6, gX7, gX8, gX9, gXa, gXb, gXc, gXd, gXe, gXf, gXg, gXh, gXi, gXj, gXk, gXl, gXm, gXn, gXo, gXp, gXq, gXr, gXs, gXt, gXu, gXv, gXw, gXx, k_mv, gXy, gXz, gX01, gX11, gX21, gX31, gX41, gX51, gX61, gX71, gX81, gX91, gXa1, gXb1, gXc1, gXd1, gXe1, gXf1, gXg1, gXh1, gXi1, gXj1, gXk1, gXl1, gXm1, gXn1, gXo1, gXp1, gXq1, gXr1, gXs1, gXt1, gXu1, k_mn, k_mx, gXv1, gXw1, gXx1, gXy1, gXz1, gX02, gX12, gX22, gX32, gX42, gX52, gX62, gX72, Dn.setLast, Dn.getLast, evalO, mapO, Dn.get, putE, gX82, gX92, gXa2, gXb2, TV.one, TV.isAgg, Dn.part, gXc2, negb, at0, at1, at2, at3, at4, dT, dF, gXd2, Option.bind_some, Option.map_some, ln, a1, a2, a3, a4, w1, w2, w3, dd, e1, b1, b2, ixk, s1]

end Go.Proofs.Try.Dn

