/-
  Dice: Orders: the loop over what results rise up to a face.
-/
import Derived.Test.YtijeefncmgjlpaaEc
set_option linter.unusedSimpArgs false
set_option linter.unusedVariables false

set_option maxHeartbeats 2000000
namespace Go.Proofs.Try.Dn
open Go.Dn

def wgt (R : Int → Nat) (es : List (Int × TV)) : Nat := (es.map fun q => q.2.num * R q.1).sum

theorem wgt_ins {es : List (Int × TV)} {g : Int → Option Nat} (h : CM es g) (R : Int → Nat) (k : Int) (v : Nat) : wgt R (insS k (.i .i64 (v : Int)) es) + (g k).getD 0 * R k = wgt R es + v * R k := by
  unfold wgt
  have hk := h.2 k
  cases hg : g k with
  | none =>
    rw [hg] at hk
    rw [((insS_new (v := .i .i64 (v : Int)) h.1 hk).map _).sum_nat]
    simp only [List.map_cons, List.sum_cons, Option.getD_none, TV.num, Int.toNat_natCast, Nat.zero_mul]
    omega
  | some n =>
    rw [hg] at hk
    obtain ⟨m1, m2, e1, e2⟩ := insS_old (v := .i .i64 (v : Int)) h.1 hk
    rw [e2]
    conv => rhs; rw [e1]
    simp only [List.map_append, List.map_cons, List.sum_append, List.sum_cons, TV.num, Option.getD_some, Int.toNat_natCast]
    omega

theorem wgt_one (es : List (Int × TV)) : wgt (fun _ => 1) es = mass es := by
  unfold wgt mass
  simp

def addO (f : Int) (g : Int → Option Nat) (q : Int × TV) : Int → Option Nat := if q.1 < f then addM g f q.2.num else g
def below (f : Int) (es : List (Int × TV)) : Nat := (es.map fun q => if q.1 < f then q.2.num else 0).sum

theorem addO_comm (f : Int) (g : Int → Option Nat) (x y : Int × TV) : addO f (addO f g x) y = addO f (addO f g y) x := by
  unfold addO
  by_cases h1 : x.1 < f <;> by_cases h2 : y.1 < f <;> simp only [h1, h2, if_true, if_false]
  exact addM_comm _ _ _ _ _

theorem addO_perm (f : Int) {p es : List (Int × TV)} (h : p.Perm es) (g : Int → Option Nat) : p.foldl (addO f) g = es.foldl (addO f) g :=
  foldl_perm (I := fun _ => True) (J := fun _ => True) (fun _ _ _ _ => trivial) (fun z x y _ _ _ => addO_comm f z x y) h (fun _ _ => trivial) g trivial

theorem below_perm (f : Int) {p es : List (Int × TV)} (h : p.Perm es) : below f p = below f es := (h.map _).sum_nat
theorem below_le (f : Int) : ∀ es : List (Int × TV), below f es ≤ mass es
  | [] => Nat.le_refl _
  | q :: es => by
    have := below_le f es
    unfold below mass at *
    simp only [List.map_cons, List.sum_cons]
    split <;> omega

def EntO (q : Int × TV) : Prop := (-1 ≤ q.1 ∧ q.1 ≤ 60) ∧ ∃ n : Nat, q.2 = .i .i64 (n : Int)

abbrev ops41 : List DOper := [⟨(some 92), .mv, [.t 92], none⟩, ⟨(some 93), (.ext 0), [.t 92], none⟩, ⟨(some 94), (.ext 1), [.t 92], none⟩, ⟨(some 21), .mv, [.t 93], none⟩, ⟨(some 22), .mv, [.t 94], none⟩]

theorem mf41 {pg : Pg} {V1 V13 V15 V72 V73 V74 V82 V83 V84 : TV} {f : Int} (hf : 0 ≤ f ∧ f ≤ 60) {nid it : Nat} {H0 : Heap} (hlt : nid < H0.length) :
    ∀ (p : List (Int × TV)), (∀ q ∈ p, EntO q) → ∀ (es : List (Int × TV)) (g : Int → Option Nat), CM es g → mass es + mass p ≤ 4611686018427387904 →
    ∃ es', mf pg (den pg) 89 it 11 92 ops41 [1, 13, 15, 18, 20, 21, 22, 72, 73, 74, 82, 83, 84, 89] b41_4 [1, 13, 15, 18, 20, 72, 73, 74, 82, 83, 84, 89] p [(1, V1), (13, V13), (15, V15), (18, .mp nid), (20, .i .i64 f), (72, V72), (73, V73), (74, V74), (82, V82), (83, V83), (84, V84), (89, .ref it 0)] (H0.set nid (.mapS es es.length)) =
      some ([(1, V1), (13, V13), (15, V15), (18, .mp nid), (20, .i .i64 f), (72, V72), (73, V73), (74, V74), (82, V82), (83, V83), (84, V84), (89, .ref it 0)], H0.set nid (.mapS es' es'.length)) ∧ CM es' (p.foldl (addO f) g) ∧ ∀ R, wgt R es' = wgt R es + below f p * R f
  | [], hp, es, g, hc, hm => ⟨es, mf_nil _ _, hc, fun R => by simp [below]⟩
  | (s, v) :: p, hp, es, g, hc, hm => by
    obtain ⟨hs, n, hn⟩ := hp (s, v) (List.mem_cons_self ..)
    have hn : v = .i .i64 (n : Int) := hn
    have hs : -1 ≤ s ∧ s ≤ 60 := hs
    subst hn
    have hmp : mass ((s, .i .i64 (n : Int)) :: p) = n + mass p := by simp [mass, TV.num]
    rw [hmp] at hm
    have gm : (H0.set nid (.mapS es es.length))[nid]? = some (.mapS es es.length) := List.getElem?_set_self hlt
    have ent := fun q hq => hp q (List.mem_cons_of_mem _ hq)
    by_cases hlss : s < f
    · have hle := hc.le_mass f
      have lk := hc.lk (pg := pg) (R := den pg) gm f
      have st := hc.set (pg := pg) (R := den pg) gm f ((g f).getD 0 + n)
      rw [List.set_set] at st
      have hc2 : CM (insS f (.i .i64 (((g f).getD 0 + n : Nat) : Int)) es) (addM g f n) := hc.ins _ _
      have hm2 := hc.mass_ins f ((g f).getD 0 + n)
      have hw2 := fun R => wgt_ins hc R f ((g f).getD 0 + n)
      obtain ⟨es1, he1⟩ : ∃ es1, es1 = insS f (.i .i64 (((g f).getD 0 + n : Nat) : Int)) es := ⟨_, rfl⟩
      rw [← he1] at st hc2 hm2 hw2
      obtain ⟨es', q1, q2, q3⟩ := mf41 (pg := pg) (V1 := V1) (V13 := V13) (V15 := V15) (V72 := V72) (V73 := V73) (V74 := V74) (V82 := V82) (V83 := V83) (V84 := V84) (it := it) hf hlt p ent es1 (addM g f n) hc2 (by omega)
      have hb : below f ((s, .i .i64 (n : Int)) :: p) = n + below f p := by simp [below, hlss, TV.num]
      refine ⟨es', Eq.trans (mf_cons (e1 := [(1, V1), (13, V13), (15, V15), (18, .mp nid), (20, .i .i64 f), (72, V72), (73, V73), (74, V74), (82, V82), (83, V83), (84, V84), (89, .ref it 0)]) ?_ rfl) q1, ?_, fun R => ?_⟩
      · generalize (g f).getD 0 = w at *
        have wv : wrapR .i64 ((w : Int) + (n : Int)) = .i .i64 ((w + n : Nat) : Int) := by rw [← Int.natCast_add]; exact gXd2 (by omega)
        have ds : decide (s < f) = true := dT hlss
        generalize H0.set nid (.mapS es1 es1.length) = K1 at *
        generalize H0.set nid (.mapS es es.length) = K at *
        generalize ((w + n : Nat) : Int) = wn at *
        simp (disch := omega) [b41_4, gX0, gX1, gX2, gX3, gX4, gX5, gX6, gX7, gX8, gX9, gXa, gXb, gXc, gXd, gXe, gXf, gXg, gXh, gXi, gXj, gXk, gXl, gXm, gXn, gXo, gXp, gXq, gXr, gXs, gXt, gXu, gXv, gXw, gXx, k_mv, gXy, gXz, gX01, gX11, gX21, gX31, gX41, gX51, gX61, gX71, gX81, gX91, gXa1, gXb1, gXc1, gXd1, gXe1, gXf1, gXg1, gXh1, gXi1, gXj1, gXk1, gXl1, gXm1, gXn1, gXo1, gXp1, gXq1, gXr1, gXs1, gXt1, gXu1, k_mn, k_mx, gXv1, gXw1, gXx1, gXy1, gXz1, gX02, gX12, gX22, gX32, gX42, gX52, gX62, gX72, Dn.setLast, Dn.getLast, evalO, mapO, Dn.get, putE, gX82, gX92, gXa2, gXb2, TV.one, TV.isAgg, Dn.part, gXc2, negb, at0, at1, at2, at3, at4, dT, dF, gXd2, Option.bind_some, Option.map_some, ds, lk, wv, st]
      · rw [List.foldl_cons, show addO f g (s, .i .i64 (n : Int)) = addM g f n by simp [addO, hlss, TV.num]]
        exact q2
      · have h1 := q3 R
        have h2 := hw2 R
        rw [hb, h1, Nat.add_mul]
        rw [Nat.add_mul] at h2
        omega
    · obtain ⟨es', q1, q2, q3⟩ := mf41 (pg := pg) (V1 := V1) (V13 := V13) (V15 := V15) (V72 := V72) (V73 := V73) (V74 := V74) (V82 := V82) (V83 := V83) (V84 := V84) (it := it) hf hlt p ent es g hc (by omega)
      have hb : below f ((s, .i .i64 (n : Int)) :: p) = below f p := by simp [below, hlss]
      refine ⟨es', Eq.trans (mf_cons (e1 := [(1, V1), (13, V13), (15, V15), (18, .mp nid), (20, .i .i64 f), (22, .i .i64 (n : Int)), (72, V72), (73, V73), (74, V74), (82, V82), (83, V83), (84, V84), (89, .ref it 0), (97, .b false)]) ?_ rfl) q1, ?_, fun R => by rw [hb]; exact q3 R⟩
      · have ds : decide (s < f) = false := dF (by omega)
        generalize H0.set nid (.mapS es es.length) = K at *
        simp (disch := omega) [b41_4, gX0, gX1, gX2, gX3, gX4, gX5, gX6, gX7, gX8, gX9, gXa, gXb, gXc, gXd, gXe, gXf, gXg, gXh, gXi, gXj, gXk, gXl, gXm, gXn, gXo, gXp, gXq, gXr, gXs, gXt, gXu, gXv, gXw, gXx, k_mv, gXy, gXz, gX01, gX11, gX21, gX31, gX41, gX51, gX61, gX71, gX81, gX91, gXa1, gXb1, gXc1, gXd1, gXe1, gXf1, gXg1, gXh1, gXi1, gXj1, gXk1, gXl1, gXm1, gXn1, gXo1, gXp1, gXq1, gXr1, gXs1, gXt1, gXu1, k_mn, k_mx, gXv1, gXw1, gXx1, gXy1, gXz1, gX02, gX12, gX22, gX32, gX42, gX52, gX62, gX72, Dn.setLast, Dn.getLast, evalO, mapO, Dn.get, putE, gX82, gX92, gXa2, gXb2, TV.one, TV.isAgg, Dn.part, gXc2, negb, at0, at1, at2, at3, at4, dT, dF, gXd2, Option.bind_some, Option.map_some, ds]
      · rw [List.foldl_cons, show addO f g (s, .i .i64 (n : Int)) = g by simp [addO, hlss]]
        exact q2

end Go.Proofs.Try.Dn

