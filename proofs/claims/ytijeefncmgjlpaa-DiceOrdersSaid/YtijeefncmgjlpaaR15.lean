/-
  Dice: the law Orders run.
-/
import Derived.Test.YtijeefncmgjlpaaVC
set_option linter.unusedSimpArgs false
set_option linter.unusedVariables false

set_option maxHeartbeats 4000000
set_option maxRecDepth 100000
namespace Go.Proofs.Try.Dn
open Go.Dn

def r15_0 : DC :=
 (.reg [⟨(some 4), .mv, [.c (.b false)], none⟩] [0, 1])

def r15_1 : DC :=
 (.reg [⟨(some 14), .mv, [.t 0], none⟩,
   ⟨(some 15), (.call (.pu [])), [.c (.fn 28 [] []), .t 14, .c (.i .i64 6), .c (.i .i64 20)], none⟩,
   ⟨(some 5), .mv, [.t 15], none⟩] [0, 1, 5])

def r15_2 : DC :=
 (.seq (.reg [⟨(some 16), .mv, [.t 1], none⟩] [0, 5, 16])
 (.cond (.t 16)
  (.reg [⟨(some 17), .mv, [.t 0], none⟩,
    ⟨(some 18), (.call (.pu [])), [.c (.fn 40 [] []), .t 17, .c (.i .i64 4)], none⟩,
    ⟨(some 5), .mv, [.t 18], none⟩] [5])
  .skip))

def r15_3 : DC :=
 (.reg [⟨(some 20), .mv, [.t 5], none⟩,
   ⟨(some 21), (.call (.pu [])), [.c (.fn 41 [] []), .t 20], none⟩,
   ⟨(some 19), .mv, [.t 21], none⟩,
   ⟨(some 22), (.ext 0), [.t 19], none⟩,
   ⟨(some 23), (.ext 1), [.t 19], none⟩,
   ⟨(some 6), .mv, [.t 22], none⟩,
   ⟨(some 7), .mv, [.t 23], none⟩] [5, 6, 7])

def r15_4 : DC :=
 (.reg [⟨(some 25), .mv, [.t 5], none⟩,
   ⟨(some 26), (.call (.pu [])), [.c (.fn 51 [] []), .t 25], none⟩,
   ⟨(some 24), .mv, [.t 26], none⟩,
   ⟨(some 27), (.ext 0), [.t 24], none⟩,
   ⟨(some 28), (.ext 1), [.t 24], none⟩,
   ⟨(some 8), .mv, [.t 27], none⟩,
   ⟨(some 9), .mv, [.t 28], none⟩] [5, 6, 7, 8, 9])

def r15_5 : DC :=
 (.reg [⟨(some 10), .mv, [.c (.i .i64 0)], none⟩] [5, 6, 7, 8, 9, 10])

def r15_6 : DC :=
 (.seq (.reg [⟨(some 29), .mv, [.t 5], none⟩,
   ⟨(some 30), (.len 0), [.t 29], none⟩,
   ⟨(some 31), (.binI .gtr), [.t 30, .c (.i .i64 4)], none⟩] [5, 6, 7, 8, 9, 10, 31])
 (.cond (.t 31)
  (.reg [⟨(some 10), .mv, [.c (.i .i64 2)], none⟩] [5, 6, 7, 8, 9, 10])
  (.seq (.reg [⟨(some 32), .mv, [.t 5], none⟩,
    ⟨(some 33), (.call (.pu [])), [.c (.fn 52 [] []), .t 32], none⟩,
    ⟨(some 34), .notB, [.t 33], none⟩] [5, 6, 7, 8, 9, 10, 34])
  (.cond (.t 34)
   (.reg [⟨(some 10), .mv, [.c (.i .i64 10)], none⟩] [5, 6, 7, 8, 9, 10])
   .skip))))

def r15_7 : DC :=
 (.seq (.reg [⟨(some 35), .mv, [.t 10], none⟩,
   ⟨(some 36), (.binI .neq), [.t 35, .c (.i .i64 0)], none⟩] [5, 6, 7, 8, 9, 10, 36])
 (.cond (.t 36)
  (.seq (.reg [⟨(some 37), .mv, [.t 7], none⟩,
    ⟨(some 38), .mv, [.t 10], none⟩,
    ⟨(some 39), (.binI .eql), [.t 37, .t 38], none⟩,
    ⟨(some 40), .mv, [.t 39], none⟩,
    ⟨(some 41), .mv, [.t 9], (some (40, true))⟩,
    ⟨(some 42), .mv, [.t 10], (some (40, true))⟩,
    ⟨(some 43), (.binI .eql), [.t 41, .t 42], (some (40, true))⟩,
    ⟨(some 44), .pick, [.t 40, .t 43, .c (.b false)], none⟩,
    ⟨(some 45), .mv, [.t 44], none⟩,
    ⟨(some 46), .mv, [.t 6], (some (45, true))⟩,
    ⟨(some 47), (.len 0), [.t 46], (some (45, true))⟩,
    ⟨(some 48), (.binI .eql), [.t 47, .c (.i .i64 0)], (some (45, true))⟩,
    ⟨(some 49), .pick, [.t 45, .t 48, .c (.b false)], none⟩,
    ⟨(some 50), .mv, [.t 49], none⟩,
    ⟨(some 51), .mv, [.t 8], (some (50, true))⟩,
    ⟨(some 52), .notB, [.t 51], (some (50, true))⟩,
    ⟨(some 53), .pick, [.t 50, .t 52, .c (.b false)], none⟩,
    ⟨(some 54), .mv, [.t 53], none⟩,
    ⟨(some 55), (.call (.pu [])), [.c (.fn 23 [] [])], (some (54, true))⟩,
    ⟨(some 56), .pick, [.t 54, .t 55, .c (.b false)], none⟩,
    ⟨(some 4), .mv, [.t 56], none⟩] [4])
  .ret)
  .skip))

def r15_8 : DC :=
 (.reg [⟨(some 57), .mv, [.t 5], none⟩,
   ⟨(some 58), (.call (.pu [])), [.c (.fn 53 [] []), .t 57], none⟩,
   ⟨(some 11), .mv, [.t 58], none⟩] [6, 7, 8, 9, 11])

def r15_9 : DC :=
 (.seq (.reg [⟨(some 59), .mv, [.t 7], none⟩,
   ⟨(some 60), (.binI .neq), [.t 59, .c (.i .i64 0)], none⟩,
   ⟨(some 61), .mv, [.t 60], none⟩,
   ⟨(some 62), .mv, [.t 9], (some (61, false))⟩,
   ⟨(some 63), (.binI .neq), [.t 62, .c (.i .i64 0)], (some (61, false))⟩,
   ⟨(some 64), .pick, [.t 61, .c (.b true), .t 63], none⟩,
   ⟨(some 65), .mv, [.t 64], none⟩,
   ⟨(some 66), .mv, [.t 6], (some (65, false))⟩,
   ⟨(some 67), (.len 0), [.t 66], (some (65, false))⟩,
   ⟨(some 68), .mv, [.t 11], (some (65, false))⟩,
   ⟨(some 69), (.len 0), [.t 68], (some (65, false))⟩,
   ⟨(some 70), (.binI .neq), [.t 67, .t 69], (some (65, false))⟩,
   ⟨(some 71), .pick, [.t 65, .c (.b true), .t 70], none⟩] [6, 8, 11, 71])
 (.cond (.t 71)
  (.seq (.reg [⟨(some 4), .mv, [.c (.b false)], none⟩] [4])
  .ret)
  .skip))

def r15_10 : DC :=
 (.reg [⟨(some 12), .mv, [.c (.b true)], none⟩] [6, 8, 11, 12])

def r15_11 : DC :=
 (.seq (.reg [⟨(some 13), .mv, [.c (.i .i64 0)], none⟩] [6, 8, 11, 12, 13])
 (.block 0
  l15_1))

def r15_12 : DC :=
 (.reg [⟨(some 98), .mv, [.t 8], none⟩,
   ⟨(some 99), .mv, [.t 12], none⟩,
   ⟨(some 100), (.eqB false), [.t 98, .t 99], none⟩,
   ⟨(some 101), .mv, [.t 100], none⟩,
   ⟨(some 102), (.call (.pu [])), [.c (.fn 23 [] [])], (some (101, true))⟩,
   ⟨(some 103), .pick, [.t 101, .t 102, .c (.b false)], none⟩,
   ⟨(some 4), .mv, [.t 103], none⟩] [4])

def r15_13 : DC :=
 .ret

theorem c15_parts : c15 = (.seq r15_0 (.seq r15_1 (.seq r15_2 (.seq r15_3 (.seq r15_4 (.seq r15_5 (.seq r15_6 (.seq r15_7 (.seq r15_8 (.seq r15_9 (.seq r15_10 (.seq r15_11 (.seq r15_12 r15_13))))))))))))) := rfl



theorem l15_1_all {pg : Pg} {o : List Int} {x : Int} (h0 : o[0]? = some x) (hl : o.length ≤ 1000) {V8 : TV} : ∀ (r k : Nat) (f : Bool), k + r = o.length →
    ∃ v, den pg l15_1 [(6, elI.lt false o), (8, V8), (11, elI.lt false o), (12, .b f), (13, .i .i64 (k : Int))] [] = some ⟨.exit 0, [(6, elI.lt false o), (8, V8), (11, elI.lt false o), (12, .b (f && (o.drop k).all fun y => decide (y = x))), (13, .i .i64 (o.length : Int)), (75, v)], []⟩
  | 0, k, f, hk => by
    obtain rfl : k = o.length := by omega
    have ln := lnB elI false o
    refine ⟨.b false, ?_⟩
    rw [List.drop_length]
    simp only [List.all_nil, Bool.and_true]
    clear h0
    generalize elI.lt false o = O at *
    generalize (o.length : Int) = N at *
    rw [l15_1, den_loop]
    simp (disch := omega) [b15_0, gX0, gX1, gX2, gX3, gX4, gX5, gX6, gX7, gX8, gX9, gXa, gXb, gXc, gXd, gXe, gXf, gXg, gXh, gXi, gXj, gXk, gXl, gXm, gXn, gXo, gXp, gXq, gXr, gXs, gXt, gXu, gXv, gXw, gXx, k_mv, gXy, gXz, gX01, gX11, gX21, gX31, gX41, gX51, gX61, gX71, gX81, gX91, gXa1, gXb1, gXc1, gXd1, gXe1, gXf1, gXg1, gXh1, gXi1, gXj1, gXk1, gXl1, gXm1, gXn1, gXo1, gXp1, gXq1, gXr1, gXs1, gXt1, gXu1, k_mn, k_mx, gXv1, gXw1, gXx1, gXy1, gXz1, gX02, gX12, gX22, gX32, gX42, gX52, gX62, gX72, Dn.setLast, Dn.getLast, evalO, mapO, Dn.get, putE, gX82, gX92, gXa2, gXb2, TV.one, TV.isAgg, Dn.part, gXc2, negb, at0, at1, at2, at3, at4, dT, dF, gXd2, Option.bind_some, Option.map_some, ln]
  | r + 1, k, f, hk => by
    obtain ⟨y, hy⟩ : ∃ y, o[k]? = some y := ⟨_, List.getElem?_eq_getElem (by omega)⟩
    have hdr : o.drop k = y :: o.drop (k + 1) := by
      obtain ⟨h1, rfl⟩ := List.getElem?_eq_some_iff.1 hy
      exact List.drop_eq_getElem_cons h1
    have hV : elI.View ([] : Heap) (elI.lt false o) o := ltV elI false [] o
    obtain ⟨p, p1, p2⟩ := ixI (pg := pg) (R := den pg) hV hy
    obtain ⟨q, q1, q2⟩ := ixI (pg := pg) (R := den pg) hV h0
    have q1 : dkc pg (den pg) (.ixS 1 false) [elI.lt false o, .i .i64 0] [] = some (q, []) := q1
    have ln := lnB elI false o
    have dd : decide ((k : Int) < (o.length : Int)) = true := dT (by omega)
    have w2 : wrapR .i64 ((k : Int) + 1) = .i .i64 ((k + 1 : Nat) : Int) := by rw [← Int.natCast_succ]; exact gXd2 (by omega)
    obtain ⟨v, ih⟩ := l15_1_all (pg := pg) h0 hl (V8 := V8) r (k + 1) (f && decide (y = x)) (by omega)
    rw [hdr, List.all_cons, ← Bool.and_assoc]
    refine ⟨v, Eq.trans ?_ ih⟩
    have hyx : (y == x) = decide (y = x) := rfl
    clear ih hV hy h0 hdr
    generalize elI.lt false o = O at *
    generalize (o.length : Int) = N at *
    generalize ((k + 1 : Nat) : Int) = K2 at *
    generalize (k : Int) = K at *
    generalize decide (y = x) = YX at *
    cases f with
    | true =>
      conv => lhs; rw [l15_1, den_loop]
      simp (disch := omega) [l15_1, b15_0, gX0, gX1, gX2, gX3, gX4, gX5, gX6, gX7, gX8, gX9, gXa, gXb, gXc, gXd, gXe, gXf, gXg, gXh, gXi, gXj, gXk, gXl, gXm, gXn, gXo, gXp, gXq, gXr, gXs, gXt, gXu, gXv, gXw, gXx, k_mv, gXy, gXz, gX01, gX11, gX21, gX31, gX41, gX51, gX61, gX71, gX81, gX91, gXa1, gXb1, gXc1, gXd1, gXe1, gXf1, gXg1, gXh1, gXi1, gXj1, gXk1, gXl1, gXm1, gXn1, gXo1, gXp1, gXq1, gXr1, gXs1, gXt1, gXu1, k_mn, k_mx, gXv1, gXw1, gXx1, gXy1, gXz1, gX02, gX12, gX22, gX32, gX42, gX52, gX62, gX72, Dn.setLast, Dn.getLast, evalO, mapO, Dn.get, putE, gX82, gX92, gXa2, gXb2, TV.one, TV.isAgg, Dn.part, gXc2, negb, at0, at1, at2, at3, at4, dT, dF, gXd2, Option.bind_some, Option.map_some, ln, dd, p1, p2, q1, q2, hyx, w2]
    | false =>
      conv => lhs; rw [l15_1, den_loop]
      simp (disch := omega) [l15_1, b15_0, gX0, gX1, gX2, gX3, gX4, gX5, gX6, gX7, gX8, gX9, gXa, gXb, gXc, gXd, gXe, gXf, gXg, gXh, gXi, gXj, gXk, gXl, gXm, gXn, gXo, gXp, gXq, gXr, gXs, gXt, gXu, gXv, gXw, gXx, k_mv, gXy, gXz, gX01, gX11, gX21, gX31, gX41, gX51, gX61, gX71, gX81, gX91, gXa1, gXb1, gXc1, gXd1, gXe1, gXf1, gXg1, gXh1, gXi1, gXj1, gXk1, gXl1, gXm1, gXn1, gXo1, gXp1, gXq1, gXr1, gXs1, gXt1, gXu1, k_mn, k_mx, gXv1, gXw1, gXx1, gXy1, gXz1, gX02, gX12, gX22, gX32, gX42, gX52, gX62, gX72, Dn.setLast, Dn.getLast, evalO, mapO, Dn.get, putE, gX82, gX92, gXa2, gXb2, TV.one, TV.isAgg, Dn.part, gXc2, negb, at0, at1, at2, at3, at4, dT, dF, gXd2, Option.bind_some, Option.map_some, ln, dd, p1, p2, w2]

theorem rest15 {pg : Pg} (hF : Free pg) (h23 : PFn pg 23 [] (.b true)) {ls : List (List Int)} (hr : Row 60 6 ls) {T : TV} {E : Env} (hE : E = [(5, (elR false).lt false ls)] ∨ E = [(0, T), (5, (elR false).lt false ls), (16, .b false)]) :
    go pg (den pg) [.c (.seq r15_3 (.seq r15_4 (.seq r15_5 (.seq r15_6 (.seq r15_7 (.seq r15_8 (.seq r15_9 (.seq r15_10 (.seq r15_11 (.seq r15_12 r15_13))))))))))] .normal E [] = some ⟨.ret, [(4, .b true)], []⟩ := by
  have c23 := fun H => PFn.call h23 (args := []) (ks := []) (fs := []) (cs := []) (H := H) (by simp [snapArgs])
  have hX := elR_SSV false false ls
  have hL8 : ∀ d ∈ ls, d.length ≤ 8 := fun d hd => (hr.all d hd).le
  have hL2 : ∀ d ∈ ls, d.length ≤ 100 := fun d hd => by have := hL8 d hd; omega
  have hL3 : ∀ d ∈ ls, d.length ≤ 1000000 := fun d hd => by have := hL8 d hd; omega
  have hle := hr.le
  have h0 := chk_row hr (by omega) (by omega)
  have ln : ∀ K, (lenK 0 ((elR false).lt false ls) K).map (fun (n : Nat) => TV.i .i64 (n : Int)) = some (.i .i64 (ls.length : Int)) := fun K => by rw [hX.len K]; rfl
  obtain ⟨X', s1, s2⟩ := snapSSV hX []
  have ca : ∀ {f : Nat} {v : TV}, PFn pg f [X'] v → callRun pg (den pg) (.pu []) [.fn f [] [], (elR false).lt false ls] [] = some (v, []) := fun {f v} h => PFn.call h (args := [(elR false).lt false ls]) (ks := []) (fs := []) (cs := []) (H := []) (by simpa using s1)
  obtain ⟨_, a2, a3, a4⟩ := fn41 (pg := pg) hF s2 (by omega) hL3
  obtain ⟨b2, b3, b4⟩ := fn51 (pg := pg) hF s2 (by omega) hL3 h0
  obtain ⟨e1, e2⟩ := fn52 (pg := pg) hF s2 hL2 (by omega)
  have ln0 : lenK 0 .nilsl ([] : Heap) = some 0 := rfl
  by_cases h4 : 4 < ls.length
  · have c41 := ca (a2 h0 h4)
    have c51 := ca (b2 h4)
    have d4 : decide (4 < (ls.length : Int)) = true := dT (by omega)
    clear a2 a3 a4 b2 b3 b4 e1 e2 ca s1 s2 hX hr hL8 hL2 hL3 h0
    generalize (elR false).lt false ls = X at *
    generalize (ls.length : Int) = N at *
    rcases hE with rfl | rfl <;> simp (disch := omega) [r15_3, r15_4, r15_5, r15_6, r15_7, gX0, gX1, gX2, gX3, gX4, gX5, gX6, gX7, gX8, gX9, gXa, gXb, gXc, gXd, gXe, gXf, gXg, gXh, gXi, gXj, gXk, gXl, gXm, gXn, gXo, gXp, gXq, gXr, gXs, gXt, gXu, gXv, gXw, gXx, k_mv, gXy, gXz, gX01, gX11, gX21, gX31, gX41, gX51, gX61, gX71, gX81, gX91, gXa1, gXb1, gXc1, gXd1, gXe1, gXf1, gXg1, gXh1, gXi1, gXj1, gXk1, gXl1, gXm1, gXn1, gXo1, gXp1, gXq1, gXr1, gXs1, gXt1, gXu1, k_mn, k_mx, gXv1, gXw1, gXx1, gXy1, gXz1, gX02, gX12, gX22, gX32, gX42, gX52, gX62, gX72, Dn.setLast, Dn.getLast, evalO, mapO, Dn.get, putE, gX82, gX92, gXa2, gXb2, TV.one, TV.isAgg, Dn.part, gXc2, negb, at0, at1, at2, at3, at4, dT, dF, gXd2, Option.bind_some, Option.map_some, c41, c51, ln, d4, ln0, c23]
  · have d4 : decide (4 < (ls.length : Int)) = false := dF (by omega)
    by_cases hap : Apt ls
    · have c41 := ca (a4 h0 (by omega) hap)
      have c51 := ca (b4 (by omega) hap)
      have c52 := ca (e1 hap)
      have c53 := ca (fn53 (pg := pg) hF s2 (by omega) hL8)
      obtain ⟨ne, le⟩ := ordN_ne (ls := ls) (by omega)
      have ln2 := lnB elI false (ordN ls)
      cases ho : ordN ls with
      | nil => exact absurd ho ne
      | cons x o =>
        rw [ho] at c41 c51 c53 le ln2
        obtain ⟨v, q⟩ := l15_1_all (pg := pg) (o := x :: o) (x := x) rfl (by omega) (V8 := .b (fairB (x :: o))) (x :: o).length 0 true (by omega)
        have hfb : (true && ((x :: o).drop 0).all fun y => decide (y = x)) = fairB (x :: o) := by
          unfold fairB; simp
        rw [hfb] at q
        simp only [Int.natCast_zero] at q
        clear a2 a3 a4 b2 b3 b4 e1 e2 ca s1 s2 hX hr hL8 hL2 hL3 h0 hfb ho ne le
        generalize (elR false).lt false ls = X at *
        generalize (ls.length : Int) = N at *
        generalize elI.lt false (x :: o) = O at *
        generalize fairB (x :: o) = FB at *
        generalize ((x :: o).length : Int) = M at *
        have eb : ∀ K, dkc pg (den pg) (.eqB false) [.b FB, .b FB] K = some (.b true, K) := fun K => by
          show dk (.eqB false) [.b FB, .b FB] K = _
          simp [dk, negb]
        rcases hE with rfl | rfl <;> simp (disch := omega) [r15_3, r15_4, r15_5, r15_6, r15_7, r15_8, r15_9, r15_10, r15_11, r15_12, r15_13, gX0, gX1, gX2, gX3, gX4, gX5, gX6, gX7, gX8, gX9, gXa, gXb, gXc, gXd, gXe, gXf, gXg, gXh, gXi, gXj, gXk, gXl, gXm, gXn, gXo, gXp, gXq, gXr, gXs, gXt, gXu, gXv, gXw, gXx, k_mv, gXy, gXz, gX01, gX11, gX21, gX31, gX41, gX51, gX61, gX71, gX81, gX91, gXa1, gXb1, gXc1, gXd1, gXe1, gXf1, gXg1, gXh1, gXi1, gXj1, gXk1, gXl1, gXm1, gXn1, gXo1, gXp1, gXq1, gXr1, gXs1, gXt1, gXu1, k_mn, k_mx, gXv1, gXw1, gXx1, gXy1, gXz1, gX02, gX12, gX22, gX32, gX42, gX52, gX62, gX72, Dn.setLast, Dn.getLast, evalO, mapO, Dn.get, putE, gX82, gX92, gXa2, gXb2, TV.one, TV.isAgg, Dn.part, gXc2, negb, at0, at1, at2, at3, at4, dT, dF, gXd2, Option.bind_some, Option.map_some, c41, c51, c52, c53, ln, ln2, d4, c23, go_denK (c := l15_1) rfl, q, eb]
    · have c41 := ca (a3 h0 (by omega) hap)
      have c51 := ca (b3 (by omega) hap)
      have c52 := ca (e2 hap)
      clear a2 a3 a4 b2 b3 b4 e1 e2 ca s1 s2 hX hr hL8 hL2 hL3 h0
      generalize (elR false).lt false ls = X at *
      generalize (ls.length : Int) = N at *
      rcases hE with rfl | rfl <;> simp (disch := omega) [r15_3, r15_4, r15_5, r15_6, r15_7, gX0, gX1, gX2, gX3, gX4, gX5, gX6, gX7, gX8, gX9, gXa, gXb, gXc, gXd, gXe, gXf, gXg, gXh, gXi, gXj, gXk, gXl, gXm, gXn, gXo, gXp, gXq, gXr, gXs, gXt, gXu, gXv, gXw, gXx, k_mv, gXy, gXz, gX01, gX11, gX21, gX31, gX41, gX51, gX61, gX71, gX81, gX91, gXa1, gXb1, gXc1, gXd1, gXe1, gXf1, gXg1, gXh1, gXi1, gXj1, gXk1, gXl1, gXm1, gXn1, gXo1, gXp1, gXq1, gXr1, gXs1, gXt1, gXu1, k_mn, k_mx, gXv1, gXw1, gXx1, gXy1, gXz1, gX02, gX12, gX22, gX32, gX42, gX52, gX62, gX72, Dn.setLast, Dn.getLast, evalO, mapO, Dn.get, putE, gX82, gX92, gXa2, gXb2, TV.one, TV.isAgg, Dn.part, gXc2, negb, at0, at1, at2, at3, at4, dT, dF, gXd2, Option.bind_some, Option.map_some, c41, c51, c52, ln, d4, ln0, c23]

theorem run15 {pg : Pg} (hF : Free pg) (h23 : PFn pg 23 [] (.b true)) {T : TV} {l : List (List Int)} (hT : SSV T l) (hl : l.length ≤ 9223372036854775807) (hL : ∀ x ∈ l, x.length ≤ 9223372036854775807) (cl : Bool) : ∃ H, bodyRun pg (den pg) 15 [T, .b cl] [] = some (.b true, H) := by
  obtain ⟨ls, hr, c28⟩ := call28 (pg := pg) hF hT hl hL (many := 6) (most := 20) (by omega) (by omega) (by omega) []
  have hr' : Row 60 6 ls := ⟨fun d hd => (hr.all d hd).mono (by omega), hr.pos, hr.le⟩
  refine ⟨[], body_of (x := .ret) (e := [(4, .b true)]) (d := d15) (by rw [hF.F]; rfl) rfl ?_ (.inl rfl) rfl⟩
  show go pg (den pg) [.c c15] .normal [(0, T), (1, .b cl)] [] = _
  rw [c15_parts]
  simp only [Int.cast_ofNat_Int] at c28
  cases cl with
  | false =>
    refine Eq.trans ?_ (rest15 hF h23 hr' (T := T) (.inr rfl))
    clear hr hr' hT
    generalize (elR false).lt false ls = X at *
    simp (disch := omega) [r15_0, r15_1, r15_2, gX0, gX1, gX2, gX3, gX4, gX5, gX6, gX7, gX8, gX9, gXa, gXb, gXc, gXd, gXe, gXf, gXg, gXh, gXi, gXj, gXk, gXl, gXm, gXn, gXo, gXp, gXq, gXr, gXs, gXt, gXu, gXv, gXw, gXx, k_mv, gXy, gXz, gX01, gX11, gX21, gX31, gX41, gX51, gX61, gX71, gX81, gX91, gXa1, gXb1, gXc1, gXd1, gXe1, gXf1, gXg1, gXh1, gXi1, gXj1, gXk1, gXl1, gXm1, gXn1, gXo1, gXp1, gXq1, gXr1, gXs1, gXt1, gXu1, k_mn, k_mx, gXv1, gXw1, gXx1, gXy1, gXz1, gX02, gX12, gX22, gX32, gX42, gX52, gX62, gX72, Dn.setLast, Dn.getLast, evalO, mapO, Dn.get, putE, gX82, gX92, gXa2, gXb2, TV.one, TV.isAgg, Dn.part, gXc2, negb, at0, at1, at2, at3, at4, dT, dF, gXd2, Option.bind_some, Option.map_some, c28]
  | true =>
    obtain ⟨ls2, hr2, c40⟩ := call40 (pg := pg) hF hT hl hL (many := 4) (by omega) (by omega) []
    have h59 := apL_row (by omega) hr2
    have h60 : Row 60 6 (apL ls2) := ⟨fun d hd => (h59.all d hd).mono (by omega), h59.pos, by have := h59.le; omega⟩
    refine Eq.trans ?_ (rest15 hF h23 h60 (T := T) (.inl rfl))
    simp only [Int.cast_ofNat_Int] at c40
    clear hr hr' hT hr2 h59 h60
    generalize (elR false).lt false ls = X at *
    generalize (elR false).lt false (apL ls2) = X2 at *
    simp (disch := omega) [r15_0, r15_1, r15_2, gX0, gX1, gX2, gX3, gX4, gX5, gX6, gX7, gX8, gX9, gXa, gXb, gXc, gXd, gXe, gXf, gXg, gXh, gXi, gXj, gXk, gXl, gXm, gXn, gXo, gXp, gXq, gXr, gXs, gXt, gXu, gXv, gXw, gXx, k_mv, gXy, gXz, gX01, gX11, gX21, gX31, gX41, gX51, gX61, gX71, gX81, gX91, gXa1, gXb1, gXc1, gXd1, gXe1, gXf1, gXg1, gXh1, gXi1, gXj1, gXk1, gXl1, gXm1, gXn1, gXo1, gXp1, gXq1, gXr1, gXs1, gXt1, gXu1, k_mn, k_mx, gXv1, gXw1, gXx1, gXy1, gXz1, gX02, gX12, gX22, gX32, gX42, gX52, gX62, gX72, Dn.setLast, Dn.getLast, evalO, mapO, Dn.get, putE, gX82, gX92, gXa2, gXb2, TV.one, TV.isAgg, Dn.part, gXc2, negb, at0, at1, at2, at3, at4, dT, dF, gXd2, Option.bind_some, Option.map_some, c28, c40]

end Go.Proofs.Try.Dn

