/-
  Dice: Orders whole: what it answers.
-/
import Derived.Test.YtijeefncmgjlpaaV7
set_option linter.unusedSimpArgs false
set_option linter.unusedVariables false

set_option maxHeartbeats 4000000
set_option maxRecDepth 100000
namespace Go.Proofs.Try.Dn
open Go.Dn

def s41_d : DC :=
 (.seq (.reg [⟨(some 13), (.alloc [.nilsl] false), [], none⟩] [1, 13])
 (.seq (.seq (.reg [⟨(some 66), (.ld 1 false), [.t 1], none⟩,
   ⟨(some 67), (.len 0), [.t 66], none⟩,
   ⟨(some 68), (.call .sh), [.c (.fn 68 [] []), .t 67], none⟩] [1, 13, 68])
 (.block 4
  (.rfunc (.t 68) [69] a41_14
   b41_15 [1, 13])))
 (.seq (.reg [⟨(some 119), (.ld 1 false), [.t 13], none⟩,
   ⟨(some 2), .mv, [.t 119], none⟩,
   ⟨(some 3), .mv, [.c (.i .i64 0)], none⟩] [2, 3])
 .ret)))
def s41_c : DC :=
 (.seq (.reg [⟨(some 65), .mv, [.t 6], none⟩] [1, 65])
 (.cond (.t 65)
  (.seq (.reg [⟨(some 2), .mv, [.c .nilsl], none⟩,
    ⟨(some 3), .mv, [.c (.i .i64 10)], none⟩] [2, 3])
  .ret)
  .skip))

def ordN (ls : List (List Int)) : List Int := (perms ls.length ls.length []).map fun l => ((rs ls l (-1) : Nat) : Int)

theorem body68 {pg : Pg} (hF : Free pg) (n : Int) (H : Heap) : bodyRun pg (den pg) 68 [.i .i64 n] H = some (.fn 93 [] [.ref H.length 0], H ++ [.cells [.i .i64 n] false]) := by
  have bx : dkc pg (den pg) (.box false) [.i .i64 n] H = some (.ref H.length 0, H ++ [.cells [.i .i64 n] false]) := rfl
  have mf : ∀ K : Heap, dkc pg (den pg) (.mkfn 93 0) [.ref H.length 0] K = some (.fn 93 [] [.ref H.length 0], K) := fun K => rfl
  refine body_of (x := .ret) (e := [(2, .fn 93 [] [.ref H.length 0])]) (d := d68) (by rw [hF.F]; rfl) rfl ?_ (.inl rfl) rfl
  show go pg (den pg) [.c c68] .normal [(0, .i .i64 n)] H = _
  simp (disch := omega) [c68, gX0, gX1, gX2, gX3, gX4, gX5, gX6, gX7, gX8, gX9, gXa, gXb, gXc, gXd, gXe, gXf, gXg, gXh, gXi, gXj, gXk, gXl, gXm, gXn, gXo, gXp, gXq, gXr, gXs, gXt, gXu, gXv, gXw, gXx, k_mv, gXy, gXz, gX01, gX11, gX21, gX31, gX41, gX51, gX61, gX71, gX81, gX91, gXa1, gXb1, gXc1, gXd1, gXe1, gXf1, gXg1, gXh1, gXi1, gXj1, gXk1, gXl1, gXm1, gXn1, gXo1, gXp1, gXq1, gXr1, gXs1, gXt1, gXu1, k_mn, k_mx, gXv1, gXw1, gXx1, gXy1, gXz1, gX02, gX12, gX22, gX32, gX42, gX52, gX62, gX72, Dn.setLast, Dn.getLast, evalO, mapO, Dn.get, putE, gX82, gX92, gXa2, gXb2, TV.one, TV.isAgg, Dn.part, gXc2, negb, at0, at1, at2, at3, at4, dT, dF, gXd2, Option.bind_some, Option.map_some, bx, mf]

theorem perms_few {n : Nat} (h : n ≤ 4) : (perms n n []).length < 10000 := by
  match n, h with
  | 0, _ => decide
  | 1, _ => decide
  | 2, _ => decide
  | 3, _ => decide
  | 4, _ => decide +kernel

theorem tail41 {pg : Pg} (hF : Free pg) {T : TV} {ls : List (List Int)} (hT : SSV T ls) (hD : ∀ d ∈ ls, DieL 60 d) (h4 : 1 ≤ ls.length ∧ ls.length ≤ 4) {H : Heap} (hR : H[0]? = some (.cells [T] false)) :
    ∃ t H', go pg (den pg) [.c s41_d] .normal [(1, .ref 0 0), (65, .b false)] H = some ⟨.ret, [(2, t), (3, .i .i64 0)], H'⟩ ∧ elI.Own H' t (ordN ls) := by
  have hlt := (List.getElem?_eq_some_iff.1 hR).1
  have agT : T.isAgg = false := by rcases hT with ⟨rfl, _⟩ | ⟨b, ts, rfl, _⟩ <;> rfl
  obtain ⟨H4, hH4⟩ : ∃ H4, H4 = H ++ [AObj.cells [.nilsl] false] := ⟨_, rfl⟩
  have l4 : H4.length = H.length + 1 := by rw [hH4]; simp
  obtain ⟨H5, hH5⟩ : ∃ H5, H5 = H4 ++ [AObj.cells [.i .i64 (ls.length : Int)] false] := ⟨_, rfl⟩
  have l5 : H5.length = H.length + 2 := by rw [hH5]; simp [l4]
  obtain ⟨H6, hH6⟩ : ∃ H6, H6 = H5 ++ [AObj.loop (L41 0 H.length)] := ⟨_, rfl⟩
  have l6 : H6.length = H.length + 3 := by rw [hH6]; simp [l5]
  have f4 : ∀ j, j < H.length → H4[j]? = H[j]? := fun j hj => by rw [hH4, List.getElem?_append_left hj]
  have f5 : ∀ j, j < H4.length → H5[j]? = H4[j]? := fun j hj => by rw [hH5, List.getElem?_append_left hj]
  have f6 : ∀ j, j < H5.length → H6[j]? = H5[j]? := fun j hj => by rw [hH6, List.getElem?_append_left hj]
  have i6 : I41 T ls H5.length 0 H.length [] (fun j => j = H5.length ∨ j = 0 ∨ j = H.length ∨ (TV.nilsl).idOf = some j) H6 .nilsl :=
    { lp := by rw [hH6]; exact getLast _ _, dc := by rw [f6 _ (by omega), f5 _ (by omega), f4 _ hlt]; exact hR, cell := by rw [f6 _ (by omega), f5 _ (by omega), hH4]; exact getLast _ _, ow := .inl ⟨rfl, rfl⟩, eq := fun j => Iff.rfl, ny := (by intro e; cases e), nr := (by intro e; cases e), nD := (by intro e; cases e), yr := by omega, yD := by omega, rDO := by omega }
  have hN6 : H6[H4.length]? = some (.cells [.i .i64 (ls.length : Int)] false) := by rw [f6 _ (by omega), hH5]; exact getLast _ _
  obtain ⟨own', H7, r1, t, i7⟩ := body93 (pg := pg) hF (n := ls.length) (by omega) (con41 (pg := pg) hT hD (by omega) H5.length 0 H.length) hN6 ⟨_, i6⟩ (by
    rintro (h | h | h | h)
    · omega
    · omega
    · omega
    · cases h) (perms_few h4.2)
  have y7 := (List.getElem?_eq_some_iff.1 i7.lp).1
  obtain ⟨H8, hH8⟩ : ∃ H8, H8 = H7.set H5.length (.loop { L41 0 H.length with st := .exhausted }) := ⟨_, rfl⟩
  have f8 : ∀ j, j ≠ H5.length → H8[j]? = H7[j]? := fun j hj => by rw [hH8]; exact List.getElem?_set_ne (Ne.symm hj)
  have c8 : H8[H.length]? = some (.cells [t] false) := by rw [f8 _ (by omega)]; exact i7.cell
  have w8 : elI.Own H8 t (ordN ls) := i7.ow.mono fun id hid => f8 id fun e => i7.ny (by rw [← e]; exact hid)
  refine ⟨t, H8, ?_, w8⟩
  have ta : t.isAgg = false := by rcases w8 with ⟨rfl, _⟩ | ⟨_, id, ag, c, rfl, _⟩ <;> rfl
  have ld4 := ldC1 (pg := pg) (H := H4) (r := 0) (t := T) (by rw [f4 _ hlt]; exact hR) agT
  have ld8 := ldC1 (pg := pg) c8 ta
  have ln : ∀ K, (lenK 0 T K).map (fun (n : Nat) => TV.i .i64 (n : Int)) = some (.i .i64 (ls.length : Int)) := fun K => by rw [hT.len K]; rfl
  have b68 := body68 (pg := pg) hF (ls.length : Int) H4
  rw [← hH5] at b68
  have c68 : callRun pg (den pg) .sh [.fn 68 [] [], .i .i64 (ls.length : Int)] H4 = some (.fn 93 [] [.ref H4.length 0], H5) := b68
  have al : dkc pg (den pg) (.alloc [.nilsl] false) [] H = some (.ref H.length 0, H4) := by rw [gX51, hH4]
  obtain ⟨FN, hFN⟩ : ∃ FN, FN = TV.fn 93 [] [.ref H4.length 0] := ⟨_, rfl⟩
  have r1' : callRun pg (den pg) .sh [FN, .yl H5.length] H6 = some (.tup [], H7) := by rw [hFN]; exact r1
  rw [← hFN] at c68
  have e1 : ∀ K, go pg (den pg) (.c (.rfunc (.t 68) [69] a41_14 b41_15 [1, 13]) :: K) .normal [(1, .ref 0 0), (13, .ref H.length 0), (68, FN)] H5 = go pg (den pg) K .normal [(1, .ref 0 0), (13, .ref H.length 0)] H8 := fun K => by
    rw [go_rfunc (pg := pg) (fv := FN) (L := L41 0 H.length) (H2 := H7) (r := .tup []) rfl (by rw [← r1', hH6]; rfl) i7.lp (by simp [L41])]
    rw [hH8]; rfl
  have e0 : go pg (den pg) [.c s41_d] .normal [(1, .ref 0 0), (65, .b false)] H = go pg (den pg) [.c (.rfunc (.t 68) [69] a41_14 b41_15 [1, 13]), .blk 4, .c (.seq (.reg [⟨(some 119), (.ld 1 false), [.t 13], none⟩, ⟨(some 2), .mv, [.t 119], none⟩, ⟨(some 3), .mv, [.c (.i .i64 0)], none⟩] [2, 3]) .ret)] .normal [(1, .ref 0 0), (13, .ref H.length 0), (68, FN)] H5 := by
    clear e1 r1 r1' hH4 hH5 hH6 hH8 f4 f5 f6 f8 i6 i7 w8 c8 hFN l4 l5 l6 hN6 b68
    generalize (ls.length : Int) = N at *
    simp (disch := omega) [s41_d, gX0, gX1, gX2, gX3, gX4, gX5, gX6, gX7, gX8, gX9, gXa, gXb, gXc, gXd, gXe, gXf, gXg, gXh, gXi, gXj, gXk, gXl, gXm, gXn, gXo, gXp, gXq, gXr, gXs, gXt, gXu, gXv, gXw, gXx, k_mv, gXy, gXz, gX01, gX11, gX21, gX31, gX41, gX51, gX61, gX71, gX81, gX91, gXa1, gXb1, gXc1, gXd1, gXe1, gXf1, gXg1, gXh1, gXi1, gXj1, gXk1, gXl1, gXm1, gXn1, gXo1, gXp1, gXq1, gXr1, gXs1, gXt1, gXu1, k_mn, k_mx, gXv1, gXw1, gXx1, gXy1, gXz1, gX02, gX12, gX22, gX32, gX42, gX52, gX62, gX72, Dn.setLast, Dn.getLast, evalO, mapO, Dn.get, putE, gX82, gX92, gXa2, gXb2, TV.one, TV.isAgg, Dn.part, gXc2, negb, at0, at1, at2, at3, at4, dT, dF, gXd2, Option.bind_some, Option.map_some, al, ld4, ln, c68]
  rw [e0, e1]
  clear e0 e1 r1 r1' hH4 hH5 hH6 hH8 f4 f5 f6 f8 i6 i7 w8 c8 hFN l4 l5 l6 hN6 b68
  simp (disch := omega) [gX0, gX1, gX2, gX3, gX4, gX5, gX6, gX7, gX8, gX9, gXa, gXb, gXc, gXd, gXe, gXf, gXg, gXh, gXi, gXj, gXk, gXl, gXm, gXn, gXo, gXp, gXq, gXr, gXs, gXt, gXu, gXv, gXw, gXx, k_mv, gXy, gXz, gX01, gX11, gX21, gX31, gX41, gX51, gX61, gX71, gX81, gX91, gXa1, gXb1, gXc1, gXd1, gXe1, gXf1, gXg1, gXh1, gXi1, gXj1, gXk1, gXl1, gXm1, gXn1, gXo1, gXp1, gXq1, gXr1, gXs1, gXt1, gXu1, k_mn, k_mx, gXv1, gXw1, gXx1, gXy1, gXz1, gX02, gX12, gX22, gX32, gX42, gX52, gX62, gX72, Dn.setLast, Dn.getLast, evalO, mapO, Dn.get, putE, gX82, gX92, gXa2, gXb2, TV.one, TV.isAgg, Dn.part, gXc2, negb, at0, at1, at2, at3, at4, dT, dF, gXd2, Option.bind_some, Option.map_some, ld8]

theorem fn41 {pg : Pg} (hF : Free pg) {T : TV} {ls : List (List Int)} (hT : SSV T ls) (hl : ls.length ≤ 1000000) (hL : ∀ x ∈ ls, x.length ≤ 1000000) :
    (chkD ls ≠ 0 → PFn pg 41 [T] (.tup [.nilsl, .i .i64 (chkD ls)])) ∧ (chkD ls = 0 → 4 < ls.length → PFn pg 41 [T] (.tup [.nilsl, .i .i64 2])) ∧
    (chkD ls = 0 → ls.length ≤ 4 → ¬ Apt ls → PFn pg 41 [T] (.tup [.nilsl, .i .i64 10])) ∧ (chkD ls = 0 → ls.length ≤ 4 → Apt ls → PFn pg 41 [T] (.tup [elI.lt false (ordN ls), .i .i64 0])) := by
  have agT : T.isAgg = false ∧ T.cells = [T] ∧ T.one = true := by rcases hT with ⟨rfl, _⟩ | ⟨b, ts, rfl, _⟩ <;> exact ⟨rfl, rfl, rfl⟩
  obtain ⟨H1, hH1⟩ : ∃ H1 : Heap, H1 = [AObj.cells [T] false] := ⟨_, rfl⟩
  have bx : dkc pg (den pg) (.box false) [T] [] = some (.ref 0 0, H1) := by
    show dk (.box false) [T] [] = _
    simp [dk, agT.1, agT.2.1, agT.2.2, hH1]
  have ld := ldC1 (pg := pg) (H := H1) (r := 0) (t := T) (by rw [hH1]; rfl) agT.1
  have c55 := call55 (pg := pg) hF hT hl hL H1
  have ln : ∀ K, (lenK 0 T K).map (fun (n : Nat) => TV.i .i64 (n : Int)) = some (.i .i64 (ls.length : Int)) := fun K => by rw [hT.len K]; rfl
  refine ⟨fun h0 => ?_, fun h0 h4 => ?_, fun h0 h4 hap => ?_, fun h0 h4 hap => ?_⟩
  · refine .of2 (x := .ret) (e := [(2, .nilsl), (3, .i .i64 (chkD ls))]) (H' := H1) (hF.S _ _) (d := d41) (by rw [hF.F]; rfl) rfl ?_ (.inl rfl) rfl (by simp) (by simp [mapO, sn_i, sn_b, gXe2, gXf2, gXg2, gXh2, gXi2, gXj2, gXk2, gXl2, gXm2, gXn2, gXo2, gXp2, mapO, elems])
    clear hH1 hT
    generalize chkD ls = C at *
    simp (disch := omega) [d41, c41, zipE, gX0, gX1, gX2, gX3, gX4, gX5, gX6, gX7, gX8, gX9, gXa, gXb, gXc, gXd, gXe, gXf, gXg, gXh, gXi, gXj, gXk, gXl, gXm, gXn, gXo, gXp, gXq, gXr, gXs, gXt, gXu, gXv, gXw, gXx, k_mv, gXy, gXz, gX01, gX11, gX21, gX31, gX41, gX51, gX61, gX71, gX81, gX91, gXa1, gXb1, gXc1, gXd1, gXe1, gXf1, gXg1, gXh1, gXi1, gXj1, gXk1, gXl1, gXm1, gXn1, gXo1, gXp1, gXq1, gXr1, gXs1, gXt1, gXu1, k_mn, k_mx, gXv1, gXw1, gXx1, gXy1, gXz1, gX02, gX12, gX22, gX32, gX42, gX52, gX62, gX72, Dn.setLast, Dn.getLast, evalO, mapO, Dn.get, putE, gX82, gX92, gXa2, gXb2, TV.one, TV.isAgg, Dn.part, gXc2, negb, at0, at1, at2, at3, at4, dT, dF, gXd2, Option.bind_some, Option.map_some, bx, ld, c55, h0]
  · rw [h0] at c55
    refine .of2 (x := .ret) (e := [(2, .nilsl), (3, .i .i64 2)]) (H' := H1) (hF.S _ _) (d := d41) (by rw [hF.F]; rfl) rfl ?_ (.inl rfl) rfl (by simp) (by simp [mapO, sn_i, sn_b, gXe2, gXf2, gXg2, gXh2, gXi2, gXj2, gXk2, gXl2, gXm2, gXn2, gXo2, gXp2, mapO, elems])
    have dd : decide (4 < (ls.length : Int)) = true := dT (by omega)
    clear hH1 hT
    generalize (ls.length : Int) = N at *
    simp (disch := omega) [d41, c41, zipE, gX0, gX1, gX2, gX3, gX4, gX5, gX6, gX7, gX8, gX9, gXa, gXb, gXc, gXd, gXe, gXf, gXg, gXh, gXi, gXj, gXk, gXl, gXm, gXn, gXo, gXp, gXq, gXr, gXs, gXt, gXu, gXv, gXw, gXx, k_mv, gXy, gXz, gX01, gX11, gX21, gX31, gX41, gX51, gX61, gX71, gX81, gX91, gXa1, gXb1, gXc1, gXd1, gXe1, gXf1, gXg1, gXh1, gXi1, gXj1, gXk1, gXl1, gXm1, gXn1, gXo1, gXp1, gXq1, gXr1, gXs1, gXt1, gXu1, k_mn, k_mx, gXv1, gXw1, gXx1, gXy1, gXz1, gX02, gX12, gX22, gX32, gX42, gX52, gX62, gX72, Dn.setLast, Dn.getLast, evalO, mapO, Dn.get, putE, gX82, gX92, gXa2, gXb2, TV.one, TV.isAgg, Dn.part, gXc2, negb, at0, at1, at2, at3, at4, dT, dF, gXd2, Option.bind_some, Option.map_some, bx, ld, c55, ln, dd]
  all_goals
    rw [h0] at c55
    have hr := row_chk h0
    have hpos := hr.pos
    have dd : decide (4 < (ls.length : Int)) = false := dF (by omega)
    have mk := k_mkS (pg := pg) (R := den pg) H1
    obtain ⟨H2, hH2⟩ : ∃ H2, H2 = H1 ++ [AObj.mapS [] 0] := ⟨_, rfl⟩
    rw [← hH2, show H1.length = 1 by rw [hH1]; rfl] at mk
    have g2 : H2[1]? = some (.mapS [] ([] : List (Int × TV)).length) := by rw [hH2, hH1]; rfl
    have g20 : H2[0]? = some (.cells [T] false) := by rw [hH2, hH1]; rfl
    have ld2 := ldC1 (pg := pg) g20 agT.1
    have run := l41_3_all (pg := pg) (V1 := .ref 0 0) hT hr.all (by omega) (w := 1) ls.length 0 H2 [] _ (by omega) g2 CM.nil (Who.start ls)
    simp only [Int.natCast_zero] at run
  · obtain ⟨H3, x1⟩ : ∃ H3 e', den pg l41_3 [(1, .ref 0 0), (5, .mp 1), (6, .b false), (35, T), (36, .i .i64 (ls.length : Int)), (37, .i .i64 0)] H2 = some ⟨.exit 0, (1, .ref 0 0) :: e', H3⟩ ∧ e' = [(6, .b true)] := by
      rcases run with ⟨H', x1, x2⟩ | ⟨H', v, x1, x2, _⟩
      · exact ⟨H', _, x1, rfl⟩
      · exact absurd x2 hap
    obtain ⟨e', x1, rfl⟩ := x1
    refine .of2 (x := .ret) (e := [(2, .nilsl), (3, .i .i64 10)]) (H' := H3) (hF.S _ _) (d := d41) (by rw [hF.F]; rfl) rfl ?_ (.inl rfl) rfl (by simp) (by simp [mapO, sn_i, sn_b, gXe2, gXf2, gXg2, gXh2, gXi2, gXj2, gXk2, gXl2, gXm2, gXn2, gXo2, gXp2, mapO, elems])
    clear hH1 hT hH2 g2 g20 run hr
    generalize (ls.length : Int) = N at *
    simp (disch := omega) [d41, c41, zipE, gX0, gX1, gX2, gX3, gX4, gX5, gX6, gX7, gX8, gX9, gXa, gXb, gXc, gXd, gXe, gXf, gXg, gXh, gXi, gXj, gXk, gXl, gXm, gXn, gXo, gXp, gXq, gXr, gXs, gXt, gXu, gXv, gXw, gXx, k_mv, gXy, gXz, gX01, gX11, gX21, gX31, gX41, gX51, gX61, gX71, gX81, gX91, gXa1, gXb1, gXc1, gXd1, gXe1, gXf1, gXg1, gXh1, gXi1, gXj1, gXk1, gXl1, gXm1, gXn1, gXo1, gXp1, gXq1, gXr1, gXs1, gXt1, gXu1, k_mn, k_mx, gXv1, gXw1, gXx1, gXy1, gXz1, gX02, gX12, gX22, gX32, gX42, gX52, gX62, gX72, Dn.setLast, Dn.getLast, evalO, mapO, Dn.get, putE, gX82, gX92, gXa2, gXb2, TV.one, TV.isAgg, Dn.part, gXc2, negb, at0, at1, at2, at3, at4, dT, dF, gXd2, Option.bind_some, Option.map_some, bx, ld, c55, ln, dd, mk, ld2, go_denK (c := l41_3) rfl, x1]
  · rcases run with ⟨H', x1, x2⟩ | ⟨H3, v, x1, x2, x3, x4⟩
    · exact absurd hap x2
    · obtain ⟨t, H', r1, r2⟩ := tail41 (pg := pg) hF hT hr.all ⟨hpos, h4⟩ (H := H3) (by rw [x4 0 (by omega)]; exact g20)
      refine .inr ⟨hF.S _ _, .tup [t, .i .i64 0], H', ?_, by rw [gXn2]; simp [mapO, r2.fin8 elI_flat, gXf2]⟩
      refine body_ofs (vs := [t, .i .i64 0]) (x := .ret) (e := [(2, t), (3, .i .i64 0)]) (d := d41) (by rw [hF.F]; rfl) rfl ?_ (.inl rfl) rfl
      refine Eq.trans ?_ r1
      clear hH1 hT hH2 g2 g20 r1 r2 x2 x3 x4 hr
      generalize (ls.length : Int) = N at *
      have e41 : c41 = .seq (.reg [⟨(some 1), (.box false), [.t 0], none⟩, ⟨(some 2), .mv, [.c .nilsl], none⟩, ⟨(some 3), .mv, [.c (.i .i64 0)], none⟩] [1])
        (.scope (.seq (.seq (.reg [⟨(some 26), (.ld 1 false), [.t 1], none⟩,
   ⟨(some 27), (.call (.pu [])), [.c (.fn 55 [] []), .t 26], none⟩,
   ⟨(some 4), .mv, [.t 27], none⟩] [1, 4])
 (.seq (.reg [⟨(some 28), .mv, [.t 4], none⟩,
   ⟨(some 29), (.binI .neq), [.t 28, .c (.i .i64 0)], none⟩] [1, 4, 29])
 (.cond (.t 29)
  (.seq (.reg [⟨(some 30), .mv, [.t 4], none⟩,
    ⟨(some 2), .mv, [.c .nilsl], none⟩,
    ⟨(some 3), .mv, [.t 30], none⟩] [2, 3])
  .ret)
  .skip)))
 (.seq (.seq (.reg [⟨(some 31), (.ld 1 false), [.t 1], none⟩,
   ⟨(some 32), (.len 0), [.t 31], none⟩,
   ⟨(some 33), (.binI .gtr), [.t 32, .c (.i .i64 4)], none⟩] [1, 33])
 (.cond (.t 33)
  (.seq (.reg [⟨(some 2), .mv, [.c .nilsl], none⟩,
    ⟨(some 3), .mv, [.c (.i .i64 2)], none⟩] [2, 3])
  .ret)
  .skip))
 (.seq (.reg [⟨(some 34), .mkS, [], none⟩,
   ⟨(some 5), .mv, [.t 34], none⟩] [1, 5])
 (.seq (.reg [⟨(some 6), .mv, [.c (.b false)], none⟩] [1, 5, 6])
 (.seq .skip
 (.seq (.seq (.reg [⟨(some 35), (.ld 1 false), [.t 1], none⟩,
   ⟨(some 36), (.len 0), [.t 35], none⟩,
   ⟨(some 37), .mv, [.c (.i .i64 0)], none⟩] [1, 5, 6, 35, 36, 37])
 (.block 0
  l41_3))
 (.seq s41_c s41_d)))))))) := rfl
      show go pg (den pg) [.c c41] .normal [(0, T)] [] = _
      rw [e41]
      simp (disch := omega) [s41_c, gX0, gX1, gX2, gX3, gX4, gX5, gX6, gX7, gX8, gX9, gXa, gXb, gXc, gXd, gXe, gXf, gXg, gXh, gXi, gXj, gXk, gXl, gXm, gXn, gXo, gXp, gXq, gXr, gXs, gXt, gXu, gXv, gXw, gXx, k_mv, gXy, gXz, gX01, gX11, gX21, gX31, gX41, gX51, gX61, gX71, gX81, gX91, gXa1, gXb1, gXc1, gXd1, gXe1, gXf1, gXg1, gXh1, gXi1, gXj1, gXk1, gXl1, gXm1, gXn1, gXo1, gXp1, gXq1, gXr1, gXs1, gXt1, gXu1, k_mn, k_mx, gXv1, gXw1, gXx1, gXy1, gXz1, gX02, gX12, gX22, gX32, gX42, gX52, gX62, gX72, Dn.setLast, Dn.getLast, evalO, mapO, Dn.get, putE, gX82, gX92, gXa2, gXb2, TV.one, TV.isAgg, Dn.part, gXc2, negb, at0, at1, at2, at3, at4, dT, dF, gXd2, Option.bind_some, Option.map_some, bx, ld, c55, ln, dd, mk, ld2, go_denK (c := l41_3) rfl, x1]

end Go.Proofs.Try.Dn

