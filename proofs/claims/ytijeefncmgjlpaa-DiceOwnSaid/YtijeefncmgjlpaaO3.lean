/-
  Dice: results are new memory, and no function changes its arguments: the law run.
-/
import Derived.Test.YtijeefncmgjlpaaO2
import Derived.Test.YtijeefncmgjlpaaUG
import Derived.Test.YtijeefncmgjlpaaT6
import Derived.Test.YtijeefncmgjlpaaK3
set_option linter.unusedSimpArgs false
set_option linter.unusedVariables false


set_option maxHeartbeats 4000000
set_option maxRecDepth 100000
namespace Go.Proofs.Try.Dn
open Go.Dn

theorem grR_2 {n : Nat} {t t' : TV} (h : grV n t = some t') (k : IntKind) (x : Int) : grR n (.tup [t, .i k x]) = some (.tup [t', .i k x]) := by
 show (mapO (grV n) [t, .i k x]).map TV.tup = _
 have hi : grV n (.i k x) = some (.i k x) := rfl
 simp only [mapO, h, hi, Option.bind_some, Option.map_some]
theorem grR_3 {n : Nat} {t t' : TV} (h : grV n t = some t') (b : Bool) (k : IntKind) (x : Int) : grR n (.tup [t, .b b, .i k x]) = some (.tup [t', .b b, .i k x]) := by
 show (mapO (grV n) [t, .b b, .i k x]).map TV.tup = _
 have hi : grV n (.i k x) = some (.i k x) := rfl
 have hb : grV n (.b b) = some (.b b) := rfl
 simp only [mapO, h, hi, hb, Option.bind_some, Option.map_some]

theorem gr36 {pg : Pg} (hF : Free pg) {X : TV} {ls : List (List Int)} (hX : SSV X ls) (h0 : chkD ls = 0) (H : Heap) :
  ∃ kT b n G, callRun pg (den pg) .gr [.fn 36 [] [], X] H = some (.tup [kT, .b b, .i .i64 0], G) /\ Blk 1 G kT n /\ n <= 100 /\ (∀ j, j < H.length -> G[j]? = H[j]?) /\ H.length <= G.length /\ (∀ id, kT.idOf = some id -> H.length <= id /\ id < G.length) := by
 obtain ⟨X', s1, hX'⟩ := snapSSV hX H
 have hl := (row_chk h0).le
 rcases body36 (pg := pg) hF hX' h0 with ⟨_, H', b⟩ | ⟨r, t, H', hr, b1, b2⟩
 ·refine ⟨.nilsl, false, 0, H ++ H'.map grO, call_graft s1 b rfl, .inl ⟨rfl, rfl⟩, by omega, fun j hj => List.getElem?_append_left hj, by simp, fun id h => by cases h⟩
 ·obtain ⟨t', g1, g2, g3⟩ := own_graft (H := H) elI_scal b2
  refine ⟨t', true, r.length, H ++ H'.map grO, call_graft s1 b1 (grR_3 g1 _ _ _), Blk.own g2, by rw [hr.1]; omega, fun j hj => List.getElem?_append_left hj, by simp, fun id h => ⟨g3 id h, g2.lt id h⟩⟩

theorem gr43 {pg : Pg} (hF : Free pg) (hQ96 : pg.Q 96 = some 2) {X : TV} {ls : List (List Int)} (hX : SSV X ls) (h0 : chkD ls = 0) (H : Heap) :
  ∃ sT G, callRun pg (den pg) .gr [.fn 43 [] [], X] H = some (.tup [sT, .i .i64 0], G) /\ elQ.Own G sT (sumsL ls) /\ (∀ j, j < H.length -> G[j]? = H[j]?) /\ H.length <= G.length /\ (∀ id, sT.idOf = some id -> H.length <= id /\ id < G.length) := by
 obtain ⟨X', s1, hX'⟩ := snapSSV hX H
 obtain ⟨K, q1, q2⟩ := body43 (pg := pg) hF hQ96 hX' h0
 obtain ⟨t', g1, g2, g3⟩ := own_graft (H := H) elQ_scal q2
 exact ⟨t', H ++ (hQ K (sumsL ls)).map grO, call_graft s1 q1 (grR_2 g1 _ _), g2, fun j hj => List.getElem?_append_left hj, by simp, fun id h => ⟨g3 id h, g2.lt id h⟩⟩

theorem run17 {pg : Pg} (hF : Free pg) (hQ : pg.Q 81 = some 2) (hQ96 : pg.Q 96 = some 2) (h23 : PFn pg 23 [] (.b true)) {T : TV} {l : List (List Int)} (hT : SSV T l) (hl : l.length <= 9223372036854775807) (hL : ∀ x ∈ l, x.length <= 9223372036854775807) : ∃ H, bodyRun pg (den pg) 17 [T] [] = some (.b true, H) := by
 obtain ⟨ls, hr, c28⟩ := call28 (pg := pg) hF hT hl hL (many := 4) (most := 9) (by omega) (by omega) (by omega) []
 have hlen := hr.le
 have hpos := hr.pos
 have hD := hr.all
 have h0 := chk_row hr (by omega) (by omega)
 have hX := elR_SSV false false ls
 have h8 : ∀ x ∈ ls, x ≠ [] /\ x.length <= 8 := fun x hx => ⟨fun e => by have := (hD x hx).pos; rw [e] at this; simp at this, (hD x hx).le⟩
 -- the copy is the same value
 have hcp : (ls.take 7).map (fun x => x.take 9) = ls := by
  rw [List.take_of_length_le (by omega)]
  conv => rhs; rw [<- List.map_id ls]
  refine List.map_congr_left fun x hx => ?_
  rw [List.take_of_length_le (by have := (h8 x hx).2; omega)]; rfl
 have c54 : callRun pg (den pg) (.pu []) [.fn 54 [] [], (elR false).lt false ls] [] = some ((elR false).lt false ls, []) := by
  obtain ⟨X', s1, hX'⟩ := snapSSV hX []
  have f := fn54 (pg := pg) hF hX' (by omega) (fun x hx => by have := (h8 x hx).2; omega)
  rw [hcp] at f
  exact PFn.call f (args := [(elR false).lt false ls]) (ks := []) (fs := []) (cs := []) (by simpa using s1)
 generalize (elR false).lt false ls = X at *
 clear hcp
 have lX := fun H => hX.len H
 -- the calls
 obtain ⟨sT, G1, d43, oS, fS, lS, iS⟩ := gr43 (pg := pg) hF hQ96 hX h0 []
 obtain ⟨tT, ts, G2, d29, oT, fT, lT, iT, iT2⟩ := body29_on (pg := pg) hF hX h0 G1
 have d29' : callRun pg (den pg) .sh [.fn 29 [] [], X] G1 = some (.tup [tT, .i .i64 0], G2) := d29
 obtain ⟨kT, kb, kn, G3, d36, oK, hkn, fK, lK, iK⟩ := gr36 (pg := pg) hF hX h0 G2
 obtain ⟨a, ha⟩ : ∃ a, ls[0]? = some a := ⟨_, List.getElem?_eq_getElem (by omega)⟩
 obtain ⟨b, hb⟩ : ∃ b, ls[ls.length - 1]? = some b := ⟨_, List.getElem?_eq_getElem (by omega)⟩
 obtain ⟨pa, A, pa1, pa2, hA⟩ := hX.ix (pg := pg) (R := den pg) ha G3
 obtain ⟨pb, B, pb1, pb2, hB⟩ := hX.ix (pg := pg) (R := den pg) hb G3
 have hab : chkD [a, b] = 0 := chk_row (most := 9) (n := 6) ⟨fun x hx => by
  simp at hx
  rcases hx with rfl | rfl
  ·exact hD _ (List.mem_of_getElem? ha)
  ·exact hD _ (List.mem_of_getElem? hb), by simp, by simp⟩ (by omega) (by omega)
 obtain ⟨wT, G4, d20, ⟨rs, hrs, oW, gW, rW, nW, iW⟩, fW⟩ := body20 (pg := pg) hF hQ hA hB hab G3
 have d20' : callRun pg (den pg) .sh [.fn 20 [] [], A, B] G3 = some (.tup [wT, .i .i64 0], G4) := d20
 -- the sums are written over
 have bS : Blk 2 G4 sT (sumsL ls).length := (Blk.own oS).mono fun id hid => by
  have := iS id hid
  rw [fW id (by omega), fK id (by omega), fT id (by omega)]
 have hSl : (sumsL ls).length <= 1000 := Nat.le_trans (sumsN_len ls 361) (by omega)
 obtain ⟨G5, w1, l5, f5⟩ := l17_1_all (pg := pg) (V3 := X) (V4 := X) (V6 := .i .i64 0) (V7 := tT) (V8 := .i .i64 0) (V9 := kT) (V11 := .i .i64 0) (V12 := wT) (V13 := .i .i64 0) (T := sT) (n := (sumsL ls).length) (by omega) (sumsL ls).length 0 G4 (by omega) bS
 -- the table
 have tlt : ∀ id, (tT.idOf = some id \/ ∃ t ∈ ts, t.1.idOf = some id) -> G1.length <= id /\ id < G2.length := fun id h => by
  rcases h with h | ⟨t, ht, h⟩
  ·exact ⟨iT id h, oT.own.lt id h⟩
  ·obtain ⟨i, hi⟩ := List.getElem?_of_mem ht
   exact ⟨iT2 t ht id h, oT.lt hi h⟩
 have oT5 : NestD elB G5 tT ts (tbl ls) := NestD.mono2 oT fun id h => by
  have := tlt id h
  rw [f5 id (fun e => by have := iS id e; omega), fW id (by omega), fK id (by omega)]
 have htl : (tbl ls).length = ls.length := by unfold tbl; rw [List.length_map]
 obtain ⟨G6, w2, l6, f6⟩ := l17_5_all (pg := pg) (V3 := X) (V4 := X) (V6 := .i .i64 0) (V8 := .i .i64 0) (V9 := kT) (V11 := .i .i64 0) (V12 := wT) (V13 := .i .i64 0) (N := ls.length) (by omega) ls.length 0 G5 (tbl ls) (by omega) oT5 htl (fun x hx => by
  unfold tbl at hx
  obtain ⟨y, _, rfl⟩ := List.mem_map.1 hx
  rw [List.length_map]; omega)
 have f6' : ∀ k, G2.length <= k -> G6[k]? = G5[k]? := fun k hk => f6 k fun t ht e => by have := tlt k (.inr ⟨t, ht, e⟩); omega
 -- the rank list
 have bK : Blk 1 G6 kT kn := oK.mono fun id hid => by
  have := iK id hid
  rw [f6' id (by omega), f5 id (fun e => by have := iS id e; omega), fW id (by omega)]
 obtain ⟨G7, w3, l7, f7⟩ := l17_7_all (pg := pg) (V3 := X) (V4 := X) (V6 := .i .i64 0) (V8 := .i .i64 0) (V11 := .i .i64 0) (V12 := wT) (V13 := .i .i64 0) (T := kT) (n := kn) (by omega) kn 0 G6 (by omega) bK
 -- the twins
 have f47 : ∀ j, G3.length <= j -> G7[j]? = G4[j]? := fun j hj => by
  rw [f7 j (fun e => by have := iK j e; omega), f6' j (by omega), f5 j (fun e => by have := iS j e; omega)]
 have oW7 : elRP.Own G7 wT rs := oW.mono fun id hid => f47 id (iW id hid)
 have rl7 : RL G7 wT rs := fun x hx => ⟨(gW x hx).2.1, _, _, (f47 _ (rW x hx).1).trans (gW x hx).1.ha, by rw [elI.flat_len]; exact Nat.le_of_eq (Nat.mul_one _).symm⟩
 have hrl : rs.length <= 1000000 /\ ∀ x ∈ rs, x.v.1.length <= 1000000 := ⟨nW.1, fun x hx => (nW.2 x hx).1⟩
 obtain ⟨G8, w4⟩ := l17_11_all (pg := pg) (V3 := X) (V4 := X) (V6 := .i .i64 0) (V8 := .i .i64 0) (V11 := .i .i64 0) (V13 := .i .i64 0) hrl.1 hrl.2 rs.length 0 G7 (by omega) oW7 rl7
 -- once more
 obtain ⟨aT, G9, e43, oA, -, -, -⟩ := gr43 (pg := pg) hF hQ96 hX h0 G8
 have c44 : callRun pg (den pg) (.pu []) [.fn 44 [] [], X] G9 = some (elQ.lt false (sumsL ls), G9) := by
  obtain ⟨X', s1, hX'⟩ := snapSSV hX G9
  exact PFn.call (fn44 (pg := pg) hF hX' (by omega) (fun d hd => ⟨⟨(hD d hd).le, fun y hy => by have := (hD d hd).ok y hy; omega, (hD d hd).srt⟩, (hD d hd).pos⟩)) (args := [X]) (ks := []) (fs := []) (cs := []) (by simpa using s1)
 have lA := oA.view.lenK G9
 have vW : elQ.View G9 (elQ.lt false (sumsL ls)) (sumsL ls) := El.lt_view _ _ _
 have lW := vW.lenK G9
 obtain ⟨e1, r13, r13a, r13b⟩ := l17_13_all (pg := pg) hF (V20 := aT) hX (by omega) (fun x hx => ⟨(h8 x hx).1, by have := (h8 x hx).2; omega⟩) (H := G9) ls.length 0 (by omega)
 obtain ⟨e2, r15⟩ := l17_15_all (pg := pg) (l := sumsL ls) (by omega) oA.view vW (sumsL ls).length 0 (by omega)
 have c23 := PFn.call h23 (args := []) (ks := []) (fs := []) (cs := []) (H := G9) (by simp [snapArgs])
 have wN : wrapR .i64 ((ls.length : Int) - 1) = .i .i64 ((ls.length - 1 : Nat) : Int) := by rw [show (ls.length : Int) - 1 = ((ls.length - 1 : Nat) : Int) by omega]; exact Yn (by omega)
 simp only [Int.natCast_zero, Int.cast_ofNat_Int] at c28 w1 w2 w3 w4 r13 r15 pa1
 refine ⟨G9, body_of (x := .ret) (e := [(2, .b true)]) (d := d17) (by rw [hF.F]; rfl) rfl ?_ (.inl rfl) rfl⟩
 clear hr hlen hpos hD h0 hX h8 oS fS lS iS d29 oT fT lT iT iT2 oK hkn fK lK iK ha hb hA hB hab d20 hrs oW gW rW iW fW bS hSl l5 f5 tlt oT5 htl l6 f6 f6' bK l7 f7 f47 oW7 rl7 hrl oA vW nW
 generalize elQ.lt false (sumsL ls) = S at *
 generalize ((ls.length - 1 : Nat) : Int) = N1 at *
 generalize ls.length = N at *
 generalize (sumsL ls).length = M at *
 simp (maxSteps := 2000000) (disch := omega) [d17, c17, zipE, Z0, Z1, Z2, Z3, Z4, Z5, Z6, Z7, Z8, Z9, Za, Zb, Zc, Zd, Ze, Zf, Zg, Zh, Zi, Zj, Zk, Zl, Zm, Zn, Zo, Zp, Zq, Zr, Zs, Zt, Zu, Zv, Zw, Zx, k_mv, Zy, Zz, ZA, ZB, ZC, ZD, ZE, ZF, ZG, ZH, ZI, ZJ, ZK, ZL, ZM, ZN, ZO, ZP, ZQ, ZR, ZS, ZT, ZU, ZV, ZW, ZX, ZY, ZZ, Y0, Y1, Y2, Y3, Y4, k_mn, k_mx, Y5, Y6, Y7, Y8, Y9, Ya, Yb, Yc, Yd, Ye, Yf, Yg, Yh, Dn.setLast, Dn.getLast, evalO, mapO, Dn.get, putE, Yi, Yj, Yk, Yl, TV.one, TV.isAgg, Dn.part, Ym, negb, at0, at1, at2, at3, at4, dT, dF, Yn, Option.bind_some, Option.map_some, c28, c54, d43, d29', d36, pa1, pa2, lX, wN, pb1, pb2, d20', go_denK (c := l17_1) rfl, w1, go_denK (c := l17_5) rfl, w2, go_denK (c := l17_7) rfl, w3, go_denK (c := l17_11) rfl, w4, e43, c44, lA, lW, go_denK (c := l17_13) rfl, r13, r13a, r13b, go_denK (c := l17_15) rfl, r15, c23]

end Go.Proofs.Try.Dn

