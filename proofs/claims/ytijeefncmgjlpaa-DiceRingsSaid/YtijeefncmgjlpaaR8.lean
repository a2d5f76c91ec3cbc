/-
  Dice: the law Rings run.
-/
import Derived.Test.YtijeefncmgjlpaaUG
set_option linter.unusedSimpArgs false
set_option linter.unusedVariables false

set_option maxHeartbeats 4000000
set_option maxRecDepth 100000
namespace Go.Proofs.Try.Dn
open Go.Dn

theorem ringL_len {ls : List (List Int)} {r : List Int} (h : RingL ls r) : r.length ≤ ls.length := by
  obtain ⟨h1, h2⟩ := h.2.1
  have hn : (r.map Int.toNat).Nodup := by
    rw [List.nodup_iff_pairwise_ne, List.pairwise_map]
    refine List.Pairwise.imp_of_mem ?_ (List.nodup_iff_pairwise_ne.1 h1)
    intro a b ha hb hab e
    have := h2 a ha
    have := h2 b hb
    exact hab (by omega)
  have := sub_lenN hn (m := List.range ls.length) fun x hx => by
    obtain ⟨y, hy, rfl⟩ := List.mem_map.1 hx
    have := h2 y hy
    exact List.mem_range.2 (by omega)
  simpa using this

theorem run8 {pg : Pg} (hF : Free pg) (h23 : PFn pg 23 [] (.b true)) {T : TV} {l : List (List Int)} (hT : SSV T l) (hl : l.length ≤ 9223372036854775807) (hL : ∀ x ∈ l, x.length ≤ 9223372036854775807) : ∃ H, bodyRun pg (den pg) 8 [T] [] = some (.b true, H) := by
  obtain ⟨ls, hr, c28⟩ := call28 (pg := pg) hF hT hl hL (many := 6) (most := 9) (by omega) (by omega) (by omega) []
  have c23 := fun H => PFn.call h23 (args := []) (ks := []) (fs := []) (cs := []) (H := H) (by simp [snapArgs])
  have hlen := hr.le
  have hL2 : ∀ x ∈ ls, x.length ≤ 100 := fun x hx => by have := (hr.all x hx).le; omega
  have hX := elR_SSV false false ls
  obtain ⟨X', s1, s2⟩ := snapSSV hX []
  have h0 := chk_row hr (by omega) (by omega)
  have s1' : snap .borrow ([] : Heap) 9 ((elR false).lt false ls) = some X' := by
    cases hs : snap .borrow ([] : Heap) 9 ((elR false).lt false ls) with
    | none => simp [snapArgs, hs] at s1
    | some y => simpa [snapArgs, hs] using s1
  have ln0 : lenK 0 .nilsl ([] : Heap) = some 0 := rfl
  have sr : ∀ r : List Int, snapArgs ([] : Heap) [] [(elR false).lt false ls, elI.lt false r] = some [X', elI.lt true r] := fun r => by
    simp [snapArgs, s1', El.lt_snap elI_flat]
  have c37 := PFn.call (fn37 (pg := pg) hF s2 (by omega) hL2) (args := [(elR false).lt false ls]) (ks := []) (fs := []) (cs := []) (H := []) (by simpa using s1)
  refine ⟨[], body_of (x := .ret) (e := [(2, .b true)]) (d := d8) (by rw [hF.F]; rfl) rfl ?_ (.inl rfl) rfl⟩
  rcases fn35 (pg := pg) hF s2 h0 with ⟨r, hr1, f35⟩ | ⟨⟨r, hr1⟩, f35⟩
  · have hh := ring_has hr1
    rw [hh] at c37
    rcases fn36 (pg := pg) hF s2 h0 with ⟨_, f36⟩ | ⟨q, hq, _⟩
    · have c35 := PFn.call f35 (args := [(elR false).lt false ls]) (ks := []) (fs := []) (cs := []) (H := []) (by simpa using s1)
      have c36 := PFn.call f36 (args := [(elR false).lt false ls]) (ks := []) (fs := []) (cs := []) (H := []) (by simpa using s1)
      have c38 := PFn.call (fn38 (pg := pg) hF s2 (by omega) hL2 hr1 (by have := ringL_len hr1; omega)) (args := [(elR false).lt false ls, elI.lt false r]) (ks := []) (fs := []) (cs := []) (H := []) (sr r)
      clear s1 s1' sr s2 f35 f36 hr1
      generalize elI.lt false r = RV at *
      generalize (elR false).lt false ls = X at *
      simp only [Int.cast_ofNat_Int] at c28
      simp (disch := omega) [d8, c8, zipE, gX0, gX1, gX2, gX3, gX4, gX5, gX6, gX7, gX8, gX9, gXa, gXb, gXc, gXd, gXe, gXf, gXg, gXh, gXi, gXj, gXk, gXl, gXm, gXn, gXo, gXp, gXq, gXr, gXs, gXt, gXu, gXv, gXw, gXx, k_mv, gXy, gXz, gX01, gX11, gX21, gX31, gX41, gX51, gX61, gX71, gX81, gX91, gXa1, gXb1, gXc1, gXd1, gXe1, gXf1, gXg1, gXh1, gXi1, gXj1, gXk1, gXl1, gXm1, gXn1, gXo1, gXp1, gXq1, gXr1, gXs1, gXt1, gXu1, k_mn, k_mx, gXv1, gXw1, gXx1, gXy1, gXz1, gX02, gX12, gX22, gX32, gX42, gX52, gX62, gX72, Dn.setLast, Dn.getLast, evalO, mapO, Dn.get, putE, gX82, gX92, gXa2, gXb2, TV.one, TV.isAgg, Dn.part, gXc2, negb, at0, at1, at2, at3, at4, dT, dF, gXd2, Option.bind_some, Option.map_some, c28, c35, c36, c37, c38, c23, ln0]
    · rw [rank_has hq (ed_self ls)] at hh; cases hh
  · have hh := rank_has hr1 (ed_self ls)
    rw [hh] at c37
    rcases fn36 (pg := pg) hF s2 h0 with ⟨⟨q, hq⟩, _⟩ | ⟨q, hq, f36⟩
    · rw [ring_has hq] at hh; cases hh
    · have c35 := PFn.call f35 (args := [(elR false).lt false ls]) (ks := []) (fs := []) (cs := []) (H := []) (by simpa using s1)
      have c36 := PFn.call f36 (args := [(elR false).lt false ls]) (ks := []) (fs := []) (cs := []) (H := []) (by simpa using s1)
      have c39 := PFn.call (fn39 (pg := pg) hF s2 (by omega) hL2 hq) (args := [(elR false).lt false ls, elI.lt false q]) (ks := []) (fs := []) (cs := []) (H := []) (sr q)
      clear s1 s1' sr s2 f35 f36 hr1 hq
      generalize elI.lt false q = RV at *
      generalize (elR false).lt false ls = X at *
      simp only [Int.cast_ofNat_Int] at c28
      simp (disch := omega) [d8, c8, zipE, gX0, gX1, gX2, gX3, gX4, gX5, gX6, gX7, gX8, gX9, gXa, gXb, gXc, gXd, gXe, gXf, gXg, gXh, gXi, gXj, gXk, gXl, gXm, gXn, gXo, gXp, gXq, gXr, gXs, gXt, gXu, gXv, gXw, gXx, k_mv, gXy, gXz, gX01, gX11, gX21, gX31, gX41, gX51, gX61, gX71, gX81, gX91, gXa1, gXb1, gXc1, gXd1, gXe1, gXf1, gXg1, gXh1, gXi1, gXj1, gXk1, gXl1, gXm1, gXn1, gXo1, gXp1, gXq1, gXr1, gXs1, gXt1, gXu1, k_mn, k_mx, gXv1, gXw1, gXx1, gXy1, gXz1, gX02, gX12, gX22, gX32, gX42, gX52, gX62, gX72, Dn.setLast, Dn.getLast, evalO, mapO, Dn.get, putE, gX82, gX92, gXa2, gXb2, TV.one, TV.isAgg, Dn.part, gXc2, negb, at0, at1, at2, at3, at4, dT, dF, gXd2, Option.bind_some, Option.map_some, c28, c35, c36, c37, c39, c23, ln0]

end Go.Proofs.Try.Dn

