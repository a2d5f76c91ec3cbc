/-
  Knight: which boards have tours: all boards.
-/
import Derived.Test.YtdjbpmgbaggfbaaDoorKfs
import Derived.Test.YtdjbpmgbaggfbaaDoorKfg
set_option linter.unusedSimpArgs false
set_option linter.unusedVariables false

namespace Go.Proofs.Tryd.Dn
open Go.Dn

def witO : List (Nat × Nat × Nat × List Nat) := [(1, 1, 0, []), (3, 4, 0, [6, 8, 1, 7, 9, 2, 4, 10, 3, 5, 11]), (3, 7, 0, [15, 10, 5, 20, 11, 6, 19, 4, 13, 18, 9, 14, 1, 16, 7, 2, 17, 8, 3, 12]), (3, 8, 0, [17, 2, 8, 18, 12, 6, 23, 13, 7, 22, 5, 15, 21, 11, 1, 16, 10, 4, 14, 20, 3, 9, 19]), (4, 3, 0, [7, 2, 3, 10, 5, 6, 1, 8, 9, 4, 11]), (4, 5, 0, [11, 18, 9, 2, 5, 16, 13, 4, 7, 10, 1, 8, 19, 12, 15, 6, 3, 14, 17]), (4, 6, 0, [13, 2, 6, 19, 8, 4, 17, 21, 10, 23, 15, 11, 22, 9, 5, 16, 3, 7, 18, 14, 1, 12, 20]), (4, 7, 0, [15, 2, 7, 22, 9, 24, 19, 6, 11, 26, 13, 4, 17, 8, 21, 16, 1, 14, 23, 10, 5, 20, 25, 12, 3, 18, 27]), (4, 8, 0, [17, 2, 8, 25, 10, 27, 12, 6, 23, 29, 14, 31, 21, 4, 19, 9, 24, 18, 1, 16, 26, 11, 28, 22, 7, 13, 3, 20, 5, 15, 30]), (5, 4, 0, [6, 15, 17, 8, 1, 7, 14, 16, 9, 2, 4, 13, 19, 10, 3, 5, 11, 18, 12]), (5, 5, 0, [7, 4, 13, 24, 17, 20, 11, 2, 5, 16, 23, 14, 3, 6, 15, 22, 19, 8, 1, 10, 21, 12, 9, 18]), (5, 6, 0, [8, 4, 17, 28, 20, 24, 13, 2, 6, 19, 27, 23, 10, 21, 29, 16, 5, 9, 1, 12, 25, 14, 3, 7, 18, 26, 15, 11, 22]), (5, 7, 0, [9, 4, 13, 26, 31, 22, 7, 2, 11, 6, 19, 34, 25, 20, 5, 10, 1, 14, 29, 16, 21, 30, 15, 24, 33, 18, 3, 8, 17, 12, 27, 32, 23, 28]), (6, 4, 0, [6, 8, 1, 7, 9, 15, 17, 23, 14, 16, 22, 13, 20, 18, 11, 2, 4, 10, 3, 5, 12, 21, 19]), (6, 5, 0, [7, 4, 13, 24, 27, 20, 11, 2, 5, 16, 25, 22, 29, 18, 9, 12, 1, 8, 19, 28, 21, 10, 17, 6, 3, 14, 23, 26, 15]), (6, 6, 0, [8, 4, 17, 28, 32, 24, 13, 2, 6, 19, 30, 26, 34, 21, 10, 23, 15, 11, 3, 7, 18, 31, 27, 35, 22, 14, 1, 9, 5, 16, 29, 33, 20, 12, 25]), (7, 3, 0, [5, 10, 15, 20, 13, 18, 17, 12, 19, 14, 7, 2, 3, 8, 1, 6, 11, 4, 9, 16]), (7, 4, 0, [6, 8, 1, 7, 9, 15, 22, 24, 17, 23, 25, 16, 14, 5, 3, 10, 4, 2, 11, 13, 19, 26, 20, 18, 12, 21, 27]), (7, 5, 0, [7, 4, 13, 2, 5, 16, 25, 32, 29, 18, 9, 12, 1, 10, 21, 30, 27, 34, 23, 14, 3, 6, 15, 26, 33, 24, 17, 8, 11, 20, 31, 22, 19, 28]), (8, 3, 0, [5, 6, 1, 8, 13, 18, 23, 16, 21, 20, 15, 22, 17, 10, 3, 2, 7, 12, 11, 4, 9, 14, 19]), (8, 4, 0, [6, 8, 1, 7, 9, 15, 17, 24, 30, 23, 14, 16, 25, 31, 22, 29, 27, 18, 20, 26, 28, 21, 12, 5, 3, 10, 19, 13, 4, 2, 11])]
theorem witO_ok : (witO.all fun w => complB w.2.1 w.2.2.1 false w.2.2.1 (allBut (w.1 * w.2.1) w.2.2.1) w.2.2.2) = true := by kernel_rfl

def noTour : List (Nat × Nat) := [(1, 2), (1, 3), (1, 4), (1, 5), (1, 6), (1, 7), (1, 8), (2, 1), (2, 2), (2, 3), (2, 4), (2, 5), (2, 6), (2, 7), (2, 8), (3, 1), (3, 2), (3, 3), (3, 5), (3, 6), (4, 1), (4, 2), (4, 4), (5, 1), (5, 2), (5, 3), (6, 1), (6, 2), (6, 3), (7, 1), (7, 2), (8, 1), (8, 2)]
def noneB (T : List (Nat × Nat)) (n : Nat) (closed : Bool) : Bool := (List.range n).all fun s => !sr T n s closed 40 s (allBut n s)
theorem tbl_3_5 : tbl 3 5 = [(0, 2176), (1, 5376), (2, 10784), (3, 20544), (4, 8320), (5, 4100), (6, 8200), (7, 17425), (8, 2050), (9, 4100), (10, 130), (11, 261), (12, 554), (13, 84), (14, 136)] := by kernel_rfl
theorem tbl_5_3 : tbl 5 3 = [(0, 160), (1, 320), (2, 136), (3, 1284), (4, 2560), (5, 1089), (6, 10274), (7, 20485), (8, 8714), (9, 16656), (10, 40), (11, 4176), (12, 2176), (13, 320), (14, 640)] := by kernel_rfl
theorem tbl_3_6 : tbl 3 6 = [(0, 8448), (1, 20992), (2, 42048), (3, 84096), (4, 164096), (5, 66048), (6, 16388), (7, 32776), (8, 69649), (9, 139298), (10, 16388), (11, 32776), (12, 258), (13, 517), (14, 1098), (15, 2196), (16, 296), (17, 528)] := by kernel_rfl
theorem tbl_6_3 : tbl 6 3 = [(0, 160), (1, 320), (2, 136), (3, 1284), (4, 2560), (5, 1089), (6, 10274), (7, 20485), (8, 8714), (9, 82192), (10, 163880), (11, 69712), (12, 133248), (13, 320), (14, 33408), (15, 17408), (16, 2560), (17, 5120)] := by kernel_rfl
theorem tbl_4_4 : tbl 4 4 = [(0, 576), (1, 1408), (2, 2576), (3, 1056), (4, 9220), (5, 22536), (6, 41217), (7, 16898), (8, 16450), (9, 32901), (10, 4122), (11, 8228), (12, 1056), (13, 2128), (14, 416), (15, 576)] := by kernel_rfl
theorem no_3_5 : noneB (tbl 3 5) (3 * 5) false = true := by rw [tbl_3_5]; kernel_rfl
theorem no_5_3 : noneB (tbl 5 3) (5 * 3) false = true := by rw [tbl_5_3]; kernel_rfl
theorem no_3_6 : noneB (tbl 3 6) (3 * 6) false = true := by rw [tbl_3_6]; kernel_rfl
theorem no_6_3 : noneB (tbl 6 3) (6 * 3) false = true := by rw [tbl_6_3]; kernel_rfl
theorem no_4_4 : noneB (tbl 4 4) (4 * 4) false = true := by rw [tbl_4_4]; kernel_rfl
theorem no_small : ((noTour.filter fun p => ![(3, 5), (5, 3), (3, 6), (6, 3), (4, 4), (3, 8), (8, 3)].contains p).all fun p => noneB (tbl p.1 p.2) (p.1 * p.2) false) = true := by kernel_rfl
end Go.Proofs.Tryd.Dn

/-
  Knight: results whose rows become the caller's own.
-/

namespace Go.Proofs.Tryd.Dn
open Go.Dn

theorem call_graft {pg : Pg} {f : Nat} {args bs : List TV} {H H1 : Heap} {r r' : TV} (ha : snapArgs H [] args = some bs) (hb : bodyRun pg (den pg) f bs [] = some (r, H1)) (hr : grR H.length r = some r') :
    callRun pg (den pg) .gr (.fn f [] [] :: args) H = some (r', H ++ H1.map grO) := by
  simp [callRun, ha, hb, hr]

theorem graft_at {H H1 : Heap} {id : Nat} {c : List TV} {ag : Bool} (h : H1[id]? = some (.cells c ag)) : (H ++ H1.map grO)[H.length + id]? = some (.cells (c.takeWhile TV.scal) ag) := by
  rw [List.getElem?_append_right (by omega), Nat.add_sub_cancel_left, List.getElem?_map, h]
  rfl

theorem take_scal {c f : List TV} {n : Nat} (h : c.take n = f) (hn : n ≤ c.length) (hf : f.all TV.scal = true) : n ≤ (c.takeWhile TV.scal).length ∧ (c.takeWhile TV.scal).take n = f := by
  have e : c = f ++ c.drop n := by rw [← h]; exact (List.take_append_drop n c).symm
  have hl : f.length = n := by rw [← h, List.length_take]; omega
  rw [e, List.takeWhile_append_of_pos (fun x hx => List.all_eq_true.1 hf x hx)]
  refine ⟨by rw [List.length_append]; omega, ?_⟩
  rw [List.take_append, List.take_of_length_le (by omega), hl, Nat.sub_self, List.take_zero, List.append_nil]

theorem own_graft {α : Type} {E : El α} (hE : ∀ a, (E.enc a).all TV.scal = true) {H H1 : Heap} {t : TV} {l : List α} (h : E.Own H1 t l) : ∃ t', grV H.length t = some t' ∧ E.Own (H ++ H1.map grO) t' l ∧ ∀ id, t'.idOf = some id → H.length ≤ id := by
  rcases h with ⟨rfl, rfl⟩ | ⟨hl, id, ag, c, rfl, h1, h2, h3⟩
  · exact ⟨.nilsl, rfl, .inl ⟨rfl, rfl⟩, fun id hid => by cases hid⟩
  · have hf : (E.flat l).all TV.scal = true := by
      refine List.all_eq_true.2 fun x hx => ?_
      unfold El.flat at hx
      obtain ⟨a, _, ha⟩ := List.mem_flatMap.1 hx
      exact List.all_eq_true.1 (hE a) x ha
    obtain ⟨g1, g2⟩ := take_scal h3 h2 hf
    exact ⟨.sl (H.length + id) 0 E.sz E.ag l.length none, rfl, .inr ⟨hl, H.length + id, ag, _, rfl, graft_at h1, g1, g2⟩, fun j hj => by cases hj; omega⟩

theorem elI_scal (a : Int) : (elI.enc a).all TV.scal = true := rfl
theorem elP_scal (a : Int × Int) : (elP.enc a).all TV.scal = true := rfl

theorem wy_graft {H H1 : Heap} {t : TV} {l : List Int} (h : Wy H1 t l) : ∃ t', grV H.length t = some t' ∧ Wy (H ++ H1.map grO) t' l ∧ ∀ id, t'.idOf = some id → H.length ≤ id := by
  rcases h with h | ⟨id, v, rfl, rfl, h⟩
  · obtain ⟨t', g1, g2, g3⟩ := own_graft (H := H) elI_scal h
    exact ⟨t', g1, .inl g2, g3⟩
  · exact ⟨.sl (H.length + id) 0 1 false 1 (some 1), rfl, .inr ⟨H.length + id, v, rfl, rfl, graft_at h⟩, fun j hj => by cases hj; omega⟩

theorem Wy.fin8 {H : Heap} {t : TV} {l : List Int} (h : Wy H t l) : snap .fin H 8 t = some (elI.lt false l) := by
  rcases h with h | ⟨id, v, rfl, rfl, h⟩
  · exact h.fin8 elI_flat
  · rw [sn8_sl _ (by decide), h, slB_some]
    simp [sn_i, sn_b, sn_nil, sn8_i, sn8_b, sn8_nil, sn7_i, sn7_b, sn_sl, sn8_sl, slB_some, sn_tup, sn_agg, sn8_agg, mapO, elems, snS_i]
    rfl

end Go.Proofs.Tryd.Dn

