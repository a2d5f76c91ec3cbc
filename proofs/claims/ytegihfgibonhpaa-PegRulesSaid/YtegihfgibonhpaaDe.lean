/-
  Arrays behind slices of a fixed length: made whole, their elements and cells put into place.
-/
import Derived.Test.YtegihfgibonhpaaDd
set_option linter.unusedSimpArgs false
set_option linter.unusedVariables false

namespace Go.Dn
namespace El
variable {α : Type} {E : El α}

/-- a slice that is all of an array of its own -/
def Arr (E : El α) (H : Heap) (t : TV) (l : List α) : Prop :=
  ∃ id cap, t = .sl id 0 E.sz E.ag l.length cap ∧ l.length ≤ cap.getD l.length ∧ H[id]? = some (.cells (E.flat l) false)

theorem Arr.view {H : Heap} {t : TV} {l : List α} (h : E.Arr H t l) : E.View H t l := by
  obtain ⟨id, cap, rfl, h1, h2⟩ := h
  exact .inr (.inr ⟨id, 0, cap, _, false, rfl, h1, h2, by rw [E.flat_len]; omega, by rw [List.drop_zero, ← E.flat_len, List.take_length]⟩)

theorem Arr.mono {H H' : Heap} {t : TV} {l : List α} (h : E.Arr H t l) (hf : ∀ id, t.idOf = some id → H'[id]? = H[id]?) : E.Arr H' t l := by
  obtain ⟨id, cap, rfl, h1, h2⟩ := h
  exact ⟨id, cap, rfl, h1, by rw [hf id rfl]; exact h2⟩

theorem Arr.lt {H : Heap} {t : TV} {l : List α} (h : E.Arr H t l) : ∀ id, t.idOf = some id → id < H.length := h.view.lt

theorem Arr.ne {H : Heap} {t : TV} {l : List α} (h : E.Arr H t l) : t ≠ .nilsl ∧ t.isAgg = false ∧ t.one = true := by
  obtain ⟨id, cap, rfl, h1, h2⟩ := h
  exact ⟨by simp, rfl, rfl⟩

theorem flat_set (l : List α) {i : Nat} (hi : i < l.length) (x : α) : put2 (E.flat l) (i * E.sz) (E.enc x) = E.flat (l.set i x) := by
  rw [List.set_eq_take_append_cons_drop, if_pos hi, E.flat_append, E.flat_cons]
  unfold put2
  rw [E.flat_take, E.len x, show i * E.sz + E.sz = (i + 1) * E.sz by rw [Nat.add_mul]; omega, E.flat_drop, List.append_assoc]

theorem put2_set (l : List TV) {o : Nat} (ho : o < l.length) (v : TV) : put2 l o [v] = l.set o v := by
  rw [List.set_eq_take_append_cons_drop, if_pos ho]
  simp [put2]

section
variable {pg : Pg} {R : Rec}

theorem k_st (sz : Nat) (id off : Nat) (v : TV) (c : List TV) (ag : Bool) (H : Heap) (h : H[id]? = some (.cells c ag)) (h1 : v.cells.length = sz) (h2 : v.cells.all TV.one = true) (h3 : off + sz ≤ c.length) :
    dkc pg R (.st sz) [.ref id off, v] H = some (.undef, H.set id (.cells (put2 c off v.cells) ag)) := by
  simp only [dkc, dk, h, h1, h2, h3, true_and, if_true]

/-- an element -/
theorem Arr.at {H : Heap} {t : TV} {l : List α} (h : E.Arr H t l) {i : Nat} {x : α} (hx : l[i]? = some x) (k : IntKind) :
    ∃ p, dkc pg R (.ixS E.sz E.ag) [t, .i k (i : Int)] H = some (p, H) ∧ E.At H p x ∧
      (∀ y, ∃ H', dkc pg R (.st E.sz) [p, E.val y] H = some (.undef, H') ∧ E.Arr H' t (l.set i y) ∧ H'.length = H.length ∧ (∀ j, t.idOf ≠ some j → H'[j]? = H[j]?)) ∧
      (E.ag = true → ∀ (j : Nat) (v : TV), (E.enc x)[j]? = some v → ∀ k', ∃ q, dkc pg R (.ixA E.sz 1 false) [p, .i k' (j : Int)] H = some (q, H) ∧ dkc pg R (.ld 1 false) [q] H = some (v, H) ∧
        ∀ w y, E.enc y = (E.enc x).set j w → ∃ H', dkc pg R (.st 1) [q, w] H = some (.undef, H') ∧ E.Arr H' t (l.set i y) ∧ H'.length = H.length ∧ (∀ j, t.idOf ≠ some j → H'[j]? = H[j]?)) := by
  have hi := (List.getElem?_eq_some_iff.1 hx).1
  obtain ⟨id, cap, rfl, h1, h2⟩ := h
  have hroom : i * E.sz + E.sz ≤ l.length * E.sz := by
    have : (i + 1) * E.sz ≤ l.length * E.sz := Nat.mul_le_mul_right _ hi
    rw [Nat.add_mul] at this
    omega
  have hfl := E.flat_len l
  have hid := (List.getElem?_eq_some_iff.1 h2).1
  have hix : dkc pg R (.ixS E.sz E.ag) [.sl id 0 E.sz E.ag l.length cap, .i k (i : Int)] H = some (.ref id (i * E.sz), H) :=
    (k_ixSl E.sz E.ag E.ag id 0 l.length cap k i H (by omega) (by simpa using hi)).trans (by simp)
  have hat : E.At H (.ref id (i * E.sz)) x := by
    have hv : E.View H (.sl id 0 E.sz E.ag l.length cap) l := Arr.view ⟨id, cap, rfl, h1, h2⟩
    obtain ⟨p, hp, ha, _⟩ := hv.ix (pg := pg) (R := R) hx k
    rw [hix] at hp
    simp only [Option.some.injEq, Prod.mk.injEq, and_true] at hp
    subst hp
    exact ha
  have hfr : ∀ (o : AObj) (j : Nat), (TV.sl id 0 E.sz E.ag l.length cap).idOf ≠ some j → (H.set id o)[j]? = H[j]? := by
    intro o j hj
    rw [List.getElem?_set_ne]
    intro he
    exact hj (by rw [← he]; rfl)
  refine ⟨.ref id (i * E.sz), hix, hat, ?_, ?_⟩
  · intro y
    refine ⟨_, k_st E.sz id (i * E.sz) (E.val y) (E.flat l) false H h2 (by rw [E.val_cells, E.len]) (by rw [E.val_cells, E.one]) (by omega), ?_, by simp, hfr _⟩
    rw [E.val_cells, flat_set l hi]
    exact ⟨id, cap, by rw [List.length_set], by rw [List.length_set]; exact h1, by simp [hid]⟩
  · intro hag j v hv k'
    have hj := (List.getElem?_eq_some_iff.1 hv).1
    rw [E.len] at hj
    have hone : v.one = true := List.all_eq_true.1 (E.one x) v (List.mem_of_getElem? hv)
    have hisag : v.isAgg = false := by cases hv' : v <;> simp_all [TV.one, TV.isAgg]
    obtain ⟨q, hq, hr⟩ := hat.cell (pg := pg) (R := R) hag hv k'
    have hq' : dkc pg R (.ixA E.sz 1 false) [.ref id (i * E.sz), .i k' (j : Int)] H = some (.ref id (i * E.sz + j), H) := by
      simp [dkc, dk, bound, hj]
    rw [hq] at hq'
    simp only [Option.some.injEq, Prod.mk.injEq, and_true] at hq'
    subst hq'
    refine ⟨_, hq, hr, fun w y hy => ?_⟩
    have hw : w.one = true := by
      have : w ∈ E.enc y := by rw [hy]; exact List.mem_of_getElem? (i := j) (by rw [List.getElem?_set_self (by rw [E.len]; exact hj)])
      exact List.all_eq_true.1 (E.one y) w this
    have hwc : w.cells = [w] := by cases hw' : w <;> simp_all [TV.one, TV.cells]
    refine ⟨_, k_st 1 id (i * E.sz + j) w (E.flat l) false H h2 (by rw [hwc]; rfl) (by rw [hwc]; simp [hw]) (by omega), ?_, by simp, hfr _⟩
    have hput : put2 (E.flat l) (i * E.sz + j) w.cells = E.flat (l.set i y) := by
      rw [hwc, put2_set _ (by omega), ← flat_set l hi, hy]
      apply List.ext_getElem?
      intro m
      have hx1 : (E.flat l).drop (i * E.sz) = E.enc x ++ E.flat (l.drop (i + 1)) := by
        rw [E.flat_drop, List.drop_eq_getElem_cons hi, E.flat_cons]
        have := (List.getElem?_eq_some_iff.1 hx).2
        rw [this]
      unfold put2
      by_cases hm : m < i * E.sz
      · rw [List.getElem?_set_ne (by omega), List.append_assoc, List.getElem?_append_left (by simp; omega), List.getElem?_take, if_pos hm]
      · by_cases hm2 : m < i * E.sz + E.sz
        · have hl : (List.take (i * E.sz) (E.flat l)).length = i * E.sz := by simp; omega
          rw [List.append_assoc, List.getElem?_append_right (by omega), hl, List.getElem?_append_left (by rw [List.length_set, E.len]; omega)]
          by_cases hmj : m = i * E.sz + j
          · subst hmj
            rw [List.getElem?_set_self (by omega), Nat.add_sub_cancel_left, List.getElem?_set_self (by rw [E.len]; exact hj)]
          · rw [List.getElem?_set_ne (by omega), List.getElem?_set_ne (by omega)]
            have := congrArg (·[m - i * E.sz]?) hx1
            simp only [List.getElem?_drop] at this
            rw [show i * E.sz + (m - i * E.sz) = m by omega, List.getElem?_append_left (by rw [E.len]; omega)] at this
            exact this
        · have hl : (List.take (i * E.sz) (E.flat l) ++ (E.enc x).set j w).length = i * E.sz + E.sz := by simp [E.len]; omega
          rw [List.getElem?_set_ne (by omega), List.getElem?_append_right (by omega), hl, List.length_set, E.len, List.getElem?_drop]
          congr 1
          omega
    rw [hput]
    exact ⟨id, cap, by rw [List.length_set], by rw [List.length_set]; exact h1, by simp [hid]⟩
end

theorem repl_enc (a : α) (n : Nat) : repl (E.enc a) n = E.flat (List.replicate n a) := by
  have h1 : ∀ z : List TV, repl z n = (List.replicate n z).flatten := by
    intro z
    unfold repl
    split
    · rename_i x
      induction n with
      | zero => rfl
      | succ n ih => rw [List.replicate_succ, List.replicate_succ, List.flatten_cons, ih]; rfl
    · rfl
  rw [h1]
  simp [flat, List.flatMap, List.map_replicate]

theorem arr_mksl (E : El α) (H : Heap) (a : α) (n : Nat) : E.Arr (H ++ [.cells (repl (E.enc a) n) false]) (.sl H.length 0 E.sz E.ag n (some n)) (List.replicate n a) :=
  ⟨H.length, some n, by rw [List.length_replicate], by simp, by rw [repl_enc]; simp⟩

theorem Arr.snap {H : Heap} {t : TV} {l : List α} (h : E.Arr H t l) (hs : E.Flat) : Dn.snap .borrow H 9 t = some (.bs true E.sz (l.map E.val)) := h.view.snap hs h.ne.1

end El
end Go.Dn

