/-
  Knight: words in a list; a list of words that grows in a cell.
-/
import Derived.Test.YtdjbpmgbaggfbaaDoorKf1
set_option linter.unusedSimpArgs false
set_option linter.unusedVariables false

namespace Go.Proofs.Tryd.Dn
open Go.Dn

def elU : El Nat where
  sz := 1
  ag := false
  enc n := [.i .u64 (n : Int)]
  pos := by decide
  len _ := rfl
  one _ := rfl
  sc := .inr rfl

theorem appU {H : Heap} {t x : TV} {l k : List Nat} (h : elU.Own H t l) (hx : elU.View H x k) (hb : l.length + k.length ≤ 1000000) :
    ∃ t' H', appRun 1 false 8 t x H = some (t', H') ∧ elU.Own H' t' (l ++ k) ∧ H.length ≤ H'.length ∧ (∀ j, j < H.length → t.idOf ≠ some j → H'[j]? = H[j]?) ∧ (t' = t ∨ ∀ id, t'.idOf = some id → H.length ≤ id) := El.app (E := elU) (bytes := 8) h hx (by omega)

theorem one_viewU (H : Heap) (v : Nat) : elU.View (H ++ [.cells [.i .u64 (v : Int)] false]) (.sl H.length 0 1 false 1 (some 1)) [v] :=
  .inr (.inr ⟨H.length, 0, some 1, _, false, rfl, by simp, getLast _ _, by simp [elU], by simp [elU, El.flat]⟩)

structure AccU (A lp : Nat) (H0 H : Heap) (m : List Nat) : Prop where
  cell : ∃ R, H[A]? = some (.cells [R] false) ∧ elU.Own H R m ∧ ∀ id, R.idOf = some id → lp < id
  len : lp < H.length
  old : ∀ j, j < A → H[j]? = H0[j]?

theorem AccU.set {A lp : Nat} {H0 H : Heap} {m : List Nat} (h : AccU A lp H0 H m) {s : Nat} (h1 : A < s) (h2 : s ≤ lp) (o : AObj) : AccU A lp H0 (H.set s o) m := by
  obtain ⟨R, r1, r2, r3⟩ := h.cell
  exact ⟨⟨R, by rw [List.getElem?_set_ne (by omega)]; exact r1, r2.mono fun id hid => by have := r3 id hid; rw [List.getElem?_set_ne (by omega)], r3⟩, by have := h.len; simpa using this, fun j hj => by rw [List.getElem?_set_ne (by omega)]; exact h.old j hj⟩

theorem AccU.push {pg : Pg} {A lp : Nat} {H0 H : Heap} {m : List Nat} (h : AccU A lp H0 H m) (hA : A < lp) (v : Nat) (hb : m.length + 1 ≤ 1000000) : ∃ R R' H' H2, dkc pg (den pg) (.ld 1 false) [.ref A 0] H = some (R, H) ∧ appRun 1 false 8 R (.sl H.length 0 1 false 1 (some 1)) (H ++ [.cells [.i .u64 (v : Int)] false]) = some (R', H') ∧ dkc pg (den pg) (.st 1) [.ref A 0, R'] H' = some (.undef, H2) ∧
    AccU A lp H0 H2 (m ++ [v]) ∧ (∀ j, j < H.length → j ≠ A → (∀ R, H[A]? = some (.cells [R] false) → R.idOf ≠ some j) → H2[j]? = H[j]?) ∧ H.length ≤ H2.length ∧ (∀ j, j ≤ lp → j ≠ A → H2[j]? = H[j]?) := by
  obtain ⟨R, r1, r2, r3⟩ := h.cell
  have hAl := (List.getElem?_eq_some_iff.1 r1).1
  have hl := h.len
  obtain ⟨R', H', h1, h2, h3, h4, h5⟩ := appU (r2.mono (H' := H ++ [.cells [.i .u64 (v : Int)] false]) fun id hid => by rw [List.getElem?_append_left (r2.lt id hid)]) (one_viewU H v) (by simpa using hb)
  have hl' : H.length + 1 ≤ H'.length := by simpa using h3
  have kj : ∀ j, j < H.length → R.idOf ≠ some j → H'[j]? = H[j]? := fun j hj hne => by
    rw [h4 j (by simp; omega) hne, List.getElem?_append_left hj]
  have r3' : ∀ id, R'.idOf = some id → lp < id := fun id hid => by
    rcases h5 with rfl | h5
    · exact r3 id hid
    · have := h5 id hid; simp at this; omega
  have hA' : H'[A]? = some (.cells [R] false) := by rw [kj A hAl (fun he => by have := r3 A he; omega)]; exact r1
  refine ⟨R, R', H', H'.set A (.cells [R'] false), ld_box r1 (by rcases r2 with ⟨rfl, _⟩ | ⟨_, id, ag, c, rfl, _⟩ <;> rfl), h1, st_box hA' (by rcases h2 with ⟨rfl, _⟩ | ⟨_, id, ag, c, rfl, _⟩ <;> rfl), ⟨⟨R', ?_, ?_, r3'⟩, by simp; omega, fun j hj => ?_⟩, fun j hj hne hR => ?_, by simp; omega, fun j hj hne => ?_⟩
  · rw [List.getElem?_set_self (by omega)]
  · exact h2.mono fun id hid => by have := r3' id hid; rw [List.getElem?_set_ne (by omega)]
  · rw [List.getElem?_set_ne (by omega), kj j (by omega) (fun he => by have := r3 j he; omega)]; exact h.old j hj
  · rw [List.getElem?_set_ne (by omega), kj j hj (hR R r1)]
  · rw [List.getElem?_set_ne (by omega), kj j (by omega) (fun he => by have := r3 j he; omega)]

end Go.Proofs.Tryd.Dn

/-
  Knight: the levels around a square, collected until one holds another square.
-/

namespace Go.Proofs.Tryd.Dn
open Go.Dn

def front (r c a n : Nat) : Nat := (lv r c a n).2
def fronts (r c a n : Nat) : List Nat := (List.range n).map (front r c a)
structure Col (r c a b : Nat) (bo : Bool) (lp : Nat) (H : Heap) (n : Nat) : Prop where
  acc : AccU 1 lp [.cells [.i .i64 (b : Int)] false] H (fronts r c a n)
  board : H[3]? = some (.cells [.bp bo (.agg (bM r c))] false)

theorem Col.set {r c a b : Nat} {bo : Bool} {lp : Nat} {H : Heap} {n : Nat} (h : Col r c a b bo lp H n) {s : Nat} (h1 : 1 < s) (h3 : s ≠ 3) (h2 : s ≤ lp) (o : AObj) : Col r c a b bo lp (H.set s o) n :=
  ⟨h.acc.set h1 h2 o, by rw [List.getElem?_set_ne (by omega)]; exact h.board⟩

theorem cnt_lt {α : Type} {p q : α → Bool} : ∀ {l : List α}, (∀ x, x ∈ l → p x = true → q x = true) → (∃ x, x ∈ l ∧ q x = true ∧ p x = false) → l.countP p + 1 ≤ l.countP q
  | [], _, ⟨x, hx, _⟩ => by cases hx
  | y :: l, h, ⟨x, hx, h1, h2⟩ => by
    have hle : l.countP p ≤ l.countP q := List.countP_mono_left fun z hz => h z (List.mem_cons_of_mem _ hz)
    rw [List.countP_cons, List.countP_cons]
    rcases List.mem_cons.1 hx with rfl | hx
    · rw [h1, h2]; simp; exact hle
    · have := cnt_lt (l := l) (fun z hz => h z (List.mem_cons_of_mem _ hz)) ⟨x, hx, h1, h2⟩
      have hy := h y (List.mem_cons_self ..)
      cases hp : p y with
      | true => rw [hy hp]; simp; exact this
      | false => simp; omega

theorem lv_disj {r c a : Nat} (h : Brd r c) (ha : a < r * c) (n i : Nat) (hi : (lv r c a n).2.testBit i = true) : (lv r c a n).1.testBit i = false := by
  cases n with
  | zero => simp [lv]
  | succ n =>
    have hn := h.n36
    have h64 : 2 ^ (r * c) ≤ 18446744073709551616 := by have := Nat.pow_le_pow_right (n := 2) (by decide) (show r * c ≤ 64 by omega); omega
    have h3 := around_lt h (lv_lt h ha n).2
    simp only [lv] at hi ⊢
    rw [andN_bit (by omega)] at hi
    simp only [Bool.and_eq_true, Bool.not_eq_true'] at hi
    exact hi.2

theorem lv_many {r c a : Nat} (h : Brd r c) (ha : a < r * c) : ∀ n, (∀ k, k < n → (lv r c a k).2 ≠ 0) → n ≤ pop 64 (lv r c a n).1
  | 0, _ => Nat.zero_le _
  | n + 1, hk => by
    have ih := lv_many h ha n fun k hkn => hk k (by omega)
    have hn := h.n36
    obtain ⟨i, hi⟩ := Nat.exists_testBit_of_ne_zero (hk n (by omega))
    have hdis := lv_disj h ha n i hi
    have hi64 : i < 64 := by
      apply Classical.byContradiction
      intro hc
      have := Nat.testBit_lt_two_pow (i := i) (Nat.lt_of_lt_of_le (lv_lt h ha n).2 (Nat.pow_le_pow_right (by decide) (by omega)))
      rw [this] at hi
      cases hi
    rw [pop_count] at ih ⊢
    have := cnt_lt (l := List.range 64) (p := fun s => (lv r c a n).1.testBit s) (q := fun s => (lv r c a (n + 1)).1.testBit s) (fun x _ hx => by simp only [lv, Nat.testBit_or]; rw [hx]; rfl) ⟨i, List.mem_range.2 hi64, by simp only [lv, Nat.testBit_or]; rw [hi, Bool.or_true], hdis⟩
    omega

end Go.Proofs.Tryd.Dn

/-
  Knight: the way between two squares: the levels up to the goal.
-/

namespace Go.Proofs.Tryd.Dn
open Go.Dn

end Go.Proofs.Tryd.Dn

