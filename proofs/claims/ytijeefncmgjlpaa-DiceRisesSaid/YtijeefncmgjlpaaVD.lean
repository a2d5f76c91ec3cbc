/-
  Dice: the numbers of all orders: the plain law.
-/
import Derived.Test.YtijeefncmgjlpaaVC
set_option linter.unusedSimpArgs false
set_option linter.unusedVariables false

set_option maxHeartbeats 2000000
namespace Go.Proofs.Try.Dn
open Go.Dn

/-! ### sums over two and three lists -/
def S2 (a b : List Int) (F : Int → Int → Nat) : Nat := (a.map fun x => (b.map (F x)).sum).sum

theorem S2_comm (F : Int → Int → Nat) (b : List Int) : ∀ a : List Int, S2 a b F = S2 b a fun y x => F x y
  | [] => by
    unfold S2
    exact (sum_zero _ _ fun x _ => rfl).symm
  | z :: a => by
    have ih := S2_comm F b a
    unfold S2 at *
    rw [List.map_cons, List.sum_cons, ih]
    have e : (b.map fun y => ((z :: a).map fun x => F x y).sum).sum = (b.map fun y => F z y + (a.map fun x => F x y).sum).sum := by
      congr 1
    rw [e, sum_add]

theorem S2_congr {a b : List Int} {F G : Int → Int → Nat} (h : ∀ x ∈ a, ∀ y ∈ b, F x y = G x y) : S2 a b F = S2 a b G := by
  unfold S2
  congr 1
  refine List.map_congr_left fun x hx => ?_
  congr 1
  exact List.map_congr_left fun y hy => h x hx y hy

theorem S2_add (a b : List Int) (F G : Int → Int → Nat) : S2 a b (fun x y => F x y + G x y) = S2 a b F + S2 a b G := by
  unfold S2
  rw [← sum_add]
  congr 1
  exact List.map_congr_left fun x _ => sum_add _ _ _

theorem S2_const (a b : List Int) (k : Nat) : S2 a b (fun _ _ => k) = a.length * (b.length * k) := by
  unfold S2
  induction a with
  | nil => simp
  | cons x a ih =>
    rw [List.map_cons, List.sum_cons, ih, List.length_cons, Nat.succ_mul]
    have : (b.map fun _ => k).sum = b.length * k := by
      clear ih
      induction b with
      | nil => simp
      | cons y b ih => rw [List.map_cons, List.sum_cons, ih, List.length_cons, Nat.succ_mul]; omega
    have e : (b.map ((fun _ _ => k) x)).sum = (b.map fun _ => k).sum := rfl
    omega

def S3 (a b c : List Int) (F : Int → Int → Int → Nat) : Nat := (a.map fun x => S2 b c (F x)).sum

theorem S3_congr {a b c : List Int} {F G : Int → Int → Int → Nat} (h : ∀ x ∈ a, ∀ y ∈ b, ∀ z ∈ c, F x y z = G x y z) : S3 a b c F = S3 a b c G := by
  unfold S3
  congr 1
  exact List.map_congr_left fun x hx => S2_congr fun y hy z hz => h x hx y hy z hz

theorem S3_23 (a b c : List Int) (F : Int → Int → Int → Nat) : S3 a b c F = S3 a c b fun x z y => F x y z := by
  unfold S3
  congr 1
  exact List.map_congr_left fun x _ => S2_comm _ _ _
theorem S3_12 (a b c : List Int) (F : Int → Int → Int → Nat) : S3 a b c F = S3 b a c fun y x z => F x y z :=
  S2_comm (fun x y => (c.map (F x y)).sum) b a

theorem S3_add (a b c : List Int) (F G : Int → Int → Int → Nat) : S3 a b c (fun x y z => F x y z + G x y z) = S3 a b c F + S3 a b c G := by
  unfold S3
  rw [← sum_add]
  congr 1
  exact List.map_congr_left fun x _ => S2_add _ _ _ _

theorem S3_const (a b c : List Int) (k : Nat) : S3 a b c (fun _ _ _ => k) = a.length * (b.length * (c.length * k)) := by
  unfold S3
  simp only [S2_const]
  induction a with
  | nil => simp
  | cons x a ih => rw [List.map_cons, List.sum_cons, ih, List.length_cons, Nat.succ_mul]; omega

/-! ### one, two, three dice -/
def Pos (ls : List (List Int)) : Prop := ∀ d ∈ ls, ∀ f ∈ d, 0 ≤ f ∧ f < 60

theorem sum_one {d : List Int} {f : Int → Nat} (h : ∀ x ∈ d, f x = 1) : (d.map f).sum = d.length := by
  induction d with
  | nil => rfl
  | cons x d ih => rw [List.map_cons, List.sum_cons, h x (List.mem_cons_self ..), ih fun y hy => h y (List.mem_cons_of_mem _ hy), List.length_cons]; omega

theorem rs_nil (ls : List (List Int)) (x : Int) : rs ls [] x = 1 := rfl
theorem rs_cons (ls : List (List Int)) (i : Nat) (l : List Nat) (x : Int) : rs ls (i :: l) x = ((ls.getD i []).map fun f => if x < f then rs ls l f else 0).sum := rfl

theorem sum_congr {d : List Int} {f g : Int → Nat} (h : ∀ x ∈ d, f x = g x) : (d.map f).sum = (d.map g).sum := by
  congr 1
  exact List.map_congr_left h

theorem rs1 {ls : List (List Int)} {i : Nat} {a : List Int} (ha : ls.getD i [] = a) (hp : ∀ f ∈ a, 0 ≤ f ∧ f < 60) : rs ls [i] (-1) = a.length := by
  rw [rs_cons, ha]
  exact sum_one fun x hx => by rw [if_pos (by have := hp x hx; omega)]; rfl

theorem rs2 {ls : List (List Int)} {i j : Nat} {a b : List Int} (ha : ls.getD i [] = a) (hb : ls.getD j [] = b) (hp : ∀ f ∈ a, 0 ≤ f ∧ f < 60) : rs ls [i, j] (-1) = S2 a b fun x y => if x < y then 1 else 0 := by
  rw [rs_cons, ha]
  unfold S2
  refine sum_congr fun x hx => ?_
  rw [if_pos (by have := hp x hx; omega), rs_cons, hb]
  rfl

theorem rs3 {ls : List (List Int)} {i j k : Nat} {a b c : List Int} (ha : ls.getD i [] = a) (hb : ls.getD j [] = b) (hc : ls.getD k [] = c) (hp : ∀ f ∈ a, 0 ≤ f ∧ f < 60) : rs ls [i, j, k] (-1) = S3 a b c fun x y z => if x < y ∧ y < z then 1 else 0 := by
  rw [rs_cons, ha]
  unfold S3 S2
  refine sum_congr fun x hx => ?_
  rw [if_pos (by have := hp x hx; omega), rs_cons, hb]
  refine sum_congr fun y hy => ?_
  by_cases h : x < y
  · rw [if_pos h, rs_cons, hc]
    refine sum_congr fun z hz => ?_
    by_cases h2 : y < z
    · simp only [h2, h, if_true, and_self]; rfl
    · simp only [h2, if_false, and_false]
  · rw [if_neg h]
    exact (sum_zero _ _ fun z _ => if_neg fun g => h g.1).symm

theorem cLt_sum (x : Int) : ∀ b : List Int, cLt x b = (b.map fun y => if x < y then 1 else 0).sum
  | [] => rfl
  | y :: b => by
    have := (cnt_cons x y b).2.1
    rw [this, cLt_sum x b, List.map_cons, List.sum_cons]; omega
theorem less_S2 (a b : List Int) : less a b = S2 a b fun x y => if x < y then 1 else 0 := by
  unfold less S2
  congr 1
  exact List.map_congr_left fun x _ => cLt_sum x b

theorem perms1 : perms 1 1 [] = [[0]] := by decide
theorem perms2 : perms 2 2 [] = [[0, 1], [1, 0]] := by decide
theorem perms3 : perms 3 3 [] = [[0, 1, 2], [0, 2, 1], [1, 0, 2], [1, 2, 0], [2, 0, 1], [2, 1, 0]] := by decide +kernel

theorem ordN1 {a : List Int} (hp : ∀ f ∈ a, 0 ≤ f ∧ f < 60) : ordN [a] = [(a.length : Int)] := by
  unfold ordN
  rw [show ([a] : List (List Int)).length = 1 from rfl, perms1, List.map_cons, List.map_nil, rs1 (a := a) rfl hp]

theorem ordN2 {a b : List Int} (hp : Pos [a, b]) : ordN [a, b] = [((less a b : Nat) : Int), ((more a b : Nat) : Int)] := by
  have pa := hp a (by simp)
  have pb := hp b (by simp)
  unfold ordN
  rw [show ([a, b] : List (List Int)).length = 2 from rfl, perms2]
  simp only [List.map_cons, List.map_nil]
  rw [rs2 (a := a) (b := b) rfl rfl pa, rs2 (a := b) (b := a) rfl rfl pb, ← less_S2, ← less_S2, more_less a b]

theorem ordN3 {a b c : List Int} (hp : Pos [a, b, c]) (hap : Apt [a, b, c]) : (ordN [a, b, c]).sum = ((a.length * b.length * c.length : Nat) : Int) := by
  have pa := hp a (by simp)
  have pb := hp b (by simp)
  have pc := hp c (by simp)
  have h10 := fun f => hap 1 0 b a f (by omega) rfl rfl
  have h20 := fun f => hap 2 0 c a f (by omega) rfl rfl
  have h21 := fun f => hap 2 1 c b f (by omega) rfl rfl
  unfold ordN
  rw [show ([a, b, c] : List (List Int)).length = 3 from rfl, perms3]
  simp only [List.map_cons, List.map_nil, List.sum_cons, List.sum_nil]
  rw [rs3 (a := a) (b := b) (c := c) rfl rfl rfl pa, rs3 (a := a) (b := c) (c := b) rfl rfl rfl pa, rs3 (a := b) (b := a) (c := c) rfl rfl rfl pb, rs3 (a := b) (b := c) (c := a) rfl rfl rfl pb, rs3 (a := c) (b := a) (c := b) rfl rfl rfl pc, rs3 (a := c) (b := b) (c := a) rfl rfl rfl pc]
  rw [S3_23 a c b, S3_12 b a c, S3_23 b c a, S3_12 b a c, S3_12 c a b, S3_23 a c b, S3_12 c b a, S3_23 b c a, S3_12 b a c]
  have key : S3 a b c (fun _ _ _ => 1) = S3 a b c (fun x y z => if x < y ∧ y < z then 1 else 0) + S3 a b c (fun x y z => if x < z ∧ z < y then 1 else 0) + S3 a b c (fun x y z => if y < x ∧ x < z then 1 else 0) + S3 a b c (fun x y z => if y < z ∧ z < x then 1 else 0) + S3 a b c (fun x y z => if z < x ∧ x < y then 1 else 0) + S3 a b c (fun x y z => if z < y ∧ y < x then 1 else 0) := by
    rw [← S3_add, ← S3_add, ← S3_add, ← S3_add, ← S3_add]
    refine S3_congr fun x hx y hy z hz => ?_
    have n1 : x ≠ y := fun e => h10 y hy (by rw [← e]; exact hx)
    have n2 : x ≠ z := fun e => h20 z hz (by rw [← e]; exact hx)
    have n3 : y ≠ z := fun e => h21 z hz (by rw [← e]; exact hy)
    rcases Int.lt_or_gt_of_ne n1 with c1 | c1 <;> rcases Int.lt_or_gt_of_ne n2 with c2 | c2 <;> rcases Int.lt_or_gt_of_ne n3 with c3 | c3 <;> (repeat' split) <;> omega
  rw [S3_const, Nat.mul_one] at key
  rw [← Nat.mul_assoc] at key
  omega

/-! ### a die more, above all others -/
theorem rs_up {ls : List (List Int)} {i : Nat} {l : List Nat} (hi : ∀ f ∈ ls.getD i [], f < 60) : rs ls (i :: l) 60 = 0 := by
  rw [rs_cons]
  exact sum_zero _ _ fun f hf => if_neg (by have := hi f hf; omega)

theorem getD_app {ls : List (List Int)} {i : Nat} (h : i < ls.length) (d : List Int) : (ls ++ [d]).getD i [] = ls.getD i [] := by
  rw [List.getD_eq_getElem?_getD, List.getD_eq_getElem?_getD, List.getElem?_append_left h]
theorem getD_lst (ls : List (List Int)) (d : List Int) : (ls ++ [d]).getD ls.length [] = d := by
  rw [List.getD_eq_getElem?_getD, List.getElem?_append_right (Nat.le_refl _), Nat.sub_self]; rfl

theorem pos_getD {ls : List (List Int)} (hp : Pos ls) (i : Nat) : ∀ f ∈ ls.getD i [], 0 ≤ f ∧ f < 60 := by
  rw [List.getD_eq_getElem?_getD]
  cases h : ls[i]? with
  | none => intro f hf; simp at hf
  | some d => exact hp d (List.mem_of_getElem? h)

theorem rs_more {ls : List (List Int)} (hp : Pos ls) : ∀ (l : List Nat) (x : Int), (∀ i ∈ l, i ≤ ls.length) → l.count ls.length = 1 → x < 60 → rs (ls ++ [[60]]) l x = if l.getLast? = some ls.length then rs ls l.dropLast x else 0
  | [], x, _, hc, _ => by simp at hc
  | i :: l, x, hi, hc, hx => by
    by_cases hin : i = ls.length
    · subst hin
      rw [rs_cons, getD_lst]
      simp only [List.map_cons, List.map_nil, List.sum_cons, List.sum_nil, Nat.add_zero]
      rw [if_pos hx]
      have hc0 : l.count ls.length = 0 := by simpa using hc
      cases l with
      | nil => simp [rs_nil]
      | cons j l =>
        have hj : j < ls.length := by
          have h1 := hi j (by simp)
          have h2 : j ≠ ls.length := fun e => by rw [e] at hc0; simp at hc0
          omega
        rw [rs_up (fun f hf => by rw [getD_app hj] at hf; exact (pos_getD hp j f hf).2)]
        have hl : ((ls.length :: j :: l).getLast? = some ls.length) = False := by
          simp only [eq_iff_iff, iff_false]
          intro h
          have h2 : (j :: l).getLast? = some ls.length := by simpa using h
          have h3 := List.mem_of_getLast? h2
          have := List.count_pos_iff.2 h3
          omega
        simp only [hl, if_false]
    · have hil : i < ls.length := by have := hi i (by simp); omega
      have hc' : l.count ls.length = 1 := by
        rw [List.count_cons] at hc
        simpa [hin] using hc
      have hne : l ≠ [] := by intro e; rw [e] at hc'; simp at hc'
      have hl : ((i :: l).getLast? = some ls.length) = (l.getLast? = some ls.length) := by
        cases l with
        | nil => exact absurd rfl hne
        | cons j l => simp
      have hd : (i :: l).dropLast = i :: l.dropLast := by
        cases l with
        | nil => exact absurd rfl hne
        | cons j l => rfl
      rw [rs_cons, getD_app hil]
      have ih := fun f hf => rs_more hp l f (fun j hj => hi j (List.mem_cons_of_mem _ hj)) hc' (pos_getD hp i f hf).2
      have e : ((ls.getD i []).map fun f => if x < f then rs (ls ++ [[60]]) l f else 0).sum = ((ls.getD i []).map fun f => if x < f then (if l.getLast? = some ls.length then rs ls l.dropLast f else 0) else 0).sum := sum_congr fun f hf => by
        split
        · exact ih f hf
        · rfl
      rw [e]
      simp only [hl]
      by_cases hlast : l.getLast? = some ls.length
      · simp only [hlast, if_true]
        rw [hd, rs_cons]
      · simp only [hlast, if_false]
        exact sum_zero _ _ fun f _ => by split <;> rfl

theorem map_filter_sum {α β : Type} (p : α → Bool) (g : α → β) (v : β → Nat) : ∀ l : List α, (l.map fun x => if p x = true then v (g x) else 0).sum = (((l.filter p).map g).map v).sum ∧ (l.map fun x => if p x = true then v (g x) else 0).countP (fun n => decide (0 < n)) = (((l.filter p).map g).map v).countP (fun n => decide (0 < n))
  | [] => ⟨rfl, rfl⟩
  | x :: l => by
    obtain ⟨h1, h2⟩ := map_filter_sum p g v l
    by_cases hp : p x = true
    · rw [List.filter_cons_of_pos hp]
      simp only [List.map_cons, List.sum_cons, List.countP_cons, hp, if_true, h1, h2]
      exact ⟨trivial, trivial⟩
    · rw [List.filter_cons_of_neg hp]
      simp only [List.map_cons, List.sum_cons, List.countP_cons, hp, if_false]
      refine ⟨by rw [h1]; simp, by rw [h2]; simp⟩

theorem perms_more {n : Nat} (h : n ≤ 3) : ((perms (n + 1) (n + 1) []).all fun l => (l.all fun i => decide (i ≤ n)) && (l.count n == 1)) = true ∧ ((perms (n + 1) (n + 1) []).filter fun l => l.getLast? == some n).map List.dropLast = perms n n [] := by
  match n, h with
  | 0, _ => exact ⟨by decide, by decide⟩
  | 1, _ => exact ⟨by decide, by decide⟩
  | 2, _ => exact ⟨by decide +kernel, by decide +kernel⟩
  | 3, _ => exact ⟨by decide +kernel, by decide +kernel⟩

def ordM (ls : List (List Int)) : List Nat := (perms ls.length ls.length []).map fun l => rs ls l (-1)

theorem ordM_N (ls : List (List Int)) : ordN ls = (ordM ls).map fun (n : Nat) => (n : Int) := by unfold ordN ordM; rw [List.map_map]; rfl

theorem more_law {ls : List (List Int)} (hp : Pos ls) (h3 : ls.length ≤ 3) : (ordM (ls ++ [[60]])).sum = (ordM ls).sum ∧ (ordM (ls ++ [[60]])).countP (fun n => decide (0 < n)) = (ordM ls).countP fun n => decide (0 < n) := by
  obtain ⟨h1, h2⟩ := perms_more h3
  have e : ordM (ls ++ [[60]]) = (perms (ls.length + 1) (ls.length + 1) []).map fun l => if (l.getLast? == some ls.length) = true then rs ls l.dropLast (-1) else 0 := by
    unfold ordM
    have e0 : (ls ++ [([60] : List Int)]).length = ls.length + 1 := by simp
    rw [e0]
    refine List.map_congr_left fun l hl => ?_
    have hh := List.all_eq_true.1 h1 l hl
    simp only [Bool.and_eq_true, List.all_eq_true, decide_eq_true_eq, beq_iff_eq] at hh
    rw [rs_more hp l (-1) hh.1 hh.2 (by omega)]
    simp only [beq_iff_eq]
  obtain ⟨m1, m2⟩ := map_filter_sum (fun l : List Nat => l.getLast? == some ls.length) List.dropLast (fun l => rs ls l (-1)) (perms (ls.length + 1) (ls.length + 1) [])
  rw [h2] at m1 m2
  rw [e]
  exact ⟨m1, m2⟩

theorem sum_law {ls : List (List Int)} (hp : Pos ls) (hap : Apt ls) (h1 : 1 ≤ ls.length) (h3 : ls.length ≤ 3) : (ordN ls).sum = ((lenP ls : Nat) : Int) := by
  match ls, h1, h3, hp, hap with
  | [a], _, _, hp, _ =>
    rw [ordN1 fun f hf => hp a (by simp) f hf]
    simp [lenP]
  | [a, b], _, _, hp, hap =>
    rw [ordN2 hp]
    have hz : same a b = 0 := same_zero.2 fun x hx hb => hap 1 0 b a x (by omega) rfl rfl hb hx
    have hc := cmp_all b a
    rw [hz] at hc
    have e : lenP [a, b] = more a b + less a b := by
      have : lenP [a, b] = a.length * b.length := by simp [lenP]
      omega
    have e2 : [((less a b : Nat) : Int), ((more a b : Nat) : Int)].sum = ((lenP [a, b] : Nat) : Int) := by
      simp only [List.sum_cons, List.sum_nil]
      omega
    exact e2
  | [a, b, c], _, _, hp, hap =>
    rw [ordN3 hp hap]
    have e : lenP [a, b, c] = a.length * b.length * c.length := by simp [lenP]
    rw [e]

end Go.Proofs.Try.Dn

