/-
  Operations, part 6: slice expressions.
-/
import Derived.Test.YtegihfgibonhpaaDnOps5
set_option linter.unusedVariables false
set_option linter.unusedSimpArgs false
namespace Go.Dn

variable {P : Program} {B : Nat} {π : PMap} {H : Heap} {w : World} {av ex : Nat → Prop}

theorem run_sliceBound {k : IntKind} {n y : Nat} (h : n ≤ y) (c : BoundsCode) (w' : World) : (Instr.sliceBound (.int k (n : Int)) y c).run P w' = .ok n w' := by
  simp [Instr.sliceBound, asIntOf_int, h]

theorem optO_cases {f : Bool} {x : Option Operand} {os : List Operand} (h : optO f x = some os) : (f = false ∧ x = none ∧ os = []) ∨ (∃ o, f = true ∧ x = some o ∧ os = [o]) := by
  cases f <;> cases x <;> simp [optO] at h <;> simp [h]

/-- the bounds of a slice expression, given by the operands -/
theorem bounds_sound {lo hi mx : Bool} {L Hh M : Option Operand} {os : List Operand} {ρ : Operand → Value} {vs : List TV} {len cap l h : Nat} {m : Option Nat} (hb : boundsO lo hi mx L Hh M = some os)
    (hv : VsRel π w av ex vs (os.map ρ)) (h3 : bounds3 lo hi mx len vs = some (l, h, m)) (hm : h ≤ m.getD cap) (hc : m.getD h ≤ cap) (b : Bool) (w' : World) :
    (Instr.sliceBounds b len cap (L.map ρ) (Hh.map ρ) (M.map ρ)).run P w' = .ok (l, h, m.getD cap) w' ∧ l ≤ h := by
  unfold boundsO at hb
  split at hb <;> try (cases hb; done)
  rename_i a1 b1 c1 ha1 hb1 hc1
  split at hb
  · cases hb
  rename_i hmh
  injection hb with hb
  subst hb
  simp only [bounds3, Option.bind_eq_some_iff] at h3
  obtain ⟨l', hl, h', hh, m', hm', h3⟩ := h3
  split at h3 <;> try (cases h3; done)
  rename_i hle
  simp only [Option.some.injEq, Prod.mk.injEq] at h3
  obtain ⟨rfl, rfl, rfl⟩ := h3
  refine ⟨?_, hle⟩
  rcases optO_cases ha1 with ⟨rfl, rfl, rfl⟩ | ⟨o1, rfl, rfl, rfl⟩ <;>
  rcases optO_cases hb1 with ⟨rfl, rfl, rfl⟩ | ⟨o2, rfl, rfl, rfl⟩ <;>
  rcases optO_cases hc1 with ⟨rfl, rfl, rfl⟩ | ⟨o3, rfl, rfl, rfl⟩ <;> simp only [List.nil_append, List.cons_append, List.map_cons, List.map_nil] at hv <;> (try (simp at hmh; done))
  · cases hv
    simp at hl hh hm'
    subst hl; subst hh; subst hm'
    simp [Instr.sliceBounds]
  · obtain ⟨t, rfl, h1⟩ := hv.inv1
    simp at hl hh hm'
    subst hl; subst hm'
    obtain ⟨k, hk⟩ := bound_sound hh h1
    simp at hc hm
    simp [Instr.sliceBounds, hk, run_sliceBound hm]
  · obtain ⟨t, s, rfl, h1, h2⟩ := hv.inv2
    simp at hl hh hm'
    subst hl
    obtain ⟨n, hn, rfl⟩ := hm'
    obtain ⟨k, hk⟩ := bound_sound hh h1
    obtain ⟨k2, hk2⟩ := bound_sound hn h2
    simp at hc hm
    simp [Instr.sliceBounds, hk, hk2, run_sliceBound hm, run_sliceBound hc]
  · obtain ⟨t, rfl, h1⟩ := hv.inv1
    simp at hl hh hm'
    subst hh; subst hm'
    obtain ⟨k, hk⟩ := bound_sound hl h1
    simp [Instr.sliceBounds, hk, run_sliceBound hle]
  · obtain ⟨t, s, rfl, h1, h2⟩ := hv.inv2
    simp at hl hh hm'
    subst hm'
    obtain ⟨k, hk⟩ := bound_sound hl h1
    obtain ⟨k2, hk2⟩ := bound_sound hh h2
    simp at hc hm
    simp [Instr.sliceBounds, hk, hk2, run_sliceBound hm, run_sliceBound hle]
  · obtain ⟨t, s, r, rfl, h1, h2, h4⟩ := hv.inv3
    simp at hl hh hm'
    obtain ⟨n, hn, rfl⟩ := hm'
    obtain ⟨k, hk⟩ := bound_sound hl h1
    obtain ⟨k2, hk2⟩ := bound_sound hh h2
    obtain ⟨k3, hk3⟩ := bound_sound hn h4
    simp at hc hm
    simp [Instr.sliceBounds, hk, hk2, hk3, run_sliceBound hm, run_sliceBound hle, run_sliceBound hc]

theorem bounds3_hi {lo mx : Bool} {len l h : Nat} {m : Option Nat} {vs : List TV} (h3 : bounds3 lo false mx len vs = some (l, h, m)) : h = len := by
  simp only [bounds3, Option.bind_eq_some_iff] at h3
  obtain ⟨l', hl, h', hh, m', hm', h3⟩ := h3
  split at h3 <;> try (cases h3; done)
  simp only [Option.some.injEq, Prod.mk.injEq] at h3
  obtain ⟨rfl, rfl, rfl⟩ := h3
  simpa using hh.symm

theorem flat_drop {sz : Nat} : ∀ {es : List TV} (i : Nat), (∀ e, e ∈ es → e.cells.length = sz) → (es.drop i).flatMap TV.cells = (es.flatMap TV.cells).drop (i * sz)
  | [], i, _ => by simp
  | a :: es, 0, hz => by simp
  | a :: es, i + 1, hz => by
    have ih := flat_drop (es := es) i (fun e he => hz e (by simp [he]))
    have ha := hz a (by simp)
    rw [List.drop_succ_cons, ih, List.flatMap_cons, show (i + 1) * sz = a.cells.length + i * sz by rw [ha, Nat.succ_mul]; omega, ← List.drop_drop]
    simp

theorem flat_take {sz : Nat} : ∀ {es : List TV} (i : Nat), (∀ e, e ∈ es → e.cells.length = sz) → (es.take i).flatMap TV.cells = (es.flatMap TV.cells).take (i * sz)
  | [], i, _ => by simp
  | a :: es, 0, hz => by simp
  | a :: es, i + 1, hz => by
    have ih := flat_take (es := es) i (fun e he => hz e (by simp [he]))
    have ha := hz a (by simp)
    rw [List.take_succ_cons, List.flatMap_cons, List.flatMap_cons, ih, show (i + 1) * sz = a.cells.length + i * sz by rw [ha, Nat.succ_mul]; omega, List.take_length_add_append]

theorem MemAt.sub {g o a n : Nat} {us : List Value} (hm : MemAt w g o us) : MemAt w g (o + a) ((us.drop a).take n) := by
  intro j u hj
  rw [List.getElem?_take] at hj
  split at hj
  · rw [List.getElem?_drop] at hj
    have := hm _ _ hj
    rwa [show o + (a + j) = o + a + j by omega] at this
  · cases hj

/-- a part of a slice by value -/
theorem bs_sub {bo : Bool} {sz : Nat} {es : List TV} {g off : Nat} {us : List Value} (h : VsRel π w av ex (es.flatMap TV.cells) us) (hz : ∀ e, e ∈ es → e.cells.length = sz) (hm : MemAt w g off us)
    (ha : us ≠ [] → ¬ av g ∧ (bo = false → ¬ ex g)) (l n c : Nat) (hn : ((es.drop l).take n).length ≤ c) : VRel π w av ex (.bs bo sz ((es.drop l).take n)) (.slice (some ⟨g, off + l * sz, none⟩) ((es.drop l).take n).length c) := by
  refine .bs bo sz _ g (off + l * sz) c ((us.drop (l * sz)).take (n * sz)) ?_ (fun e he => hz e (List.mem_of_mem_drop (List.mem_of_mem_take he))) hm.sub ?_ hn
  · rw [flat_take n (fun e he => hz e (List.mem_of_mem_drop he)), flat_drop l hz]
    exact (h.drop _).take _
  · intro hn; exact ha (by rintro rfl; simp at hn)

theorem slc_sound {lo hi mx : Bool} {L Hh M : Option Operand} {os : List Operand} {ρ : Operand → Value} {sz : Nat} {ag : Bool} {x t : TV} {u : Value} {vs : List TV} {ty e : TypeId} (hd : slcRun lo hi mx sz ag x vs = some t)
    (hx : VRel π w av ex x u) (hb : boundsO lo hi mx L Hh M = some os) (hv : VsRel π w av ex vs (os.map ρ)) (hu : P.underlying ty = some (.slice e)) (ht : tyOk P e sz ag = true) (w' : World) :
    ∃ v, (Instr.sliceAt ty u (L.map ρ) (Hh.map ρ) (M.map ρ)).run P w' = .ok v w' ∧ VRel π w av ex t v := by
  have hrun : ∀ (a : Option Addr) (len cap l h m : Nat), (Instr.sliceBounds true len cap (L.map ρ) (Hh.map ρ) (M.map ρ)).run P w' = .ok (l, h, m) w' →
      (Instr.sliceAt ty (.slice a len cap) (L.map ρ) (Hh.map ρ) (M.map ρ)).run P w' = .ok (.slice (if m = l then a else a.map (·.add (l * sz))) (h - l) (m - l)) w' := by
    intro a len cap l h m hr
    simp [Instr.sliceAt, Instr.slice, run_underlying hu, hr, run_szOf P w' (tyOk.sz ht)]
  unfold slcRun at hd
  cases hx <;> simp only [] at hd <;> try (cases hd; done)
  case nilsl =>
    simp only [Option.bind_eq_some_iff] at hd
    obtain ⟨⟨l, h, m⟩, h3, hd⟩ := hd
    simp only at hd
    split at hd <;> try (cases hd; done)
    rename_i hc
    injection hd with hd
    subst hd
    obtain ⟨rfl, hm0⟩ := hc
    have hb0 := bounds_sound (P := P) hb hv h3 (cap := 0) (by omega) (by cases m <;> simp at hm0 ⊢; omega) true w'
    obtain ⟨hr, hl⟩ := hb0
    have hl0 : l = 0 := by omega
    subst hl0
    have hm1 : m.getD 0 = 0 := hm0
    rw [hm1] at hr
    exact ⟨_, hrun none 0 0 0 0 0 hr, by simpa using VRel.nilsl⟩
  case esl a =>
    simp only [Option.bind_eq_some_iff] at hd
    obtain ⟨⟨l, h, m⟩, h3, hd⟩ := hd
    simp only at hd
    split at hd <;> try (cases hd; done)
    rename_i hc
    injection hd with hd
    subst hd
    obtain ⟨rfl, hm0⟩ := hc
    obtain ⟨hr, hl⟩ := bounds_sound (P := P) hb hv h3 (cap := 0) (by omega) (by cases m <;> simp at hm0 ⊢; omega) true w'
    have hl0 : l = 0 := by omega
    subst hl0
    have hm1 : m.getD 0 = 0 := hm0
    rw [hm1] at hr
    exact ⟨_, hrun (some a) 0 0 0 0 0 hr, by simpa using VRel.esl a⟩
  case sl id off sz' ag' len cap g sh c cc el fr hp hbl hlc hcap hs =>
    simp only [Option.bind_eq_some_iff] at hd
    obtain ⟨⟨l, h, m⟩, h3, hd⟩ := hd
    simp only at hd
    split at hd <;> try (cases hd; done)
    rename_i hc
    obtain ⟨rfl, h1, h2⟩ := hc
    have hcc : cap.getD len ≤ c := by cases cap with | none => simpa using hlc | some k => simp [hcap k rfl]
    obtain ⟨hr, hl⟩ := bounds_sound (P := P) hb hv h3 (cap := c) (by cases m with | none => simp at h2 ⊢; omega | some m => simpa using h1) (by omega) true w'
    refine ⟨_, hrun _ len c l h _ hr, ?_⟩
    have hmc : m.getD c ≤ c := by cases m with | none => simp | some m => simp at h2 ⊢; omega
    have hhm : h ≤ m.getD c := by cases m with | none => simp at h2 ⊢; omega | some m => simpa using h1
    split at hd
    · rename_i hml
      injection hd with hd
      subst hd
      subst hml
      have : h = l := by simp at h1; omega
      subst this
      simp only [Option.getD_some, if_true, Nat.sub_self]
      exact .esl _
    · rename_i hml
      injection hd with hd
      subst hd
      by_cases hml2 : m.getD c = l
      · -- no room is left
        have hm : m = none := by
          cases m with
          | none => rfl
          | some m => simp at hml2; exact absurd (by rw [hml2]) hml
        subst hm
        simp at hml2 hhm
        subst hml2
        have : h = c := by omega
        subst this
        simp only [Option.getD_none, if_true, Nat.sub_self]
        refine .sl0 _ _ _ _ _ _ (fun k hk => ?_)
        cases cap with
        | none => simp at hk
        | some k' => simp at hk; have := hcap k' rfl; omega
      · rw [if_neg hml2]
        simp only [Option.map_some, addr_add]
        rw [Nat.add_assoc]
        refine .sl id (off + l * sz') sz' ag (h - l) _ g sh (m.getD c - l) cc el fr hp hbl (by omega) (fun k hk => ?_) ?_
        · cases m with
          | none =>
            cases cap with
            | none => simp at hk
            | some k' => simp at hk; have := hcap k' rfl; simp; omega
          | some m => simp at hk ⊢; omega
        · have : l * sz' + (m.getD c - l) * sz' ≤ c * sz' := by rw [← Nat.add_mul]; exact Nat.mul_le_mul_right _ (by omega)
          omega
  case sl0 id off sz' ag' cap a hcap =>
    simp only [Option.bind_eq_some_iff] at hd
    obtain ⟨⟨l, h, m⟩, h3, hd⟩ := hd
    simp only at hd
    split at hd <;> try (cases hd; done)
    rename_i hc
    obtain ⟨rfl, h1, h2⟩ := hc
    have hcc : cap.getD 0 = 0 := by cases cap with | none => rfl | some k => simp [hcap k rfl]
    rw [hcc] at h2
    have hh0 : h = 0 := by omega
    subst hh0
    obtain ⟨hr, hl⟩ := bounds_sound (P := P) hb hv h3 (cap := 0) (by omega) (by cases m <;> simp at h2 ⊢; omega) true w'
    have hl0 : l = 0 := by omega
    subst hl0
    refine ⟨_, hrun _ 0 0 0 0 _ hr, ?_⟩
    have hm0 : m.getD 0 = 0 := by omega
    rw [hm0]
    simp only [if_true, Nat.sub_self]
    split at hd
    · injection hd with hd; subst hd; exact .esl _
    · injection hd with hd
      subst hd
      refine .sl0 _ _ _ _ _ _ (fun k hk => ?_)
      cases m with
      | some m => simp at hk hm0; omega
      | none => cases cap with
        | none => simp at hk
        | some k' => simp at hk; have := hcap k' rfl; omega
  case bs bo sz' es g off c us hh hz hm ha hl =>
    simp only [Option.bind_eq_some_iff] at hd
    obtain ⟨⟨l, h, m⟩, h3, hd⟩ := hd
    simp only at hd
    split at hd <;> try (cases hd; done)
    rename_i hc
    obtain ⟨rfl, h0, h1, h2⟩ := hc
    have hhm : h ≤ m.getD c := by cases m with | none => simp; omega | some m => simpa using h1
    have hmc : m.getD c ≤ c := by cases m with | none => simp | some m => simp at h2 ⊢; omega
    obtain ⟨hr, hlh⟩ := bounds_sound (P := P) hb hv h3 (cap := c) hhm (by cases m with | none => simp; omega | some m => simp at h2 ⊢; omega) true w'
    refine ⟨_, hrun _ es.length c l h _ hr, ?_⟩
    split at hd
    · rename_i hml
      injection hd with hd
      subst hd
      subst hml
      have : h = l := by simp at h1; omega
      subst this
      simp only [Option.getD_some, if_true, Nat.sub_self]
      exact .esl _
    · rename_i hml
      injection hd with hd
      subst hd
      have hlen : ((es.drop l).take (h - l)).length = h - l := by simp; omega
      by_cases hml2 : m.getD c = l
      · rw [if_pos hml2]
        have hz0 : h - l = 0 := by omega
        rw [hz0]
        simp only [List.take_zero]
        exact .bs0 _ _ _ _
      · rw [if_neg hml2]
        simp only [Option.map_some, addr_add]
        have := bs_sub hh hz hm ha l (h - l) (m.getD c - l) (by rw [hlen]; omega)
        rw [hlen] at this
        exact this
  case bs0 bo sz' a c =>
    simp only [Option.bind_eq_some_iff] at hd
    obtain ⟨⟨l, h, m⟩, h3, hd⟩ := hd
    simp only at hd
    split at hd <;> try (cases hd; done)
    rename_i hc
    obtain ⟨rfl, h0, h1, h2⟩ := hc
    simp at h0 h2 h3
    subst h0
    obtain ⟨hr, hlh⟩ := bounds_sound (P := P) hb hv h3 (cap := c) (by omega) (by cases m <;> simp at h2 ⊢; omega) true w'
    have hl0 : l = 0 := by omega
    subst hl0
    refine ⟨_, hrun _ 0 c 0 0 _ hr, ?_⟩
    have hm' : m = none ∨ m = some 0 := by
      cases m with
      | none => exact .inl rfl
      | some m => simp at h2; exact .inr (by rw [h2])
    rcases hm' with rfl | rfl
    · rw [if_neg (by simp)] at hd
      injection hd with hd
      subst hd
      simp only [Option.getD_none]
      split
      · rename_i hc0
        subst hc0
        simpa using VRel.bs0 bo sz' a 0
      · simpa using VRel.bs0 bo sz' _ c
    · rw [if_pos rfl] at hd
      injection hd with hd
      subst hd
      simpa using VRel.esl a

theorem slcA_sound {lo hi mx : Bool} {L Hh M : Option Operand} {os : List Operand} {ρ : Operand → Value} {n sz : Nat} {ag : Bool} {x t : TV} {u : Value} {vs : List TV} {ty e : TypeId} (hd : slcARun lo hi mx n sz ag x vs H = some t)
    (hH : HRel P B π H w av ex) (hx : VRel π w av ex x u) (hb : boundsO lo hi mx L Hh M = some os) (hv : VsRel π w av ex vs (os.map ρ)) (hu : P.underlying ty = some (.array n e)) (ht : tyOk P e sz ag = true) :
    ∃ v, (Instr.sliceAt ty u (L.map ρ) (Hh.map ρ) (M.map ρ)).run P w = .ok v w ∧ VRel π w av ex t v := by
  have hrun : ∀ (g o l h m : Nat), (Instr.sliceBounds false n n (L.map ρ) (Hh.map ρ) (M.map ρ)).run P w = .ok (l, h, m) w →
      (Instr.sliceAt ty (.pointer (some ⟨g, o, none⟩)) (L.map ρ) (Hh.map ρ) (M.map ρ)).run P w = .ok (.slice (some (if m = l then ⟨g, o, none⟩ else ⟨g, o + l * sz, none⟩)) (h - l) (m - l)) w := by
    intro g o l h m hr
    simp [Instr.sliceAt, Instr.sureAddr, run_underlying hu, hr, run_szOf P w (tyOk.sz ht), addr_add]
  unfold slcARun at hd
  simp only [Option.bind_eq_some_iff] at hd
  obtain ⟨⟨l, h, m⟩, h3, hd⟩ := hd
  simp only at hd
  split at hd <;> try (cases hd; done)
  rename_i hc
  obtain ⟨h1, h2⟩ := hc
  have hhm : h ≤ m.getD n := by cases m with | none => simpa using h2 | some m => simpa using h1
  have hmn : m.getD n ≤ n := by cases m with | none => simp | some m => simpa using h2
  obtain ⟨hr, hlh⟩ := bounds_sound (P := P) hb hv h3 (cap := n) hhm h2 false w
  cases hx <;> (try simp only [] at hd) <;> (try (cases hd; done))
  case ref id off g sh hp =>
    split at hd <;> try (cases hd; done)
    rename_i c ag0 hi
    split at hd <;> try (cases hd; done)
    rename_i hroom
    obtain ⟨_, _, ob, hbk, ho⟩ := hH.obj id g sh _ hp hi (by simp)
    cases ob <;> simp only [ORel] at ho
    rename_i cc el fr
    obtain ⟨rfl, hsz, _⟩ := ho
    refine ⟨_, hrun g (sh + off) l h _ hr, ?_⟩
    split at hd
    · rename_i hml
      injection hd with hd
      subst hd
      rw [if_pos hml, hml]
      have : h = l := by omega
      subst this
      simp only [Nat.sub_self]
      exact .esl _
    · rename_i hml
      injection hd with hd
      subst hd
      rw [if_neg hml, Nat.add_assoc]
      refine .sl id (off + l * sz) sz ag (h - l) _ g sh (m.getD n - l) cc el _ hp hbk (by omega) (fun k hk => by simpa using hk.symm) ?_
      have : l * sz + (m.getD n - l) * sz ≤ n * sz := by rw [← Nat.add_mul]; exact Nat.mul_le_mul_right _ (by omega)
      omega
  case bp bo v g off us hh hm ha =>
    cases v <;> (try simp only [] at hd) <;> (try (cases hd; done))
    rename_i cs
    split at hd <;> try (cases hd; done)
    rename_i hc
    obtain ⟨rfl, rfl, hcl, hone⟩ := hc
    refine ⟨_, hrun g off l h _ hr, ?_⟩
    split at hd
    · rename_i hml
      injection hd with hd
      subst hd
      rw [if_pos hml, hml]
      have : h = l := by omega
      subst this
      simp only [Nat.sub_self]
      exact .esl _
    · rename_i hml
      injection hd with hd
      subst hd
      rw [if_neg hml]
      simp only [TV.cells] at hh
      have hlen : ((cs.drop l).take (h - l)).length = h - l := by simp; omega
      have hz : ∀ e, e ∈ cs → e.cells.length = 1 := fun e he => by
        have := List.all_eq_true.1 hone e he
        cases e <;> first | rfl | simp [TV.one] at this
      have hfl : ∀ l : List TV, l.all TV.one = true → l.flatMap TV.cells = l := by
        intro l hl
        induction l with
        | nil => rfl
        | cons a l ih =>
          simp only [List.all_cons, Bool.and_eq_true] at hl
          have : a.cells = [a] := by cases a <;> first | rfl | simp [TV.one] at hl
          simp [this, ih hl.2]
      have := bs_sub (bo := bo) (es := cs) (by rw [hfl cs hone]; exact hh) hz hm ha l (h - l) (m.getD n - l) (by rw [hlen]; omega)
      rwa [hlen] at this

end Go.Dn
