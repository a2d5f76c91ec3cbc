/-
  Operations, part 9: append.
-/
import Derived.Test.YtegihfgibonhpaaDnOps8
set_option linter.unusedVariables false
set_option linter.unusedSimpArgs false
namespace Go.Dn

variable {P : Program} {B : Nat} {π : PMap} {H : Heap} {w : World} {av ex : Nat → Prop}

theorem run_cells {g o k : Nat} {us : List Value} (hm : MemAt w g o us) (hk : us.length = k) (w' : World) (h : ∀ a, w'.cell? a = w.cell? a) : (loadCells ⟨g, o, none⟩ k).run P w' = .ok us.toArray w' := by
  have := run_loadCells_list (P := P) w' ⟨g, o, none⟩ us (fun j v hv => by rw [addr_add, h]; exact hm j v hv)
  rwa [hk] at this

theorem obj_mem (hH : HRel P B π H w av ex) {id g sh : Nat} {c : List TV} {ag : Bool} (hp : π id = some (g, sh)) (hi : H[id]? = some (.cells c ag)) :
    ∃ cc el us, w.heap[g]? = some (.cells cc el (0, 0)) ∧ sh + c.length ≤ cc.size ∧ c.all TV.one = true ∧ VsRel π w av ex c us ∧ MemAt w g sh us ∧ B ≤ g ∧ av g := by
  obtain ⟨h1, h2, ob, hb, ho⟩ := hH.obj id g sh _ hp hi (by simp)
  cases ob <;> simp only [ORel] at ho
  rename_i cc el fr
  obtain ⟨rfl, h3, h4, us, h5, h6⟩ := ho
  exact ⟨cc, el, us, hb, h3, h4, h5, fun j u hu => by simp [World.cell?, hb, h6 j u hu], h1, h2⟩

/-- what is appended -/
theorem src_sound (hH : HRel P B π H w av ex) {sz : Nat} {x : TV} {u : Value} {n : Nat} {xs : List TV} (hx : VRel π w av ex x u) (hn : lenOf x H = some n) (hf : flatOf sz x H = some xs) (hl : xs.length = n * sz) :
    ∃ A c news, u = .slice A n c ∧ VsRel π w av ex xs news ∧ ∀ w' : World, (∀ a, w'.cell? a = w.cell? a) → (Builtin.firstCells sz n u).run P w' = .ok news.toArray w' := by
  cases hx
  case nilsl =>
    simp only [flatOf, lenOf, Option.some.injEq] at hf hn
    subst hf; subst hn; exact ⟨none, 0, [], rfl, .nil, fun w' _ => by simp [Builtin.firstCells]⟩
  case esl a =>
    simp only [flatOf, lenOf, Option.some.injEq] at hf hn
    subst hf; subst hn; exact ⟨some a, 0, [], rfl, .nil, fun w' _ => by simp [Builtin.firstCells, loadCells, loadCellsFrom]⟩
  case sl id off sz' ag len cap g sh cap' cc el fr hp hb hlc hcap hs =>
    simp only [flatOf, lenOf, Option.some.injEq] at hf hn
    subst hn
    split at hf <;> try (cases hf; done)
    rename_i c ag0 hi
    split at hf <;> try (cases hf; done)
    rename_i hc
    obtain ⟨rfl, hc⟩ := hc
    injection hf with hf
    subst hf
    obtain ⟨_, _, us, _, _, _, hus, hm, _, _⟩ := obj_mem hH hp hi
    have hul := hus.length
    refine ⟨_, _, (us.drop off).take (len * sz'), rfl, (hus.drop _).take _, fun w' hw => ?_⟩
    have := run_cells (P := P) (hm.sub (a := off) (n := len * sz')) (k := len * sz') (by simp; omega) w' hw
    simpa [Builtin.firstCells] using this
  case sl0 id off sz' ag cap a hcap =>
    simp only [flatOf, lenOf, Option.some.injEq] at hf hn
    subst hn
    split at hf <;> try (cases hf; done)
    split at hf <;> try (cases hf; done)
    injection hf with hf
    subst hf
    refine ⟨_, _, [], rfl, ?_, fun w' _ => by simp [Builtin.firstCells, loadCells, loadCellsFrom]⟩
    simp
    exact .nil
  case bs bo sz' es g off c us hh hz hm ha hlc =>
    simp only [flatOf, lenOf, Option.some.injEq] at hf hn
    subst hn
    split at hf <;> try (cases hf; done)
    rename_i hs
    subst hs
    injection hf with hf
    subst hf
    have hul := hh.length
    refine ⟨_, _, us, rfl, hh, fun w' hw => ?_⟩
    have := run_cells (P := P) hm (k := es.length * sz') (by omega) w' hw
    simpa [Builtin.firstCells] using this
  case bs0 bo sz' a c =>
    simp only [flatOf, lenOf, Option.some.injEq] at hf hn
    subst hn
    split at hf <;> try (cases hf; done)
    injection hf with hf
    subst hf
    exact ⟨_, _, [], rfl, .nil, fun w' _ => by simp [Builtin.firstCells, loadCells, loadCellsFrom]⟩
  all_goals (simp only [flatOf] at hf; cases hf)

section run
variable {ats : Array TypeId} {ty t t2 e e2 : TypeId} {i : TypeInfo}

theorem run_app_in (h0 : ats[0]? = some t) (h1 : ats[1]? = some t2) (ht : P.underlying t = some (.slice e)) (ht2 : P.underlying t2 = some (.slice e2)) (hi : P.info? e = some i) {a : Addr} {sLen sCap n xc : Nat} {xb : Option Addr} {news : List Value} {w1 : World}
    (hfit : sLen + n ≤ sCap) (hf : (Builtin.firstCells i.size n (.slice xb n xc)).run P w = .ok news.toArray w) (hst : (storeCells (a.add (sLen * i.size)) news).run P w = .ok () w1) :
    (Builtin.append_ ats ty #[.slice (some a) sLen sCap, .slice xb n xc]).run P w = .ok (.slice (some a) (sLen + n) sCap) w1 := by
  simp [Builtin.append_, h0, h1, run_underlying ht, run_underlying ht2, sizeOf, typeInfo, hi, Builtin.lenOf, hfit, hf, hst]

theorem run_app_nil (h0 : ats[0]? = some t) (h1 : ats[1]? = some t2) (ht : P.underlying t = some (.slice e)) (ht2 : P.underlying t2 = some (.slice e2)) (hi : P.info? e = some i) {xc : Nat} {xb : Option Addr} {news : Array Value}
    (hf : (Builtin.firstCells i.size 0 (.slice xb 0 xc)).run P w = .ok news w) :
    (Builtin.append_ ats ty #[.slice none 0 0, .slice xb 0 xc]).run P w = .ok (.slice none 0 0) w := by
  simp [Builtin.append_, h0, h1, run_underlying ht, run_underlying ht2, sizeOf, typeInfo, hi, Builtin.lenOf, hf]

theorem run_app_grow (h0 : ats[0]? = some t) (h1 : ats[1]? = some t2) (ht : P.underlying t = some (.slice e)) (ht2 : P.underlying t2 = some (.slice e2)) (hi : P.info? e = some i) {z : Value} (hz : i.zero = some z)
    {base xb : Option Addr} {sLen sCap n xc : Nat} {olds news : List Value} (hg : sCap < sLen + n) (h63 : sLen + n ≤ 140737488355328) (hfit : (sLen + n) * i.bytes ≤ 140737488355328)
    (hfo : (Builtin.firstCells i.size sLen (.slice base sLen sCap)).run P w.drew = .ok olds.toArray w.drew) (hf : (Builtin.firstCells i.size n (.slice xb n xc)).run P w.drew = .ok news.toArray w.drew) :
    (Builtin.append_ ats ty #[.slice base sLen sCap, .slice xb n xc]).run P w =
      .ok (.slice (some ⟨w.heap.size, 0, none⟩) (sLen + n) (grownCap w (sLen + n) sCap e))
        (w.drew.alloc (.cells (olds.toArray ++ news.toArray ++ Builtin.zeroCells z.cells (grownCap w (sLen + n) sCap e - (sLen + n))) e)) := by
  have hn : ¬ (sLen + n ≤ sCap) := by omega
  have h48 := growslice_fits hg hfit
  have h48' : ¬ (281474976710656 < Builtin.nextslicecap (sLen + n) sCap * i.bytes) := by omega
  have h63' : ¬ (9223372036854775807 < ((sLen : Int) + (n : Int))) := by omega
  simp [Builtin.append_, h0, h1, run_underlying ht, run_underlying ht2, sizeOf, typeInfo, zeroValue, hi, hz, Builtin.lenOf, hn, h63', h48', Question.forced, hf, hfo, newRow, grownCap]
  congr 2
  apply Array.ext'
  simp
end run

theorem Ev.drew (wr : Nat → Prop) (π : PMap) (w : World) (av : Nat → Prop) : Ev wr π w av π w.drew av := ⟨fun _ _ h => h, fun _ _ _ => rfl, fun _ cc _ _ h => ⟨cc, h, rfl⟩, fun _ r h => ⟨r, h⟩, fun _ _ h => h, Nat.le_refl _, rfl, rfl, rfl⟩

theorem HRel.drew (hH : HRel P B π H w av ex) : HRel P B π H w.drew av ex :=
  hH.mono (Ev.drew none' π w av) (fun _ _ _ x => x rfl) (fun _ x => x) hH.avb

/-- what has grown lies in new memory -/
theorem grown_sound (W : Bool) (hH : HRel P B π H w av ex) {H0 : Heap} (hlen : H0.length = H.length) (hH0 : HRel P B π H0 w av ex) (hf : π H.length = none) {olds news : List Value} {cs xs : List TV} {z : Value} {e : TypeId} {sz l n cap : Nat} (ag : Bool)
    (ho : VsRel π w av ex cs olds) (hn : VsRel π w av ex xs news) (hco : cs.all TV.one = true) (hxo : xs.all TV.one = true) (hcl : cs.length = l * sz) (hxl : xs.length = n * sz) (hzs : z.cells.size = sz) (hcap : l + n ≤ cap) :
    ∃ π' av', VRel π' (w.drew.alloc (.cells (olds.toArray ++ news.toArray ++ Builtin.zeroCells z.cells (cap - (l + n))) e)) av' ex (.sl H.length 0 sz ag (l + n) none) (.slice (some ⟨w.heap.size, 0, none⟩) (l + n) cap) ∧
      Res P B (wrK B av W) π H w av ex (H0 ++ [.cells (cs ++ xs) false]) (w.drew.alloc (.cells (olds.toArray ++ news.toArray ++ Builtin.zeroCells z.cells (cap - (l + n))) e)) π' av' := by
  have hol := ho.length
  have hnl := hn.length
  have hsz : (olds.toArray ++ news.toArray ++ Builtin.zeroCells z.cells (cap - (l + n))).size = cap * sz := by
    simp only [Array.size_append, List.size_toArray, size_zeroCells, hzs, ← hol, ← hnl, hcl, hxl, ← Nat.add_mul]
    congr 1
    omega
  have r := new_cells (P := P) (π := π) (H := H0) (w := w.drew) (us := olds ++ news) (cc := olds.toArray ++ news.toArray ++ Builtin.zeroCells z.cells (cap - (l + n))) W hH0.drew (by rw [hlen]; exact hf) e false
    ((ho.append hn).mono (Ev.drew none' π w av) fun _ _ x => x.elim) (by rw [List.all_append, hco, hxo]; rfl) (by
      intro j u hj
      have : (olds.toArray ++ news.toArray ++ Builtin.zeroCells z.cells (cap - (l + n))).toList[j]? = some u := by
        simp only [Array.toList_append, List.append_assoc]
        rw [← List.append_assoc, List.getElem?_append, if_pos (List.getElem?_eq_some_iff.1 hj).1]
        exact hj
      rwa [Array.getElem?_toList] at this) (by rw [hsz, List.length_append, hcl, hxl, ← Nat.add_mul]; exact Nat.mul_le_mul_right _ hcap)
  refine ⟨π.add H0.length w.drew.heap.size, avAdd av w.drew.heap.size, ?_, ?_⟩
  · have := VRel.sl (π := (π.add H0.length w.drew.heap.size)) (w := w.drew.alloc (.cells (olds.toArray ++ news.toArray ++ Builtin.zeroCells z.cells (cap - (l + n))) e)) (av := avAdd av w.drew.heap.size) (ex := ex) H0.length 0 sz ag (l + n) none w.heap.size 0 cap _ e (0, 0) (PMap.add_self _ _ _) (heap_push_eq w.drew _) hcap (fun k hk => by simp at hk) (by rw [hsz]; omega)
    rw [← hlen]
    exact this
  · refine ⟨(Ev.drew _ π w av).trans r.ev fun _ _ x => x, r.hr, fun id hid => ?_, r.ext, by simp [hlen], r.frs⟩
    have := r.dom id hid
    rw [hlen] at this
    exact this

theorem app_sound (hH : HRel P B π H w av ex) {sz bytes : Nat} {ag : Bool} {s x t : TV} {us ux : Value} {H' : Heap} (hfr : H.length < H'.length → π H.length = none) {ats : Array TypeId} {ty tt t2 e e2 : TypeId} {i : TypeInfo} {z : Value} (hd : appRun sz ag bytes s x H = some (t, H'))
    (hs : VRel π w av ex s us) (hx : VRel π w av ex x ux) (h0 : ats[0]? = some tt) (h1 : ats[1]? = some t2) (ht : P.underlying tt = some (.slice e)) (ht2 : P.underlying t2 = some (.slice e2)) (hi : P.info? e = some i) (hz : i.zero = some z)
    (hsz : i.size = sz) (hby : i.bytes = bytes) (hzs : z.cells.size = sz) (hsz0 : sz ≠ 0) (hby0 : bytes ≠ 0) :
    ∃ v w' π' av', (Builtin.append_ ats ty #[us, ux]).run P w = .ok v w' ∧ VRel π' w' av' ex t v ∧ Res P B (wrK B av true) π H w av ex H' w' π' av' := by
  unfold appRun at hd
  simp only [Option.bind_eq_some_iff] at hd
  obtain ⟨n, hn, xs, hxs, l, hl, hd⟩ := hd
  split at hd <;> try (cases hd; done)
  rename_i hc
  obtain ⟨hbytes, hone, hxl⟩ := hc
  obtain ⟨xb, xc, news, rfl, hnr, hnf⟩ := src_sound hH hx hn hxs hxl
  have hpos : 0 < bytes := by omega
  have h63 : l + n ≤ 140737488355328 := Nat.le_trans (Nat.le_mul_of_pos_right _ hpos) hbytes
  have hfd := hnf w.drew (fun a => rfl)
  have hfw := hnf w (fun a => rfl)
  rw [← hsz] at hfd hfw
  subst hby
  cases hs
  case nilsl =>
    simp only [lenOf, Option.some.injEq] at hl
    subst hl
    simp only at hd
    split at hd
    · rename_i h00
      subst h00
      injection hd with hd
      injection hd with hd1 hd2
      subst hd1; subst hd2
      exact ⟨_, w, π, av, run_app_nil h0 h1 ht ht2 hi hfw, .nilsl, Res.same _ hH⟩
    · rename_i h00
      injection hd with hd
      injection hd with hd1 hd2
      subst hd1; subst hd2
      have hf := hfr (by simp)
      have hr := run_app_grow (ty := ty) h0 h1 ht ht2 hi hz (base := none) (sLen := 0) (sCap := 0) (n := n) (by omega) (by omega) (by simpa using hbytes) (olds := []) (by simp [Builtin.firstCells]) hfd
      obtain ⟨π', av', g1, g2⟩ := grown_sound (H0 := H) (l := 0) true hH rfl hH hf (e := e) (cap := grownCap w (0 + n) 0 e) ag .nil hnr rfl hone (by simp) hxl hzs (by have := grownCap_ge w (0 + n) 0 e; omega)
      refine ⟨_, _, π', av', hr, ?_, ?_⟩
      · simpa using g1
      · simpa using g2
  case esl a =>
    simp only [lenOf, Option.some.injEq] at hl
    subst hl
    simp only at hd
    split at hd
    · rename_i h00
      subst h00
      injection hd with hd
      injection hd with hd1 hd2
      subst hd1; subst hd2
      have hn0 : news = [] := by have := hnr.length; rw [hxl] at this; simp at this; exact List.eq_nil_of_length_eq_zero this.symm
      subst hn0
      exact ⟨_, w, π, av, run_app_in h0 h1 ht ht2 hi (by omega) hfw (by simp [storeCells]), .esl a, Res.same _ hH⟩
    · rename_i h00
      injection hd with hd
      injection hd with hd1 hd2
      subst hd1; subst hd2
      have hf := hfr (by simp)
      have hr := run_app_grow (ty := ty) h0 h1 ht ht2 hi hz (base := some a) (sLen := 0) (sCap := 0) (n := n) (by omega) (by omega) (by simpa using hbytes) (olds := []) (by simp [Builtin.firstCells, loadCells, loadCellsFrom]) hfd
      obtain ⟨π', av', g1, g2⟩ := grown_sound (H0 := H) (l := 0) true hH rfl hH hf (e := e) (cap := grownCap w (0 + n) 0 e) ag .nil hnr rfl hone (by simp) hxl hzs (by have := grownCap_ge w (0 + n) 0 e; omega)
      refine ⟨_, _, π', av', hr, ?_, ?_⟩
      · simpa using g1
      · simpa using g2
  case sl id off sz' ag' len cap g sh cap' cc el fr hp hb hlc hcap hss =>
    simp only [lenOf, Option.some.injEq] at hl
    subst hl
    simp only at hd
    split at hd
    · rename_i h00
      subst h00
      injection hd with hd
      injection hd with hd1 hd2
      subst hd1; subst hd2
      have hn0 : news = [] := by have := hnr.length; rw [hxl] at this; simp at this; exact List.eq_nil_of_length_eq_zero this.symm
      subst hn0
      exact ⟨_, w, π, av, run_app_in h0 h1 ht ht2 hi (by omega) hfw (by simp [storeCells]), .sl id off sz' ag' len cap g sh cap' cc el fr hp hb hlc hcap hss, Res.same _ hH⟩
    · rename_i h00
      split at hd <;> try (cases hd; done)
      rename_i hsz'
      subst hsz'
      split at hd <;> try (cases hd; done)
      rename_i c ag0 hic
      split at hd <;> try (cases hd; done)
      rename_i hoff
      obtain ⟨cc', el', us, hbk, hroom, hcone, hus, hm, hBg, havg⟩ := obj_mem hH hp hic
      rw [hb] at hbk
      simp only [Option.some.injEq, Obj.cells.injEq] at hbk
      obtain ⟨rfl, rfl, rfl⟩ := hbk
      have hul := hus.length
      have hw : ∀ x, only g x → wrK B av true x := fun x hx => by rw [show x = g from hx]; exact ⟨rfl, havg, hBg⟩
      have hsegr := (hus.drop off).take (len * sz')
      have hsego : ((c.drop off).take (len * sz')).all TV.one = true := by
        rw [List.all_eq_true] at hcone ⊢
        exact fun x hx => hcone x (List.mem_of_mem_drop (List.mem_of_mem_take hx))
      have hsegl : ((c.drop off).take (len * sz')).length = len * sz' := by simp; omega
      have hsegf : ∀ w' : World, (∀ a, w'.cell? a = w.cell? a) → (Builtin.firstCells i.size len (.slice (some ⟨g, sh + off, none⟩) len cap')).run P w' = .ok ((us.drop off).take (len * sz')).toArray w' := fun w' hw' => by
        rw [hsz]
        have := run_cells (P := P) (hm.sub (a := off) (n := len * sz')) (k := len * sz') (by simp; omega) w' hw'
        simpa [Builtin.firstCells] using this
      have inplace : len + n ≤ cap' → ∃ w1, (Builtin.append_ ats ty #[.slice (some ⟨g, sh + off, none⟩) len cap', .slice xb n xc]).run P w = .ok (.slice (some ⟨g, sh + off, none⟩) (len + n) cap') w1 ∧
          w1 = w.setRow g (cc.toList.take (sh + off + len * sz') ++ news ++ cc.toList.drop (sh + off + len * sz' + news.length)).toArray ∧ sh + off + (len + n) * sz' ≤ cc.size := by
        intro hfit
        have hle : (len + n) * sz' ≤ cap' * sz' := Nat.mul_le_mul_right _ hfit
        have hnl := hnr.length
        have hst := run_storeCells_at P g (sh + off + len * sz') el news 0 cc w hb (by rw [Nat.add_mul] at hle; omega) (all_one hnr hone)
        simp only [Nat.add_zero] at hst
        exact ⟨_, run_app_in h0 h1 ht ht2 hi hfit hfw (by rw [addr_add, hsz]; exact hst), rfl, by omega⟩
      have hgrow : cap' < len + n → ∃ v w1, (Builtin.append_ ats ty #[.slice (some ⟨g, sh + off, none⟩) len cap', .slice xb n xc]).run P w = .ok v w1 ∧ v = .slice (some ⟨w.heap.size, 0, none⟩) (len + n) (grownCap w (len + n) cap' e) ∧
          w1 = w.drew.alloc (.cells (((us.drop off).take (len * sz')).toArray ++ news.toArray ++ Builtin.zeroCells z.cells (grownCap w (len + n) cap' e - (len + n))) e) := by
        intro hfit
        exact ⟨_, _, run_app_grow (ty := ty) h0 h1 ht ht2 hi hz hfit h63 hbytes (hsegf w.drew fun _ => rfl) hfd, rfl, rfl⟩
      cases cap with
      | some k =>
        have hk := hcap k rfl
        subst hk
        simp only at hd
        split at hd
        · rename_i hfit
          split at hd <;> try (cases hd; done)
          rename_i hin
          injection hd with hd
          injection hd with hd1 hd2
          subst hd1; subst hd2
          have hnl := hnr.length
          obtain ⟨w1, hst, he, hh⟩ := write_sound hH (off := off + len * sz') hp hic hnr hone (by rw [hxl]; rw [Nat.add_mul] at hin; omega)
          rw [← Nat.add_assoc] at hst
          have hr := run_app_in (ty := ty) (w := w) h0 h1 ht ht2 hi (a := ⟨g, sh + off, none⟩) hfit hfw (by rw [addr_add, hsz]; exact hst)
          obtain ⟨cc', hcc', hccs⟩ := he.siz g cc el _ hb
          refine ⟨_, w1, π, av, hr, ?_, ⟨he.wider hw, hh, fun _ x => absurd rfl x, fun _ x => x, by simp, fun _ _ _ x => absurd rfl x⟩⟩
          exact .sl id off sz' ag (len + n) (some k) g sh k cc' el _ hp hcc' hfit (fun k' hk' => by simpa using hk'.symm) (by omega)
        · rename_i hfit
          injection hd with hd
          injection hd with hd1 hd2
          subst hd1; subst hd2
          have hf := hfr (by simp)
          obtain ⟨v, w1, hr, rfl, rfl⟩ := hgrow (by omega)
          obtain ⟨π', av', g1, g2⟩ := grown_sound (H0 := H) true hH rfl hH hf (e := e) (cap := grownCap w (len + n) k e) ag hsegr hnr hsego hone hsegl hxl hzs (grownCap_ge w (len + n) k e)
          exact ⟨_, _, π', av', hr, g1, g2⟩
      | none =>
        simp only at hd
        injection hd with hd
        injection hd with hd1 hd2
        subst hd1; subst hd2
        have hf := hfr (by simp)
        by_cases hfit : len + n ≤ cap'
        · -- in place: the old object is given up, the new one lies behind it
          obtain ⟨w1, hr, hw1, hin⟩ := inplace hfit
          have hnl := hnr.length
          have hidlt : id < H.length := (List.getElem?_eq_some_iff.1 hic).1
          have he : Ev (only g) π w av π w1 av := by
            rw [hw1]
            exact Ev.setRow π w av hb (by rw [Nat.add_mul] at hin; simp; omega)
          have hwo : ∀ x, x < w.heap.size → only g x → av x := fun x _ hx => by rw [show x = g from hx]; exact havg
          let π' : PMap := fun j => if j = H.length then some (g, sh + off) else π j
          have hmap : ∀ id p, π id = some p → π' id = some p := by
            intro j p hj
            show (if j = H.length then some (g, sh + off) else π j) = some p
            rw [if_neg (by rintro rfl; rw [hf] at hj; cases hj)]
            exact hj
          have he' : Ev (only g) π w av π' w1 av := { he with map := hmap }
          have hnew : w1.heap[g]? = some (.cells (cc.toList.take (sh + off + len * sz') ++ news ++ cc.toList.drop (sh + off + len * sz' + news.length)).toArray el (0, 0)) := by
            rw [hw1]; exact setRow_heap w g _ _ _ _ hb
          have hfrs : ∀ j g' s', π' j ≠ π j → π' j = some (g', s') → g' = g := by
            intro j g' s' hn hg
            have hg' : (if j = H.length then some (g, sh + off) else π j) = some (g', s') := hg
            split at hg'
            · injection hg' with hg'; injection hg' with hg'; exact hg'.symm
            · rename_i h; exact absurd (show (if j = H.length then some (g, sh + off) else π j) = π j by rw [if_neg h]) hn
          refine ⟨_, w1, π', av, hr, ?_, ⟨he'.wider hw, ?_, ?_, fun _ x => x, by simp, fun j g' s' hn hg => .inr (hw _ (hfrs j g' s' hn hg))⟩⟩
          · have h00' : π' H.length = some (g, sh + off) := by show (if H.length = H.length then _ else _) = _; rw [if_pos rfl]
            have := VRel.sl (π := π') (w := w1) (av := av) (ex := ex) H.length 0 sz' ag (len + n) none g (sh + off) cap' _ el (0, 0) h00' hnew hfit (fun k hk => by simp at hk) (by
              rw [Nat.add_mul] at hin
              simp; omega)
            simpa using this
          · -- the heap
            have hd0 := hH.drop id
            refine ⟨?_, ?_, fun x hx => Nat.lt_of_lt_of_le (hH.avb x hx) he.len, fun x hx => Nat.lt_of_lt_of_le (hH.exb x hx) he.len, Nat.le_trans hH.bsz he.len⟩
            · intro j g' sh' o hpj hoj hdj
              rw [List.getElem?_append] at hoj
              split at hoj
              · rename_i hjl
                rw [List.length_set] at hjl
                have hpj' : π j = some (g', sh') := by
                  have : (if j = H.length then some (g, sh + off) else π j) = some (g', sh') := hpj
                  rwa [if_neg (by omega)] at this
                have hji : j ≠ id := by
                  rintro rfl
                  rw [List.getElem?_set_self hjl] at hoj
                  injection hoj with hoj
                  exact hdj hoj.symm
                obtain ⟨q1, q2, ob, q3, q4⟩ := hd0.obj j g' sh' o hpj' hoj hdj
                have hoj' : H[j]? = some o := by rwa [List.getElem?_set_ne (fun h => hji h.symm)] at hoj
                have hgg : g' ≠ g := fun hg => hji (hH.inj j id g sh' sh o _ (hg ▸ hpj') hoj' hdj hp hic (by simp))
                exact ⟨q1, q2, ob, by rw [he.blk g' (hH.avb g' q2) hgg]; exact q3, q4.mono he' hwo⟩
              · rename_i hjl
                rw [List.length_set] at hjl hoj
                have hj0 : j - H.length = 0 := by
                  rcases Nat.eq_zero_or_pos (j - H.length) with h | h
                  · exact h
                  · rw [List.getElem?_eq_none (by simp; omega)] at hoj; cases hoj
                rw [hj0] at hoj
                simp at hoj
                subst hoj
                have hjj : j = H.length := by omega
                subst hjj
                have : (if H.length = H.length then some (g, sh + off) else π H.length) = some (g', sh') := hpj
                rw [if_pos rfl] at this
                simp only [Option.some.injEq, Prod.mk.injEq] at this
                obtain ⟨rfl, rfl⟩ := this
                refine ⟨hBg, havg, _, hnew, rfl, ?_, ?_, ((us.drop off).take (len * sz')) ++ news, (hsegr.append hnr).mono he' hwo, ?_⟩
                · rw [List.length_append, hsegl, hxl]
                  rw [Nat.add_mul] at hin
                  simp; omega
                · rw [List.all_append, hsego, hone]; rfl
                · intro k u hk
                  have hsegv : ((us.drop off).take (len * sz')).length = len * sz' := by simp; omega
                  rw [Nat.add_mul] at hin
                  rw [List.getElem?_toArray, seg_get (by simp; omega)]
                  rw [List.getElem?_append] at hk
                  split at hk
                  · rename_i hkl
                    rw [hsegv] at hkl
                    rw [if_pos (by omega)]
                    rw [List.getElem?_take, if_pos hkl, List.getElem?_drop] at hk
                    have := hm _ _ hk
                    simp only [World.cell?, hb] at this
                    rw [show sh + (off + k) = sh + off + k by omega] at this
                    simpa using this
                  · rename_i hkl
                    rw [hsegv] at hkl hk
                    have hkn := (List.getElem?_eq_some_iff.1 hk).1
                    rw [if_neg (by omega), if_pos (by omega)]
                    rwa [show sh + off + k - (sh + off + len * sz') = k - len * sz' by omega]
            · intro j j' g' s1 s2 o o' hpj hoj hdj hpj' hoj' hdj'
              have split1 : ∀ (j : Nat) (o : AObj) (g' s1 : Nat), π' j = some (g', s1) → (H.set id .dead ++ [.cells ((c.drop off).take (len * sz') ++ xs) false])[j]? = some o → o ≠ .dead → (j ≠ id ∧ H[j]? = some o ∧ π j = some (g', s1)) ∨ (j = H.length ∧ g' = g) := by
                intro j o g' s1 hpj hoj hdj
                rw [List.getElem?_append] at hoj
                split at hoj
                · rename_i hjl
                  rw [List.length_set] at hjl
                  have hpj2 : (if j = H.length then some (g, sh + off) else π j) = some (g', s1) := hpj
                  rw [if_neg (by omega)] at hpj2
                  have hji : j ≠ id := by
                    rintro rfl
                    rw [List.getElem?_set_self hjl] at hoj
                    injection hoj with hoj
                    exact hdj hoj.symm
                  exact .inl ⟨hji, by rwa [List.getElem?_set_ne (fun h => hji h.symm)] at hoj, hpj2⟩
                · rename_i hjl
                  rw [List.length_set] at hjl hoj
                  have hj0 : j - H.length = 0 := by
                    rcases Nat.eq_zero_or_pos (j - H.length) with h | h
                    · exact h
                    · rw [List.getElem?_eq_none (by simp; omega)] at hoj; cases hoj
                  have hjj : j = H.length := by omega
                  subst hjj
                  have : (if H.length = H.length then some (g, sh + off) else π H.length) = some (g', s1) := hpj
                  rw [if_pos rfl] at this
                  simp only [Option.some.injEq, Prod.mk.injEq] at this
                  exact .inr ⟨rfl, this.1.symm⟩
              rcases split1 j o g' s1 hpj hoj hdj with ⟨a1, a2, a3⟩ | ⟨a1, a2⟩ <;> rcases split1 j' o' g' s2 hpj' hoj' hdj' with ⟨b1, b2, b3⟩ | ⟨b1, b2⟩
              · exact hH.inj j j' g' s1 s2 o o' a3 a2 hdj b3 b2 hdj'
              · subst b2; exact absurd (hH.inj j id g' s1 sh o _ a3 a2 hdj hp hic (by simp)) a1
              · subst a2; exact absurd (hH.inj j' id g' s2 sh o' _ b3 b2 hdj' hp hic (by simp)) b1
              · rw [a1, b1]
          · intro j hj
            have : (if j = H.length then some (g, sh + off) else π j) ≠ π j := hj
            split at this
            · rename_i hjj; subst hjj; simp
            · exact absurd rfl this
        · obtain ⟨v, w1, hr, rfl, rfl⟩ := hgrow (by omega)
          obtain ⟨π', av', g1, g2⟩ := grown_sound (H0 := H.set id .dead) true hH (by simp) (hH.drop id) hf (e := e) (cap := grownCap w (len + n) cap' e) ag hsegr hnr hsego hone hsegl hxl hzs (grownCap_ge w (len + n) cap' e)
          exact ⟨_, _, π', av', hr, g1, g2⟩
  case sl0 id off sz' ag' cap a hcap =>
    simp only [lenOf, Option.some.injEq] at hl
    subst hl
    simp only at hd
    split at hd
    · rename_i h00
      subst h00
      injection hd with hd
      injection hd with hd1 hd2
      subst hd1; subst hd2
      have hn0 : news = [] := by have := hnr.length; rw [hxl] at this; simp at this; exact List.eq_nil_of_length_eq_zero this.symm
      subst hn0
      exact ⟨_, w, π, av, run_app_in h0 h1 ht ht2 hi (by omega) hfw (by simp [storeCells]), .sl0 id off sz' ag' cap a hcap, Res.same _ hH⟩
    · rename_i h00
      split at hd <;> try (cases hd; done)
      rename_i hsz'
      subst hsz'
      split at hd <;> try (cases hd; done)
      rename_i c ag0 hic
      split at hd <;> try (cases hd; done)
      have hr := run_app_grow (ty := ty) h0 h1 ht ht2 hi hz (base := some a) (sLen := 0) (sCap := 0) (n := n) (by omega) (by omega) (by simpa using hbytes) (olds := []) (by simp [Builtin.firstCells, loadCells, loadCellsFrom]) hfd
      cases cap with
      | some k =>
        have hk := hcap k rfl
        subst hk
        simp only at hd
        rw [if_neg (by omega)] at hd
        injection hd with hd
        injection hd with hd1 hd2
        subst hd1; subst hd2
        have hf := hfr (by simp)
        obtain ⟨π', av', g1, g2⟩ := grown_sound (H0 := H) (l := 0) true hH rfl hH hf (e := e) (cap := grownCap w (0 + n) 0 e) ag .nil hnr rfl hone (by simp) hxl hzs (by have := grownCap_ge w (0 + n) 0 e; omega)
        refine ⟨_, _, π', av', hr, ?_, ?_⟩
        · simpa using g1
        · simpa using g2
      | none =>
        simp only at hd
        injection hd with hd
        injection hd with hd1 hd2
        subst hd1; subst hd2
        have hf := hfr (by simp)
        obtain ⟨π', av', g1, g2⟩ := grown_sound (H0 := H.set id .dead) (l := 0) true hH (by simp) (hH.drop id) hf (e := e) (cap := grownCap w (0 + n) 0 e) ag .nil hnr rfl hone (by simp) hxl hzs (by have := grownCap_ge w (0 + n) 0 e; omega)
        refine ⟨_, _, π', av', hr, ?_, ?_⟩
        · simpa using g1
        · simpa using g2
  all_goals (simp only [lenOf] at hl; try (cases hl; done))
  all_goals (try (simp only at hd; cases hd; done))

end Go.Dn
