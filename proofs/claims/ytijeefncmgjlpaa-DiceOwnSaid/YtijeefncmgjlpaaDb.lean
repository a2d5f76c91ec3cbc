/-
  Operations, part 9: append.
-/
import Derived.Test.YtijeefncmgjlpaaDa
import Derived.Shelf.GgSortFunc.RowK
import Derived.Sort.AssemblyPlain
import Derived.Orders
set_option linter.unusedSimpArgs false
set_option linter.unusedVariables false

namespace Go.Dn

variable {P : Program} {B : Nat} {π : PMap} {H : Heap} {w : World} {av ex : Nat -> Prop}

theorem run_cells {g o k : Nat} {us : List Value} (hm : MemAt w g o us) (hk : us.length = k) (w' : World) (h : ∀ a, w'.cell? a = w.cell? a) : (loadCells ⟨g, o, none⟩ k).run P w' = .ok us.toArray w' := by
 have := run_loadCells_list (P := P) w' ⟨g, o, none⟩ us (fun j v hv => by rw [addr_add, h]; exact hm j v hv)
 rwa [hk] at this

theorem obj_mem (hH : HRel P B π H w av ex) {id g sh : Nat} {c : List TV} {ag : Bool} (hp : π id = some (g, sh)) (hi : H[id]? = some (.cells c ag)) :
  ∃ cc el us, w.heap[g]? = some (.cells cc el (0, 0)) /\ sh + c.length <= cc.size /\ c.all TV.one = true /\ VsRel π w av ex c us /\ MemAt w g sh us /\ B <= g /\ av g := by
 obtain ⟨h1, h2, ob, hb, ho⟩ := hH.obj id g sh _ hp hi (by simp)
 cases ob <;> simp only [ORel] at ho
 rename_i cc el fr
 obtain ⟨rfl, h3, h4, us, h5, h6⟩ := ho
 exact ⟨cc, el, us, hb, h3, h4, h5, fun j u hu => by simp [World.cell?, hb, h6 j u hu], h1, h2⟩

theorem src_sound (hH : HRel P B π H w av ex) {sz : Nat} {x : TV} {u : Value} {n : Nat} {xs : List TV} (hx : VRel π w av ex x u) (hn : lenOf x H = some n) (hf : flatOf sz x H = some xs) (hl : xs.length = n * sz) :
  ∃ A c news, u = .slice A n c /\ VsRel π w av ex xs news /\ ∀ w' : World, (∀ a, w'.cell? a = w.cell? a) -> (Builtin.firstCells sz n u).run P w' = .ok news.toArray w' := by
 cases hx
 case nilsl =>
  simp only [flatOf, lenOf, Option.some.injEq] at hf hn
  subst hf; subst hn; exact ⟨none, 0, [], rfl, .nil, fun w' _ => by simp [Builtin.firstCells]⟩
 case esl a =>
  simp only [flatOf, lenOf, Option.some.injEq] at hf hn
  subst hf; subst hn; exact ⟨some a, 0, [], rfl, .nil, fun w' _ => by simp [Builtin.firstCells, loadCells, loadCellsFrom]⟩
 case sl id off sz' ag len cap g sh cap' cc el fr hp hb hlc hcap hs =>
  simp only [flatOf, lenOf, Option.some.injEq] at hf hn
  subst hn
  split at hf <;> try (cases hf; done)
  rename_i c ag0 hi
  split at hf <;> try (cases hf; done)
  rename_i hc
  obtain ⟨rfl, hc⟩ := hc
  injection hf with hf
  subst hf
  obtain ⟨_, _, us, _, _, _, hus, hm, _, _⟩ := obj_mem hH hp hi
  have hul := hus.length
  refine ⟨_, _, (us.drop off).take (len * sz'), rfl, (hus.drop _).take _, fun w' hw => ?_⟩
  have := run_cells (P := P) (hm.sub (a := off) (n := len * sz')) (k := len * sz') (by simp; omega) w' hw
  simpa [Builtin.firstCells] using this
 case sl0 id off sz' ag cap a hcap =>
  simp only [flatOf, lenOf, Option.some.injEq] at hf hn
  subst hn
  split at hf <;> try (cases hf; done)
  split at hf <;> try (cases hf; done)
  injection hf with hf
  subst hf
  refine ⟨_, _, [], rfl, ?_, fun w' _ => by simp [Builtin.firstCells, loadCells, loadCellsFrom]⟩
  simp
  exact .nil
 case bs bo sz' es g off c us hh hz hm ha hlc =>
  simp only [flatOf, lenOf, Option.some.injEq] at hf hn
  subst hn
  split at hf <;> try (cases hf; done)
  rename_i hs
  subst hs
  injection hf with hf
  subst hf
  have hul := hh.length
  refine ⟨_, _, us, rfl, hh, fun w' hw => ?_⟩
  have := run_cells (P := P) hm (k := es.length * sz') (by omega) w' hw
  simpa [Builtin.firstCells] using this
 case bs0 bo sz' a c =>
  simp only [flatOf, lenOf, Option.some.injEq] at hf hn
  subst hn
  split at hf <;> try (cases hf; done)
  injection hf with hf
  subst hf
  exact ⟨_, _, [], rfl, .nil, fun w' _ => by simp [Builtin.firstCells, loadCells, loadCellsFrom]⟩
 all_goals (simp only [flatOf] at hf; cases hf)

section run
variable {ats : Array TypeId} {ty t t2 e e2 : TypeId} {i : TypeInfo}

theorem run_app_in (h0 : ats[0]? = some t) (h1 : ats[1]? = some t2) (ht : P.underlying t = some (.slice e)) (ht2 : P.underlying t2 = some (.slice e2)) (hi : P.info? e = some i) {a : Addr} {sLen sCap n xc : Nat} {xb : Option Addr} {news : List Value} {w1 : World}
  (hfit : sLen + n <= sCap) (hf : (Builtin.firstCells i.size n (.slice xb n xc)).run P w = .ok news.toArray w) (hst : (storeCells (a.add (sLen * i.size)) news).run P w = .ok () w1) :
  (Builtin.append_ ats ty #[.slice (some a) sLen sCap, .slice xb n xc]).run P w = .ok (.slice (some a) (sLen + n) sCap) w1 := by
 simp [Builtin.append_, h0, h1, run_underlying ht, run_underlying ht2, sizeOf, typeInfo, hi, Builtin.lenOf, hfit, hf, hst]

theorem run_app_nil (h0 : ats[0]? = some t) (h1 : ats[1]? = some t2) (ht : P.underlying t = some (.slice e)) (ht2 : P.underlying t2 = some (.slice e2)) (hi : P.info? e = some i) {xc : Nat} {xb : Option Addr} {news : Array Value}
  (hf : (Builtin.firstCells i.size 0 (.slice xb 0 xc)).run P w = .ok news w) :
  (Builtin.append_ ats ty #[.slice none 0 0, .slice xb 0 xc]).run P w = .ok (.slice none 0 0) w := by
 simp [Builtin.append_, h0, h1, run_underlying ht, run_underlying ht2, sizeOf, typeInfo, hi, Builtin.lenOf, hf]

theorem run_app_grow (h0 : ats[0]? = some t) (h1 : ats[1]? = some t2) (ht : P.underlying t = some (.slice e)) (ht2 : P.underlying t2 = some (.slice e2)) (hi : P.info? e = some i) {z : Value} (hz : i.zero = some z)
  {base xb : Option Addr} {sLen sCap n xc : Nat} {olds news : List Value} (hg : sCap < sLen + n) (h63 : sLen + n <= 140737488355328) (hfit : (sLen + n) * i.bytes <= 140737488355328)
  (hfo : (Builtin.firstCells i.size sLen (.slice base sLen sCap)).run P w.drew = .ok olds.toArray w.drew) (hf : (Builtin.firstCells i.size n (.slice xb n xc)).run P w.drew = .ok news.toArray w.drew) :
  (Builtin.append_ ats ty #[.slice base sLen sCap, .slice xb n xc]).run P w =
   .ok (.slice (some ⟨w.heap.size, 0, none⟩) (sLen + n) (grownCap w (sLen + n) sCap e))
    (w.drew.alloc (.cells (olds.toArray ++ news.toArray ++ Builtin.zeroCells z.cells (grownCap w (sLen + n) sCap e - (sLen + n))) e)) := by
 have hn : ¬ (sLen + n <= sCap) := by omega
 have h48 := growslice_fits hg hfit
 have h48' : ¬ (281474976710656 < Builtin.nextslicecap (sLen + n) sCap * i.bytes) := by omega
 have h63' : ¬ (9223372036854775807 < ((sLen : Int) + (n : Int))) := by omega
 simp [Builtin.append_, h0, h1, run_underlying ht, run_underlying ht2, sizeOf, typeInfo, zeroValue, hi, hz, Builtin.lenOf, hn, h63', h48', Question.forced, hf, hfo, newRow, grownCap]
 congr 2
 apply Array.ext'
 simp
end run

theorem Ev.drew (wr : Nat -> Prop) (π : PMap) (w : World) (av : Nat -> Prop) : Ev wr π w av π w.drew av := ⟨fun _ _ h => h, fun _ _ _ => rfl, fun _ cc _ _ h => ⟨cc, h, rfl⟩, fun _ r h => ⟨r, h⟩, fun _ _ h => h, Nat.le_refl _, rfl, ⟨rfl, Nat.le_succ _⟩, rfl⟩

theorem HRel.drew (hH : HRel P B π H w av ex) : HRel P B π H w.drew av ex :=
 hH.mono (Ev.drew none' π w av) (fun _ _ _ x => x rfl) (fun _ x => x) hH.avb

theorem grown_sound (W : Bool) (hH : HRel P B π H w av ex) {H0 : Heap} (hlen : H0.length = H.length) (hH0 : HRel P B π H0 w av ex) (hf : π H.length = none) {olds news : List Value} {cs xs : List TV} {z : Value} {e : TypeId} {sz l n cap : Nat} (ag : Bool)
  (ho : VsRel π w av ex cs olds) (hn : VsRel π w av ex xs news) (hco : cs.all TV.one = true) (hxo : xs.all TV.one = true) (hcl : cs.length = l * sz) (hxl : xs.length = n * sz) (hzs : z.cells.size = sz) (hcap : l + n <= cap) :
  ∃ π' av', VRel π' (w.drew.alloc (.cells (olds.toArray ++ news.toArray ++ Builtin.zeroCells z.cells (cap - (l + n))) e)) av' ex (.sl H.length 0 sz ag (l + n) none) (.slice (some ⟨w.heap.size, 0, none⟩) (l + n) cap) /\
   Res P B (wrK B av W) π H w av ex (H0 ++ [.cells (cs ++ xs) false]) (w.drew.alloc (.cells (olds.toArray ++ news.toArray ++ Builtin.zeroCells z.cells (cap - (l + n))) e)) π' av' := by
 have hol := ho.length
 have hnl := hn.length
 have hsz : (olds.toArray ++ news.toArray ++ Builtin.zeroCells z.cells (cap - (l + n))).size = cap * sz := by
  simp only [Array.size_append, List.size_toArray, size_zeroCells, hzs, <- hol, <- hnl, hcl, hxl, <- Nat.add_mul]
  congr 1
  omega
 have r := new_cells (P := P) (π := π) (H := H0) (w := w.drew) (us := olds ++ news) (cc := olds.toArray ++ news.toArray ++ Builtin.zeroCells z.cells (cap - (l + n))) W hH0.drew (by rw [hlen]; exact hf) e false
  ((ho.append hn).mono (Ev.drew none' π w av) fun _ _ x => x.elim) (by rw [List.all_append, hco, hxo]; rfl) (by
   intro j u hj
   have : (olds.toArray ++ news.toArray ++ Builtin.zeroCells z.cells (cap - (l + n))).toList[j]? = some u := by
    simp only [Array.toList_append, List.append_assoc]
    rw [<- List.append_assoc, List.getElem?_append, if_pos (List.getElem?_eq_some_iff.1 hj).1]
    exact hj
   rwa [Array.getElem?_toList] at this) (by rw [hsz, List.length_append, hcl, hxl, <- Nat.add_mul]; exact Nat.mul_le_mul_right _ hcap)
 refine ⟨π.add H0.length w.drew.heap.size, avAdd av w.drew.heap.size, ?_, ?_⟩
 ·have := VRel.sl (π := (π.add H0.length w.drew.heap.size)) (w := w.drew.alloc (.cells (olds.toArray ++ news.toArray ++ Builtin.zeroCells z.cells (cap - (l + n))) e)) (av := avAdd av w.drew.heap.size) (ex := ex) H0.length 0 sz ag (l + n) none w.heap.size 0 cap _ e (0, 0) (PMap.add_self _ _ _) (heap_push_eq w.drew _) hcap (fun k hk => by simp at hk) (by rw [hsz]; omega)
  rw [<- hlen]
  exact this
 ·refine ⟨(Ev.drew _ π w av).trans r.ev fun _ _ x => x, r.hr, fun id hid => ?_, r.ext, by simp [hlen], r.frs⟩
  have := r.dom id hid
  rw [hlen] at this
  exact this

theorem app_sound (hH : HRel P B π H w av ex) {sz bytes : Nat} {ag : Bool} {s x t : TV} {us ux : Value} {H' : Heap} (hfr : H.length < H'.length -> π H.length = none) {ats : Array TypeId} {ty tt t2 e e2 : TypeId} {i : TypeInfo} {z : Value} (hd : appRun sz ag bytes s x H = some (t, H'))
  (hs : VRel π w av ex s us) (hx : VRel π w av ex x ux) (h0 : ats[0]? = some tt) (h1 : ats[1]? = some t2) (ht : P.underlying tt = some (.slice e)) (ht2 : P.underlying t2 = some (.slice e2)) (hi : P.info? e = some i) (hz : i.zero = some z)
  (hsz : i.size = sz) (hby : i.bytes = bytes) (hzs : z.cells.size = sz) (hsz0 : sz ≠ 0) (hby0 : bytes ≠ 0) :
  ∃ v w' π' av', (Builtin.append_ ats ty #[us, ux]).run P w = .ok v w' /\ VRel π' w' av' ex t v /\ Res P B (wrK B av true) π H w av ex H' w' π' av' := by
 unfold appRun at hd
 simp only [Option.bind_eq_some_iff] at hd
 obtain ⟨n, hn, xs, hxs, l, hl, hd⟩ := hd
 split at hd <;> try (cases hd; done)
 rename_i hc
 obtain ⟨hbytes, hone, hxl⟩ := hc
 obtain ⟨xb, xc, news, rfl, hnr, hnf⟩ := src_sound hH hx hn hxs hxl
 have hpos : 0 < bytes := by omega
 have h63 : l + n <= 140737488355328 := Nat.le_trans (Nat.le_mul_of_pos_right _ hpos) hbytes
 have hfd := hnf w.drew (fun a => rfl)
 have hfw := hnf w (fun a => rfl)
 rw [<- hsz] at hfd hfw
 subst hby
 cases hs
 case nilsl =>
  simp only [lenOf, Option.some.injEq] at hl
  subst hl
  simp only at hd
  split at hd
  ·rename_i h00
   subst h00
   injection hd with hd
   injection hd with hd1 hd2
   subst hd1; subst hd2
   exact ⟨_, w, π, av, run_app_nil h0 h1 ht ht2 hi hfw, .nilsl, Res.same _ hH⟩
  ·rename_i h00
   injection hd with hd
   injection hd with hd1 hd2
   subst hd1; subst hd2
   have hf := hfr (by simp)
   have hr := run_app_grow (ty := ty) h0 h1 ht ht2 hi hz (base := none) (sLen := 0) (sCap := 0) (n := n) (by omega) (by omega) (by simpa using hbytes) (olds := []) (by simp [Builtin.firstCells]) hfd
   obtain ⟨π', av', g1, g2⟩ := grown_sound (H0 := H) (l := 0) true hH rfl hH hf (e := e) (cap := grownCap w (0 + n) 0 e) ag .nil hnr rfl hone (by simp) hxl hzs (by have := grownCap_ge w (0 + n) 0 e; omega)
   refine ⟨_, _, π', av', hr, ?_, ?_⟩
   ·simpa using g1
   ·simpa using g2
 case esl a =>
  simp only [lenOf, Option.some.injEq] at hl
  subst hl
  simp only at hd
  split at hd
  ·rename_i h00
   subst h00
   injection hd with hd
   injection hd with hd1 hd2
   subst hd1; subst hd2
   have hn0 : news = [] := by have := hnr.length; rw [hxl] at this; simp at this; exact List.eq_nil_of_length_eq_zero this.symm
   subst hn0
   exact ⟨_, w, π, av, run_app_in h0 h1 ht ht2 hi (by omega) hfw (by simp [storeCells]), .esl a, Res.same _ hH⟩
  ·rename_i h00
   injection hd with hd
   injection hd with hd1 hd2
   subst hd1; subst hd2
   have hf := hfr (by simp)
   have hr := run_app_grow (ty := ty) h0 h1 ht ht2 hi hz (base := some a) (sLen := 0) (sCap := 0) (n := n) (by omega) (by omega) (by simpa using hbytes) (olds := []) (by simp [Builtin.firstCells, loadCells, loadCellsFrom]) hfd
   obtain ⟨π', av', g1, g2⟩ := grown_sound (H0 := H) (l := 0) true hH rfl hH hf (e := e) (cap := grownCap w (0 + n) 0 e) ag .nil hnr rfl hone (by simp) hxl hzs (by have := grownCap_ge w (0 + n) 0 e; omega)
   refine ⟨_, _, π', av', hr, ?_, ?_⟩
   ·simpa using g1
   ·simpa using g2
 case sl id off sz' ag' len cap g sh cap' cc el fr hp hb hlc hcap hss =>
  simp only [lenOf, Option.some.injEq] at hl
  subst hl
  simp only at hd
  split at hd
  ·rename_i h00
   subst h00
   injection hd with hd
   injection hd with hd1 hd2
   subst hd1; subst hd2
   have hn0 : news = [] := by have := hnr.length; rw [hxl] at this; simp at this; exact List.eq_nil_of_length_eq_zero this.symm
   subst hn0
   exact ⟨_, w, π, av, run_app_in h0 h1 ht ht2 hi (by omega) hfw (by simp [storeCells]), .sl id off sz' ag' len cap g sh cap' cc el fr hp hb hlc hcap hss, Res.same _ hH⟩
  ·rename_i h00
   split at hd <;> try (cases hd; done)
   rename_i hsz'
   subst hsz'
   split at hd <;> try (cases hd; done)
   rename_i c ag0 hic
   split at hd <;> try (cases hd; done)
   rename_i hoff
   obtain ⟨cc', el', us, hbk, hroom, hcone, hus, hm, hBg, havg⟩ := obj_mem hH hp hic
   rw [hb] at hbk
   simp only [Option.some.injEq, Obj.cells.injEq] at hbk
   obtain ⟨rfl, rfl, rfl⟩ := hbk
   have hul := hus.length
   have hw : ∀ x, only g x -> wrK B av true x := fun x hx => by rw [show x = g from hx]; exact ⟨rfl, havg, hBg⟩
   have hsegr := (hus.drop off).take (len * sz')
   have hsego : ((c.drop off).take (len * sz')).all TV.one = true := by
    rw [List.all_eq_true] at hcone ⊢
    exact fun x hx => hcone x (List.mem_of_mem_drop (List.mem_of_mem_take hx))
   have hsegl : ((c.drop off).take (len * sz')).length = len * sz' := by simp; omega
   have hsegf : ∀ w' : World, (∀ a, w'.cell? a = w.cell? a) -> (Builtin.firstCells i.size len (.slice (some ⟨g, sh + off, none⟩) len cap')).run P w' = .ok ((us.drop off).take (len * sz')).toArray w' := fun w' hw' => by
    rw [hsz]
    have := run_cells (P := P) (hm.sub (a := off) (n := len * sz')) (k := len * sz') (by simp; omega) w' hw'
    simpa [Builtin.firstCells] using this
   have inplace : len + n <= cap' -> ∃ w1, (Builtin.append_ ats ty #[.slice (some ⟨g, sh + off, none⟩) len cap', .slice xb n xc]).run P w = .ok (.slice (some ⟨g, sh + off, none⟩) (len + n) cap') w1 /\
     w1 = w.setRow g (cc.toList.take (sh + off + len * sz') ++ news ++ cc.toList.drop (sh + off + len * sz' + news.length)).toArray /\ sh + off + (len + n) * sz' <= cc.size := by
    intro hfit
    have hle : (len + n) * sz' <= cap' * sz' := Nat.mul_le_mul_right _ hfit
    have hnl := hnr.length
    have hst := run_storeCells_at P g (sh + off + len * sz') el news 0 cc w hb (by rw [Nat.add_mul] at hle; omega) (all_one hnr hone)
    simp only [Nat.add_zero] at hst
    exact ⟨_, run_app_in h0 h1 ht ht2 hi hfit hfw (by rw [addr_add, hsz]; exact hst), rfl, by omega⟩
   have hgrow : cap' < len + n -> ∃ v w1, (Builtin.append_ ats ty #[.slice (some ⟨g, sh + off, none⟩) len cap', .slice xb n xc]).run P w = .ok v w1 /\ v = .slice (some ⟨w.heap.size, 0, none⟩) (len + n) (grownCap w (len + n) cap' e) /\
     w1 = w.drew.alloc (.cells (((us.drop off).take (len * sz')).toArray ++ news.toArray ++ Builtin.zeroCells z.cells (grownCap w (len + n) cap' e - (len + n))) e) := by
    intro hfit
    exact ⟨_, _, run_app_grow (ty := ty) h0 h1 ht ht2 hi hz hfit h63 hbytes (hsegf w.drew fun _ => rfl) hfd, rfl, rfl⟩
   cases cap with
   | some k =>
    have hk := hcap k rfl
    subst hk
    simp only at hd
    split at hd
    ·rename_i hfit
     split at hd <;> try (cases hd; done)
     rename_i hin
     injection hd with hd
     injection hd with hd1 hd2
     subst hd1; subst hd2
     have hnl := hnr.length
     obtain ⟨w1, hst, he, hh⟩ := write_sound hH (off := off + len * sz') hp hic hnr hone (by rw [hxl]; rw [Nat.add_mul] at hin; omega)
     rw [<- Nat.add_assoc] at hst
     have hr := run_app_in (ty := ty) (w := w) h0 h1 ht ht2 hi (a := ⟨g, sh + off, none⟩) hfit hfw (by rw [addr_add, hsz]; exact hst)
     obtain ⟨cc', hcc', hccs⟩ := he.siz g cc el _ hb
     refine ⟨_, w1, π, av, hr, ?_, ⟨he.wider hw, hh, fun _ x => absurd rfl x, fun _ x => x, by simp, fun _ _ _ x => absurd rfl x⟩⟩
     exact .sl id off sz' ag (len + n) (some k) g sh k cc' el _ hp hcc' hfit (fun k' hk' => by simpa using hk'.symm) (by omega)
    ·rename_i hfit
     injection hd with hd
     injection hd with hd1 hd2
     subst hd1; subst hd2
     have hf := hfr (by simp)
     obtain ⟨v, w1, hr, rfl, rfl⟩ := hgrow (by omega)
     obtain ⟨π', av', g1, g2⟩ := grown_sound (H0 := H) true hH rfl hH hf (e := e) (cap := grownCap w (len + n) k e) ag hsegr hnr hsego hone hsegl hxl hzs (grownCap_ge w (len + n) k e)
     exact ⟨_, _, π', av', hr, g1, g2⟩
   | none =>
    simp only at hd
    injection hd with hd
    injection hd with hd1 hd2
    subst hd1; subst hd2
    have hf := hfr (by simp)
    by_cases hfit : len + n <= cap'
    ·-- in place: the old object is given up, the new one lies behind it
     obtain ⟨w1, hr, hw1, hin⟩ := inplace hfit
     have hnl := hnr.length
     have hidlt : id < H.length := (List.getElem?_eq_some_iff.1 hic).1
     have he : Ev (only g) π w av π w1 av := by
      rw [hw1]
      exact Ev.setRow π w av hb (by rw [Nat.add_mul] at hin; simp; omega)
     have hwo : ∀ x, x < w.heap.size -> only g x -> av x := fun x _ hx => by rw [show x = g from hx]; exact havg
     let π' : PMap := fun j => if j = H.length then some (g, sh + off) else π j
     have hmap : ∀ id p, π id = some p -> π' id = some p := by
      intro j p hj
      show (if j = H.length then some (g, sh + off) else π j) = some p
      rw [if_neg (by rintro rfl; rw [hf] at hj; cases hj)]
      exact hj
     have he' : Ev (only g) π w av π' w1 av := { he with map := hmap }
     have hnew : w1.heap[g]? = some (.cells (cc.toList.take (sh + off + len * sz') ++ news ++ cc.toList.drop (sh + off + len * sz' + news.length)).toArray el (0, 0)) := by
      rw [hw1]; exact setRow_heap w g _ _ _ _ hb
     have hfrs : ∀ j g' s', π' j ≠ π j -> π' j = some (g', s') -> g' = g := by
      intro j g' s' hn hg
      have hg' : (if j = H.length then some (g, sh + off) else π j) = some (g', s') := hg
      split at hg'
      ·injection hg' with hg'; injection hg' with hg'; exact hg'.symm
      ·rename_i h; exact absurd (show (if j = H.length then some (g, sh + off) else π j) = π j by rw [if_neg h]) hn
     refine ⟨_, w1, π', av, hr, ?_, ⟨he'.wider hw, ?_, ?_, fun _ x => x, by simp, fun j g' s' hn hg => .inr (hw _ (hfrs j g' s' hn hg))⟩⟩
     ·have h00' : π' H.length = some (g, sh + off) := by show (if H.length = H.length then _ else _) = _; rw [if_pos rfl]
      have := VRel.sl (π := π') (w := w1) (av := av) (ex := ex) H.length 0 sz' ag (len + n) none g (sh + off) cap' _ el (0, 0) h00' hnew hfit (fun k hk => by simp at hk) (by
       rw [Nat.add_mul] at hin
       simp; omega)
      simpa using this
     ·-- the heap
      have hd0 := hH.drop id
      refine ⟨?_, ?_, fun x hx => Nat.lt_of_lt_of_le (hH.avb x hx) he.len, fun x hx => Nat.lt_of_lt_of_le (hH.exb x hx) he.len, Nat.le_trans hH.bsz he.len⟩
      ·intro j g' sh' o hpj hoj hdj
       rw [List.getElem?_append] at hoj
       split at hoj
       ·rename_i hjl
        rw [List.length_set] at hjl
        have hpj' : π j = some (g', sh') := by
         have : (if j = H.length then some (g, sh + off) else π j) = some (g', sh') := hpj
         rwa [if_neg (by omega)] at this
        have hji : j ≠ id := by
         rintro rfl
         rw [List.getElem?_set_self hjl] at hoj
         injection hoj with hoj
         exact hdj hoj.symm
        obtain ⟨q1, q2, ob, q3, q4⟩ := hd0.obj j g' sh' o hpj' hoj hdj
        have hoj' : H[j]? = some o := by rwa [List.getElem?_set_ne (fun h => hji h.symm)] at hoj
        have hgg : g' ≠ g := fun hg => hji (hH.inj j id g sh' sh o _ (hg ▸ hpj') hoj' hdj hp hic (by simp))
        exact ⟨q1, q2, ob, by rw [he.blk g' (hH.avb g' q2) hgg]; exact q3, q4.mono he' hwo⟩
       ·rename_i hjl
        rw [List.length_set] at hjl hoj
        have hj0 : j - H.length = 0 := by
         rcases Nat.eq_zero_or_pos (j - H.length) with h | h
         ·exact h
         ·rw [List.getElem?_eq_none (by simp; omega)] at hoj; cases hoj
        rw [hj0] at hoj
        simp at hoj
        subst hoj
        have hjj : j = H.length := by omega
        subst hjj
        have : (if H.length = H.length then some (g, sh + off) else π H.length) = some (g', sh') := hpj
        rw [if_pos rfl] at this
        simp only [Option.some.injEq, Prod.mk.injEq] at this
        obtain ⟨rfl, rfl⟩ := this
        refine ⟨hBg, havg, _, hnew, rfl, ?_, ?_, ((us.drop off).take (len * sz')) ++ news, (hsegr.append hnr).mono he' hwo, ?_⟩
        ·rw [List.length_append, hsegl, hxl]
         rw [Nat.add_mul] at hin
         simp; omega
        ·rw [List.all_append, hsego, hone]; rfl
        ·intro k u hk
         have hsegv : ((us.drop off).take (len * sz')).length = len * sz' := by simp; omega
         rw [Nat.add_mul] at hin
         rw [List.getElem?_toArray, seg_get (by simp; omega)]
         rw [List.getElem?_append] at hk
         split at hk
         ·rename_i hkl
          rw [hsegv] at hkl
          rw [if_pos (by omega)]
          rw [List.getElem?_take, if_pos hkl, List.getElem?_drop] at hk
          have := hm _ _ hk
          simp only [World.cell?, hb] at this
          rw [show sh + (off + k) = sh + off + k by omega] at this
          simpa using this
         ·rename_i hkl
          rw [hsegv] at hkl hk
          have hkn := (List.getElem?_eq_some_iff.1 hk).1
          rw [if_neg (by omega), if_pos (by omega)]
          rwa [show sh + off + k - (sh + off + len * sz') = k - len * sz' by omega]
      ·intro j j' g' s1 s2 o o' hpj hoj hdj hpj' hoj' hdj'
       have split1 : ∀ (j : Nat) (o : AObj) (g' s1 : Nat), π' j = some (g', s1) -> (H.set id .dead ++ [.cells ((c.drop off).take (len * sz') ++ xs) false])[j]? = some o -> o ≠ .dead -> (j ≠ id /\ H[j]? = some o /\ π j = some (g', s1)) \/ (j = H.length /\ g' = g) := by
        intro j o g' s1 hpj hoj hdj
        rw [List.getElem?_append] at hoj
        split at hoj
        ·rename_i hjl
         rw [List.length_set] at hjl
         have hpj2 : (if j = H.length then some (g, sh + off) else π j) = some (g', s1) := hpj
         rw [if_neg (by omega)] at hpj2
         have hji : j ≠ id := by
          rintro rfl
          rw [List.getElem?_set_self hjl] at hoj
          injection hoj with hoj
          exact hdj hoj.symm
         exact .inl ⟨hji, by rwa [List.getElem?_set_ne (fun h => hji h.symm)] at hoj, hpj2⟩
        ·rename_i hjl
         rw [List.length_set] at hjl hoj
         have hj0 : j - H.length = 0 := by
          rcases Nat.eq_zero_or_pos (j - H.length) with h | h
          ·exact h
          ·rw [List.getElem?_eq_none (by simp; omega)] at hoj; cases hoj
         have hjj : j = H.length := by omega
         subst hjj
         have : (if H.length = H.length then some (g, sh + off) else π H.length) = some (g', s1) := hpj
         rw [if_pos rfl] at this
         simp only [Option.some.injEq, Prod.mk.injEq] at this
         exact .inr ⟨rfl, this.1.symm⟩
       rcases split1 j o g' s1 hpj hoj hdj with ⟨a1, a2, a3⟩ | ⟨a1, a2⟩ <;> rcases split1 j' o' g' s2 hpj' hoj' hdj' with ⟨b1, b2, b3⟩ | ⟨b1, b2⟩
       ·exact hH.inj j j' g' s1 s2 o o' a3 a2 hdj b3 b2 hdj'
       ·subst b2; exact absurd (hH.inj j id g' s1 sh o _ a3 a2 hdj hp hic (by simp)) a1
       ·subst a2; exact absurd (hH.inj j' id g' s2 sh o' _ b3 b2 hdj' hp hic (by simp)) b1
       ·rw [a1, b1]
     ·intro j hj
      have : (if j = H.length then some (g, sh + off) else π j) ≠ π j := hj
      split at this
      ·rename_i hjj; subst hjj; simp
      ·exact absurd rfl this
    ·obtain ⟨v, w1, hr, rfl, rfl⟩ := hgrow (by omega)
     obtain ⟨π', av', g1, g2⟩ := grown_sound (H0 := H.set id .dead) true hH (by simp) (hH.drop id) hf (e := e) (cap := grownCap w (len + n) cap' e) ag hsegr hnr hsego hone hsegl hxl hzs (grownCap_ge w (len + n) cap' e)
     exact ⟨_, _, π', av', hr, g1, g2⟩
 case sl0 id off sz' ag' cap a hcap =>
  simp only [lenOf, Option.some.injEq] at hl
  subst hl
  simp only at hd
  split at hd
  ·rename_i h00
   subst h00
   injection hd with hd
   injection hd with hd1 hd2
   subst hd1; subst hd2
   have hn0 : news = [] := by have := hnr.length; rw [hxl] at this; simp at this; exact List.eq_nil_of_length_eq_zero this.symm
   subst hn0
   exact ⟨_, w, π, av, run_app_in h0 h1 ht ht2 hi (by omega) hfw (by simp [storeCells]), .sl0 id off sz' ag' cap a hcap, Res.same _ hH⟩
  ·rename_i h00
   split at hd <;> try (cases hd; done)
   rename_i hsz'
   subst hsz'
   split at hd <;> try (cases hd; done)
   rename_i c ag0 hic
   split at hd <;> try (cases hd; done)
   have hr := run_app_grow (ty := ty) h0 h1 ht ht2 hi hz (base := some a) (sLen := 0) (sCap := 0) (n := n) (by omega) (by omega) (by simpa using hbytes) (olds := []) (by simp [Builtin.firstCells, loadCells, loadCellsFrom]) hfd
   cases cap with
   | some k =>
    have hk := hcap k rfl
    subst hk
    simp only at hd
    rw [if_neg (by omega)] at hd
    injection hd with hd
    injection hd with hd1 hd2
    subst hd1; subst hd2
    have hf := hfr (by simp)
    obtain ⟨π', av', g1, g2⟩ := grown_sound (H0 := H) (l := 0) true hH rfl hH hf (e := e) (cap := grownCap w (0 + n) 0 e) ag .nil hnr rfl hone (by simp) hxl hzs (by have := grownCap_ge w (0 + n) 0 e; omega)
    refine ⟨_, _, π', av', hr, ?_, ?_⟩
    ·simpa using g1
    ·simpa using g2
   | none =>
    simp only at hd
    injection hd with hd
    injection hd with hd1 hd2
    subst hd1; subst hd2
    have hf := hfr (by simp)
    obtain ⟨π', av', g1, g2⟩ := grown_sound (H0 := H.set id .dead) (l := 0) true hH (by simp) (hH.drop id) hf (e := e) (cap := grownCap w (0 + n) 0 e) ag .nil hnr rfl hone (by simp) hxl hzs (by have := grownCap_ge w (0 + n) 0 e; omega)
    refine ⟨_, _, π', av', hr, ?_, ?_⟩
    ·simpa using g1
    ·simpa using g2
 all_goals (simp only [lenOf] at hl; try (cases hl; done))
 all_goals (try (simp only at hd; cases hd; done))

end Go.Dn

/-
 Maps by rising keys: looked up, put into.
-/

namespace Go.Dn

/-! ### rising keys -/
def Rise (l : List (Int × TV)) : Prop := l.Pairwise fun a b => a.1 < b.1

theorem insS_mem {k : Int} {v : TV} : ∀ {l : List (Int × TV)} {p : Int × TV}, p ∈ insS k v l -> p = (k, v) \/ p ∈ l
 | [], p, h => by simp [insS] at h; exact .inl h
 | (a, x) :: r, p, h => by
  simp only [insS] at h
  split at h
  ·simp only [List.mem_cons] at h ⊢; exact h
  ·split at h
   ·simp only [List.mem_cons] at h ⊢
    rcases h with h | h
    ·exact .inl h
    ·exact .inr (.inr h)
   ·simp only [List.mem_cons] at h ⊢
    rcases h with h | h
    ·exact .inr (.inl h)
    ·rcases insS_mem h with h | h
     ·exact .inl h
     ·exact .inr (.inr h)

theorem insS_rise {k : Int} {v : TV} : ∀ {l : List (Int × TV)}, Rise l -> Rise (insS k v l)
 | [], _ => by simp [insS, Rise]
 | (a, x) :: r, h => by
  obtain ⟨h1, h2⟩ := List.pairwise_cons.1 h
  simp only [insS]
  split
  ·rename_i hk
   refine List.pairwise_cons.2 ⟨fun b hb => ?_, h⟩
   rcases List.mem_cons.1 hb with rfl | hb
   ·exact hk
   ·exact Int.lt_trans hk (h1 b hb)
  ·split
   ·rename_i hk
    subst hk
    exact List.pairwise_cons.2 ⟨h1, h2⟩
   ·refine List.pairwise_cons.2 ⟨fun b hb => ?_, insS_rise h2⟩
    rcases insS_mem hb with rfl | hb
    ·show a < k; omega
    ·exact h1 b hb

theorem lookS_some {k : Int} {v : TV} : ∀ {l : List (Int × TV)}, Rise l -> (lookS k l = some v ↔ (k, v) ∈ l)
 | [], _ => by simp [lookS]
 | (a, x) :: r, h => by
  obtain ⟨h1, h2⟩ := List.pairwise_cons.1 h
  simp only [lookS]
  split
  ·rename_i hk
   subst hk
   constructor
   ·intro e; simp at e; simp [e]
   ·intro e
    rcases List.mem_cons.1 e with e | e
    ·simp at e; simp [e]
    ·have := h1 _ e; simp at this
  ·rename_i hk
   rw [lookS_some h2]
   simp [hk]

theorem insS_new {k : Int} {v : TV} : ∀ {l : List (Int × TV)}, Rise l -> lookS k l = none -> (insS k v l).Perm ((k, v) :: l)
 | [], _, _ => by simp [insS]
 | (a, x) :: r, h, hn => by
  obtain ⟨h1, h2⟩ := List.pairwise_cons.1 h
  simp only [lookS] at hn
  split at hn <;> try (cases hn; done)
  rename_i hk
  simp only [insS, if_neg hk]
  split
  ·exact List.Perm.refl _
  ·exact ((insS_new h2 hn).cons _).trans (List.Perm.swap _ _ _)

theorem insS_old {k : Int} {v v0 : TV} : ∀ {l : List (Int × TV)}, Rise l -> lookS k l = some v0 -> ∃ m1 m2, l = m1 ++ (k, v0) :: m2 /\ insS k v l = m1 ++ (k, v) :: m2
 | [], _, hn => by simp [lookS] at hn
 | (a, x) :: r, h, hn => by
  obtain ⟨h1, h2⟩ := List.pairwise_cons.1 h
  simp only [lookS] at hn
  split at hn
  ·rename_i hk
   subst hk
   injection hn with hn
   subst hn
   exact ⟨[], r, rfl, by simp [insS]⟩
  ·rename_i hk
   have hlt : a < k := by
    have := h1 _ ((lookS_some h2).1 hn); simpa using this
   obtain ⟨m1, m2, e1, e2⟩ := insS_old (v := v) h2 hn
   refine ⟨(a, x) :: m1, m2, by simp [e1], ?_⟩
   have : ¬ k < a := by omega
   simp [insS, hk, this, e2]

theorem insS_get {k j : Int} {v : TV} {l : List (Int × TV)} (h : Rise l) : lookS j (insS k v l) = if j = k then some v else lookS j l := by
 induction l with
 | nil => simp only [insS, lookS]
 | cons p r ih =>
  obtain ⟨a, x⟩ := p
  obtain ⟨h1, h2⟩ := List.pairwise_cons.1 h
  simp only [insS]
  split
  ·simp only [lookS]
  ·split
   ·rename_i hk
    subst hk
    simp only [lookS]
    split <;> rfl
   ·rename_i h3 h4
    simp only [lookS, ih h2]
    by_cases hj : j = a
    ·subst hj
     have : ¬ j = k := fun e => h4 e.symm
     simp [this]
    ·simp [hj]

theorem Rise.ext : ∀ {l m : List (Int × TV)}, Rise l -> Rise m -> (∀ k, lookS k l = lookS k m) -> l = m
 | [], [], _, _, _ => rfl
 | [], (a, x) :: m, _, _, h => by have := h a; simp [lookS] at this
 | (a, x) :: l, [], _, _, h => by have := h a; simp [lookS] at this
 | (a, x) :: l, (b, y) :: m, hl, hm, h => by
  obtain ⟨l1, l2⟩ := List.pairwise_cons.1 hl
  obtain ⟨m1, m2⟩ := List.pairwise_cons.1 hm
  have hab : a = b := by
   have ha := h a
   have hb := h b
   simp only [lookS, if_true] at ha hb
   by_cases e : a = b
   ·exact e
   ·rw [if_neg e] at ha
    rw [if_neg (fun q => e q.symm)] at hb
    have h1 := m1 _ ((lookS_some m2).1 ha.symm)
    have h2 := l1 _ ((lookS_some l2).1 hb)
    simp at h1 h2
    omega
  subst hab
  have hx : x = y := by have := h a; simpa [lookS] using this
  subst hx
  have : l = m := Rise.ext l2 m2 fun k => by
   have := h k
   simp only [lookS] at this
   by_cases e : k = a
   ·subst e
    have n1 : lookS k l = none := by
     cases hh : lookS k l with
     | none => rfl
     | some v => have := l1 _ ((lookS_some l2).1 hh); simp at this
    have n2 : lookS k m = none := by
     cases hh : lookS k m with
     | none => rfl
     | some v => have := m1 _ ((lookS_some m2).1 hh); simp at this
    rw [n1, n2]
   ·simpa [e] using this
  rw [this]

/-! ### beside the stamps -/
theorem Stamped.rise {es0 : List (TV × TV × Nat)} {es : List (Int × TV)} {ck : Nat} (h : Stamped es0 es ck) : Rise es := h.sorted

theorem Stamped.mem {es0 : List (TV × TV × Nat)} {es : List (Int × TV)} {ck : Nat} (h : Stamped es0 es ck) {a v : TV} {n : Nat} (hm : (a, v, n) ∈ es0) : ∃ k, a = .i .i64 k /\ (k, v) ∈ es := by
 have := h.perm.mem_iff.1 (List.mem_map.2 ⟨_, hm, rfl⟩)
 obtain ⟨p, hp, he⟩ := List.mem_map.1 this
 simp only [Prod.mk.injEq] at he
 obtain ⟨h1, h2⟩ := he
 exact ⟨p.1, h1.symm, by rw [<- h2]; exact hp⟩

theorem Stamped.mem' {es0 : List (TV × TV × Nat)} {es : List (Int × TV)} {ck : Nat} (h : Stamped es0 es ck) {k : Int} {v : TV} (hm : (k, v) ∈ es) : ∃ n, (TV.i .i64 k, v, n) ∈ es0 := by
 have := h.perm.mem_iff.2 (List.mem_map.2 ⟨_, hm, rfl⟩)
 obtain ⟨p, hp, he⟩ := List.mem_map.1 this
 obtain ⟨a, b, c⟩ := p
 simp only [Prod.mk.injEq] at he
 obtain ⟨rfl, rfl⟩ := he
 exact ⟨c, hp⟩

theorem findK_int {k : Int} : ∀ {es0 : List (TV × TV × Nat)}, (∀ e ∈ es0, ∃ j, e.1 = .i .i64 j) ->
  (findK .int (.i .i64 k) es0 = some none /\ ∀ e ∈ es0, e.1 ≠ .i .i64 k) \/ ∃ l1 l2 v b, es0 = l1 ++ (.i .i64 k, v, b) :: l2 /\ findK .int (.i .i64 k) es0 = some (some (l1.length, v))
 | [], _ => .inl ⟨rfl, by simp⟩
 | (a, v, b) :: r, h => by
  obtain ⟨j, hj⟩ := h _ (List.mem_cons_self ..)
  simp only at hj
  subst hj
  simp only [findK, eqK, eqS, if_true, Option.bind_some]
  by_cases e : k = j
  ·subst e
   right
   exact ⟨[], r, v, b, rfl, by simp⟩
  ·have e' : (k == j) = false := by simpa using e
   rcases findK_int (k := k) (es0 := r) (fun e he => h e (List.mem_cons_of_mem _ he)) with ⟨h1, h2⟩ | ⟨l1, l2, v', b', h1, h2⟩
   ·left
    refine ⟨by simp [e', h1], fun x hx => ?_⟩
    rcases List.mem_cons.1 hx with rfl | hx
    ·simp; exact fun q => e q.symm
    ·exact h2 x hx
   ·right
    exact ⟨(.i .i64 j, v, b) :: l1, l2, v', b', by simp [h1], by simp [e', h2]⟩

theorem Stamped.ints {es0 : List (TV × TV × Nat)} {es : List (Int × TV)} {ck : Nat} (h : Stamped es0 es ck) : ∀ e ∈ es0, ∃ j, e.1 = .i .i64 j := fun e he => by
 obtain ⟨a, v, n⟩ := e
 obtain ⟨k, rfl, _⟩ := h.mem he
 exact ⟨k, rfl⟩

theorem Stamped.look {es0 : List (TV × TV × Nat)} {es : List (Int × TV)} {ck : Nat} (h : Stamped es0 es ck) (k : Int) : ∃ r, findK .int (.i .i64 k) es0 = some r /\ r.map (·.2) = lookS k es := by
 rcases findK_int (k := k) h.ints with ⟨h1, h2⟩ | ⟨l1, l2, v, b, h1, h2⟩
 ·refine ⟨none, h1, ?_⟩
  cases hl : lookS k es with
  | none => rfl
  | some v =>
   obtain ⟨n, hn⟩ := h.mem' ((lookS_some h.rise).1 hl)
   exact absurd rfl (h2 _ hn)
 ·refine ⟨_, h2, ?_⟩
  have hm : (TV.i .i64 k, v, b) ∈ es0 := by rw [h1]; simp
  obtain ⟨k', e, hk⟩ := h.mem hm
  injection e with _ e
  subst e
  simp [(lookS_some h.rise).2 hk]

theorem modify_mid {α : Type} : ∀ (l1 : List α) (x : α) (l2 : List α) (f : α -> α), (l1 ++ x :: l2).modify l1.length f = l1 ++ f x :: l2
 | [], x, l2, f => by simp
 | a :: l1, x, l2, f => by simp [modify_mid l1 x l2 f]

theorem Stamped.ins {es0 : List (TV × TV × Nat)} {es : List (Int × TV)} {ck : Nat} (h : Stamped es0 es ck) (k : Int) (v : TV) :
  ∃ r es0' ck', findK .int (.i .i64 k) es0 = some r /\ (match r with | some (i, _) => es0' = es0.modify i (fun e => (.i .i64 k, v, e.2.2)) /\ ck' = ck | none => es0' = es0 ++ [(.i .i64 k, v, ck)] /\ ck' = ck + 1) /\
   ck' = (if (lookS k es).isSome then ck else ck + 1) /\ Stamped es0' (insS k v es) ck' := by
 rcases findK_int (k := k) h.ints with ⟨h1, h2⟩ | ⟨l1, l2, v0, b, h1, h2⟩
 ·have hl : lookS k es = none := by
   cases hl : lookS k es with
   | none => rfl
   | some v =>
    obtain ⟨n, hn⟩ := h.mem' ((lookS_some h.rise).1 hl)
    exact absurd rfl (h2 _ hn)
  refine ⟨none, _, _, h1, ⟨rfl, rfl⟩, by simp [hl], ?_, insS_rise h.rise, ?_, ?_⟩
  ·rw [List.map_append]
   refine (List.perm_append_comm.trans ?_).trans ((insS_new h.rise hl).map fun e => (TV.i .i64 e.1, e.2)).symm
   simpa using h.perm.cons (TV.i .i64 k, v)
  ·rw [List.map_append]
   refine List.nodup_append.2 ⟨h.nodup, by simp, ?_⟩
   intro a ha b hb
   obtain ⟨e, he, rfl⟩ := List.mem_map.1 ha
   have := h.lt e he
   simp at hb
   omega
  ·intro e he
   rcases List.mem_append.1 he with he | he
   ·have := h.lt e he; omega
   ·simp at he; subst he; simp
 ·have hm : (TV.i .i64 k, v0, b) ∈ es0 := by rw [h1]; simp
  obtain ⟨k', e, hk⟩ := h.mem hm
  injection e with _ e
  subst e
  have hl := (lookS_some h.rise).2 hk
  obtain ⟨m1, m2, e1, e2⟩ := insS_old (v := v) h.rise hl
  have hmod : es0.modify l1.length (fun e => (TV.i .i64 k, v, e.2.2)) = l1 ++ (TV.i .i64 k, v, b) :: l2 := by
   rw [h1]; exact modify_mid l1 _ l2 _
  refine ⟨_, _, _, h2, ⟨rfl, rfl⟩, by simp [hl], ?_, insS_rise h.rise, ?_, ?_⟩
  ·rw [hmod, e2]
   have hp := h.perm
   rw [h1, e1] at hp
   simp only [List.map_append, List.map_cons] at hp ⊢
   have q1 := (List.perm_middle.symm.trans hp).trans List.perm_middle
   exact (List.perm_middle.trans (q1.cons_inv.cons _)).trans List.perm_middle.symm
  ·rw [hmod]
   have := h.nodup
   rw [h1] at this
   simpa using this
  ·rw [hmod]
   intro e he
   have hlt := h.lt
   rw [h1] at hlt
   rcases List.mem_append.1 he with he | he
   ·exact hlt e (by simp [he])
   ·rcases List.mem_cons.1 he with rfl | he
    ·exact hlt (.i .i64 k, v0, b) (by simp)
    ·exact hlt e (by simp [he])

variable {P : Program} {B : Nat} {π : PMap} {H : Heap} {w : World} {av ex : Nat -> Prop}

theorem HRel.reobj (h : HRel P B π H w av ex) {id : Nat} {o o' : AObj} (hi : H[id]? = some o) (hd : o ≠ .dead) (hr : ∀ g sh ob, π id = some (g, sh) -> w.heap[g]? = some ob -> ORel P π w av ex sh o ob -> ORel P π w av ex sh o' ob) : HRel P B π (H.set id o') w av ex := by
 have hlt : id < H.length := (List.getElem?_eq_some_iff.1 hi).1
 have hidx : ∀ i oo, (H.set id o')[i]? = some oo -> (i ≠ id /\ H[i]? = some oo) \/ (i = id /\ oo = o') := by
  intro i oo hh
  rw [List.getElem?_set] at hh
  by_cases he : id = i
  ·subst he; simp [hlt] at hh; exact .inr ⟨rfl, hh.symm⟩
  ·rw [if_neg he] at hh; exact .inl ⟨fun x => he x.symm, hh⟩
 refine ⟨?_, ?_, h.avb, h.exb, h.bsz⟩
 ·intro i g sh oo hp hh hdd
  rcases hidx i oo hh with ⟨hne, hq⟩ | ⟨rfl, rfl⟩
  ·exact h.obj i g sh oo hp hq hdd
  ·obtain ⟨h1, h2, ob, h3, h4⟩ := h.obj i g sh o hp hi hd
   exact ⟨h1, h2, ob, h3, hr g sh ob hp h3 h4⟩
 ·intro i i' g s1 s2 o1 o2 hp1 hh1 hd1 hp2 hh2 hd2
  rcases hidx i o1 hh1 with ⟨hn1, hq1⟩ | ⟨rfl, rfl⟩ <;> rcases hidx i' o2 hh2 with ⟨hn2, hq2⟩ | ⟨rfl, rfl⟩
  ·exact h.inj i i' g s1 s2 o1 o2 hp1 hq1 hd1 hp2 hq2 hd2
  ·exact h.inj i i' g s1 s2 o1 o hp1 hq1 hd1 hp2 hi hd
  ·exact h.inj i i' g s1 s2 o o2 hp1 hi hd hp2 hq2 hd2
  ·rfl

theorem HRel.stamps (h : HRel P B π H w av ex) {id g sh : Nat} {es : List (Int × TV)} {ck : Nat} (hp : π id = some (g, sh)) (hi : H[id]? = some (.mapS es ck)) :
  ∃ es0, Stamped es0 es ck /\ HRel P B π (H.set id (.map es0 ck)) w av ex /\ sh = 0 /\ av g /\ B <= g /\ ∃ ces, w.heap[g]? = some (.map ces ck) /\ EsRel π w av ex es0 ces.toList := by
 obtain ⟨hB, hav, ob, hb, ho⟩ := h.obj id g sh _ hp hi (by simp)
 cases ob <;> simp only [ORel] at ho
 rename_i ces ck'
 obtain ⟨h1, rfl, es0, h2, h3⟩ := ho
 refine ⟨es0, h2, h.reobj hi (by simp) ?_, h1, hav, hB, ces, hb, h3⟩
 intro g' sh' ob' hp' hb' ho'
 rw [hp] at hp'
 simp only [Option.some.injEq, Prod.mk.injEq] at hp'
 obtain ⟨rfl, rfl⟩ := hp'
 rw [hb] at hb'
 injection hb' with hb'
 subst hb'
 exact ⟨h1, rfl, h3⟩

theorem lkS_sound (hH : HRel P B π H w av ex) {z : TV} {ok : Bool} {m k t : TV} {um uk : Value} {H' : Heap} {ty kty ety : TypeId} (hd : dk (.lkS z ok) [m, k] H = some (t, H')) (hm : VRel π w av ex m um) (hx : VRel π w av ex k uk)
  (hu : P.underlying ty = some (.map kty ety)) (hk : keyT P kty .int = true) {i : TypeInfo} {zv : Value} (hi : P.info? ety = some i) (hz : i.zero = some zv) (hzv : chkV z zv = true) :
  H' = H /\ ∃ v, (Instr.lookup ty um uk ok).run P w = .ok v w /\ VRel π w av ex t v := by
 simp only [dk] at hd
 split at hd <;> try (cases hd; done)
 rename_i id n
 split at hd <;> try (cases hd; done)
 rename_i es ck hes
 cases hm with
 | mp _ g hp =>
  obtain ⟨es0, hs, hH0, _⟩ := hH.stamps hp hes
  obtain ⟨r, h1, h2⟩ := hs.look n
  have hlt : id < H.length := (List.getElem?_eq_some_iff.1 hes).1
  have hgoal : H' = H /\ dk (.lkp .int z ok) [.mp id, .i .i64 n] (H.set id (.map es0 ck)) = some (t, H.set id (.map es0 ck)) := by
   cases r with
   | none =>
    have h2 : lookS n es = none := by simpa using h2.symm
    rw [h2] at hd
    simp only [Option.some.injEq, Prod.mk.injEq] at hd
    refine ⟨hd.2.symm, ?_⟩
    simp [dk, hlt, eqK, eqS, h1, hd.1]
   | some r =>
    obtain ⟨j, v⟩ := r
    have h2 : lookS n es = some v := by simpa using h2.symm
    rw [h2] at hd
    simp only [Option.some.injEq, Prod.mk.injEq] at hd
    refine ⟨hd.2.symm, ?_⟩
    simp [dk, hlt, eqK, eqS, h1, hd.1]
  exact ⟨hgoal.1, (lkp_sound hH0 hgoal.2 (.mp id g hp) hx hu hk hi hz hzv).2⟩

theorem setS_sound (hH : HRel P B π H w av ex) {m k v t : TV} {um uk uv : Value} {H' : Heap} {ty kty ety : TypeId} (hd : dk .setS [m, k, v] H = some (t, H')) (hm : VRel π w av ex m um) (hx : VRel π w av ex k uk) (hv : VRel π w av ex v uv)
  (hu : P.underlying ty = some (.map kty ety)) (hk : keyT P kty .int = true) :
  t = .undef /\ H'.length = H.length /\ ∃ g w', av g /\ B <= g /\ (Instr.mapUpdate ty um uk uv).run P w = .ok () w' /\ Ev (only g) π w av π w' av /\ HRel P B π H' w' av ex := by
 cases m <;> (try (simp only [dk] at hd; cases hd; done))
 cases k <;> (try (simp only [dk] at hd; cases hd; done))
 rename_i id kk n
 cases kk <;> (try (simp only [dk] at hd; cases hd; done))
 simp only [dk] at hd
 split at hd <;> try (cases hd; done)
 rename_i es ck hes
 simp only [Option.some.injEq, Prod.mk.injEq] at hd
 obtain ⟨rfl, rfl⟩ := hd
 cases hm with
 | mp _ g hp =>
  obtain ⟨es0, hs, hH0, _⟩ := hH.stamps hp hes
  obtain ⟨r, es0', ck', h1, h2, h3, h4⟩ := hs.ins n v
  have hlt : id < H.length := (List.getElem?_eq_some_iff.1 hes).1
  have hd0 : dk (.mset .int) [.mp id, .i .i64 n, v] (H.set id (.map es0 ck)) = some (.undef, (H.set id (.map es0 ck)).set id (.map es0' ck')) := by
   cases r with
   | none => obtain ⟨rfl, rfl⟩ := h2; simp [dk, hlt, eqK, eqS, h1]
   | some r => obtain ⟨j, v'⟩ := r; obtain ⟨rfl, rfl⟩ := h2; simp [dk, hlt, eqK, eqS, h1]
  obtain ⟨_, g', w', q1, q2, q3, q4, q5⟩ := mset_sound hH0 hd0 (.mp id g hp) hx hv hu hk
  refine ⟨rfl, by simp, g', w', q1, q2, q3, q4, ?_⟩
  have := q5.reobj (id := id) (o := .map es0' ck') (o' := .mapS (insS n v es) ck') (by simp [hlt]) (by simp) (fun g sh ob _ _ ho => by
   cases ob <;> simp only [ORel] at ho ⊢
   exact ⟨ho.1, ho.2.1, es0', h4, ho.2.2⟩)
  rw [<- h3]
  simpa using this

theorem rngS_sound (wr : Nat -> Prop) (hH : HRel P B π H w av ex) (hf : π H.length = none) {m t : TV} {um : Value} {H' : Heap} {ty kty ety : TypeId} (hd : dk .rngS [m] H = some (t, H')) (hm : VRel π w av ex m um) (hu : P.underlying ty = some (.map kty ety)) :
  ∃ v w' π' av', (Instr.range ty um).run P w = .ok v w' /\ VRel π' w' av' ex t v /\ Res P B wr π H w av ex H' w' π' av' := by
 cases m <;> (try (simp only [dk] at hd; cases hd; done))
 rename_i id
 simp only [dk] at hd
 split at hd <;> try (cases hd; done)
 rename_i es ck hes
 simp only [Option.some.injEq, Prod.mk.injEq] at hd
 obtain ⟨rfl, rfl⟩ := hd
 cases hm with
 | mp _ g hp =>
  obtain ⟨es0, _, _, _, _, _, ces, hb, _⟩ := hH.stamps hp hes
  have hg : (getObj g).run P w = .ok (.map ces ck) w := by simp [getObj, Sem.run, hb]
  refine ⟨.pointer (some ⟨w.heap.size, 0, none⟩), _, _, _, ?_, .ref H.length 0 w.heap.size 0 (PMap.add_self _ _ _), Res.new wr hH hf (.mapIter (some g) ck #[] ck) (.iter id ck) (by simp) fun π' w' av' e => ⟨rfl, rfl, rfl, rfl, g, rfl, e.map _ _ hp⟩⟩
  simp [Instr.range, run_underlying hu, hg]

theorem clr_sound (hH : HRel P B π H w av ex) {z : List TV} {x t : TV} {u : Value} {H' : Heap} {ats : Array TypeId} {t0 e ty : TypeId} (hd : dk (.clr z) [x] H = some (t, H')) (hx : VRel π w av ex x u)
  (h0 : ats[0]? = some t0) (hu : P.underlying t0 = some (.slice e)) (hz : zeroOk P e z = true) :
  t = .tup [] /\ H'.length = H.length /\ ∃ w', (Builtin.clear_ ats ty #[u]).run P w = .ok (.tuple #[]) w' /\ (w' = w /\ H' = H \/ ∃ g, av g /\ B <= g /\ Ev (only g) π w av π w' av) /\ HRel P B π H' w' av ex := by
 unfold zeroOk at hz
 cases hi : P.info? e with
 | none => simp [hi] at hz
 | some i =>
  rw [hi] at hz
  simp only at hz
  split at hz <;> try (cases hz; done)
  rename_i zv hzv
  simp only [Bool.and_eq_true] at hz
  have hzr : VsRel π w av ex z zv.cells.toList := chkVs_sound hz.1
  have hzrun : (zeroValue e).run P w = .ok zv w := by simp [zeroValue, typeInfo, hi, hzv]
  simp only [dk] at hd
  split at hd <;> try (cases hd; done)
  ·simp only [Option.some.injEq, Prod.mk.injEq] at hd
   obtain ⟨rfl, rfl⟩ := hd
   cases hx
   exact ⟨rfl, rfl, w, by simp [Builtin.clear_, h0, run_underlying hu], .inl ⟨rfl, rfl⟩, hH⟩
  ·simp only [Option.some.injEq, Prod.mk.injEq] at hd
   obtain ⟨rfl, rfl⟩ := hd
   cases hx
   exact ⟨rfl, rfl, w, by simp [Builtin.clear_, h0, run_underlying hu], .inl ⟨rfl, rfl⟩, hH⟩
  ·rename_i id off sz ag len cap
   split at hd
   ·rename_i hl
    subst hl
    simp only [Option.some.injEq, Prod.mk.injEq] at hd
    obtain ⟨rfl, rfl⟩ := hd
    cases hx <;> exact ⟨rfl, rfl, w, by simp [Builtin.clear_, h0, run_underlying hu], .inl ⟨rfl, rfl⟩, hH⟩
   ·rename_i hl
    split at hd <;> try (cases hd; done)
    rename_i c ag' hc
    split at hd <;> try (cases hd; done)
    rename_i hcc
    obtain ⟨c1, c2, c3⟩ := hcc
    simp only [Option.some.injEq, Prod.mk.injEq] at hd
    obtain ⟨rfl, rfl⟩ := hd
    cases hx with
    | sl0 => exact absurd rfl hl
    | sl _ _ _ _ _ _ g sh cp cc el fr hp hb hle hcap hs =>
     have hzs := zeros_sound hzr len
     obtain ⟨w', q1, q2, q3⟩ := write_sound hH (off := off) hp hc hzs (repl_one c2 len) (by rw [repl_length, <- c1]; exact c3)
     obtain ⟨hB, hav, _⟩ := hH.obj id g sh _ hp hc (by simp)
     refine ⟨rfl, by simp, w', ?_, .inr ⟨g, hav, hB, q2⟩, q3⟩
     obtain ⟨len, rfl⟩ : ∃ n, len = n + 1 := ⟨len - 1, by omega⟩
     simp only [Builtin.clear_, h0]
     simp [run_underlying hu, hzrun, Builtin.zeroCells] at q1 ⊢
     simp [q1]

theorem run_appz {ats : Array TypeId} {ty t t2 e : TypeId} {i : TypeInfo} {k2 : IntKind} (h0 : ats[0]? = some t) (h1 : ats[1]? = some t2) (ht : P.underlying t = some (.slice e)) (ht2 : P.underlying t2 = some (.int k2)) (hi : P.info? e = some i) {z : Value} (hz : i.zero = some z)
  {n : Nat} (hn : 0 < n) (hfit : n * i.bytes <= 140737488355328) (hb : 0 < i.bytes) (hsz : i.size = z.cells.size) (hs0 : 0 < i.size) :
  (Builtin.append_ ats ty #[.slice none 0 0, .int .i64 (n : Int)]).run P w =
   .ok (.slice (some ⟨w.heap.size, 0, none⟩) n (grownCap w n 0 e)) (w.drew.alloc (.cells (Builtin.zeroCells z.cells n ++ Builtin.zeroCells z.cells (grownCap w n 0 e - n)) e)) := by
 have h63 : n <= 140737488355328 := Nat.le_trans (Nat.le_mul_of_pos_right _ hb) hfit
 have hw : IntKind.i64.wrap (n : Int) = (n : Int) := by simp [IntKind.wrap, IntKind.signed, IntKind.bits]; omega
 have hnn : ¬ ((n : Int) < 0) := by omega
 have hcast : (n : Int) * (i.bytes : Int) = ((n * i.bytes : Nat) : Int) := by simp
 have h48 : ¬ ((281474976710656 : Int) < (n : Int) * (i.bytes : Int)) := by rw [hcast]; omega
 have h48n := growslice_fits (need := n) (old := 0) (bytes := i.bytes) hn hfit
 have hn1 : ¬ (n <= 0) := by omega
 have h63' : ¬ (9223372036854775807 < (n : Int)) := by omega
 have hne : ¬ (n = 0) := by omega
 have hse : ¬ (i.size = 0) := by omega
 have h48' : ¬ (281474976710656 < Builtin.nextslicecap n 0 * i.bytes) := by simpa using h48n
 have hbe : ¬ (i.bytes = 0) := by omega
 simp [Builtin.append_, h0, h1, run_underlying ht, run_underlying ht2, sizeOf, typeInfo, zeroValue, hi, hz, asInt, asIntOf_int, hw, hnn, h48, hn1, h63', h48', hne, hse, hbe, Builtin.firstCells, Question.forced, newRow, grownCap]
 intro h0
 exact absurd h0 (Nat.ne_of_gt (Nat.mul_pos hn hs0))

theorem appz_sound (hH : HRel P B π H w av ex) {z : List TV} {ag : Bool} {bytes : Nat} {s x t : TV} {us ux : Value} {H' : Heap} (hfr : H.length < H'.length -> π H.length = none) {ats : Array TypeId} {ty tt t2 e : TypeId} {k2 : IntKind} (hd : dk (.appz z ag bytes) [s, x] H = some (t, H'))
  (hs : VRel π w av ex s us) (hx : VRel π w av ex x ux) (h0 : ats[0]? = some tt) (h1 : ats[1]? = some t2) (ht : P.underlying tt = some (.slice e)) (ht2 : P.underlying t2 = some (.int k2)) (hz : zeroOk P e z = true) (hty : tyOk P e z.length ag = true) (hby : ((P.info? e).map (·.bytes)) = some bytes) :
  ∃ v w' π' av', (Builtin.append_ ats ty #[us, ux]).run P w = .ok v w' /\ VRel π' w' av' ex t v /\ Res P B (wrK B av true) π H w av ex H' w' π' av' := by
 unfold zeroOk at hz
 cases hi : P.info? e with
 | none => simp [hi] at hz
 | some i =>
  rw [hi] at hz
  simp only at hz
  split at hz <;> try (cases hz; done)
  rename_i zv hzv
  simp only [Bool.and_eq_true] at hz
  have hzr : VsRel π w av ex z zv.cells.toList := chkVs_sound hz.1
  have hzl : z.length = zv.cells.size := by simpa using hzr.length
  have hsz : i.size = z.length := by have := tyOk.sz hty; simp [szT, hi] at this; exact this
  have hbb : i.bytes = bytes := by simpa [hi] using hby
  cases s <;> (try (simp only [dk] at hd; cases hd; done))
  cases x <;> (try (simp only [dk] at hd; cases hd; done))
  rename_i kk n
  cases kk <;> (try (simp only [dk] at hd; cases hd; done))
  simp only [dk] at hd
  split at hd <;> try (cases hd; done)
  rename_i hc
  obtain ⟨c1, c2, c3, c4, c5⟩ := hc
  simp only [Option.some.injEq, Prod.mk.injEq] at hd
  obtain ⟨rfl, rfl⟩ := hd
  cases hs
  cases hx
  obtain ⟨m, rfl⟩ : ∃ m : Nat, n = (m : Int) := ⟨n.toNat, by omega⟩
  have hm : 0 < m := by omega
  have hfit : m * i.bytes <= 140737488355328 := by rw [hbb]; exact Int.ofNat_le.1 (by rw [Int.natCast_mul]; exact c2)
  have hr := run_appz (w := w) (ty := ty) h0 h1 ht ht2 hi hzv hm hfit (by omega) (by omega) (by omega)
  have hzs := zeros_sound hzr m
  obtain ⟨π', av', g1, g2⟩ := grown_sound (H0 := H) (l := 0) (n := m) (sz := z.length) (z := zv) true hH rfl hH (hfr (by simp)) (e := e) (cap := grownCap w (0 + m) 0 e) ag .nil hzs rfl (repl_one c5 m) (by simp) (by rw [repl_length]) (by omega) (by have := grownCap_ge w (0 + m) 0 e; omega)
  have e1 : ∀ X : Array Value, ([] : List Value).toArray ++ ((Array.range (m * zv.cells.size)).map (zv.cells[· % zv.cells.size]!)).toList.toArray ++ X = Builtin.zeroCells zv.cells m ++ X := fun X => by rw [Array.toArray_toList]; show #[] ++ _ ++ X = _; rw [Array.empty_append]; rfl
  simp only [e1, Nat.zero_add, List.nil_append] at g1 g2
  exact ⟨_, _, π', av', hr, g1, g2⟩

end Go.Dn

/-
 Operations: all of them.
-/

namespace Go.Dn

variable {P : Program} {B : Nat} {π : PMap} {H : Heap} {w : World} {av ex : Nat -> Prop}

theorem EsRel.length : ∀ {es : List (TV × TV × Nat)} {ces : List MapEntry}, EsRel π w av ex es ces -> es.length = ces.length
 | [], [], _ => rfl
 | _ :: _, _ :: _, h => by simp [EsRel.length h.2.2.2]
 | [], _ :: _, h => h.elim
 | _ :: _, [], h => h.elim

theorem len_sound (hH : HRel P B π H w av ex) {kd : Nat} {x : TV} {u : Value} {n : Nat} {ats : Array TypeId} {ty : TypeId} (hn : lenK kd x H = some n) (hx : VRel π w av ex x u)
  (ht : lenT P ats kd = true) :
  (Builtin.len_ ats ty #[u]).run P w = .ok (goInt n) w := by
 unfold lenT at ht
 cases h0 : ats[0]? with
 | none => rw [h0] at ht; simp at ht
 | some t0 =>
  rw [h0, Option.bind_some] at ht
  revert hn
  split at ht <;> (try (cases ht; done))
  ·rename_i e hd
   intro hn
   cases hx <;> simp only [lenK] at hn <;> (try (cases hn; done)) <;> (injection hn with hn; subst hn; simp [Builtin.len_, h0, run_underlying hd])
  ·rename_i hd
   intro hn
   cases hx <;> simp only [lenK] at hn <;> (try (cases hn; done)) <;> (injection hn with hn; subst hn; simp [Builtin.len_, h0, run_underlying hd])
  ·rename_i k e hd
   intro hn
   cases hx <;> simp only [lenK] at hn <;> (try (cases hn; done))
   case nilmap => injection hn with hn; subst hn; simp [Builtin.len_, h0, run_underlying hd]
   case mp id g hp =>
    split at hn <;> try (cases hn; done)
    rename_i es ck hi
    injection hn with hn
    obtain ⟨_, _, ob, hb, ho⟩ := hH.obj id g 0 _ hp hi (by simp)
    cases ob <;> simp only [ORel] at ho
    rename_i ces ck'
    have := EsRel.length ho.2.2
    have hg : (getObj g).run P w = .ok (.map ces ck') w := by simp [getObj, Sem.run, hb]
    have e : n = ces.size := by rw [<- hn, this]; simp
    subst e
    simp [Builtin.len_, h0, run_underlying hd, hg]

theorem fold_sound {f : Int -> Int -> Int} {g : Value -> Value -> Sem Value} (hg : ∀ k a b w', (g (.int k a) (.int k b)).run P w' = .ok (.int k (f a b)) w') :
  ∀ {xs : List TV} {x t : TV} {u : Value} {us : List Value} (w' : World), foldI f x xs = some t -> VRel π w av ex x u -> VsRel π w av ex xs us -> ∃ v, (us.foldlM g u).run P w' = .ok v w' /\ VRel π w av ex t v
 | [], x, t, u, us, w', h, hx, hs => by
  cases hs
  cases hx <;> simp only [foldI] at h <;> try (cases h; done)
  injection h with h
  subst h
  exact ⟨_, by simp, .i _ _⟩
 | y :: ys, x, t, u, us, w', h, hx, hs => by
  cases hs with | cons _ v _ vs hv hvs =>
  cases hx <;> cases hv <;> simp only [foldI] at h <;> try (cases h; done)
  split at h <;> try (cases h; done)
  rename_i hk
  subst hk
  obtain ⟨v, hr, hv⟩ := fold_sound hg w' h (.i _ _) hvs
  exact ⟨v, by simp [List.foldlM_cons, hg, hr], hv⟩

theorem OpOk.val {W : Bool} {s : Sem Value} {t : TV} {H' : Heap} (h : ∃ v w' π' av', s.run P w = .ok v w' /\ VRel π' w' av' ex t v /\ Res P B (wrK B av W) π H w av ex H' w' π' av') :
  OpOk P B W π H w av ex ((do Pure.pure (Next.value (<- s)) : Sem Next).run P w) t H' := by
 obtain ⟨v, w', π', av', h1, h2, h3⟩ := h
 exact ⟨.value v, w', π', av', by simp [h1], .inl ⟨v, rfl, h2⟩, h3⟩

theorem OpOk.val0 {W : Bool} (hH : HRel P B π H w av ex) {s : Sem Value} {t : TV} {H' : Heap} (h : H' = H /\ ∃ v, s.run P w = .ok v w /\ VRel π w av ex t v) :
  OpOk P B W π H w av ex ((do Pure.pure (Next.value (<- s)) : Sem Next).run P w) t H' := by
 obtain ⟨rfl, v, h1, h2⟩ := h
 exact OpOk.val ⟨v, w, π, av, h1, h2, Res.same _ hH⟩

theorem OpOk.unit (s : Sem Unit) {t : TV} {H' : Heap} (h : t = .undef /\ ∃ g w', av g /\ B <= g /\ s.run P w = .ok () w' /\ Ev (only g) π w av π w' av /\ HRel P B π H' w' av ex) (hl : H.length <= H'.length) :
  OpOk P B true π H w av ex ((do s; Pure.pure Next.skip : Sem Next).run P w) t H' := by
 obtain ⟨rfl, g, w', ha, hB, hr, he, hh⟩ := h
 exact ⟨.skip, w', π, av, by simp [hr], .inr ⟨rfl, rfl⟩, ⟨he.wider fun x hx => by rw [show x = g from hx]; exact ⟨rfl, ha, hB⟩, hh, fun _ x => absurd rfl x, fun _ x => x, hl, fun _ _ _ x => absurd rfl x⟩⟩

theorem VRel.b_inv {x : Bool} {u : Value} (h : VRel π w av ex (.b x) u) : u = .bool x := by cases h; rfl
theorem VRel.i_inv {k : IntKind} {n : Int} {u : Value} (h : VRel π w av ex (.i k n) u) : u = .int k n := by cases h; rfl
theorem VRel.s_inv {x : ByteArray} {u : Value} (h : VRel π w av ex (.s x) u) : u = .string x := by cases h; rfl
theorem VRel.agg_inv {l : List TV} {u : Value} (h : VRel π w av ex (.agg l) u) : ∃ cs, u = .agg cs /\ VsRel π w av ex l cs.toList := by cases h; exact ⟨_, rfl, by assumption⟩
theorem VRel.tup_inv {l : List TV} {u : Value} (h : VRel π w av ex (.tup l) u) : ∃ cs, u = .tuple cs /\ VsRel π w av ex l cs.toList := by cases h; exact ⟨_, rfl, by assumption⟩

theorem map_pair {α : Type} {x : Option α} {f : α -> TV} {t : TV} {H' : Heap} (h : (x.map fun v => (f v, H)) = some (t, H')) : H' = H /\ x.map f = some t := by
 cases x with
 | none => cases h
 | some v => simp only [Option.map_some, Option.some.injEq, Prod.mk.injEq] at h; exact ⟨h.2.symm, by simp [h.1]⟩

set_option maxHeartbeats 1000000 in
theorem dk_sound (hH : HRel P B π H w av ex) {k : DK} {a : List Opnd} {o : Oper} {vs : List TV} {t : TV} {H' : Heap} {ρ : Operand -> Value} (hf : H.length < H'.length -> π H.length = none)
  (hd : dk k vs H = some (t, H')) (hc : chkK P k a o.op = true) (hv : ∀ xs, chkOs a xs = true -> VsRel π w av ex vs (xs.map ρ)) : OpOk P B k.W π H w av ex ((execOp ρ o).run P w) t H' := by
 generalize hop : o.op = op at hc
 unfold execOp
 rw [hop]
 cases k <;> cases op <;> simp only [chkK, Bool.and_eq_true, Bool.false_eq_true, decide_eq_true_eq, beq_iff_eq] at hc <;> (try (cases hc; done)) <;> (try (simp only [dk] at hd; cases hd; done)) <;> dsimp only
 case mv.move x =>
  obtain ⟨y, rfl, h1⟩ := (hv _ hc).inv1
  simp only [dk, Option.some.injEq, Prod.mk.injEq] at hd
  obtain ⟨rfl, rfl⟩ := hd
  exact OpOk.pure hH (v := ρ x) rfl h1
 case mv.assign x =>
  obtain ⟨y, rfl, h1⟩ := (hv _ hc).inv1
  simp only [dk, Option.some.injEq, Prod.mk.injEq] at hd
  obtain ⟨rfl, rfl⟩ := hd
  exact OpOk.pure hH (v := ρ x) rfl h1
 case pick.pick c x y =>
  obtain ⟨p, q, r, rfl, h1, h2, h3⟩ := (hv _ hc).inv3
  cases p <;> simp only [dk] at hd <;> try (cases hd; done)
  rename_i b
  simp only [Option.some.injEq, Prod.mk.injEq] at hd
  obtain ⟨rfl, rfl⟩ := hd
  refine OpOk.pure hH (v := if b then ρ x else ρ y) ?_ ?_
  ·simp [h1.b_inv, asBool]
  ·cases b
   ·simpa using h3
   ·simpa using h2
 case binI.binOp bop bop' ty x y yt =>
  obtain ⟨rfl, hc⟩ := hc
  obtain ⟨p, q, rfl, h1, h2⟩ := (hv _ hc).inv2
  simp only [dk, Option.map_eq_some_iff, Prod.mk.injEq] at hd
  obtain ⟨v, hb, rfl, rfl⟩ := hd
  obtain ⟨z, hz, hr⟩ := binI_sound (P := P) (w := w) (ty := ty) (ox := x) (oy := y) hb h1 h2
  exact OpOk.val0 hH ⟨rfl, z, hz, hr⟩
 case eqB.binOp neg bop ty x y yt =>
  obtain ⟨⟨rfl, hc⟩, ht⟩ := hc
  obtain ⟨p, q, rfl, h1, h2⟩ := (hv _ hc).inv2
  cases p <;> cases q <;> simp only [dk] at hd <;> try (cases hd; done)
  simp only [Option.some.injEq, Prod.mk.injEq] at hd
  obtain ⟨rfl, rfl⟩ := hd
  rw [h1.b_inv, h2.b_inv]
  split at ht <;> try (cases ht; done)
  exact OpOk.val0 hH ⟨rfl, _, eqB_sound (by assumption), .b _⟩
 case eqN.binOp kd neg bop ty x y yt =>
  obtain ⟨⟨rfl, hc⟩, ht⟩ := hc
  obtain ⟨p, q, rfl, h1, h2⟩ := (hv _ hc).inv2
  simp only [dk, Option.bind_eq_some_iff] at hd
  obtain ⟨b1, hb1, b2, hb2, hd⟩ := hd
  split at hd <;> try (cases hd; done)
  rename_i hpq
  simp only [Option.some.injEq, Prod.mk.injEq] at hd
  obtain ⟨rfl, rfl⟩ := hd
  exact OpOk.val0 hH ⟨rfl, _, eqN_sound ht hb1 hb2 hpq h1 h2, .b _⟩
 case eqA.binOp neg ks bop ty x y yt =>
  obtain ⟨⟨⟨rfl, hc⟩, ht⟩, hg⟩ := hc
  obtain ⟨p, q, rfl, h1, h2⟩ := (hv _ hc).inv2
  cases p <;> cases q <;> simp only [dk] at hd <;> try (cases hd; done)
  simp only [Option.map_eq_some_iff, Prod.mk.injEq] at hd
  obtain ⟨e, he, rfl, rfl⟩ := hd
  obtain ⟨us, hu, hus⟩ := h1.agg_inv
  obtain ⟨us', hu', hus'⟩ := h2.agg_inv
  rw [hu, hu']
  exact OpOk.val0 hH ⟨rfl, _, eqA_sound ht (by simpa using hg) he hus hus', .b _⟩
 case eqS.binOp neg bop ty x y yt =>
  obtain ⟨rfl, hc⟩ := hc
  obtain ⟨p, q, rfl, h1, h2⟩ := (hv _ hc).inv2
  cases p <;> cases q <;> simp only [dk] at hd <;> try (cases hd; done)
  simp only [Option.some.injEq, Prod.mk.injEq] at hd
  obtain ⟨rfl, rfl⟩ := hd
  rw [h1.s_inv, h2.s_inv]
  exact OpOk.val0 hH ⟨rfl, _, eqS_sound, .b _⟩
 case notB.unOp uop ty x =>
  cases uop <;> simp only [chkK, Bool.false_eq_true] at hc
  obtain ⟨p, rfl, h1⟩ := (hv _ hc).inv1
  cases p <;> simp only [dk] at hd <;> try (cases hd; done)
  simp only [Option.some.injEq, Prod.mk.injEq] at hd
  obtain ⟨rfl, rfl⟩ := hd
  rw [h1.b_inv]
  exact OpOk.val0 hH ⟨rfl, _, rfl, .b _⟩
 case negI.unOp k uop ty x =>
  cases uop <;> simp only [chkK, Bool.false_eq_true] at hc
  obtain ⟨p, rfl, h1⟩ := (hv _ hc).inv1
  cases p <;> simp only [dk] at hd <;> try (cases hd; done)
  split at hd <;> try (cases hd; done)
  rename_i hk
  subst hk
  simp only [Option.some.injEq, Prod.mk.injEq] at hd
  obtain ⟨rfl, rfl⟩ := hd
  rw [h1.i_inv]
  exact OpOk.val0 hH ⟨rfl, _, rfl, .i _ _⟩
 case xorI.unOp uop ty x =>
  cases uop <;> simp only [chkK, Bool.false_eq_true] at hc
  obtain ⟨p, rfl, h1⟩ := (hv _ hc).inv1
  cases p <;> simp only [dk] at hd <;> try (cases hd; done)
  simp only [Option.some.injEq, Prod.mk.injEq] at hd
  obtain ⟨rfl, rfl⟩ := hd
  rw [h1.i_inv]
  exact OpOk.val0 hH ⟨rfl, _, rfl, .i _ _⟩
 case conv.convert k sty dty x =>
  obtain ⟨⟨hc, hs⟩, ht⟩ := hc
  obtain ⟨p, rfl, h1⟩ := (hv _ hc).inv1
  cases p <;> simp only [dk] at hd <;> try (cases hd; done)
  simp only [Option.some.injEq, Prod.mk.injEq] at hd
  obtain ⟨rfl, rfl⟩ := hd
  rw [h1.i_inv]
  split at ht <;> try (cases ht; done)
  rename_i k' hu
  simp only [decide_eq_true_eq] at ht
  subst ht
  obtain ⟨d, hd⟩ := Option.isSome_iff_exists.1 hs
  refine OpOk.val0 hH ⟨rfl, _, ?_, .i _ _⟩
  simp [convert, run_underlying hd, run_underlying hu, Conv.intToInt]
 case alloc.alloc z ag ty =>
  obtain ⟨⟨hc, hz⟩, _⟩ := hc
  cases hv _ hc
  have hlt : H.length < H'.length := by
   simp only [dk, Option.some.injEq, Prod.mk.injEq] at hd
   rw [<- hd.2]; simp
  exact OpOk.val (alloc_sound _ hH (hf hlt) hd hz)
 case box.box ag ty x =>
  obtain ⟨p, rfl, h1⟩ := (hv _ hc).inv1
  have hlt : H.length < H'.length := by
   simp only [dk] at hd
   split at hd <;> try (cases hd; done)
   simp only [Option.some.injEq, Prod.mk.injEq] at hd
   rw [<- hd.2]; simp
  exact OpOk.val (box_sound _ hH (hf hlt) hd h1)
 case boxV.box ty x =>
  obtain ⟨p, rfl, h1⟩ := (hv _ hc).inv1
  exact OpOk.val (boxV_sound _ hH hd h1)
 case build.build z ps ty parts =>
  obtain ⟨⟨⟨hc, hz⟩, hp⟩, hq⟩ := hc
  exact OpOk.val0 hH (build_sound hd hz (hv _ hc) hp hq)
 case bsl.buildSlice byV z ag len ix ty len' parts =>
  obtain ⟨⟨⟨hc, rfl⟩, hix⟩, ht⟩ := hc
  split at ht <;> try (cases ht; done)
  rename_i e hu
  simp only [Bool.and_eq_true, decide_eq_true_eq] at ht
  obtain ⟨⟨hz, ht⟩, hb⟩ := ht
  exact OpOk.val (bsl_sound _ hH hf hd (hv _ hc) hix hu hz ht hb)
 case ld.load sz ag ty x =>
  obtain ⟨hc, ht⟩ := hc
  obtain ⟨p, rfl, h1⟩ := (hv _ hc).inv1
  exact OpOk.val0 hH (ld_sound hH hd h1 ht)
 case st.store sz ty x y =>
  obtain ⟨hc, ht⟩ := hc
  obtain ⟨p, q, rfl, h1, h2⟩ := (hv _ hc).inv2
  exact OpOk.unit _ (st_sound hH hd h1 h2 ht) (by
   cases p <;> simp only [dk] at hd <;> try (cases hd; done)
   split at hd <;> try (cases hd; done)
   split at hd <;> try (cases hd; done)
   simp only [Option.some.injEq, Prod.mk.injEq] at hd
   rw [<- hd.2]; simp)
 case nilck.nilCheck x =>
  obtain ⟨p, rfl, h1⟩ := (hv _ hc).inv1
  simp only [dk] at hd
  split at hd <;> (try (cases hd; done)) <;> (simp only [Option.some.injEq, Prod.mk.injEq] at hd; obtain ⟨rfl, rfl⟩ := hd; generalize ρ x = u at h1; cases h1; exact OpOk.pure hH rfl (by constructor <;> assumption))
 case mkfn.makeFunc f nf fn first captured =>
  cases fn <;> simp only [chkK, Bool.false_eq_true, Bool.and_eq_true, beq_iff_eq] at hc
  obtain ⟨⟨rfl, rfl⟩, hc⟩ := hc
  have h1 := hv _ hc
  simp only [dk] at hd
  split at hd <;> try (cases hd; done)
  rename_i hnf
  simp only [Option.some.injEq, Prod.mk.injEq] at hd
  obtain ⟨rfl, rfl⟩ := hd
  refine OpOk.pure hH (v := .func (.func f) (first.map ρ) (captured.map ρ)) rfl ?_
  have h2 := h1.take first.size
  have h3 := h1.drop first.size
  refine .fn _ _ _ _ _ ?_ ?_
  ·simpa [List.map_append, List.take_append] using h2
  ·simpa [List.map_append, List.drop_append] using h3
 case mkmap.makeMap ty r =>
  obtain ⟨hc, ht⟩ := hc
  split at ht <;> try (cases ht; done)
  rename_i kt et hu
  have h1 := hv _ hc
  have hrun : (Instr.makeMap ty (r.map ρ)).run P w = .ok (.map (some w.heap.size)) (w.alloc (.map #[] 0)) /\ t = .mp H.length /\ H' = H ++ [.map [] 0] := by
   cases r with
   | none =>
    cases h1
    simp only [dk, Option.some.injEq, Prod.mk.injEq] at hd
    exact ⟨by simp [Instr.makeMap], hd.1.symm, hd.2.symm⟩
   | some r =>
    obtain ⟨p, rfl, h2⟩ := h1.inv1
    cases p <;> simp only [dk] at hd <;> try (cases hd; done)
    simp only [Option.some.injEq, Prod.mk.injEq] at hd
    refine ⟨?_, hd.1.symm, hd.2.symm⟩
    simp [Instr.makeMap, run_underlying hu, h2.i_inv, asInt, asIntOf_int]
  obtain ⟨hr, rfl, rfl⟩ := hrun
  have hf := hf (by simp)
  exact OpOk.val ⟨_, _, _, _, hr, .mp H.length w.heap.size (PMap.add_self _ _ _), Res.new _ hH hf _ _ (by simp) fun π' w' av' e => ⟨rfl, rfl, trivial⟩⟩
 case mkS.makeMap ty r =>
  obtain ⟨hc, ht⟩ := hc
  split at ht <;> try (cases ht; done)
  rename_i kt et hu
  have h1 := hv _ hc
  have hrun : (Instr.makeMap ty (r.map ρ)).run P w = .ok (.map (some w.heap.size)) (w.alloc (.map #[] 0)) /\ t = .mp H.length /\ H' = H ++ [.mapS [] 0] := by
   cases r with
   | none =>
    cases h1
    simp only [dk, Option.some.injEq, Prod.mk.injEq] at hd
    exact ⟨by simp [Instr.makeMap], hd.1.symm, hd.2.symm⟩
   | some r =>
    obtain ⟨p, rfl, h2⟩ := h1.inv1
    cases p <;> simp only [dk] at hd <;> try (cases hd; done)
    simp only [Option.some.injEq, Prod.mk.injEq] at hd
    refine ⟨?_, hd.1.symm, hd.2.symm⟩
    simp [Instr.makeMap, run_underlying hu, h2.i_inv, asInt, asIntOf_int]
  obtain ⟨hr, rfl, rfl⟩ := hrun
  have hf := hf (by simp)
  exact OpOk.val ⟨_, _, _, _, hr, .mp H.length w.heap.size (PMap.add_self _ _ _), Res.new _ hH hf _ _ (by simp) fun π' w' av' e => ⟨rfl, rfl, [], ⟨by simp, by simp, by simp, by simp⟩, trivial⟩⟩
 case lkS.lookup z ok ty m k ok' =>
  obtain ⟨⟨hc, rfl⟩, ht⟩ := hc
  split at ht <;> try (cases ht; done)
  rename_i kty ety hu
  simp only [Bool.and_eq_true] at ht
  obtain ⟨hk, ht⟩ := ht
  split at ht <;> try (cases ht; done)
  rename_i i hi
  split at ht <;> try (cases ht; done)
  rename_i zv hzv
  obtain ⟨p, q, rfl, h1, h2⟩ := (hv _ hc).inv2
  exact OpOk.val0 hH (lkS_sound hH hd h1 h2 hu hk hi hzv ht)
 case setS.mapUpdate ty m k v =>
  obtain ⟨hc, ht⟩ := hc
  split at ht <;> try (cases ht; done)
  rename_i kty ety hu
  obtain ⟨p, q, r, rfl, h1, h2, h3⟩ := (hv _ hc).inv3
  have := setS_sound hH hd h1 h2 h3 hu ht
  exact OpOk.unit _ ⟨this.1, this.2.2⟩ (by rw [this.2.1]; exact Nat.le_refl _)
 case setS.insert ty m k v =>
  obtain ⟨hc, ht⟩ := hc
  split at ht <;> try (cases ht; done)
  rename_i kty ety hu
  obtain ⟨p, q, r, rfl, h1, h2, h3⟩ := (hv _ hc).inv3
  have := setS_sound hH hd h1 h2 h3 hu ht
  exact OpOk.unit _ ⟨this.1, this.2.2⟩ (by rw [this.2.1]; exact Nat.le_refl _)
 case rngS.range ty x =>
  obtain ⟨hc, ht⟩ := hc
  split at ht <;> try (cases ht; done)
  rename_i kty ety hu
  obtain ⟨p, rfl, h1⟩ := (hv _ hc).inv1
  have hlt : H.length < H'.length := by
   cases p <;> (try (simp only [dk] at hd; cases hd; done))
   simp only [dk] at hd
   split at hd <;> try (cases hd; done)
   simp only [Option.some.injEq, Prod.mk.injEq] at hd
   rw [<- hd.2]; simp
  exact OpOk.val (rngS_sound _ hH (hf hlt) hd h1 hu)
 case appz.call z ag bytes c =>
  obtain ⟨callee, args, argTypes⟩ := c
  cases callee <;> (try (simp only [Bool.false_eq_true] at hc; done))
  rename_i bi
  cases bi <;> (try (simp only [Bool.false_eq_true] at hc; done))
  try simp only [Bool.and_eq_true] at hc
  obtain ⟨⟨hc, ht⟩, ht2⟩ := hc
  cases h0 : argTypes[0]? with
  | none => rw [h0] at ht; simp at ht
  | some t0 =>
   rw [h0, Option.bind_some] at ht
   split at ht <;> try (cases ht; done)
   rename_i e hu
   simp only [Bool.and_eq_true, beq_iff_eq] at ht
   obtain ⟨⟨hz, hty⟩, hby⟩ := ht
   cases h1 : argTypes[1]? with
   | none => rw [h1] at ht2; simp at ht2
   | some t1 =>
    rw [h1, Option.bind_some] at ht2
    split at ht2 <;> try (cases ht2; done)
    rename_i k2 hu2
    have hvv := hv _ hc
    have hlen := hvv.length
    rcases vs with _ | ⟨p, _ | ⟨q, _ | ⟨r, rs⟩⟩⟩ <;> (try (simp only [dk] at hd; cases hd; done)) <;> (try (cases p <;> (simp only [dk] at hd; cases hd); done)) <;> (try (cases p <;> cases q <;> (simp only [dk] at hd; cases hd); done))
    simp at hlen
    obtain ⟨x, y, hxy⟩ : ∃ x y, args = #[x, y] := by
     rcases args with ⟨l⟩
     rcases l with _ | ⟨x, _ | ⟨y, _ | ⟨z, r⟩⟩⟩ <;> simp at hlen
     exact ⟨x, y, rfl⟩
    subst hxy
    obtain ⟨p', q', hpq, g1, g2⟩ := hvv.inv2
    simp only [List.cons.injEq, and_true] at hpq
    obtain ⟨rfl, rfl⟩ := hpq
    obtain ⟨v, w', π', av', r1, r2, r3⟩ := appz_sound (ty := o.type) hH hf hd g1 g2 h0 h1 hu hu2 hz hty hby
    refine ⟨.value v, w', π', av', ?_, .inl ⟨v, rfl, r2⟩, r3⟩
    simp [resolve, invoke, builtin, r1]
 case cap.call c =>
  obtain ⟨callee, args, argTypes⟩ := c
  cases callee <;> (try (simp only [Bool.false_eq_true] at hc; done))
  rename_i bi
  cases bi <;> (try (simp only [Bool.false_eq_true] at hc; done))
  try simp only [Bool.and_eq_true] at hc
  obtain ⟨hc, ht⟩ := hc
  have hvv := hv _ hc
  rcases vs with _ | ⟨p, _ | ⟨q, rs⟩⟩ <;> simp only [dk] at hd <;> try (cases hd; done)
  have hlen := hvv.length
  simp at hlen
  obtain ⟨x, hx⟩ : ∃ x, args = #[x] := by
   rcases args with ⟨l⟩
   rcases l with _ | ⟨x, _ | ⟨y, r⟩⟩ <;> simp at hlen
   exact ⟨x, rfl⟩
  subst hx
  obtain ⟨p', hp, g1⟩ := hvv.inv1
  simp only [List.cons.injEq, and_true] at hp
  subst hp
  cases h0 : argTypes[0]? with
  | none => rw [h0] at ht; simp at ht
  | some t0 =>
   rw [h0, Option.bind_some] at ht
   split at ht <;> try (cases ht; done)
   rename_i e hu
   have key : ∃ n : Nat, H' = H /\ t = .i .i64 (n : Int) /\ (Builtin.cap_ argTypes o.type #[ρ x]).run P w = .ok (goInt n) w := by
    generalize ρ x = u at g1
    split at hd <;> (try (cases hd; done)) <;> (simp only [Option.some.injEq, Prod.mk.injEq] at hd; obtain ⟨rfl, rfl⟩ := hd)
    ·cases g1; exact ⟨0, rfl, rfl, by simp [Builtin.cap_, h0, run_underlying hu]⟩
    ·cases g1; exact ⟨0, rfl, rfl, by simp [Builtin.cap_, h0, run_underlying hu]⟩
    ·cases g1 with
     | sl _ _ _ _ _ _ g sh cp cc el fr hp hb hle hcap hs =>
      have := hcap _ rfl
      subst this
      exact ⟨_, rfl, rfl, by simp [Builtin.cap_, h0, run_underlying hu]⟩
     | sl0 _ _ _ _ _ a hcap =>
      have := hcap _ rfl
      subst this
      exact ⟨0, rfl, rfl, by simp [Builtin.cap_, h0, run_underlying hu]⟩
   obtain ⟨n, rfl, rfl, hr⟩ := key
   refine OpOk.pure hH (v := goInt n) ?_ (.i _ _)
   simp [resolve, invoke, builtin, hr]
 case clr.call z c =>
  obtain ⟨callee, args, argTypes⟩ := c
  cases callee <;> (try (simp only [Bool.false_eq_true] at hc; done))
  rename_i bi
  cases bi <;> (try (simp only [Bool.false_eq_true] at hc; done))
  try simp only [Bool.and_eq_true] at hc
  obtain ⟨hc, ht⟩ := hc
  have hvv := hv _ hc
  rcases vs with _ | ⟨p, _ | ⟨q, rs⟩⟩ <;> simp only [dk] at hd <;> try (cases hd; done)
  have hlen := hvv.length
  simp at hlen
  obtain ⟨x, hx⟩ : ∃ x, args = #[x] := by
   rcases args with ⟨l⟩
   rcases l with _ | ⟨x, _ | ⟨y, r⟩⟩ <;> simp at hlen
   exact ⟨x, rfl⟩
  subst hx
  obtain ⟨p', hp, g1⟩ := hvv.inv1
  simp only [List.cons.injEq, and_true] at hp
  subst hp
  cases h0 : argTypes[0]? with
  | none => rw [h0] at ht; simp at ht
  | some t0 =>
   rw [h0, Option.bind_some] at ht
   split at ht <;> try (cases ht; done)
   rename_i e hu
   obtain ⟨rfl, hl, w', hr, hcase, hh⟩ := clr_sound (ty := o.type) hH (by simpa only [dk] using hd) g1 h0 hu ht
   refine ⟨.value (.tuple #[]), w', π, av, by simp [resolve, invoke, builtin, hr], .inl ⟨_, rfl, .tup _ _ .nil⟩, ?_⟩
   rcases hcase with ⟨rfl, rfl⟩ | ⟨g, ha, hB, he⟩
   ·exact Res.same _ hH
   ·exact ⟨he.wider fun x hx => by rw [show x = g from hx]; exact ⟨rfl, ha, hB⟩, hh, fun _ x => absurd rfl x, fun _ x => x, by omega, fun _ _ _ x => absurd rfl x⟩
 case mksl.makeSlice z ag bytes ty l c =>
  obtain ⟨hc, ht⟩ := hc
  split at ht <;> try (cases ht; done)
  rename_i e hu
  simp only [Bool.and_eq_true, beq_iff_eq] at ht
  obtain ⟨⟨hz, ht⟩, hb⟩ := ht
  obtain ⟨p, q, rfl, h1, h2⟩ := (hv _ hc).inv2
  have hlt : H.length < H'.length := by
   simp only [dk, Option.bind_eq_some_iff] at hd
   obtain ⟨_, _, _, _, hd⟩ := hd
   split at hd <;> try (cases hd; done)
   simp only [Option.some.injEq, Prod.mk.injEq] at hd
   rw [<- hd.2]; simp
  exact OpOk.val (mksl_sound _ hH (hf hlt) hd h1 h2 hu hz ht hb)
 case slc.slice lo hi mx sz ag ty x l h m =>
  obtain ⟨hc, ht⟩ := hc
  split at hc <;> try (cases hc; done)
  rename_i os hos
  split at ht <;> try (cases ht; done)
  rename_i e hu
  obtain ⟨p, r, rfl, h1, h2⟩ := (hv _ hc).inv_cons
  simp only [dk] at hd
  obtain ⟨rfl, hd⟩ := map_pair (f := id) hd
  exact OpOk.val0 hH ⟨rfl, slc_sound (by simpa using hd) h1 hos h2 hu ht w⟩
 case slcA.slice lo hi mx n sz ag ty x l h m =>
  obtain ⟨hc, ht⟩ := hc
  split at hc <;> try (cases hc; done)
  rename_i os hos
  split at ht <;> try (cases ht; done)
  rename_i n' e hu
  simp only [Bool.and_eq_true, beq_iff_eq] at ht
  obtain ⟨rfl, ht⟩ := ht
  obtain ⟨p, r, rfl, h1, h2⟩ := (hv _ hc).inv_cons
  simp only [dk] at hd
  obtain ⟨rfl, hd⟩ := map_pair (f := id) hd
  exact OpOk.val0 hH ⟨rfl, slcA_sound (by simpa using hd) hH h1 hos h2 hu ht⟩
 case fadr.fieldAddr off sz ag ty x f =>
  obtain ⟨⟨hc, hz⟩, ht⟩ := hc
  split at ht <;> try (cases ht; done)
  rename_i fs hu
  split at ht <;> try (cases ht; done)
  rename_i fd hfd
  simp only [Bool.and_eq_true, beq_iff_eq] at ht
  obtain ⟨p, rfl, h1⟩ := (hv _ hc).inv1
  exact OpOk.val0 hH (fadr_sound hd h1 hu hfd ht.1 ht.2 (by simpa using hz) w)
 case fld.field off sz ag ty x f =>
  obtain ⟨hc, ht⟩ := hc
  split at ht <;> try (cases ht; done)
  rename_i fs hu
  split at ht <;> try (cases ht; done)
  rename_i fd hfd
  simp only [Bool.and_eq_true, beq_iff_eq] at ht
  obtain ⟨p, rfl, h1⟩ := (hv _ hc).inv1
  exact OpOk.val0 hH (fld_sound hd h1 hu hfd ht.1 ht.2 w)
 case ixS.indexAddr sz ag ty x i =>
  obtain ⟨hc, ht⟩ := hc
  split at ht <;> try (cases ht; done)
  rename_i e hu
  obtain ⟨p, q, rfl, h1, h2⟩ := (hv _ hc).inv2
  exact OpOk.val0 hH (ixS_sound hd h1 h2 hu ht w)
 case ixA.indexAddr n sz ag ty x i =>
  obtain ⟨hc, ht⟩ := hc
  split at ht <;> try (cases ht; done)
  rename_i n' e hu
  simp only [Bool.and_eq_true, beq_iff_eq] at ht
  obtain ⟨rfl, ht⟩ := ht
  obtain ⟨p, q, rfl, h1, h2⟩ := (hv _ hc).inv2
  exact OpOk.val0 hH (ixA_sound hd h1 h2 hu ht w)
 case idx.index n sz ag ty x i =>
  obtain ⟨hc, ht⟩ := hc
  split at ht <;> try (cases ht; done)
  rename_i n' e hu
  simp only [Bool.and_eq_true, beq_iff_eq] at ht
  obtain ⟨rfl, ht⟩ := ht
  obtain ⟨p, q, rfl, h1, h2⟩ := (hv _ hc).inv2
  exact OpOk.val0 hH (idx_sound hd h1 h2 hu ht w)
 case ixStr.index ty x i =>
  obtain ⟨hc, ht⟩ := hc
  split at ht <;> try (cases ht; done)
  rename_i hu
  obtain ⟨p, q, rfl, h1, h2⟩ := (hv _ hc).inv2
  exact OpOk.val0 hH (ixStr_sound hd h1 h2 hu w)
 case lkp.lookup kt z ok ty m k ok' =>
  obtain ⟨⟨hc, rfl⟩, ht⟩ := hc
  split at ht <;> try (cases ht; done)
  rename_i kty ety hu
  simp only [Bool.and_eq_true] at ht
  obtain ⟨hk, ht⟩ := ht
  split at ht <;> try (cases ht; done)
  rename_i i hi
  split at ht <;> try (cases ht; done)
  rename_i zv hzv
  obtain ⟨p, q, rfl, h1, h2⟩ := (hv _ hc).inv2
  exact OpOk.val0 hH (lkp_sound hH hd h1 h2 hu hk hi hzv ht)
 case mset.mapUpdate kt ty m k v =>
  obtain ⟨hc, ht⟩ := hc
  split at ht <;> try (cases ht; done)
  rename_i kty ety hu
  obtain ⟨p, q, r, rfl, h1, h2, h3⟩ := (hv _ hc).inv3
  exact OpOk.unit _ (mset_sound hH hd h1 h2 h3 hu ht) (by
   cases p <;> simp only [dk] at hd <;> try (cases hd; done)
   split at hd <;> try (cases hd; done)
   simp only [Option.bind_eq_some_iff, Option.map_eq_some_iff] at hd
   obtain ⟨_, _, r', _, hd⟩ := hd
   cases r' <;> (simp only [Prod.mk.injEq] at hd; rw [<- hd.2]; simp))
 case mset.insert kt ty m k v =>
  obtain ⟨hc, ht⟩ := hc
  split at ht <;> try (cases ht; done)
  rename_i kty ety hu
  obtain ⟨p, q, r, rfl, h1, h2, h3⟩ := (hv _ hc).inv3
  exact OpOk.unit _ (mset_sound hH hd h1 h2 h3 hu ht) (by
   cases p <;> simp only [dk] at hd <;> try (cases hd; done)
   split at hd <;> try (cases hd; done)
   simp only [Option.bind_eq_some_iff, Option.map_eq_some_iff] at hd
   obtain ⟨_, _, r', _, hd⟩ := hd
   cases r' <;> (simp only [Prod.mk.injEq] at hd; rw [<- hd.2]; simp))
 case ext.extract n x n' =>
  obtain ⟨hc, rfl⟩ := hc
  obtain ⟨p, rfl, h1⟩ := (hv _ hc).inv1
  cases p <;> simp only [dk] at hd <;> try (cases hd; done)
  rename_i l
  obtain ⟨rfl, hd⟩ := map_pair (f := id) hd
  obtain ⟨cs, hcs, hl⟩ := h1.tup_inv
  obtain ⟨u, hu, hr⟩ := hl.get (by simpa using hd)
  rw [Array.getElem?_toList] at hu
  rw [hcs]
  exact OpOk.val0 hH ⟨rfl, u, by simp [Instr.extract, hu], hr⟩
 case app.call sz ag bytes c =>
  obtain ⟨callee, args, argTypes⟩ := c
  cases callee <;> (try (simp only [Bool.false_eq_true] at hc; done))
  rename_i bi
  cases bi <;> (try (simp only [Bool.false_eq_true] at hc; done))
  try simp only [Bool.and_eq_true] at hc
  obtain ⟨⟨hc, ht⟩, ht2⟩ := hc
  cases h0 : argTypes[0]? with
  | none => rw [h0] at ht; simp at ht
  | some t0 =>
   rw [h0, Option.bind_some] at ht
   split at ht <;> try (cases ht; done)
   rename_i e hu
   simp only [Bool.and_eq_true, beq_iff_eq, bne_iff_ne, ne_eq] at ht
   obtain ⟨⟨⟨⟨hty, hby⟩, hsz0⟩, hby0⟩, hz⟩ := ht
   split at hz <;> try (cases hz; done)
   rename_i i hi
   split at hz <;> try (cases hz; done)
   rename_i zv hzv
   simp only [beq_iff_eq] at hz
   cases h1 : argTypes[1]? with
   | none => rw [h1] at ht2; simp at ht2
   | some t1 =>
    simp only [h1] at ht2
    split at ht2 <;> try (cases ht2; done)
    rename_i e2 hu2
    have hvv := hv _ hc
    -- two arguments
    rcases vs with _ | ⟨p, _ | ⟨q, _ | ⟨r, rs⟩⟩⟩ <;> simp only [dk] at hd <;> try (cases hd; done)
    have hlen := hvv.length
    simp at hlen
    obtain ⟨x, y, hxy⟩ : ∃ x y, args = #[x, y] := by
     rcases args with ⟨l⟩
     rcases l with _ | ⟨x, _ | ⟨y, _ | ⟨z, r⟩⟩⟩ <;> simp at hlen
     exact ⟨x, y, rfl⟩
    subst hxy
    obtain ⟨p', q', hpq, g1, g2⟩ := hvv.inv2
    simp only [List.cons.injEq, and_true] at hpq
    obtain ⟨rfl, rfl⟩ := hpq
    have hisz : i.size = sz := by have := tyOk.sz hty; simp [szT, hi] at this; exact this
    have hiby : i.bytes = bytes := by simpa [hi] using hby
    obtain ⟨v, w', π', av', r1, r2, r3⟩ := app_sound (ty := o.type) hH hf hd g1 g2 h0 h1 hu hu2 hi hzv hisz hiby hz hsz0 hby0
    refine ⟨.value v, w', π', av', ?_, .inl ⟨v, rfl, r2⟩, r3⟩
    simp [resolve, invoke, builtin, r1]
 case len.call kd c =>
  obtain ⟨callee, args, argTypes⟩ := c
  cases callee <;> (try (simp only [Bool.false_eq_true] at hc; done))
  rename_i bi
  cases bi <;> (try (simp only [Bool.false_eq_true] at hc; done))
  try simp only [Bool.and_eq_true] at hc
  obtain ⟨hc, ht⟩ := hc
  have hvv := hv _ hc
  rcases vs with _ | ⟨p, _ | ⟨q, rs⟩⟩ <;> simp only [dk] at hd <;> try (cases hd; done)
  have hlen := hvv.length
  simp at hlen
  obtain ⟨x, hx⟩ : ∃ x, args = #[x] := by
   rcases args with ⟨l⟩
   rcases l with _ | ⟨x, _ | ⟨y, r⟩⟩ <;> simp at hlen
   exact ⟨x, rfl⟩
  subst hx
  obtain ⟨p', hp, g1⟩ := hvv.inv1
  simp only [List.cons.injEq, and_true] at hp
  subst hp
  simp only [Option.map_eq_some_iff, Prod.mk.injEq] at hd
  obtain ⟨n, hn, rfl, rfl⟩ := hd
  have hr := len_sound (ty := o.type) hH hn g1 ht
  refine OpOk.pure hH (v := goInt n) ?_ (.i _ _)
  simp [resolve, invoke, builtin, hr]
 case mxI.call c =>
  obtain ⟨callee, args, argTypes⟩ := c
  cases callee <;> (try (simp only [Bool.false_eq_true] at hc; done))
  rename_i bi
  cases bi <;> (try (simp only [Bool.false_eq_true] at hc; done))
  try simp only [Bool.and_eq_true] at hc
  have hvv := hv _ hc
  rcases vs with _ | ⟨p, xs⟩ <;> simp only [dk] at hd <;> try (cases hd; done)
  simp only [Option.map_eq_some_iff, Prod.mk.injEq] at hd
  obtain ⟨v, hfo, rfl, rfl⟩ := hd
  cases hl : args.toList with
  | nil => rw [hl] at hvv; cases hvv
  | cons x r =>
   rw [hl] at hvv
   obtain ⟨p', r', hp, g1, g2⟩ := hvv.inv_cons
   simp only [List.cons.injEq] at hp
   obtain ⟨rfl, rfl⟩ := hp
   obtain ⟨v', hr, hv'⟩ := fold_sound (P := P) (f := fun x y => if y > x then y else x) (g := Builtin.max2) (fun k a b w' => by simp [Builtin.max2]) w hfo g1 g2
   refine OpOk.pure hH (v := v') ?_ hv'
   simp [resolve, invoke, builtin, Builtin.max_, hl, hr]
 case mnI.call c =>
  obtain ⟨callee, args, argTypes⟩ := c
  cases callee <;> (try (simp only [Bool.false_eq_true] at hc; done))
  rename_i bi
  cases bi <;> (try (simp only [Bool.false_eq_true] at hc; done))
  try simp only [Bool.and_eq_true] at hc
  have hvv := hv _ hc
  rcases vs with _ | ⟨p, xs⟩ <;> simp only [dk] at hd <;> try (cases hd; done)
  simp only [Option.map_eq_some_iff, Prod.mk.injEq] at hd
  obtain ⟨v, hfo, rfl, rfl⟩ := hd
  cases hl : args.toList with
  | nil => rw [hl] at hvv; cases hvv
  | cons x r =>
   rw [hl] at hvv
   obtain ⟨p', r', hp, g1, g2⟩ := hvv.inv_cons
   simp only [List.cons.injEq] at hp
   obtain ⟨rfl, rfl⟩ := hp
   obtain ⟨v', hr, hv'⟩ := fold_sound (P := P) (f := fun x y => if y < x then y else x) (g := Builtin.min2) (fun k a b w' => by simp [Builtin.min2]) w hfo g1 g2
   refine OpOk.pure hH (v := v') ?_ hv'
   simp [resolve, invoke, builtin, Builtin.min_, hl, hr]

end Go.Dn

/-
 The machine's steps in a frame, one lemma a kind of step.
-/

namespace Go.Dn

variable {P : Program}

def fr (b : Frame) (tm : Array Value) (td : List Item) (ds : List Deferred) : Frame := { fn := b.fn, tmps := tm, todo := td, defers := ds, mode := .run, kind := b.kind, roundOf := b.roundOf }

def ev (tm : Array Value) : Operand -> Value
 | .tmp t => tm.getD t undef
 | .const v => v
 | .global g => .pointer (some ⟨g, 0, none⟩)
 | .func f => .func (.func f) #[] #[]

variable {b : Frame} {tm : Array Value} {k : List Item} {ds : List Deferred} {cs : List Frame} {w : World}

theorem fr_eval (x : Operand) (td : List Item) : (fr b tm td ds).eval x = ev tm x := by cases x <;> rfl
theorem fr_eval' (td : List Item) : (fr b tm td ds).eval = ev tm := funext fun x => fr_eval x td

def putT (tm : Array Value) (d : Option Tmp) (v : Value) : Array Value := match d with | some d => tm.setIfInBounds d v | none => tm

theorem fr_finish (ops : Array Oper) (i : Nat) (rest : List Nat) (v : Value) : (fr b tm (.inRegion ops (i :: rest) :: k) ds).finish v = fr b (putT tm ((ops[i]?).bind (·.dst)) v) (.inRegion ops rest :: k) ds := by
 cases h : (ops[i]?).bind (·.dst) <;> simp [Frame.finish, fr, putT, h]

theorem st_skip : step P (lone (fr b tm (.code .skip :: k) ds) cs w) = .next (lone (fr b tm k ds) cs w) := step_lone_go (by simp [stepG, stepG.exec, fr])
theorem st_label {l : Nat} : step P (lone (fr b tm (.code (.label l) :: k) ds) cs w) = .next (lone (fr b tm k ds) cs w) := step_lone_go (by simp [stepG, stepG.exec, fr])
theorem st_inBlock {id : Nat} : step P (lone (fr b tm (.inBlock id :: k) ds) cs w) = .next (lone (fr b tm k ds) cs w) := step_lone_go (by simp [stepG, stepG.exec, fr])
theorem st_inScope {c : Code} : step P (lone (fr b tm (.inScope c :: k) ds) cs w) = .next (lone (fr b tm k ds) cs w) := step_lone_go (by simp [stepG, stepG.exec, fr])
theorem st_seq {x y : Code} : step P (lone (fr b tm (.code (.seq x y) :: k) ds) cs w) = .next (lone (fr b tm (.code x :: .code y :: k) ds) cs w) := step_lone_go (by simp [stepG, stepG.exec, fr])
theorem st_cond {c : Operand} {x y : Code} {t : Bool} (h : ev tm c = .bool t) : step P (lone (fr b tm (.code (.cond c x y) :: k) ds) cs w) = .next (lone (fr b tm (.code (if t then x else y) :: k) ds) cs w) :=
 step_lone_go (by
  have := fr_eval (b := b) (tm := tm) (ds := ds) c (.code (.cond c x y) :: k)
  simp only [fr] at this
  simp [stepG, stepG.exec, fr, this, h])
theorem st_block {id : Nat} {c : Code} : step P (lone (fr b tm (.code (.block id c) :: k) ds) cs w) = .next (lone (fr b tm (.code c :: .inBlock id :: k) ds) cs w) := step_lone_go (by simp [stepG, stepG.exec, fr])
theorem st_scope {c : Code} : step P (lone (fr b tm (.code (.scope c) :: k) ds) cs w) = .next (lone (fr b tm (.code c :: .inScope c :: k) ds) cs w) := step_lone_go (by simp [stepG, stepG.exec, fr])
theorem st_loop {c : Code} : step P (lone (fr b tm (.code (.loop c) :: k) ds) cs w) = .next (lone (fr b tm (.code c :: .inLoop c :: k) ds) cs w) := step_lone_go (by simp [stepG, stepG.exec, fr])
theorem st_inLoop {c : Code} : step P (lone (fr b tm (.inLoop c :: k) ds) cs w) = .next (lone (fr b tm (.code c :: .inLoop c :: k) ds) cs w) := step_lone_go (by simp [stepG, stepG.exec, fr])
theorem st_exit {id : Nat} {k' : List Item} (h : exitTo id k = some k') : step P (lone (fr b tm (.code (.exit id) :: k) ds) cs w) = .next (lone (fr b tm k' ds) cs w) := step_lone_go (by simp [stepG, stepG.exec, fr, h])
theorem st_region {id : Nat} {ops : Array Oper} : step P (lone (fr b tm (.code (.region id ops false) :: k) ds) cs w) = .next (lone (fr b tm (.inRegion ops (List.range ops.size) :: k) ds) cs w) :=
 step_lone_go (by simp [stepG, stepG.exec, fr])
theorem st_region_draw {id : Nat} {ops : Array Oper} : step P (lone (fr b tm (.code (.region id ops true) :: k) ds) cs w) =
  .next (lone (fr b tm (.inRegion ops (Region.schedule (P.follows .mixedOrders) ops (w.tape w.drawn (.order b.fn id))) :: k) ds) cs { w with drawn := w.drawn + 1 }) :=
 step_lone_go (by simp [stepG, stepG.exec, fr, choose, Sem.run, Question.forced, Question.cut])
theorem st_region_end {ops : Array Oper} : step P (lone (fr b tm (.inRegion ops [] :: k) ds) cs w) = .next (lone (fr b tm k ds) cs w) := step_lone_go (by simp [stepG, stepG.exec, fr])

theorem st_op_skip {ops : Array Oper} {i : Nat} {rest : List Nat} (h : ((ops[i]?).map (Region.wanted · (yielded ops tm))).getD false = false) :
  step P (lone (fr b tm (.inRegion ops (i :: rest) :: k) ds) cs w) = .next (lone (fr b (putT tm ((ops[i]?).bind (·.dst)) undef) (.inRegion ops rest :: k) ds) cs w) := by
 rw [<- fr_finish]
 exact step_lone_go (by
  have h' := h
  simp only [fr] at *
  simp [stepG, stepG.exec, h'])

theorem stepG_op' {ops : Array Oper} {i : Nat} {rest : List Nat} {o : Oper} (ho : ops[i]? = some o) (hw : Region.wanted o (yielded ops tm) = true) (hd : ∀ c, o.op ≠ .defer c) :
  stepG P true { frame := fr b tm (.inRegion ops (i :: rest) :: k) ds, callers := cs, status := .running, dying := none } w =
   stepG.apply P true (fr b tm (.inRegion ops (i :: rest) :: k) ds) cs none (execOp (ev tm) o) w := by
 have he := fr_eval' (b := b) (tm := tm) (ds := ds) (.inRegion ops (i :: rest) :: k)
 simp only [fr] at he
 cases hr : b.roundOf with
 | none => simp [stepG, stepG.exec, stepG.oper, Frame.oper?, fr, ho, hw, hr, he]; rw [hr] at he; rw [he]
 | some l =>
  rw [hr] at he
  simp only [stepG, stepG.exec, stepG.oper, Frame.oper?, fr, ho, hw, hr, Option.map_some, Option.getD_some, if_true]
  split
  ·rename_i h; exact absurd h (hd _)
  ·rw [he]

theorem st_value {ops : Array Oper} {i : Nat} {rest : List Nat} {o : Oper} {v : Value} {w' : World} (ho : ops[i]? = some o) (hw : Region.wanted o (yielded ops tm) = true) (hd : ∀ c, o.op ≠ .defer c)
  (hr : (execOp (ev tm) o).run P w = .ok (.value v) w') : step P (lone (fr b tm (.inRegion ops (i :: rest) :: k) ds) cs w) = .next (lone (fr b (putT tm o.dst v) (.inRegion ops rest :: k) ds) cs w') := by
 refine step_lone_go ?_
 rw [stepG_op' ho hw hd]
 have := fr_finish (b := b) (tm := tm) (k := k) (ds := ds) ops i rest v
 rw [ho] at this
 simp [stepG.apply, hr, this]

theorem st_skipv {ops : Array Oper} {i : Nat} {rest : List Nat} {o : Oper} {w' : World} (ho : ops[i]? = some o) (hw : Region.wanted o (yielded ops tm) = true) (hd : ∀ c, o.op ≠ .defer c)
  (hr : (execOp (ev tm) o).run P w = .ok .skip w') : step P (lone (fr b tm (.inRegion ops (i :: rest) :: k) ds) cs w) = .next (lone (fr b (putT tm o.dst undef) (.inRegion ops rest :: k) ds) cs w') := by
 refine step_lone_go ?_
 rw [stepG_op' ho hw hd]
 have := fr_finish (b := b) (tm := tm) (k := k) (ds := ds) ops i rest undef
 rw [ho] at this
 simp [stepG.apply, hr, this]

def callee (P : Program) : Next -> Option Frame
 | .enter f args => some (Frame.enter P f args .normal)
 | .round l f tmps assign body => some (Frame.round l f tmps assign body .normal)
 | _ => none

theorem st_call {ops : Array Oper} {i : Nat} {rest : List Nat} {o : Oper} {nx : Next} {fr' : Frame} {w' : World} (ho : ops[i]? = some o) (hw : Region.wanted o (yielded ops tm) = true) (hd : ∀ c, o.op ≠ .defer c)
  (hr : (execOp (ev tm) o).run P w = .ok nx w') (hc : callee P nx = some fr') :
  step P (lone (fr b tm (.inRegion ops (i :: rest) :: k) ds) cs w) = .next (lone fr' (fr b tm (.inRegion ops (i :: rest) :: k) ds :: cs) w') := by
 refine step_lone_go ?_
 rw [stepG_op' ho hw hd]
 cases nx <;> simp only [callee] at hc <;> (try (cases hc; done)) <;> (injection hc with hc; subst hc; simp [stepG.apply, hr, fr])

/-! ### a call's end -/
theorem st_leave {b : Frame} (h : b.roundOf = none) : step P (lone (fr b tm [] ds) cs w) = .next (lone { fr b tm [] ds with mode := .returning } cs w) := step_lone_go (by simp [stepG, stepG.exec, fr, h])
theorem st_ret {b : Frame} (h : b.roundOf = none) : step P (lone (fr b tm (.code .ret :: k) ds) cs w) = .next (lone { fr b tm (.code .ret :: k) ds with mode := .returning } cs w) := step_lone_go (by simp [stepG, stepG.exec, fr, h])

theorem st_take {f : Frame} {blk : Nat} {ds : List Deferred} (hm : f.mode = .returning) (hd : f.defers = { target := .collected blk, args := #[] } :: ds) (hb : w.heap[blk]? = some (.deferred (some []))) :
  step P (lone f cs w) = .next (lone { f with defers := ds } cs { w with heap := w.heap.setIfInBounds blk (.deferred none) }) := by
 refine step_lone_go ?_
 have h1 : (Instr.takeDeferred blk).run P w = .ok [] { w with heap := w.heap.setIfInBounds blk (.deferred none) } := by
  simp [Instr.takeDeferred, getObj, setObj, Sem.run, hb]
 simp [stepG, unwind, hm, hd, h1]

end Go.Dn

/-
 Calls, snapshots, frames: what is to be shown of a run, and how its parts fit.
-/

namespace Go.Dn

/-! ### worlds that differ in spent blocks alone -/
def SameW (w w' : World) : Prop := w'.heap.size = w.heap.size /\ w'.os = w.os /\ (w'.tape = w.tape /\ w.drawn <= w'.drawn) /\ w'.output = w.output /\ ∀ (g : Nat) (ob : Obj), w.heap[g]? = some ob -> (∀ d, ob ≠ Obj.deferred d) -> w'.heap[g]? = some ob

theorem SameW.cell {w w' : World} (h : SameW w w') {a : Addr} {u : Value} (hc : w.cell? a = some u) : w'.cell? a = some u := by
 unfold World.cell? at hc ⊢
 split at hc
 ·rename_i cc el fr hb
  rw [h.2.2.2.2 _ _ hb (by simp)]
  exact hc
 ·cases hc

mutual
theorem VRel.same {π : PMap} {w w' : World} {av ex : Nat -> Prop} (e : SameW w w') {t : TV} {v : Value} : VRel π w av ex t v -> VRel π w' av ex t v
 | .undef => .undef
 | .b x => .b x
 | .i k n => .i k n
 | .s x => .s x
 | .nilp => .nilp
 | .nilsl => .nilsl
 | .nilmap => .nilmap
 | .nilfn => .nilfn
 | .nilif => .nilif
 | .agg l cs h => .agg l cs (VsRel.same e h)
 | .tup l cs h => .tup l cs (VsRel.same e h)
 | .fn f fs cs fa ca h1 h2 => .fn f fs cs fa ca (VsRel.same e h1) (VsRel.same e h2)
 | .yl id g h => .yl id g h
 | .ref id off g sh h => .ref id off g sh h
 | .sl id off sz ag len cap g sh c cc el fr h hb hl hc hs => .sl id off sz ag len cap g sh c cc el fr h (e.2.2.2.2 _ _ hb (by simp)) hl hc hs
 | .sl0 id off sz ag cap a hc => .sl0 id off sz ag cap a hc
 | .esl a => .esl a
 | .mp id g h => .mp id g h
 | .bp bo v g off us h hm ha => .bp bo v g off us (VsRel.same e h) (fun j u hu => e.cell (hm j u hu)) ha
 | .bs bo sz es g off c us h hz hm ha hl => .bs bo sz es g off c us (VsRel.same e h) hz (fun j u hu => e.cell (hm j u hu)) ha hl
 | .bs0 bo sz a c => .bs0 bo sz a c
theorem VsRel.same {π : PMap} {w w' : World} {av ex : Nat -> Prop} (e : SameW w w') {ts : List TV} {vs : List Value} : VsRel π w av ex ts vs -> VsRel π w' av ex ts vs
 | .nil => .nil
 | .cons t v ts vs h hs => .cons t v ts vs (VRel.same e h) (VsRel.same e hs)
end

theorem EsRel.same {π : PMap} {w w' : World} {av ex : Nat -> Prop} (e : SameW w w') : ∀ {es : List (TV × TV × Nat)} {ces : List MapEntry}, EsRel π w av ex es ces -> EsRel π w' av ex es ces
 | [], [], _ => trivial
 | (k, v, n) :: r, c :: cs, h => ⟨h.1.same e, h.2.1.same e, h.2.2.1, EsRel.same e h.2.2.2⟩
 | [], _ :: _, h => h.elim
 | _ :: _, [], h => h.elim

theorem HRel.same {P : Program} {B : Nat} {π : PMap} {H : Heap} {w w' : World} {av ex : Nat -> Prop} (h : HRel P B π H w av ex) (e : SameW w w') : HRel P B π H w' av ex where
 obj id g sh o hp ho hd := by
  obtain ⟨h1, h2, ob, h3, h4⟩ := h.obj id g sh o hp ho hd
  refine ⟨h1, h2, ob, e.2.2.2.2 _ _ h3 (fun d => by rintro rfl; cases o <;> simp [ORel] at h4), ?_⟩
  cases o <;> cases ob <;> simp only [ORel] at h4 ⊢
  case cells.cells =>
   obtain ⟨a1, a2, a3, us, a4, a5⟩ := h4
   exact ⟨a1, a2, a3, us, a4.same e, a5⟩
  case map.map => exact ⟨h4.1, h4.2.1, h4.2.2.same e⟩
  case mapS.map => obtain ⟨a1, a2, es0, a3, a4⟩ := h4; exact ⟨a1, a2, es0, a3, a4.same e⟩
  case iter.mapIter => exact h4
  case loop.loop =>
   obtain ⟨a1, a2, a3, a4, a5⟩ := h4
   exact ⟨a1, a2, a3, fun s t hs => (a4 s t hs).same e, a5⟩
 inj := h.inj
 avb g x := by rw [e.1]; exact h.avb g x
 exb g x := by rw [e.1]; exact h.exb g x
 bsz := by rw [e.1]; exact h.bsz

theorem SameW.take (w : World) {r : Nat} {d d' : Option (List Deferred)} (h : w.heap[r]? = some (.deferred d)) : SameW w { w with heap := w.heap.setIfInBounds r (.deferred d') } := by
 refine ⟨by simp, rfl, ⟨rfl, Nat.le_refl _⟩, rfl, fun g ob hg hn => ?_⟩
 show (w.heap.setIfInBounds r (.deferred d'))[g]? = some ob
 rw [Array.getElem?_setIfInBounds]
 split
 ·rename_i he; subst he; rw [h] at hg; injection hg with hg; exact absurd hg.symm (hn _)
 ·exact hg

/-! ### the state of a run -/
section
variable (P : Program) (pg : Pg) (Gz : Nat)

def GRel (w : World) : Prop := ∀ n tv, pg.G n = some tv -> n < Gz /\ ∃ us, chkVs tv.cells us = true /\ MemAt w n 0 us

structure St0 (B : Nat) (π : PMap) (H : Heap) (w : World) (av ex : Nat -> Prop) : Prop where
 hr : HRel P B π H w av ex
 gl : GRel pg Gz w
 avg : ∀ g, av g -> Gz <= g
 exg : ∀ g, ex g -> Gz <= g
 gB : Gz <= B

structure St (B : Nat) (π : PMap) (H : Heap) (w : World) (av ex : Nat -> Prop) : Prop extends St0 P pg Gz B π H w av ex where
 dom : ∀ id, H.length <= id -> π id = none
end

variable {P : Program} {pg : Pg} {Gz : Nat} {B : Nat} {π : PMap} {H : Heap} {w : World} {av ex : Nat -> Prop}

theorem GRel.mono {wr : Nat -> Prop} {π' : PMap} {w' : World} {av' : Nat -> Prop} (h : GRel pg Gz w) (e : Ev wr π w av π' w' av') (hw : ∀ g, wr g -> Gz <= g) : GRel pg Gz w' := by
 intro n tv hn
 obtain ⟨h1, us, h2, h3⟩ := h n tv hn
 exact ⟨h1, us, h2, h3.mono e fun _ x => by have := hw n x; omega⟩

theorem wrK_gz (hs : St P pg Gz B π H w av ex) (W : Bool) : ∀ g, wrK B av W g -> Gz <= g := fun g h => hs.avg g h.2.1
theorem wrK_av (W : Bool) : ∀ g, g < w.heap.size -> wrK B av W g -> av g := fun g _ h => h.2.1

theorem St.next {wr : Nat -> Prop} {H' : Heap} {w' : World} {π' : PMap} {av' : Nat -> Prop} (hs : St P pg Gz B π H w av ex) (r : Res P B wr π H w av ex H' w' π' av') (hw : ∀ g, wr g -> Gz <= g) : St P pg Gz B π' H' w' av' ex where
 hr := r.hr
 dom id hid := by
  by_cases h : π' id = π id
  ·rw [h]; exact hs.dom id (Nat.le_trans r.hl hid)
  ·have := (r.dom id h).2; omega
 gl := hs.gl.mono r.ev hw
 avg g hg := by
  rcases Nat.lt_or_ge g w.heap.size with h | h
  ·exact hs.avg g (r.ev.sub g h hg)
  ·have := hs.hr.bsz; have := hs.gB; omega
 exg := hs.exg
 gB := hs.gB

theorem St.nextK {W : Bool} {H' : Heap} {w' : World} {π' : PMap} {av' : Nat -> Prop} (hs : St P pg Gz B π H w av ex) (r : Res P B (wrK B av W) π H w av ex H' w' π' av') : St P pg Gz B π' H' w' av' ex := hs.next r (wrK_gz hs W)

theorem Res.trans {W : Bool} {H1 H2 : Heap} {w1 w2 : World} {π1 π2 : PMap} {av1 av2 : Nat -> Prop} (h : Res P B (wrK B av true) π H w av ex H1 w1 π1 av1) (h' : Res P B (wrK B av1 W) π1 H1 w1 av1 ex H2 w2 π2 av2) :
  Res P B (wrK B av true) π H w av ex H2 w2 π2 av2 where
 ev := h.ev.trans h'.ev fun g hg x => ⟨rfl, h.ev.sub g hg x.2.1, x.2.2⟩
 hr := h'.hr
 dom id hn := by
  by_cases h1 : π1 id = π id
  ·have := h'.dom id (by rw [h1]; exact hn)
   have := h.hl
   omega
  ·have := h.dom id h1
   have := h'.hl
   omega
 ext g x := h'.ext g (h.ext g x)
 hl := Nat.le_trans h.hl h'.hl
 frs id g sh hn hg := by
  by_cases h2 : π2 id = π1 id
  ·exact h.frs id g sh (by rw [<- h2]; exact hn) (by rw [<- h2]; exact hg)
  ·have hlen := h.ev.len
   rcases h'.frs id g sh h2 hg with x | x
   ·exact .inl (by omega)
   ·rcases Nat.lt_or_ge g w.heap.size with y | y
    ·exact .inr ⟨rfl, h.ev.sub g y x.2.1, x.2.2⟩
    ·exact .inl y

theorem Res.sameW {H1 : Heap} {w1 w2 : World} {π1 : PMap} {av1 : Nat -> Prop} (h : Res P B (wrK B av true) π H w av ex H1 w1 π1 av1) (e : SameW w1 w2) (hn : ∀ g, g < w.heap.size -> w2.heap[g]? = w1.heap[g]?) :
  Res P B (wrK B av true) π H w av ex H1 w2 π1 av1 where
 ev := ⟨h.ev.map, fun g hg hx => (hn g hg).trans (h.ev.blk g hg hx), fun g cc el fr hb => by
   obtain ⟨c, hc, hs⟩ := h.ev.siz g cc el fr hb
   exact ⟨c, by rw [hn g (Array.getElem?_eq_some_iff.1 hb).1]; exact hc, hs⟩, fun g r hb => by
   obtain ⟨c, hc⟩ := h.ev.lop g r hb
   exact ⟨c, by rw [hn g (Array.getElem?_eq_some_iff.1 hb).1]; exact hc⟩, h.ev.sub, by rw [e.1]; exact h.ev.len, e.2.1.trans h.ev.os, ⟨e.2.2.1.1.trans h.ev.tape.1, Nat.le_trans h.ev.tape.2 e.2.2.1.2⟩, e.2.2.2.1.trans h.ev.out⟩
 hr := h.hr.same e
 dom := h.dom
 ext := h.ext
 hl := h.hl
 frs := h.frs

/-! ### operands -/
theorem evalO_sound (hs : St0 P pg Gz B π H w av ex) {e : Env} {tm : Array Value} (he : ERel π w av ex e tm) {x : Opnd} {y : Operand} {t : TV} (hc : chkO x y = true) (hv : evalO pg e x = some t) : VRel π w av ex t (ev tm y) := by
 cases x with
 | t s =>
  cases y <;> simp only [chkO, Bool.false_eq_true, beq_iff_eq] at hc
  subst hc
  exact he s t hv
 | c v =>
  simp only [evalO, Option.some.injEq] at hv
  subst hv
  cases y with
  | const u => exact chkV_sound (v := u) (by cases v <;> simpa [chkO] using hc)
  | func f =>
   cases v <;> simp only [chkO, Bool.false_eq_true] at hc
   rename_i f' a b
   cases a <;> cases b <;> simp only [chkO, Bool.false_eq_true, beq_iff_eq] at hc
   subst hc
   exact .fn _ _ _ _ _ .nil .nil
  | tmp s => simp [chkO] at hc
  | global g => simp [chkO] at hc
 | g n =>
  cases y <;> simp only [chkO, Bool.false_eq_true, beq_iff_eq] at hc
  subst hc
  simp only [evalO, Option.map_eq_some_iff] at hv
  obtain ⟨tv, htv, rfl⟩ := hv
  obtain ⟨h1, us, h2, h3⟩ := hs.gl n tv htv
  exact .bp false tv n 0 us (chkVs_sound h2) h3 fun _ => ⟨fun h => by have := hs.avg n h; omega, fun _ h => by have := hs.exg n h; omega⟩

theorem evalOs_sound (hs : St0 P pg Gz B π H w av ex) {e : Env} {tm : Array Value} (he : ERel π w av ex e tm) : ∀ {xs : List Opnd} {ys : List Operand} {ts : List TV}, chkOs xs ys = true -> mapO (evalO pg e) xs = some ts -> VsRel π w av ex ts (ys.map (ev tm))
 | [], [], ts, _, h => by simp [mapO] at h; subst h; exact .nil
 | x :: xs, y :: ys, ts, hc, h => by
  simp only [chkOs, Bool.and_eq_true] at hc
  simp only [mapO, Option.bind_eq_some_iff, Option.some.injEq] at h
  obtain ⟨t, ht, ts', hts, rfl⟩ := h
  exact .cons _ _ _ _ (evalO_sound hs he hc.1 ht) (evalOs_sound hs he hc.2 hts)
 | [], _ :: _, _, hc, _ => by simp [chkOs] at hc
 | _ :: _, [], _, hc, _ => by simp [chkOs] at hc

/-! ### snapshots -/
structure SnOk (m : SM) (B : Nat) (av ex av2 ex2 : Nat -> Prop) : Prop where
 byv : ∀ g bo bo', m.flag bo = some bo' -> ¬ av g /\ (bo = false -> ¬ ex g) -> ¬ av2 g /\ (bo' = false -> ¬ ex2 g)
 own : ∀ g, m ≠ .keep -> av g -> B <= g -> ¬ av2 g /\ ((m == .borrow) = false -> ¬ ex2 g)

theorem snap_sound {m : SM} (hH : HRel P B π H w av ex) {av2 ex2 : Nat -> Prop} {π2 : PMap} (hm : SnOk m B av ex av2 ex2) : ∀ (n : Nat) {t t' : TV} {v : Value}, snap m H n t = some t' -> VRel π w av ex t v -> VRel π2 w av2 ex2 t' v := by
 intro n
 induction n with
 | zero => intro t t' v h; simp [snap] at h
 | succ n ih =>
  have ihs : ∀ {ts ts' : List TV} {vs : List Value}, mapO (snap m H n) ts = some ts' -> VsRel π w av ex ts vs -> VsRel π2 w av2 ex2 ts' vs := by
   intro ts
   induction ts with
   | nil => intro ts' vs h hv; simp [mapO] at h; subst h; cases hv; exact .nil
   | cons a ts iht =>
    intro ts' vs h hv
    simp only [mapO, Option.bind_eq_some_iff, Option.some.injEq] at h
    obtain ⟨a', ha, ts'', hts, rfl⟩ := h
    cases hv with | cons _ v _ vs hv hvs => exact .cons _ _ _ _ (ih ha hv) (iht hts hvs)
  -- a by-value value's cells
  have icells : ∀ {t t' : TV} {us : List Value}, snap m H n t = some t' -> VsRel π w av ex t.cells us -> VsRel π2 w av2 ex2 t'.cells us /\ t'.cells.length = t.cells.length := by
   intro t t' us h hv
   cases n with
   | zero => simp [snap] at h
   | succ n' =>
    cases t
    case agg l =>
     have h0 := h
     simp only [snap, Option.map_eq_some_iff] at h
     obtain ⟨l', hl, rfl⟩ := h
     have hv2 : VRel π w av ex (.agg l) (.agg us.toArray) := .agg _ _ (by simpa [TV.cells] using hv)
     have := ih h0 hv2
     cases this with | agg _ _ h3 =>
     simp only [TV.cells] at hv ⊢
     exact ⟨by simpa using h3, by rw [(show VsRel π2 w av2 ex2 l' us by simpa using h3).length, hv.length]⟩
    all_goals
     simp only [TV.cells] at hv
     have hl := hv.length
     obtain ⟨u, rfl⟩ : ∃ u, us = [u] := by
      cases us with
      | nil => simp at hl
      | cons u r => cases r with
       | nil => exact ⟨u, rfl⟩
       | cons => simp at hl
     cases hv with | cons _ _ _ _ h1 h2 =>
     have h3 := ih h h1
     have hna : t'.isAgg = false := by
      cases h1 <;> simp only [snap] at h <;> (try (cases h; done))
      all_goals
       first
       | (injection h with h; subst h; rfl)
       | (simp only [Option.map_eq_some_iff] at h; obtain ⟨_, _, rfl⟩ := h; rfl)
       | (simp only [Option.bind_eq_some_iff, Option.map_eq_some_iff] at h; obtain ⟨_, _, _, _, rfl⟩ := h; rfl)
       | (repeat' split at h) <;> (try (cases h; done)) <;> (simp only [Option.map_eq_some_iff] at h; obtain ⟨_, _, rfl⟩ := h; rfl)
     have : t'.cells = [t'] := by cases t' <;> first | rfl | simp [TV.isAgg] at hna
     rw [this]
     exact ⟨.cons _ _ _ _ h3 .nil, by simp [TV.cells]⟩
  -- elements
  have iels : ∀ {es es' : List TV} {us : List Value}, mapO (snap m H n) es = some es' -> VsRel π w av ex (es.flatMap TV.cells) us -> VsRel π2 w av2 ex2 (es'.flatMap TV.cells) us /\ es'.length = es.length /\
    (∀ sz, (∀ e, e ∈ es -> e.cells.length = sz) -> ∀ e, e ∈ es' -> e.cells.length = sz) := by
   intro es
   induction es with
   | nil => intro es' us h hv; simp [mapO] at h; subst h; cases hv; exact ⟨.nil, rfl, fun _ _ e he => by simp at he⟩
   | cons a es iht =>
    intro es' us h hv
    simp only [mapO, Option.bind_eq_some_iff, Option.some.injEq] at h
    obtain ⟨a', ha, es'', hes, rfl⟩ := h
    simp only [List.flatMap_cons] at hv ⊢
    obtain ⟨h1, h2⟩ := hv.split
    obtain ⟨g1, g2⟩ := icells ha h1
    obtain ⟨k1, k2, k3⟩ := iht hes h2
    refine ⟨?_, by simp [k2], ?_⟩
    ·have := g1.append k1
     rwa [List.take_append_drop] at this
    ·intro sz hz e he
     simp only [List.mem_cons] at he
     rcases he with rfl | he
     ·rw [g2]; exact hz a (by simp)
     ·exact k3 sz (fun e he => hz e (by simp [he])) e he
  intro t t' v h hv
  cases hv <;> simp only [snap] at h <;> (try (cases h; done))
  case b x => injection h with h; subst h; exact .b x
  case i k x => injection h with h; subst h; exact .i k x
  case s x => injection h with h; subst h; exact .s x
  case nilp => injection h with h; subst h; exact .nilp
  case nilsl => injection h with h; subst h; exact .nilsl
  case nilmap => injection h with h; subst h; exact .nilmap
  case nilfn => injection h with h; subst h; exact .nilfn
  case nilif => injection h with h; subst h; exact .nilif
  case esl a => injection h with h; subst h; exact .esl a
  case agg l cs hl =>
   simp only [Option.map_eq_some_iff] at h
   obtain ⟨l', hl', rfl⟩ := h
   exact .agg _ _ (ihs hl' hl)
  case tup l cs hl =>
   simp only [Option.map_eq_some_iff] at h
   obtain ⟨l', hl', rfl⟩ := h
   exact .tup _ _ (ihs hl' hl)
  case fn f fs cs fa ca h1 h2 =>
   simp only [Option.bind_eq_some_iff, Option.map_eq_some_iff] at h
   obtain ⟨fs', hfs, cs', hcs, rfl⟩ := h
   exact .fn _ _ _ _ _ (ihs hfs h1) (ihs hcs h2)
  case bp bo x g off us h1 hmm ha =>
   simp only [Option.bind_eq_some_iff, Option.map_eq_some_iff] at h
   obtain ⟨bo', hbo, x', hx, rfl⟩ := h
   exact .bp bo' x' g off us (icells hx h1).1 hmm fun hn => hm.byv g bo bo' hbo (ha hn)
  case bs bo sz es g off c us h1 hz hmm ha hl =>
   simp only [Option.bind_eq_some_iff, Option.map_eq_some_iff] at h
   obtain ⟨bo', hbo, es', hes, rfl⟩ := h
   obtain ⟨k1, k2, k3⟩ := iels hes h1
   rw [<- k2]
   exact .bs bo' sz es' g off c us k1 (k3 sz hz) hmm (fun hn => hm.byv g bo bo' hbo (ha hn)) (by omega)
  case bs0 bo sz a c =>
   simp only [Option.bind_eq_some_iff, Option.map_eq_some_iff, mapO, Option.some.injEq] at h
   obtain ⟨bo', hbo, es', rfl, rfl⟩ := h
   exact .bs0 bo' sz a c
  case ref id off g sh hp =>
   split at h <;> try (cases h; done)
   rename_i hc
   have hmk : m ≠ .keep := fun x => hc (.inl x)
   have hoff : off = 0 := by
    rcases Nat.eq_zero_or_pos off with h0 | h0
    ·exact h0
    ·exact absurd (.inr (by omega)) hc
   subst hoff
   split at h <;> try (cases h; done)
   rename_i c ag hi
   obtain ⟨cc, el, us, hb, hl, ho, hus, hmm, hB, hav⟩ := obj_mem hH hp hi
   obtain ⟨n1, n2⟩ := hm.own g hmk hav hB
   split at h
   ·simp only [Option.map_eq_some_iff] at h
    obtain ⟨c', hc', rfl⟩ := h
    exact .bp _ _ g (sh + 0) us (by simpa [TV.cells] using ihs hc' hus) hmm fun _ => ⟨n1, n2⟩
   ·split at h <;> try (cases h; done)
    rename_i x
    simp only [Option.map_eq_some_iff] at h
    obtain ⟨x', hx, rfl⟩ := h
    have hx1 : x.cells = [x] := by
     simp only [List.all_cons, List.all_nil, Bool.and_true] at ho
     cases x <;> first | rfl | simp [TV.one] at ho
    exact .bp _ _ g (sh + 0) us (icells hx (by rw [hx1]; exact hus)).1 hmm fun _ => ⟨n1, n2⟩
  case sl id off sz ag len cap g sh c0 cc0 el0 fr0 hp hb0 hlc hcap hs =>
   split at h <;> try (cases h; done)
   rename_i hmk
   split at h <;> try (cases h; done)
   rename_i c ag0 hi
   obtain ⟨cc, el, us, hb, hl, ho, hus, hmm, hB, hav⟩ := obj_mem hH hp hi
   obtain ⟨n1, n2⟩ := hm.own g hmk hav hB
   split at h <;> try (cases h; done)
   rename_i hc
   obtain ⟨hc1, hc2⟩ := hc
   simp only [Option.map_eq_some_iff] at h
   obtain ⟨es, hes, rfl⟩ := h
   have hsub : ((c.drop off).take (len * sz)).all TV.one = true := by
    rw [List.all_eq_true] at ho ⊢
    exact fun x hx => ho x (List.mem_of_mem_drop (List.mem_of_mem_take hx))
   obtain ⟨e1, e2, e3⟩ := elems_spec (sz := sz) (n := len) (ag := ag) (l := (c.drop off).take (len * sz)) (by simp; omega) hc2 hsub
   obtain ⟨k1, k2, k3⟩ := iels hes (by rw [e1]; exact (hus.drop off).take (len * sz))
   rw [e3] at k2
   have := VRel.bs (π := π2) (w := w) (av := av2) (ex := ex2) (m == .borrow) sz es g (sh + off) c0 _ k1 (k3 sz e2) hmm.sub (fun _ => ⟨n1, n2⟩) (by omega)
   rwa [k2] at this
  case sl0 id off sz ag cap a hcap =>
   split at h <;> try (cases h; done)
   split at h <;> try (cases h; done)
   split at h <;> try (cases h; done)
   simp only [Option.map_eq_some_iff] at h
   obtain ⟨es, hes, rfl⟩ := h
   have : ∀ c : List TV, elems sz ag 0 ((c.drop off).take (0 * sz)) = [] := fun c => by
    unfold elems; split <;> simp [chunk]
   rw [this] at hes
   simp [mapO] at hes
   subst hes
   exact .bs0 _ _ _ _

end Go.Dn

/-
 Calls: out of what is known of code.
-/

namespace Go.Dn

variable {P : Program} {pg : Pg} {Gz : Nat} {B : Nat} {π : PMap} {H : Heap} {w : World} {av ex : Nat -> Prop}

def ExTo : Ex -> List Item -> List Item -> Prop
 | .normal, k, td => td = k
 | .exit id, k, td => ∃ K, td = .code (.exit id) :: K /\ exitTo id K = exitTo id k
 | .ret, k, td => ∃ K, td = .code .ret :: K

def mkD (r : Nat) : Deferred := { target := .collected r, args := #[] }

def DefOk (W0 : Nat) (w : World) (av : Nat -> Prop) (ds : List Deferred) : Prop := ∃ rs : List Nat, ds = rs.map mkD /\ rs.Nodup /\ ∀ r, r ∈ rs -> W0 <= r /\ ¬ av r /\ w.heap[r]? = some (.deferred (some []))

def RoundOk (b : Frame) (w : World) : Prop := ∀ l, b.roundOf = some l -> ∃ r, w.heap[l]? = some (.loop r)

def CodeOk (P : Program) (pg : Pg) (Gz : Nat) (R : Rec) : Prop := ∀ dc e H out, R dc e H = some out -> ∀ N c, chkC P N dc c = true ->
 ∀ (b : Frame) (tm : Array Value) (k : List Item) (ds : List Deferred) (cs : List Frame) (w : World) (π : PMap) (av ex : Nat -> Prop) (B W0 : Nat), St P pg Gz B π H w av ex -> ERel π w av ex e tm -> tm.size = N -> RoundOk b w -> DefOk W0 w av ds -> W0 <= w.heap.size ->
  ∃ tm' td ds' w' π' av', Steps P (lone (fr b tm (.code c :: k) ds) cs w) (lone (fr b tm' td ds') cs w') /\ tm'.size = N /\ ExTo out.ex k td /\ ERel π' w' av' ex out.env tm' /\ DefOk W0 w' av' ds' /\
   Res P B (wrK B av true) π H w av ex out.H w' π' av'

open Go.Sort in
def sortW (enc : Nat -> List Value) (k : Nat) (w : World) (blk off m : Nat) (dk : Array Nat) (os : Array Obj) : World := grow (putRowK enc k (Sort.ahead w m) blk off dk) os

open Go.Sort in
def CmpL (P : Program) (g : Nat) (cb : Array Value) (enc : Nat -> List Value) (k : Nat) (cf : Nat -> Nat -> Int) (blk off size : Nat) (w : World) : Prop :=
 ∀ (m : Nat) (os : Array Obj) (dk : Array Nat), dk.size = size -> ∀ x y : Nat,
  Calls P g (#[.agg (enc x).toArray, .agg (enc y).toArray] ++ cb) (sortW enc k w blk off m dk os) fun e w' => e = .returned (.int .i64 (cf x y)) /\ ∃ q os', w' = grow ((sortW enc k w blk off m dk os).drewN q) os'

open Go.Sort in
def SortAt (P : Program) (f k : Nat) : Prop :=
 (∀ args w, (callFunc f args).run P w = .ok (.enter f args) w) /\
 (∀ (p : Option Addr) (cap : Nat) (fv : Value) (w : World), Calls P f #[.slice p 0 cap, fv] w fun e w' => e = .returned (.tuple #[]) /\ w' = w) /\
 ∀ (enc : Nat -> List Value), (∀ x, (enc x).length = k) -> (∀ x, ∀ v ∈ enc x, v.oneCell' = true) -> ∀ (cf : Nat -> Nat -> Int), SWO (fun x y => decide (cf x y < 0)) -> ∀ (g : Nat) (cb : Array Value) (blk off cap : Nat) (d : Array Nat) (w : World),
  (∀ args w, (callFunc g args).run P w = .ok (.enter g args) w) -> CmpL P g cb enc k cf blk off d.size w -> HoldsK enc k w blk off d -> blk < w.heap.size -> d.size < 4611686018427387904 ->
  Calls P f #[.slice (some ⟨blk, off, none⟩) d.size cap, .func (.func g) #[] cb] w fun e w' =>
   e = .returned (.tuple #[]) /\ ∃ n os, w' = sortW enc k w blk off n (pdq (fun x y => decide (cf x y < 0)) d 0 d.size (Lib.bitLen d.size) true true) os

def SumOk (P : Program) (pg : Pg) (Gz : Nat) : Prop := (∀ f k, pg.Q f = some k -> SortAt P f k) /\ ∀ f ags r, pg.S f ags = some r -> ∃ pg' R', pg'.G = pg.G /\ CodeOk P pg' Gz R' /\ (∀ f d, pg'.F f = some d -> ∃ fn, P.funcs[f]? = some fn /\ (fn.name == "runtime.NumGoroutine") = false /\ chkF P d fn = true) /\
 ∃ r0 H1, bodyRun pg' R' f ags [] = some (r0, H1) /\ snap .fin H1 9 r0 = some r

def FnsOk (P : Program) (pg : Pg) : Prop := ∀ f d, pg.F f = some d -> ∃ fn, P.funcs[f]? = some fn /\ (fn.name == "runtime.NumGoroutine") = false /\ chkF P d fn = true

theorem DefOk.next {W0 : Nat} {ds : List Deferred} {W : Bool} {π' : PMap} {w' : World} {av' : Nat -> Prop} (h : DefOk W0 w av ds) (e : Ev (wrK B av W) π w av π' w' av') : DefOk W0 w' av' ds := by
 obtain ⟨rs, h1, h2, h3⟩ := h
 refine ⟨rs, h1, h2, fun r hr => ?_⟩
 obtain ⟨a, b, c⟩ := h3 r hr
 have hlt : r < w.heap.size := (Array.getElem?_eq_some_iff.1 c).1
 exact ⟨a, fun x => b (e.sub r hlt x), by rw [e.blk r hlt fun x => b x.2.1]; exact c⟩

theorem RoundOk.next {b : Frame} {wr : Nat -> Prop} {π' : PMap} {w' : World} {av' : Nat -> Prop} (h : RoundOk b w) (e : Ev wr π w av π' w' av') : RoundOk b w' := fun l hl => by
 obtain ⟨r, hr⟩ := h l hl
 exact e.lop l r hr

/-! ### results -/
def rdRes (tm : Array Value) : ResultVar -> Sem Value
 | .tmp t => Pure.pure (tm.getD t undef)
 | .cell a t => do loadVar t (<- asAddr (tm.getD a undef))

theorem results_eq (fn : Func) (tm : Array Value) : results fn tm = (do let vs <- fn.results.mapM (rdRes tm); Pure.pure (if h : vs.size = 1 then vs[0] else .tuple vs)) := by
 have : (rdRes tm) = (fun | .tmp t => Pure.pure (tm.getD t undef) | .cell a t => (do loadVar t (<- asAddr (tm.getD a undef)) : Sem Value)) := by
  funext x; cases x <;> rfl
 rw [this]; rfl

theorem resRun_sound (hs : St P pg Gz B π H w av ex) {e : Env} {tm : Array Value} (he : ERel π w av ex e tm) : ∀ {rs : List RV} {vs : List ResultVar} {ts : List TV}, chkR P rs vs = true -> mapO (resRun e H) rs = some ts ->
  ∃ us, (vs.mapM (rdRes tm)).run P w = .ok us w /\ VsRel π w av ex ts us
 | [], [], ts, _, h => by simp [mapO] at h; subst h; exact ⟨[], by simp, .nil⟩
 | r :: rs, v :: vs, ts, hc, h => by
  simp only [mapO, Option.bind_eq_some_iff, Option.some.injEq] at h
  obtain ⟨t, ht, ts', hts, rfl⟩ := h
  cases r <;> cases v <;> simp only [chkR, Bool.false_eq_true, Bool.and_eq_true, beq_iff_eq] at hc
  case t.tmp s s' =>
   obtain ⟨rfl, hc⟩ := hc
   obtain ⟨us, h1, h2⟩ := resRun_sound hs he hc hts
   exact ⟨tm.getD s undef :: us, by simp [List.mapM_cons, h1, rdRes], .cons _ _ _ _ (he s t ht) h2⟩
  case c.cell s sz ag s' ty =>
   obtain ⟨⟨rfl, hty⟩, hc⟩ := hc
   obtain ⟨us, h1, h2⟩ := resRun_sound hs he hc hts
   simp only [resRun, Option.bind_eq_some_iff, Option.map_eq_some_iff] at ht
   obtain ⟨p, hp, ⟨t', H'⟩, hd, rfl⟩ := ht
   have hpr := he s p hp
   obtain ⟨_, v, hv, hvr⟩ := ld_sound hs.hr hd hpr hty
   refine ⟨v :: us, ?_, .cons _ _ _ _ hvr h2⟩
   have ha : ∃ a, tm.getD s undef = .pointer (some a) := by
    generalize tm.getD s undef = u at hpr
    cases hpr <;> simp only [dk] at hd <;> first | (cases hd; done) | exact ⟨_, rfl⟩
   obtain ⟨a, ha⟩ := ha
   rw [ha] at hv
   have hv' : (loadVar ty a).run P w = .ok v w := by simpa [Instr.loadAt, Instr.sureAddr] using hv
   simp only [List.mapM_cons, rdRes, Sem.run_bind, ha, asAddr, Sem.run_pure, Result.andThen_ok, hv', h1]
 | [], _ :: _, _, hc, _ => by simp [chkR] at hc
 | _ :: _, [], _, hc, _ => by cases ‹RV› <;> simp [chkR] at hc

theorem get_zipE : ∀ (l : List TV) (n s : Nat) (t : TV), get (zipE l n) s = some t -> n <= s /\ l[s - n]? = some t
 | [], n, s, t, h => by simp [zipE, get] at h
 | v :: l, n, s, t, h => by
  simp only [zipE, get] at h
  split at h
  ·rename_i he; subst he; injection h with h; subst h; simp
  ·have := get_zipE l (n + 1) s t h
   refine ⟨by omega, ?_⟩
   rw [show s - n = (s - (n + 1)) + 1 by omega]
   simpa using this.2

theorem ERel.args {args : List TV} {us : Array Value} (h : VsRel π w av ex args us.toList) (m : Nat) : ERel π w av ex (zipE args 0) (us ++ Array.replicate m undef) := by
 intro s t hs
 obtain ⟨_, ht⟩ := get_zipE args 0 s t hs
 obtain ⟨u, hu, hr⟩ := h.get ht
 simp at hu
 have hlt := (Array.getElem?_eq_some_iff.1 hu).1
 have : (us ++ Array.replicate m undef).getD s undef = u := by
  rw [Array.getD_eq_getD_getElem?, Array.getElem?_append_left hlt, hu]; rfl
 rw [this]; exact hr

theorem take_all {W0 : Nat} {f : Frame} {cs : List Frame} : ∀ (rs : List Nat) (f : Frame) (w : World), f.mode = .returning -> f.defers = rs.map mkD -> rs.Nodup -> (∀ r, r ∈ rs -> W0 <= r /\ w.heap[r]? = some (.deferred (some []))) ->
  ∃ w', Steps P (lone f cs w) (lone { f with defers := [] } cs w') /\ SameW w w' /\ ∀ g, g < W0 -> w'.heap[g]? = w.heap[g]?
 | [], f, w, hm, hd, _, _ => by
  refine ⟨w, ?_, ⟨rfl, rfl, ⟨rfl, Nat.le_refl _⟩, rfl, fun _ _ h _ => h⟩, fun _ _ => rfl⟩
  have : f = { f with defers := [] } := by rw [<- show f.defers = [] from hd]
  rw [<- this]
  exact Steps.refl _ _
 | r :: rs, f, w, hm, hd, hn, hr => by
  obtain ⟨h1, h2⟩ := hr r (by simp)
  have hs := st_take (P := P) (cs := cs) (w := w) (f := f) (blk := r) (ds := rs.map mkD) hm hd h2
  have hsame := SameW.take w (d' := none) h2
  obtain ⟨w', h3, h4, h5⟩ := take_all (W0 := W0) (f := f) rs { f with defers := rs.map mkD } { w with heap := w.heap.setIfInBounds r (.deferred none) } hm rfl (List.nodup_cons.1 hn).2 (fun r' hr' => by
   obtain ⟨a, b⟩ := hr r' (by simp [hr'])
   refine ⟨a, ?_⟩
   show (w.heap.setIfInBounds r (.deferred none))[r']? = _
   rw [Array.getElem?_setIfInBounds, if_neg (fun e : r = r' => (List.nodup_cons.1 hn).1 (by rw [e]; exact hr'))]
   exact b)
  refine ⟨w', .head hs h3, ?_, fun g hg => ?_⟩
  ·exact ⟨h4.1.trans hsame.1, h4.2.1.trans hsame.2.1, ⟨h4.2.2.1.1.trans hsame.2.2.1.1, Nat.le_trans hsame.2.2.1.2 h4.2.2.1.2⟩, h4.2.2.2.1.trans hsame.2.2.2.1, fun g ob hg hd => h4.2.2.2.2 g ob (hsame.2.2.2.2 g ob hg hd) hd⟩
  ·rw [h5 g hg]
   show (w.heap.setIfInBounds r (.deferred none))[g]? = _
   rw [Array.getElem?_setIfInBounds, if_neg (by omega)]

def tupR : List TV -> TV
 | [v] => v
 | vs => .tup vs

theorem body_sound {R : Rec} (hR : CodeOk P pg Gz R) (hF : FnsOk P pg) {f : Nat} {args : List TV} {t : TV} {H' : Heap} (h : bodyRun pg R f args H = some (t, H')) (hs : St P pg Gz B π H w av ex) {us : Array Value} (hu : VsRel π w av ex args us.toList) :
  (callFunc f us).run P w = .ok (.enter f us) w /\ ∀ cs, ∃ frm v w' π' av', Steps P (lone (Frame.enter P f us .normal) cs w) (lone frm cs w') /\ frm.fn = f /\ frm.leaving P w' (.returned v) /\ VRel π' w' av' ex t v /\
   Res P B (wrK B av true) π H w av ex H' w' π' av' := by
 simp only [bodyRun, Option.bind_eq_some_iff] at h
 obtain ⟨d, hd, h⟩ := h
 obtain ⟨fn, hfn, hname, hchk⟩ := hF f d hd
 simp only [chkF, Bool.and_eq_true, beq_iff_eq, decide_eq_true_eq] at hchk
 obtain ⟨⟨⟨hnt, hnp⟩, hbody⟩, hres⟩ := hchk
 cases hb : fn.body with
 | none => rw [hb] at hbody; simp at hbody
 | some c =>
  simp only [hb] at hbody
  split at h <;> try (cases h; done)
  rename_i hlen
  simp only [Option.bind_eq_some_iff] at h
  obtain ⟨o, ho, h⟩ := h
  have hul := hu.length
  simp at hul
  refine ⟨?_, fun cs => ?_⟩
  ·have hname' : ¬ (fn.name == "runtime.NumGoroutine") = true := by rw [hname]; simp
   simp [callFunc, hfn, hname', hb]
   simpa using hname
  ·let b : Frame := { (default : Frame) with fn := f, kind := .normal, roundOf := none }
   have henter : Frame.enter P f us .normal = fr b (us ++ Array.replicate (fn.ntmps - us.size) undef) [.code c] [] := by
    simp [Frame.enter, fr, hfn, hb, b]
   have hsz : (us ++ Array.replicate (fn.ntmps - us.size) undef).size = d.nt := by simp; omega
   obtain ⟨tm', td, ds', w', π', av', hst, hsz', hex, her, hdef, hr⟩ := hR _ _ _ _ ho d.nt c hbody b _ [] [] cs w π av ex B w.heap.size hs (ERel.args hu _) hsz (fun l hl => by simp [b] at hl)
    ⟨[], rfl, List.nodup_nil, fun r hr => by simp at hr⟩ (Nat.le_refl _)
   have hs' := hs.nextK hr
   obtain ⟨rs, hds, hnod, hrs⟩ := hdef
   -- the results
   have hfin : ∃ vs, mapO (resRun o.env o.H) d.res = some vs /\ t = tupR vs /\ H' = o.H /\ (∀ id, o.ex ≠ .exit id) := by
    cases hoe : o.ex with
    | exit id => rw [hoe] at h; simp at h
    | normal =>
     rw [hoe] at h
     simp only [Option.map_eq_some_iff, Prod.mk.injEq] at h
     obtain ⟨vs, hvs, h1, h2⟩ := h
     refine ⟨vs, hvs, ?_, h2.symm, by simp⟩
     rw [<- h1]; rcases vs with _ | ⟨_, _ | ⟨_, _⟩⟩ <;> rfl
    | ret =>
     rw [hoe] at h
     simp only [Option.map_eq_some_iff, Prod.mk.injEq] at h
     obtain ⟨vs, hvs, h1, h2⟩ := h
     refine ⟨vs, hvs, ?_, h2.symm, by simp⟩
     rw [<- h1]; rcases vs with _ | ⟨_, _ | ⟨_, _⟩⟩ <;> rfl
   obtain ⟨vs, hvs, rfl, rfl, hne⟩ := hfin
   -- to the state of returning
   have hret : ∃ td', Steps P (lone (fr b tm' td ds') cs w') (lone { fr b tm' td' ds' with mode := .returning } cs w') := by
    cases hoe : o.ex with
    | exit id => exact absurd hoe (hne id)
    | normal =>
     rw [hoe] at hex
     have : td = [] := hex
     subst this
     exact ⟨[], .one (st_leave rfl)⟩
    | ret =>
     rw [hoe] at hex
     obtain ⟨K, rfl⟩ := hex
     exact ⟨_, .one (st_ret rfl)⟩
   obtain ⟨td', hret⟩ := hret
   obtain ⟨w2, htk, hsw, hlow⟩ := take_all (P := P) (cs := cs) (W0 := w.heap.size) (f := fr b tm' td' ds') rs { fr b tm' td' ds' with mode := .returning } w' rfl hds hnod (fun r hr => ⟨(hrs r hr).1, (hrs r hr).2.2⟩)
   have hr2 := hr.sameW hsw hlow
   have hs2 := hs.nextK hr2
   have her2 : ERel π' w2 av' ex o.env tm' := fun s t hst => (her s t hst).same hsw
   obtain ⟨us', hru, hvr⟩ := resRun_sound hs2 her2 hres hvs
   have hresults : ∃ v, (results fn tm').run P w2 = .ok v w2 /\ VRel π' w2 av' ex (tupR vs) v := by
    have hl := hvr.length
    have hm : (fn.results.mapM (rdRes tm')).run P w2 = .ok us'.toArray w2 := by
     rw [Array.mapM_eq_mapM_toList, Sem.run_map, hru]; rfl
    rw [results_eq, Sem.run_bind, hm, Result.andThen_ok]
    rcases vs with _ | ⟨v1, _ | ⟨v2, vs⟩⟩
    ·cases hvr
     exact ⟨_, rfl, .tup _ _ .nil⟩
    ·obtain ⟨x, hx, hxr⟩ : ∃ x, us' = [x] /\ VRel π' w2 av' ex v1 x := by
      cases hvr with | cons _ u _ us h hs => cases hs; exact ⟨u, rfl, h⟩
     subst hx
     exact ⟨x, rfl, hxr⟩
    ·have hne1 : ¬ (us'.toArray.size = 1) := by simp; simp at hl; omega
     refine ⟨.tuple us'.toArray, ?_, .tup _ _ (by simpa using hvr)⟩
     simp only [dif_neg hne1]
     rfl
   obtain ⟨v, hv, hvrel⟩ := hresults
   refine ⟨{ fr b tm' td' [] with mode := .returning }, v, w2, π', av', ?_, rfl, ⟨rfl, rfl, rfl, fn, hfn, hv⟩, hvrel, hr2⟩
   rw [henter]
   exact hst.trans (hret.trans htk)

/-! ### a call, of whatever kind -/
def invokeS (u : Value) (us : Array Value) : Sem Next := do let d <- Deferred.ofValue u us; invoke d.target d.args

def CallRes (P : Program) (B : Nat) (W : Bool) (π : PMap) (H : Heap) (w : World) (av ex : Nat -> Prop) (t : TV) (H' : Heap) (frm : Frame) : Prop :=
 ∀ (c : Frame) cs, ∃ v w' π' av', Steps P (lone frm (c :: cs) w) (lone (c.finish v) cs w') /\ VRel π' w' av' ex t v /\ Res P B (wrK B av W) π H w av ex H' w' π' av'

theorem snapArgs_sound (hH : HRel P B π H w av ex) {av2 ex2 : Nat -> Prop} {π2 : PMap} (hb : SnOk .borrow B av ex av2 ex2) (hk : SnOk .keep B av ex av2 ex2) : ∀ {ks : List Bool} {ts ts' : List TV} {us : List Value}, snapArgs H ks ts = some ts' ->
  VsRel π w av ex ts us -> VsRel π2 w av2 ex2 ts' us
 | ks, [], ts', us, h, hv => by simp [snapArgs] at h; subst h; cases hv; exact .nil
 | ks, t :: ts, ts', us, h, hv => by
  simp only [snapArgs, Option.bind_eq_some_iff, Option.map_eq_some_iff] at h
  obtain ⟨t', ht, ts'', hts, rfl⟩ := h
  cases hv with | cons _ u _ us hu hus =>
  refine .cons _ _ _ _ ?_ (snapArgs_sound hH hb hk hts hus)
  split at ht
  ·exact snap_sound hH hk 9 ht hu
  ·exact snap_sound hH hb 9 ht hu

theorem pure_sound {R : Rec} (hR : CodeOk P pg Gz R) (hF : FnsOk P pg) {f : Nat} {ks : List Bool} {args ags : List TV} {r t : TV} {H1 : Heap} (ha : snapArgs H ks args = some ags) (hb : bodyRun pg R f ags [] = some (r, H1)) (hf : snap .fin H1 9 r = some t)
  (hs : St0 P pg Gz B π H w av ex) {us : Array Value} (hu : VsRel π w av ex args us.toList) : (callFunc f us).run P w = .ok (.enter f us) w /\ CallRes P B false π H w av ex t H (Frame.enter P f us .normal) := by
 let ex2 : Nat -> Prop := fun g => av g \/ ex g
 have hB : SnOk .borrow B av ex none' ex2 := ⟨fun g bo bo' hfl _ => by simp [SM.flag] at hfl; subst hfl; exact ⟨id, fun h => by cases h⟩, fun g _ _ _ => ⟨id, fun h => by simp at h⟩⟩
 have hK : SnOk .keep B av ex none' ex2 := ⟨fun g bo bo' hfl h => by simp [SM.flag] at hfl; subst hfl; exact ⟨id, fun hb hx => hx.elim h.1 (h.2 hb)⟩, fun g hk _ _ => absurd rfl hk⟩
 have hargs := snapArgs_sound (π2 := fun _ => none) hs.hr hB hK ha hu
 have hs0 : St P pg Gz w.heap.size (fun _ => none) [] w none' ex2 :=
  ⟨⟨⟨(fun _ _ _ _ h => by cases h), (fun _ _ _ _ _ _ _ h => by cases h), (fun g h => False.elim h), (fun g h => Or.elim h (hs.hr.avb g) (hs.hr.exb g)), Nat.le_refl _⟩, hs.gl, (fun g h => False.elim h), (fun g h => Or.elim h (hs.avg g) (hs.exg g)),
   Nat.le_trans hs.gB hs.hr.bsz⟩, fun _ _ => rfl⟩
 obtain ⟨h1, h2⟩ := body_sound hR hF hb hs0 hargs
 refine ⟨h1, fun c cs => ?_⟩
 obtain ⟨frm, v, w', π', av', hst, hfnn, hlv, hvr, hres⟩ := h2 (c :: cs)
 have hev : Ev (wrK B av false) π w av π w' av :=
  ⟨fun _ _ h => h, fun g hg _ => hres.ev.blk g hg fun x => by have := x.2.2; omega, hres.ev.siz, hres.ev.lop, fun _ _ h => h, hres.ev.len, hres.ev.os, hres.ev.tape, hres.ev.out⟩
 have hev0 : Ev none' π w av π w' av := { hev with blk := fun g hg _ => hres.ev.blk g hg fun x => by have := x.2.2; omega }
 refine ⟨v, w', π, av, hst.trans (.one (step_leave_returned hlv)), ?_, ⟨hev, hs.hr.mono hev0 (fun _ _ _ x => x rfl) (fun _ x => x) fun g x => Nat.lt_of_lt_of_le (hs.hr.avb g x) hev.len, fun _ x => absurd rfl x, fun _ x => x, Nat.le_refl _, fun _ _ _ x => absurd rfl x⟩⟩
 refine snap_sound hres.hr ⟨fun g bo bo' hfl h => ?_, fun g _ hav hBg => ?_⟩ 9 hf hvr
 ·cases bo <;> simp [SM.flag] at hfl
  subst hfl
  have := h.2 rfl
  exact ⟨fun x => this (.inl x), fun _ x => this (.inr x)⟩
 ·exact ⟨fun x => by have := hs.hr.avb g x; omega, fun _ x => by have := hs.hr.exb g x; omega⟩

theorem takeWhile_take {α : Type} (p : α -> Bool) : ∀ l : List α, ∃ k, l.takeWhile p = l.take k
 | [] => ⟨0, rfl⟩
 | a :: l => by
  obtain ⟨k, hk⟩ := takeWhile_take p l
  by_cases h : p a = true
  ·exact ⟨k + 1, by simp [List.takeWhile_cons, h, hk]⟩
  ·exact ⟨0, by simp [List.takeWhile_cons, h]⟩

theorem grV_sound {π π' : PMap} {w : World} {av av' ex ex' : Nat -> Prop} {n : Nat} (hp : ∀ id p, π id = some p -> π' (n + id) = some p) {t t' : TV} {v : Value} (h : grV n t = some t') (hv : VRel π w av ex t v) : VRel π' w av' ex' t' v := by
 cases t <;> simp only [grV] at h <;> try (cases h; done)
 all_goals (injection h with h; subst h)
 case b => cases hv; exact .b _
 case i => cases hv; exact .i _ _
 case nilsl => cases hv; exact .nilsl
 case sl =>
  cases hv with
  | sl _ _ _ _ _ _ g sh c cc el fr h hb hl hc hs => exact .sl _ _ _ _ _ _ g sh c cc el fr (hp _ _ h) hb hl hc hs
  | sl0 _ _ _ _ _ a hc => exact .sl0 _ _ _ _ _ a hc

theorem grVs_sound {π π' : PMap} {w : World} {av av' ex ex' : Nat -> Prop} {n : Nat} (hp : ∀ id p, π id = some p -> π' (n + id) = some p) : ∀ {ts ts' : List TV} {vs : List Value}, mapO (grV n) ts = some ts' -> VsRel π w av ex ts vs -> VsRel π' w av' ex' ts' vs
 | [], ts', vs, h, hv => by simp [mapO] at h; subst h; cases hv; exact .nil
 | t :: ts, ts', vs, h, hv => by
  simp only [mapO, Option.bind_eq_some_iff, Option.some.injEq] at h
  obtain ⟨t', h1, ts'', h2, rfl⟩ := h
  cases hv with | cons _ v _ vs hv hvs => exact .cons _ _ _ _ (grV_sound hp h1 hv) (grVs_sound hp h2 hvs)

theorem grR_sound {π π' : PMap} {w : World} {av av' ex ex' : Nat -> Prop} {n : Nat} (hp : ∀ id p, π id = some p -> π' (n + id) = some p) {t t' : TV} {v : Value} (h : grR n t = some t') (hv : VRel π w av ex t v) : VRel π' w av' ex' t' v := by
 cases t <;> simp only [grR] at h <;> try (exact grV_sound hp h hv)
 simp only [Option.map_eq_some_iff] at h
 obtain ⟨l, h1, rfl⟩ := h
 cases hv with | tup l cs hl => exact .tup _ _ (grVs_sound hp h1 hl)

theorem scal_sound {π π' : PMap} {w w' : World} {av av' ex ex' : Nat -> Prop} : ∀ {ts : List TV} {vs : List Value}, ts.all TV.scal = true -> VsRel π w av ex ts vs -> VsRel π' w' av' ex' ts vs
 | [], vs, _, hv => by cases hv; exact .nil
 | t :: ts, vs, h, hv => by
  simp only [List.all_cons, Bool.and_eq_true] at h
  cases hv with
  | cons _ v _ vs hv hvs =>
   refine .cons _ _ _ _ ?_ (scal_sound h.2 hvs)
   cases t <;> simp [TV.scal] at h <;> cases hv
   ·exact .b _
   ·exact .i _ _

theorem grafted_sound {R : Rec} (hR : CodeOk P pg Gz R) (hF : FnsOk P pg) {f : Nat} {ks : List Bool} {args ags : List TV} {r t : TV} {H1 : Heap} (ha : snapArgs H ks args = some ags) (hb : bodyRun pg R f ags [] = some (r, H1)) (hf : grR H.length r = some t)
  (hs : St P pg Gz B π H w av ex) {us : Array Value} (hu : VsRel π w av ex args us.toList) : (callFunc f us).run P w = .ok (.enter f us) w /\ CallRes P B true π H w av ex t (H ++ H1.map grO) (Frame.enter P f us .normal) := by
 let ex2 : Nat -> Prop := fun g => av g \/ ex g
 have hB : SnOk .borrow B av ex none' ex2 := ⟨fun g bo bo' hfl _ => by simp [SM.flag] at hfl; subst hfl; exact ⟨id, fun h => by cases h⟩, fun g _ _ _ => ⟨id, fun h => by simp at h⟩⟩
 have hK : SnOk .keep B av ex none' ex2 := ⟨fun g bo bo' hfl h => by simp [SM.flag] at hfl; subst hfl; exact ⟨id, fun hb hx => hx.elim h.1 (h.2 hb)⟩, fun g hk _ _ => absurd rfl hk⟩
 have hargs := snapArgs_sound (π2 := fun _ => none) hs.hr hB hK ha hu
 have hs0 : St P pg Gz w.heap.size (fun _ => none) [] w none' ex2 :=
  ⟨⟨⟨(fun _ _ _ _ h => by cases h), (fun _ _ _ _ _ _ _ h => by cases h), (fun g h => False.elim h), (fun g h => Or.elim h (hs.hr.avb g) (hs.hr.exb g)), Nat.le_refl _⟩, hs.gl, (fun g h => False.elim h), (fun g h => Or.elim h (hs.avg g) (hs.exg g)),
   Nat.le_trans hs.gB hs.hr.bsz⟩, fun _ _ => rfl⟩
 obtain ⟨h1, h2⟩ := body_sound hR hF hb hs0 hargs
 refine ⟨h1, fun c cs => ?_⟩
 obtain ⟨frm, v, w', π', av', hst, hfnn, hlv, hvr, hres⟩ := h2 (c :: cs)
 have hlen := hres.ev.len
 -- the callee's own blocks lie behind all that was there
 have hnew : ∀ g, av' g -> w.heap.size <= g := fun g hg => by
  rcases Nat.lt_or_ge g w.heap.size with h | h
  ·exact (hres.ev.sub g h hg).elim
  ·exact h
 have hdom : ∀ id p, π' id = some p -> id < H1.length := fun id p hp => by
  have := (hres.dom id (by rw [hp]; simp)).2
  exact this
 have hback : ∀ id g sh, π' id = some (g, sh) -> w.heap.size <= g := fun id g sh hp => by
  rcases hres.frs id g sh (by rw [hp]; simp) hp with h | h
  ·exact h
  ·exact h.2.1.elim
 let n := H.length
 let π2 : PMap := fun i => if i < n then π i else π' (i - n)
 let av2 : Nat -> Prop := fun g => av g \/ av' g
 have hp2 : ∀ id p, π' id = some p -> π2 (n + id) = some p := fun id p hp => by
  show (if n + id < n then π (n + id) else π' (n + id - n)) = some p
  rw [if_neg (by omega), Nat.add_sub_cancel_left]; exact hp
 have hp1 : ∀ id p, π id = some p -> π2 id = some p := fun id p hp => by
  have : id < n := by
   rcases Nat.lt_or_ge id n with h | h
   ·exact h
   ·rw [hs.dom id h] at hp; cases hp
  show (if id < n then π id else π' (id - n)) = some p
  rw [if_pos this]; exact hp
 have hev : ∀ wr, Ev wr π w av π2 w' av2 := fun wr =>
  ⟨hp1, fun g hg _ => hres.ev.blk g hg fun x => x.2.1.elim, hres.ev.siz, hres.ev.lop, fun g hg h => h.elim id fun h => absurd (hnew g h) (by omega), hlen, hres.ev.os, hres.ev.tape, hres.ev.out⟩
 have hidx : ∀ i o, (H ++ H1.map grO)[i]? = some o -> (i < n /\ H[i]? = some o) \/ (n <= i /\ ∃ o1, H1[i - n]? = some o1 /\ grO o1 = o) := by
  intro i o hh
  rcases Nat.lt_or_ge i n with h | h
  ·rw [List.getElem?_append_left h] at hh; exact .inl ⟨h, hh⟩
  ·rw [List.getElem?_append_right h, List.getElem?_map, Option.map_eq_some_iff] at hh
   exact .inr ⟨h, hh⟩
 have hgr : ∀ {o1 o : AObj}, grO o1 = o -> o ≠ .dead -> ∃ c ag, o1 = .cells c ag /\ o = .cells (c.takeWhile TV.scal) ag := by
  intro o1 o he hd
  cases o1 <;> simp only [grO] at he <;> try (exact absurd he.symm hd)
  exact ⟨_, _, rfl, he.symm⟩
 have hπ2 : ∀ i g sh, π2 i = some (g, sh) -> (i < n /\ π i = some (g, sh)) \/ (n <= i /\ π' (i - n) = some (g, sh)) := by
  intro i g sh hp
  by_cases h : i < n
  ·have : π2 i = π i := if_pos h
   rw [this] at hp; exact .inl ⟨h, hp⟩
  ·have : π2 i = π' (i - n) := if_neg h
   rw [this] at hp; exact .inr ⟨by omega, hp⟩
 have hHR : HRel P B π2 (H ++ H1.map grO) w' av2 ex := by
  refine ⟨?_, ?_, fun g h => h.elim (fun h => Nat.lt_of_lt_of_le (hs.hr.avb g h) hlen) fun h => hres.hr.avb g h, fun g h => Nat.lt_of_lt_of_le (hs.hr.exb g h) hlen, Nat.le_trans hs.hr.bsz hlen⟩
  ·intro i g sh o hp hh hd
   rcases hidx i o hh with ⟨hi, ho⟩ | ⟨hi, o1, ho1, hg1⟩
   ·rcases hπ2 i g sh hp with ⟨_, hp⟩ | ⟨hi', _⟩
    ·obtain ⟨b1, b2, ob, b3, b4⟩ := hs.hr.obj i g sh o hp ho hd
     exact ⟨b1, .inl b2, ob, by rw [hres.ev.blk g (hs.hr.avb g b2) fun x => x.2.1.elim]; exact b3, b4.mono (hev none') fun _ _ x => x.elim⟩
    ·omega
   ·rcases hπ2 i g sh hp with ⟨hi', _⟩ | ⟨_, hp⟩
    ·omega
    ·obtain ⟨c, ag, rfl, rfl⟩ := hgr hg1 hd
     obtain ⟨b1, b2, ob, b3, b4⟩ := hres.hr.obj (i - n) g sh _ hp ho1 (by simp)
     cases ob <;> simp only [ORel] at b4
     obtain ⟨c1, c2, c3, us', c4, c5⟩ := b4
     obtain ⟨k, hk⟩ := takeWhile_take TV.scal c
     have hc : (c.takeWhile TV.scal).all TV.scal = true := List.all_takeWhile
     refine ⟨Nat.le_trans hs.hr.bsz b1, .inr b2, _, b3, c1, ?_, ?_, us'.take k, ?_, fun j u hj => ?_⟩
     ·rw [hk, List.length_take]; omega
     ·rw [hk]; exact List.all_eq_true.2 fun x hx => List.all_eq_true.1 c3 x (List.mem_of_mem_take hx)
     ·exact scal_sound hc (by rw [hk]; exact c4.take k)
     ·rw [List.getElem?_take] at hj
      split at hj
      ·exact c5 j u hj
      ·cases hj
  ·intro i i' g s1 s2 o1 o2 hp1 hh1 hd1 hp2 hh2 hd2
   rcases hidx i o1 hh1 with ⟨hi1, ho1⟩ | ⟨hi1, q1, hq1, hg1⟩ <;> rcases hidx i' o2 hh2 with ⟨hi2, ho2⟩ | ⟨hi2, q2, hq2, hg2⟩ <;> rcases hπ2 i g s1 hp1 with ⟨j1, hp1⟩ | ⟨j1, hp1⟩ <;> rcases hπ2 i' g s2 hp2 with ⟨j2, hp2⟩ | ⟨j2, hp2⟩ <;> (try omega)
   ·exact hs.hr.inj i i' g s1 s2 o1 o2 hp1 ho1 hd1 hp2 ho2 hd2
   ·have := hback _ _ _ hp2
    have := hs.hr.avb g (hs.hr.obj i g s1 o1 hp1 ho1 hd1).2.1
    omega
   ·have := hback _ _ _ hp1
    have := hs.hr.avb g (hs.hr.obj i' g s2 o2 hp2 ho2 hd2).2.1
    omega
   ·obtain ⟨_, _, rfl, _⟩ := hgr hg1 hd1
    obtain ⟨_, _, rfl, _⟩ := hgr hg2 hd2
    have := hres.hr.inj (i - n) (i' - n) g s1 s2 _ _ hp1 hq1 (by simp) hp2 hq2 (by simp)
    omega
 refine ⟨v, w', π2, av2, hst.trans (.one (step_leave_returned hlv)), grR_sound hp2 hf hvr, ⟨hev _, hHR, fun i hi => ?_, fun g h => .inl h, by simp, fun i g sh hi hp => ?_⟩⟩
 ·by_cases h : i < n
  ·exact absurd (if_pos h : π2 i = π i) hi
  ·have e : π2 i = π' (i - n) := if_neg h
   cases hq : π' (i - n) with
   | none =>
    exfalso
    apply hi
    rw [e, hq, hs.dom i (by omega)]
   | some p =>
    have := hdom _ _ hq
    simp only [List.length_append, List.length_map]
    show n <= i /\ i < n + H1.length
    omega
 ·rcases hπ2 i g sh hp with ⟨h, hp'⟩ | ⟨h, hp'⟩
  ·exact absurd (if_pos h : π2 i = π i) hi
  ·exact .inl (hback _ _ _ hp')

theorem shared_sound {R : Rec} (hR : CodeOk P pg Gz R) (hF : FnsOk P pg) {f : Nat} {args : List TV} {t : TV} {H' : Heap} (hb : bodyRun pg R f args H = some (t, H')) (hs : St P pg Gz B π H w av ex) {us : Array Value} (hu : VsRel π w av ex args us.toList) :
  (callFunc f us).run P w = .ok (.enter f us) w /\ CallRes P B true π H w av ex t H' (Frame.enter P f us .normal) := by
 obtain ⟨h1, h2⟩ := body_sound hR hF hb hs hu
 refine ⟨h1, fun c cs => ?_⟩
 obtain ⟨frm, v, w', π', av', hst, hfnn, hlv, hvr, hres⟩ := h2 (c :: cs)
 exact ⟨v, w', π', av', hst.trans (.one (step_leave_returned hlv)), hvr, hres⟩

end Go.Dn

/-
 Calls of function values, rounds of loops over functions.
-/

namespace Go.Dn

variable {P : Program} {pg : Pg} {Gz : Nat} {B : Nat} {π : PMap} {H : Heap} {w : World} {av ex : Nat -> Prop}

def setL (w : World) (g : Nat) (r : Loop) : World := { w with heap := w.heap.setIfInBounds g (.loop r) }

theorem setL_at {g : Nat} {r r' : Loop} (h : w.heap[g]? = some (.loop r)) : (setL w g r').heap[g]? = some (.loop r') := by
 have := (Array.getElem?_eq_some_iff.1 h).1
 simp [setL, this]

theorem Ev.setL {g : Nat} {r : Loop} (h : w.heap[g]? = some (.loop r)) (r' : Loop) : Ev (only g) π w av π (setL w g r') av where
 map _ _ h := h
 blk x hx hn := by
  show (w.heap.setIfInBounds g (.loop r'))[x]? = _
  rw [Array.getElem?_setIfInBounds, if_neg (fun e => hn e.symm)]
 siz x cc el fr hx := by
  refine ⟨cc, ?_, rfl⟩
  show (w.heap.setIfInBounds g (.loop r'))[x]? = _
  rw [Array.getElem?_setIfInBounds]
  split
  ·rename_i e; subst e; rw [h] at hx; cases hx
  ·exact hx
 lop x q hx := by
  by_cases e : g = x
  ·subst e; exact ⟨r', setL_at h⟩
  ·refine ⟨q, ?_⟩
   show (w.heap.setIfInBounds g (.loop r'))[x]? = _
   rw [Array.getElem?_setIfInBounds, if_neg e]
   exact hx
 sub _ _ x := x
 len := by simp [Dn.setL]
 os := rfl
 tape := ⟨rfl, Nat.le_refl _⟩
 out := rfl

theorem loop_at (hs : St P pg Gz B π H w av ex) {id g : Nat} {L : ALoop} (hp : π id = some (g, 0)) (hi : H[id]? = some (.loop L)) :
  ∃ r, w.heap[g]? = some (.loop r) /\ ORel P π w av ex 0 (.loop L) (.loop r) /\ av g /\ B <= g := by
 obtain ⟨h1, h2, ob, h3, h4⟩ := hs.hr.obj id g 0 _ hp hi (by simp)
 cases ob <;> simp only [ORel] at h4
 rename_i r
 exact ⟨r, h3, by simpa only [ORel] using h4, h2, h1⟩

theorem Res.setLoop (hs : St P pg Gz B π H w av ex) {id g : Nat} {L L' : ALoop} {r r' : Loop} (hp : π id = some (g, 0)) (hi : H[id]? = some (.loop L)) (hr : w.heap[g]? = some (.loop r)) (ho : ORel P π w av ex 0 (.loop L') (.loop r')) :
  Res P B (wrK B av true) π H w av ex (H.set id (.loop L')) (setL w g r') π av := by
 have e := Ev.setL (π := π) (av := av) hr r'
 obtain ⟨h1, h2, _⟩ := hs.hr.obj id g 0 _ hp hi (by simp)
 refine ⟨e.wider fun x hx => by rw [show x = g from hx]; exact ⟨rfl, h2, h1⟩, ?_, fun _ x => absurd rfl x, fun _ x => x, by simp, fun _ _ _ x => absurd rfl x⟩
 exact hs.hr.set hp hi (by simp) e _ _ (setL_at hr) (ho.mono e fun x _ hx => by rw [show x = g from hx]; exact h2)

theorem yield_run {g : Nat} {r : Loop} {us : Array Value} (h : w.heap[g]? = some (.loop r)) (hl : us.size = r.params.size) :
  (Instr.yield g us).run P w = .ok (.round g r.fn ((r.params.zip us).foldl (fun tmps (t, a) => tmps.setIfInBounds t a) r.tmps) r.assign r.body) w := by
 simp [Instr.yield, Instr.getLoop, getObj, Sem.run, h, hl]

theorem foldl_size (ps : List (Nat × Value)) : ∀ tm : Array Value, (ps.foldl (fun tmps (t, a) => tmps.setIfInBounds t a) tm).size = tm.size := by
 induction ps with
 | nil => intro tm; rfl
 | cons p ps ih => intro tm; simp [ih]

theorem ERel.puts {e : Env} {tm : Array Value} : ∀ {ps : List Nat} {ts : List TV} {us : List Value}, VsRel π w av ex ts us -> ps.length = us.length -> (ps.all (· < tm.size)) = true -> ERel π w av ex e tm ->
  ERel π w av ex ((ps.zip ts).reverse ++ e) ((ps.zip us).foldl (fun tmps (t, a) => tmps.setIfInBounds t a) tm) := by
 intro ps
 induction ps generalizing e tm with
 | nil => intro ts us hv hl ha he; simpa using he
 | cons p ps ih =>
  intro ts us hv hl ha he
  cases hv with
  | nil => simp at hl
  | cons t u ts us h hs =>
   simp only [List.all_cons, Bool.and_eq_true, decide_eq_true_eq] at ha
   have := ih (e := (p, t) :: e) (tm := tm.setIfInBounds p u) hs (by simpa using hl) (by simpa using ha.2) (he.put ha.1 h)
   simpa using this

theorem st_beginRound {b : Frame} {tm : Array Value} {k : List Item} {ds : List Deferred} {cs : List Frame} {l : Nat} {r : Loop} (hb : b.roundOf = some l) (hr : w.heap[l]? = some (.loop r)) (hst : r.state = .ready) :
  step P (lone (fr b tm (.beginRound :: k) ds) cs w) = .next (lone (fr b tm k ds) cs (setL w l { r with state := .busy })) := by
 refine step_lone_go ?_
 have h1 : (Instr.beginRound l).run P w = .ok () (setL w l { r with state := .busy }) := by
  simp [Instr.beginRound, Instr.getLoop, getObj, setObj, Sem.run, hr, hst, setL]
 have h2 : ((do (some l).elim (stuck "beginRound: no round") Instr.beginRound; Pure.pure .skip : Sem Next)).run P w = .ok .skip (setL w l { r with state := .busy }) := by
  simp [h1]
 simp only [stepG, stepG.exec, fr, hb, stepG.apply]
 simp [h1, Frame.finish]

def jumpOf : Ex -> Option Code
 | .normal => none
 | .exit id => some (.exit id)
 | .ret => some .ret

theorem endRound_run {l : Nat} {r : Loop} (hr : w.heap[l]? = some (.loop r)) (j : Option Code) :
  (Instr.endRound l j).run P w = .ok (.bool j.isNone) (setL w l { r with state := if j.isNone then .ready else .done, pending := j }) := by
 simp [Instr.endRound, Instr.getLoop, getObj, setObj, Sem.run, hr, setL]

theorem st_endRound {b : Frame} {tm : Array Value} {td : List Item} {ds : List Deferred} {c : Frame} {cs : List Frame} {l : Nat} {r : Loop} {x : Ex} (hb : b.roundOf = some l) (hk : b.kind = .normal) (hx : ExTo x [] td) (hr : w.heap[l]? = some (.loop r)) :
  step P (lone (fr b tm td ds) (c :: cs) w) = .next (lone (c.finish (.bool (jumpOf x).isNone)) cs (setL w l { r with state := if (jumpOf x).isNone then .ready else .done, pending := jumpOf x })) := by
 refine step_lone_go ?_
 have h1 := endRound_run (P := P) hr (jumpOf x)
 cases x with
 | normal =>
  have : td = [] := hx
  subst this
  simp only [jumpOf] at h1 ⊢
  simp [stepG, stepG.exec, fr, hb, h1, doReturn, hk]
 | exit id =>
  obtain ⟨K, rfl, hK⟩ := hx
  simp only [exitTo] at hK
  simp only [jumpOf] at h1 ⊢
  simp [stepG, stepG.exec, fr, hb, h1, doReturn, hk, hK]
 | ret =>
  obtain ⟨K, rfl⟩ := hx
  simp only [jumpOf] at h1 ⊢
  simp [stepG, stepG.exec, fr, hb, h1, doReturn, hk]

theorem yield_sound {R : Rec} (hR : CodeOk P pg Gz R) {id : Nat} {args : List TV} {t : TV} {H' : Heap} (h : yieldRun R id args H = some (t, H')) (hs : St P pg Gz B π H w av ex) {g : Nat} (hp : π id = some (g, 0)) {us : Array Value} (hu : VsRel π w av ex args us.toList) :
  ∃ nx frm, (Instr.yield g us).run P w = .ok nx w /\ callee P nx = some frm /\ CallRes P B true π H w av ex t H' frm := by
 unfold yieldRun at h
 split at h <;> try (cases h; done)
 rename_i L hi
 split at h <;> try (cases h; done)
 rename_i hlen
 obtain ⟨r, hr, ho, hav, hB⟩ := loop_at hs hp hi
 have ho' := ho
 simp only [ORel] at ho
 obtain ⟨_, hst0, hpend, henv, hpar, hpall, hca, hcb⟩ := ho
 have hul := hu.length
 simp at hul
 have hpl : r.params.size = L.params.length := by rw [<- hpar]; simp
 simp only [Option.bind_eq_some_iff] at h
 obtain ⟨o1, h1, h⟩ := h
 refine ⟨_, _, yield_run hr (by omega), rfl, fun c cs => ?_⟩
 let b : Frame := { (default : Frame) with fn := r.fn, kind := .normal, roundOf := some g }
 let tm0 := (r.params.zip us).foldl (fun tmps (t, a) => tmps.setIfInBounds t a) r.tmps
 have htm0 : tm0 = (L.params.zip us.toList).foldl (fun tmps (t, a) => tmps.setIfInBounds t a) r.tmps := by
  simp only [tm0]
  rw [<- Array.foldl_toList, Array.toList_zip, hpar]
 have hsz0 : tm0.size = r.tmps.size := by rw [htm0]; exact foldl_size _ _
 have hfr : Frame.round g r.fn tm0 r.assign r.body .normal = fr b tm0 [.code r.assign, .beginRound, .code r.body] [] := rfl
 have he0 : ERel π w av ex ((L.params.zip args).reverse ++ L.env) tm0 := by
  rw [htm0]
  exact ERel.puts hu (by simp; omega) (by rw [hpar] at *; exact hpall) henv
 obtain ⟨tm1, td1, ds1, w1, π1, av1, hst1, hsz1, hex1, her1, hdef1, hr1⟩ := hR _ _ _ _ h1 r.tmps.size r.assign hca b tm0 [.beginRound, .code r.body] [] (c :: cs) w π av ex B w.heap.size hs he0 hsz0
  (fun l hl => by simp [b] at hl; subst hl; exact ⟨r, hr⟩) ⟨[], rfl, List.nodup_nil, fun x hx => by simp at hx⟩ (Nat.le_refl _)
 have hs1 := hs.nextK hr1
 have hp1 := hr1.ev.map _ _ hp
 split at h <;> try (cases h; done)
 rename_i hn1 hL1
 rename_i L1
 rw [hn1] at hex1
 have : td1 = [.beginRound, .code r.body] := hex1
 subst this
 split at h <;> try (cases h; done)
 rename_i hready
 obtain ⟨r1, hg1, ho1, hav1, hB1⟩ := loop_at hs1 hp1 hL1
 have ho1' := ho1
 simp only [ORel] at ho1
 obtain ⟨_, hst1', hpend1, henv1, hpar1, hpall1, hca1, hcb1⟩ := ho1
 have hres2 := Res.setLoop (L' := { L1 with st := .busy }) (r' := { r1 with state := .busy }) hs1 hp1 hL1 hg1 (by
  simp only [ORel]; exact ⟨trivial, trivial, hpend1, henv1, hpar1, hpall1, hca1, hcb1⟩)
 have hs2 := hs1.nextK hres2
 have her2 := her1.mono hres2.ev (wrK_av (w := w1) true)
 simp only [Option.bind_eq_some_iff] at h
 obtain ⟨o2, h2, h⟩ := h
 obtain ⟨tm3, td3, ds3, w3, π3, av3, hst3, hsz3, hex3, her3, hdef3, hr3⟩ := hR _ _ _ _ h2 r.tmps.size r.body hcb b tm1 [] ds1 (c :: cs) _ π1 av1 ex B w.heap.size hs2 her2 hsz1
  (fun l hl => by simp [b] at hl; subst hl; exact ⟨_, setL_at hg1⟩) (hdef1.next hres2.ev) (Nat.le_trans hr1.ev.len hres2.ev.len)
 have hs3 := hs2.nextK hr3
 have hp3 := hr3.ev.map _ _ hp1
 have hr12 := Res.trans (W := true) hr1 hres2
 have hr13 := Res.trans (W := true) hr12 hr3
 split at h <;> try (cases h; done)
 rename_i L2 hL2
 obtain ⟨r3, hg3, ho3, hav3, hB3⟩ := loop_at hs3 hp3 hL2
 simp only [ORel] at ho3
 obtain ⟨_, hst3', hpend3, henv3, hpar3, hpall3, hca3, hcb3⟩ := ho3
 have hsteps : ∀ j, jumpOf o2.ex = j -> Steps P (lone (Frame.round g r.fn tm0 r.assign r.body .normal) (c :: cs) w) (lone (c.finish (.bool j.isNone)) cs (setL w3 g { r3 with state := if j.isNone then .ready else .done, pending := j })) := by
  rintro _ rfl
  rw [hfr]
  exact hst1.trans (.head (st_beginRound (l := g) rfl hg1 (by rw [hst1', hready])) (hst3.trans (.one (st_endRound (l := g) rfl rfl hex3 hg3))))
 split at h
 ·rename_i hn
  simp only [Option.some.injEq, Prod.mk.injEq] at h
  obtain ⟨rfl, rfl⟩ := h
  have hres4 := Res.setLoop (L' := { L2 with st := .ready, pend := none }) (r' := { r3 with state := .ready, pending := none }) hs3 hp3 hL2 hg3 (by
   simp only [ORel]; exact ⟨trivial, trivial, trivial, henv3, hpar3, hpall3, hca3, hcb3⟩)
  exact ⟨_, _, _, _, hsteps none (by rw [hn]; rfl), .b true, Res.trans (W := true) hr13 hres4⟩
 ·rename_i hn
  simp only [Option.some.injEq, Prod.mk.injEq] at h
  obtain ⟨rfl, rfl⟩ := h
  cases hj : jumpOf o2.ex with
  | none => cases ho2 : o2.ex <;> rw [ho2] at hj hn <;> simp [jumpOf] at hj; exact absurd rfl hn
  | some j =>
   have hres4 := Res.setLoop (L' := { L2 with st := .done, pend := some o2.ex }) (r' := { r3 with state := .done, pending := some j }) hs3 hp3 hL2 hg3 (by
    simp only [ORel]; refine ⟨trivial, trivial, ?_, henv3, hpar3, hpall3, hca3, hcb3⟩
    cases ho2 : o2.ex <;> rw [ho2] at hj <;> simp [jumpOf] at hj <;> subst hj <;> simp [PendRel])
   exact ⟨_, _, _, _, hsteps _ hj, .b false, Res.trans (W := true) hr13 hres4⟩

theorem VRel.fn_inv {f : Nat} {fs cs : List TV} {u : Value} (h : VRel π w av ex (.fn f fs cs) u) : ∃ fa ca, u = .func (.func f) fa ca /\ VsRel π w av ex fs fa.toList /\ VsRel π w av ex cs ca.toList := by
 cases h; exact ⟨_, _, rfl, by assumption, by assumption⟩
theorem VRel.yl_inv {id : Nat} {u : Value} (h : VRel π w av ex (.yl id) u) : ∃ g, u = .func (.yield g) #[] #[] /\ π id = some (g, 0) := by
 cases h; exact ⟨_, rfl, by assumption⟩

def CMode.W : CMode -> Bool
 | .sh | .gr | .so => true
 | .pu _ => false

theorem call_pu {R : Rec} (hR : CodeOk P pg Gz R) (hF : FnsOk P pg) (hS : SumOk P pg Gz) {ks : List Bool} {v : TV} {args : List TV} {t : TV} {H' : Heap} (h : callRun pg R (.pu ks) (v :: args) H = some (t, H')) (hs : St0 P pg Gz B π H w av ex) {u : Value} {us : Array Value}
  (hv : VRel π w av ex v u) (hu : VsRel π w av ex args us.toList) : H' = H /\ ∃ nx frm, (invokeS u us).run P w = .ok nx w /\ callee P nx = some frm /\ CallRes P B false π H w av ex t H frm := by
 unfold callRun at h
 cases v <;> simp only at h <;> try (cases h; done)
 rename_i f fs cs
 obtain ⟨fa, ca, rfl, h1, h2⟩ := hv.fn_inv
 have hall : VsRel π w av ex (fs ++ args ++ cs) (fa ++ us ++ ca).toList := by simpa using (h1.append hu).append h2
 have hi : (invokeS (.func (.func f) fa ca) us) = callFunc f (fa ++ us ++ ca) := by
  simp [invokeS, Deferred.ofValue, invoke]
 rw [hi]
 simp only [Option.bind_eq_some_iff] at h
 obtain ⟨ags, has, h⟩ := h
 split at h
 ·rename_i r hr
  injection h with h
  injection h with ha hb
  subst ha hb
  obtain ⟨pg', R', hG, hR', hF', r0, H1, hb, hr'⟩ := hS.2 f ags r hr
  have hs' : St0 P pg' Gz B π H w av ex := ⟨hs.hr, fun n tv hn => hs.gl n tv (hG ▸ hn), hs.avg, hs.exg, hs.gB⟩
  obtain ⟨k1, k2⟩ := pure_sound hR' hF' has hb hr' hs' hall
  exact ⟨rfl, _, _, k1, rfl, k2⟩
 ·simp only [Option.bind_eq_some_iff, Option.map_eq_some_iff, Prod.mk.injEq] at h
  obtain ⟨⟨r, H1⟩, hb, r', hr', rfl, rfl⟩ := h
  obtain ⟨k1, k2⟩ := pure_sound hR hF has hb hr' hs hall
  exact ⟨rfl, _, _, k1, rfl, k2⟩

theorem call_gr {R : Rec} (hR : CodeOk P pg Gz R) (hF : FnsOk P pg) {v : TV} {args : List TV} {t : TV} {H' : Heap} (h : callRun pg R .gr (v :: args) H = some (t, H')) (hs : St P pg Gz B π H w av ex) {u : Value} {us : Array Value}
  (hv : VRel π w av ex v u) (hu : VsRel π w av ex args us.toList) : ∃ nx frm, (invokeS u us).run P w = .ok nx w /\ callee P nx = some frm /\ CallRes P B true π H w av ex t H' frm := by
 unfold callRun at h
 cases v <;> simp only at h <;> try (cases h; done)
 rename_i f fs cs
 obtain ⟨fa, ca, rfl, h1, h2⟩ := hv.fn_inv
 have hall : VsRel π w av ex (fs ++ args ++ cs) (fa ++ us ++ ca).toList := by simpa using (h1.append hu).append h2
 have hi : (invokeS (.func (.func f) fa ca) us) = callFunc f (fa ++ us ++ ca) := by
  simp [invokeS, Deferred.ofValue, invoke]
 rw [hi]
 simp only [Option.bind_eq_some_iff, Option.map_eq_some_iff, Prod.mk.injEq] at h
 obtain ⟨ags, has, ⟨r, H1⟩, hb, r', hr', rfl, rfl⟩ := h
 obtain ⟨k1, k2⟩ := grafted_sound hR hF has hb hr' hs hall
 exact ⟨_, _, k1, rfl, k2⟩

theorem call_sh {R : Rec} (hR : CodeOk P pg Gz R) (hF : FnsOk P pg) {v : TV} {args : List TV} {t : TV} {H' : Heap} (h : callRun pg R .sh (v :: args) H = some (t, H')) (hs : St P pg Gz B π H w av ex) {u : Value} {us : Array Value}
  (hv : VRel π w av ex v u) (hu : VsRel π w av ex args us.toList) : ∃ nx frm, (invokeS u us).run P w = .ok nx w /\ callee P nx = some frm /\ CallRes P B true π H w av ex t H' frm := by
 unfold callRun at h
 cases v <;> simp only at h <;> try (cases h; done)
 case fn f fs cs =>
  obtain ⟨fa, ca, rfl, h1, h2⟩ := hv.fn_inv
  have hall : VsRel π w av ex (fs ++ args ++ cs) (fa ++ us ++ ca).toList := by simpa using (h1.append hu).append h2
  have hi : (invokeS (.func (.func f) fa ca) us) = callFunc f (fa ++ us ++ ca) := by
   simp [invokeS, Deferred.ofValue, invoke]
  rw [hi]
  obtain ⟨k1, k2⟩ := shared_sound hR hF h hs hall
  exact ⟨_, _, k1, rfl, k2⟩
 case yl id =>
  obtain ⟨g, rfl, hp⟩ := hv.yl_inv
  have hi : (invokeS (.func (.yield g) #[] #[]) us) = Instr.yield g us := by
   simp [invokeS, Deferred.ofValue, invoke]
  rw [hi]
  exact yield_sound hR h hs hp hu

end Go.Dn

/-
 A row sorted by a function value: what the kit proves of slices.SortFunc, brought to the evaluator.
-/

namespace Go.Dn
open Go.Sort

variable {P : Program} {pg : Pg} {Gz : Nat} {B : Nat} {π : PMap} {H : Heap} {w : World} {av ex : Nat -> Prop}

theorem flatAt {α : Type} {k : Nat} (enc : Nat -> List α) (hk : ∀ x, (enc x).length = k) (k0 : 0 < k) : ∀ (l : List Nat) (t : Nat), (l.flatMap enc)[t]? = (l[t / k]?).bind fun x => (enc x)[t % k]?
 | [], t => by simp
 | a :: l, t => by
  rw [List.flatMap_cons]
  rcases Nat.lt_or_ge t k with h | h
  ·rw [List.getElem?_append_left (by rw [hk]; exact h), Nat.div_eq_of_lt h, Nat.mod_eq_of_lt h]; rfl
  ·rw [List.getElem?_append_right (by rw [hk]; exact h), hk, flatAt enc hk k0 l, Nat.div_eq_sub_div k0 h, Nat.mod_eq_sub_mod h]; rfl

theorem flat_len {α : Type} {k : Nat} (enc : Nat -> List α) (hk : ∀ x, (enc x).length = k) (l : List Nat) : (l.flatMap enc).length = l.length * k := by
 induction l with
 | nil => simp
 | cons a l ih => rw [List.flatMap_cons, List.length_append, ih, hk, List.length_cons, Nat.add_mul, Nat.one_mul, Nat.add_comm]

theorem sw_size (enc : Nat -> List Value) (k : Nat) (w : World) (blk off m : Nat) (dk : Array Nat) (os : Array Obj) : (sortW enc k w blk off m dk os).heap.size = w.heap.size + os.size := by
 simp [sortW, grow, putRowK, putRow, mapBlock, Sort.ahead]

theorem sw_heap (enc : Nat -> List Value) (k : Nat) (w : World) (blk off m : Nat) (dk : Array Nat) (os : Array Obj) {cc : Array Value} {el : TypeId} {fr : Nat × Nat} (hb : w.heap[blk]? = some (.cells cc el fr)) (g : Nat) (hg : g < w.heap.size) :
  (sortW enc k w blk off m dk os).heap[g]? = if g = blk then some (.cells (putCells id off (flatK enc k dk) cc) el fr) else w.heap[g]? := by
 have h1 : (sortW enc k w blk off m dk os).heap[g]? = (w.heap.modify blk (onCells (putCells id off (flatK enc k dk))))[g]? := by
  show ((w.heap.modify blk (onCells (putCells id off (flatK enc k dk)))) ++ os)[g]? = _
  rw [Array.getElem?_append_left (by simpa using hg)]
 rw [h1, Array.getElem?_modify]
 by_cases h : g = blk
 ·subst h; simp [hb, onCells]
 ·rw [if_neg (fun e => h e.symm), if_neg h]

def encOf (us : List Value) (k off n : Nat) (i : Nat) : List Value := (us.drop (off + min i (n - 1) * k)).take k

theorem el_room {k n off i l : Nat} (hn : 0 < n) (hl : off + n * k <= l) : off + min i (n - 1) * k + k <= l := by
 have h1 : min i (n - 1) + 1 <= n := by omega
 have h2 := Nat.mul_le_mul_right k h1
 rw [Nat.add_mul, Nat.one_mul] at h2
 omega

theorem encOf_len {us : List Value} {k off n : Nat} (hn : 0 < n) (hl : off + n * k <= us.length) (i : Nat) : (encOf us k off n i).length = k := by
 have := el_room (i := i) hn hl
 simp [encOf]; omega

theorem elAt_len {c : List TV} {k off n : Nat} (hn : 0 < n) (hl : off + n * k <= c.length) (i : Nat) : (elAt k off c (min i (n - 1))).length = k := by
 have := el_room (i := i) hn hl
 simp [elAt]; omega

theorem VsRel.flat {ts : Nat -> List TV} {vs : Nat -> List Value} (h : ∀ i, VsRel π w av ex (ts i) (vs i)) : ∀ l : List Nat, VsRel π w av ex (l.flatMap ts) (l.flatMap vs)
 | [] => .nil
 | a :: l => by rw [List.flatMap_cons, List.flatMap_cons]; exact (h a).append (VsRel.flat h l)

theorem mapO_at {α β : Type} {f : α -> Option β} : ∀ {l : List α} {r : List β}, mapO f l = some r -> ∀ {i : Nat} {x : α}, l[i]? = some x -> ∃ y, r[i]? = some y /\ f x = some y
 | [], r, h, i, x, hx => by simp at hx
 | a :: l, r, h, i, x, hx => by
  simp only [mapO, Option.bind_eq_some_iff, Option.some.injEq] at h
  obtain ⟨y, hy, ys, hys, rfl⟩ := h
  cases i with
  | zero => simp at hx; subst hx; exact ⟨y, by simp, hy⟩
  | succ i => obtain ⟨z, h1, h2⟩ := mapO_at hys (i := i) (by simpa using hx); exact ⟨z, by simpa using h1, h2⟩

theorem row_res (hs : St P pg Gz B π H w av ex) {id g sh off k n : Nat} {c : List TV} {ag : Bool} {cc : Array Value} {el : TypeId} {us : List Value} (hp : π id = some (g, sh)) (hi : H[id]? = some (.cells c ag)) (hb : w.heap[g]? = some (.cells cc el (0, 0)))
  (hus : VsRel π w av ex c us) (hcc : ∀ (j : Nat) (u : Value), us[j]? = some u -> cc[sh + j]? = some u) (hroom : sh + c.length <= cc.size) (hone : c.all TV.one = true) (k0 : 0 < k) (hn : 0 < n) (hl : off + n * k <= c.length)
  (m : Nat) (dk : Array Nat) (os : Array Obj) (hdk : dk.size = n) :
  Res P B (wrK B av true) π H w av ex (H.set id (.cells (put2 c off (dk.toList.flatMap fun i => elAt k off c (min i (n - 1)))) ag)) (sortW (encOf us k off n) k w g (sh + off) m dk os) π av := by
 obtain ⟨hB, hav, _⟩ := hs.hr.obj id g sh _ hp hi (by simp)
 have hlen := hus.length
 have hlu : off + n * k <= us.length := by omega
 have hgl : g < w.heap.size := hs.hr.avb g hav
 have hheap := fun x hx => sw_heap (encOf us k off n) k w g (sh + off) m dk os hb x hx
 have hpc : (putCells _root_.id (sh + off) (flatK (encOf us k off n) k dk) cc).size = cc.size := by simp [putCells]
 have e : Ev (only g) π w av π (sortW (encOf us k off n) k w g (sh + off) m dk os) av := by
  refine ⟨fun _ _ h => h, fun x hx hne => ?_, fun x c2 el2 fr2 h2 => ?_, fun x r hx => ?_, fun _ _ h => h, by rw [sw_size]; omega, rfl, ⟨rfl, Nat.le_add_right _ _⟩, rfl⟩
  ·rw [hheap x hx, if_neg (show ¬ x = g from hne)]
  ·rw [hheap x (Array.getElem?_eq_some_iff.1 h2).1]
   by_cases h : x = g
   ·subst h; rw [hb] at h2; simp only [Option.some.injEq, Obj.cells.injEq] at h2; obtain ⟨rfl, rfl, rfl⟩ := h2
    exact ⟨_, by rw [if_pos rfl], hpc⟩
   ·exact ⟨c2, by rw [if_neg h]; exact h2, rfl⟩
  ·rw [hheap x (Array.getElem?_eq_some_iff.1 hx).1]
   by_cases h : x = g
   ·subst h; rw [hb] at hx; cases hx
   ·exact ⟨r, by rw [if_neg h]; exact hx⟩
 have hw : ∀ x, x < w.heap.size -> only g x -> av x := fun x _ hx => by rw [show x = g from hx]; exact hav
 have hfl : ∀ i, VsRel π w av ex (elAt k off c (min i (n - 1))) (encOf us k off n i) := fun i => (hus.drop _).take _
 have hfe : (dk.toList.flatMap fun i => elAt k off c (min i (n - 1))).length = n * k := by rw [flat_len (fun i => elAt k off c (min i (n - 1))) (elAt_len hn hl)]; simp [hdk]
 have hfu : (dk.toList.flatMap (encOf us k off n)).length = n * k := by rw [flat_len _ (encOf_len hn hlu)]; simp [hdk]
 refine ⟨e.wider fun x hx => by rw [show x = g from hx]; exact ⟨rfl, hav, hB⟩, ?_, fun _ x => absurd rfl x, fun _ x => x, by simp, fun _ _ _ x => absurd rfl x⟩
 refine hs.hr.set hp hi (by simp) e _ (.cells (putCells _root_.id (sh + off) (flatK (encOf us k off n) k dk) cc) el (0, 0)) (by rw [hheap g hgl, if_pos rfl]) ?_
 refine ⟨rfl, ?_, ?_, put2 us off (dk.toList.flatMap (encOf us k off n)), (hus.put2 (VsRel.flat hfl _) off).mono e hw, ?_⟩
 ·rw [hpc]; simp only [put2, List.length_append, List.length_take, List.length_drop, hfe]; omega
 ·rw [List.all_eq_true]
  intro x hx
  unfold put2 at hx
  simp only [List.mem_append] at hx
  rcases hx with (hx | hx) | hx
  ·exact List.all_eq_true.1 hone x (List.mem_of_mem_take hx)
  ·simp only [List.mem_flatMap] at hx
   obtain ⟨i, _, hx⟩ := hx
   exact List.all_eq_true.1 hone x (List.mem_of_mem_drop (List.mem_of_mem_take hx))
  ·exact List.all_eq_true.1 hone x (List.mem_of_mem_drop hx)
 ·intro j u hu
  have hh := put2_get (by rw [hfu]; omega) hu
  simp only [putCells, Array.getElem?_mapIdx, size_flatK, hdk]
  rw [hfu] at hh
  rcases hh with ⟨h1, h2, h3⟩ | ⟨h1, h2⟩
  ·have hlt : sh + j < cc.size := by omega
   rw [Array.getElem?_eq_getElem hlt, Option.map_some, if_pos ⟨by omega, by omega⟩, show sh + j - (sh + off) = j - off by omega]
   rw [flatAt _ (encOf_len hn hlu) k0, Option.bind_eq_some_iff] at h3
   obtain ⟨x, hx, h3⟩ := h3
   simp only [_root_.id]
   rw [get_flatK _ _ _ _ (by rw [hdk]; omega)]
   have hx' : dk[(j - off) / k]! = x := by
    rw [Array.getElem!_eq_getD, Array.getD_eq_getD_getElem?, <- Array.getElem?_toList, hx]; rfl
   rw [hx', List.getElem!_eq_getElem?_getD, h3]; rfl
  ·have := hcc j u h2
   rw [this, Option.map_some]
   rw [if_neg (by omega)]

theorem snap_calls {R : Rec} (hR : CodeOk P pg Gz R) (hF : FnsOk P pg) {f : Nat} {args ags : List TV} {n : Int} {H1 : Heap} (ha : snapArgs H [] args = some ags) (hb : bodyRun pg R f ags [] = some (.i .i64 n, H1))
  (hs : St0 P pg Gz B π H w av ex) {us : Array Value} (hu : VsRel π w av ex args us.toList) : Calls P f us w fun e w' => e = .returned (.int .i64 n) /\ ∃ q os', w' = grow (w.drewN q) os' := by
 let ex2 : Nat -> Prop := fun g => av g \/ ex g
 have hB : SnOk .borrow B av ex none' ex2 := ⟨fun g bo bo' hfl _ => by simp [SM.flag] at hfl; subst hfl; exact ⟨id, fun h => by cases h⟩, fun g _ _ _ => ⟨id, fun h => by simp at h⟩⟩
 have hK : SnOk .keep B av ex none' ex2 := ⟨fun g bo bo' hfl h => by simp [SM.flag] at hfl; subst hfl; exact ⟨id, fun hb hx => hx.elim h.1 (h.2 hb)⟩, fun g hk _ _ => absurd rfl hk⟩
 have hargs := snapArgs_sound (π2 := fun _ => none) hs.hr hB hK ha hu
 have hs0 : St P pg Gz w.heap.size (fun _ => none) [] w none' ex2 :=
  ⟨⟨⟨(fun _ _ _ _ h => by cases h), (fun _ _ _ _ _ _ _ h => by cases h), (fun g h => False.elim h), (fun g h => Or.elim h (hs.hr.avb g) (hs.hr.exb g)), Nat.le_refl _⟩, hs.gl, (fun g h => False.elim h), (fun g h => Or.elim h (hs.avg g) (hs.exg g)),
   Nat.le_trans hs.gB hs.hr.bsz⟩, fun _ _ => rfl⟩
 obtain ⟨_, h2⟩ := body_sound hR hF hb hs0 hargs
 intro cs
 obtain ⟨frm, v, w', π', av', hst, hfnn, hlv, hvr, hres⟩ := h2 cs
 refine ⟨.returned v, w', frm, ⟨by cases hvr; rfl, w'.drawn - w.drawn, w'.heap.extract w.heap.size w'.heap.size, ?_⟩, hst, hfnn, hlv⟩
 have h1 := hres.ev.os
 have h3 := hres.ev.tape
 have h4 := hres.ev.out
 have h5 := hres.ev.len
 have h6 : ∀ g, g < w.heap.size -> w'.heap[g]? = w.heap[g]? := fun g hg => hres.ev.blk g hg fun x => x.2.1
 have hh : w'.heap = w.heap ++ w'.heap.extract w.heap.size w'.heap.size := by
  apply Array.ext_getElem?
  intro i
  rcases Nat.lt_or_ge i w.heap.size with hi | hi
  ·rw [Array.getElem?_append_left hi]; exact h6 i hi
  ·rw [Array.getElem?_append_right hi]
   rcases Nat.lt_or_ge i w'.heap.size with hj | hj
   ·rw [Array.getElem?_extract, if_pos (by omega), show w.heap.size + (i - w.heap.size) = i by omega]
   ·rw [Array.getElem?_eq_none hj, Array.getElem?_eq_none (by simp; omega)]
 have h3d : w'.drawn = w.drawn + (w'.drawn - w.drawn) := by omega
 cases w' with
 | mk heap tape drawn os output =>
  simp only at h1 h3 h4 hh h3d ⊢
  unfold grow World.drewN
  simp only [World.mk.injEq]
  exact ⟨hh, h3.1, h3d, h1, h4⟩

theorem enters_of_body (hF : FnsOk P pg) {R : Rec} {f : Nat} {ags : List TV} {H : Heap} {r : TV × Heap} (h : bodyRun pg R f ags H = some r) : ∀ args w, (callFunc f args).run P w = .ok (.enter f args) w := by
 intro args w
 simp only [bodyRun, Option.bind_eq_some_iff] at h
 obtain ⟨d, hd, h⟩ := h
 obtain ⟨fn, hfn, hname, hchk⟩ := hF f d hd
 simp only [chkF, Bool.and_eq_true, beq_iff_eq, decide_eq_true_eq] at hchk
 obtain ⟨⟨⟨hnt, hnp⟩, hbody⟩, hres⟩ := hchk
 cases hb : fn.body with
 | none => rw [hb] at hbody; simp at hbody
 | some c =>
  have hname' : ¬ (fn.name == "runtime.NumGoroutine") = true := by rw [hname]; simp
  simp [callFunc, hfn, hname', hb]
  simpa using hname

theorem calls_res {f : Nat} {us : Array Value} {v : Value} {t : TV} {H' : Heap} {Q : World -> Prop} (h : Calls P f us w fun e w' => e = .returned v /\ Q w') (hq : ∀ w', Q w' -> ∃ π' av', VRel π' w' av' ex t v /\ Res P B (wrK B av true) π H w av ex H' w' π' av') :
  CallRes P B true π H w av ex t H' (Frame.enter P f us .normal) := by
 intro c cs
 obtain ⟨e, w', fr, ⟨rfl, hw⟩, hc, hfn, hl⟩ := h (c :: cs)
 obtain ⟨π', av', h1, h2⟩ := hq w' hw
 exact ⟨v, w', π', av', Steps.trans hc (.one (step_leave_returned hl)), h1, h2⟩

theorem two_of {us : Array Value} {a b : TV} (h : VsRel π w av ex [a, b] us.toList) : ∃ u v, us = #[u, v] /\ VRel π w av ex a u /\ VRel π w av ex b v := by
 generalize hl : us.toList = l at h
 cases h with | cons _ u _ l h hs => cases hs with | cons _ v _ l h' hs => cases hs; exact ⟨u, v, by apply Array.toList_inj.1; simpa using hl, h, h'⟩

theorem sorted_perm {T : List (List Int)} {n : Nat} (hO : SWO (ltT T n)) : (sorted T n).Perm (List.range n) /\ (sorted T n).length = n /\ SortedIn (ltT T n) 0 n (sorted T n).toArray := by
 have h := pdq_sorts (ltT T n) hO (Array.range n) 0 n (Lib.bitLen n) true true (Nat.zero_le _) (by simp) (Or.inl rfl)
 obtain ⟨⟨h1, _, h3⟩, h4⟩ := h
 unfold sorted
 generalize pdq (ltT T n) (Array.range n) 0 n (Lib.bitLen n) true true = d at h1 h3 h4
 have hs : d.size = n := by simpa using h1
 have e1 : d.extract 0 n = d := by rw [<- hs]; exact Array.extract_size
 have e2 : (Array.range n).extract 0 n = Array.range n := by
  simp
 rw [e1, e2, Array.toList_range] at h3
 exact ⟨h3, by simp [hs], by simpa using h4⟩

theorem sort_sound {R : Rec} (hR : CodeOk P pg Gz R) (hF : FnsOk P pg) (hSm : SumOk P pg Gz) {f : Nat} {args : List TV} {t : TV} {H' : Heap} (h : sortRun pg R f args H = some (t, H')) (hs : St P pg Gz B π H w av ex) {us : Array Value} (hu : VsRel π w av ex args us.toList) :
  (callFunc f us).run P w = .ok (.enter f us) w /\ CallRes P B true π H w av ex t H' (Frame.enter P f us .normal) := by
 unfold sortRun at h
 simp only [Option.bind_eq_some_iff] at h
 obtain ⟨k, hk, h⟩ := h
 obtain ⟨hent, hnone, hsort⟩ := hSm.1 f k hk
 refine ⟨hent _ _, ?_⟩
 have still : ∀ {p : Option Addr} {cp : Nat} {fv : Value}, us = #[.slice p 0 cp, fv] -> CallRes P B true π H w av ex (.tup []) H (Frame.enter P f us .normal) := fun {p cp fv} e => by
  subst e
  refine calls_res (hnone p cp fv w) fun w' hw => ?_
  subst hw
  exact ⟨π, av, .tup _ _ .nil, .same _ hs.hr⟩
 split at h <;> try (cases h; done)
 ·simp only [Option.some.injEq, Prod.mk.injEq] at h
  obtain ⟨rfl, rfl⟩ := h
  obtain ⟨u, v, hus, h1, h2⟩ := two_of hu
  cases h1
  exact still hus
 ·simp only [Option.some.injEq, Prod.mk.injEq] at h
  obtain ⟨rfl, rfl⟩ := h
  obtain ⟨u, v, hus, h1, h2⟩ := two_of hu
  cases h1
  exact still hus
 rename_i id off sz ag len cp g fs cs
 split at h
 ·rename_i h0
  subst h0
  simp only [Option.some.injEq, Prod.mk.injEq] at h
  obtain ⟨rfl, rfl⟩ := h
  obtain ⟨u, v, hus, h1, h2⟩ := two_of hu
  cases h1
  ·exact still hus
  ·exact still hus
 rename_i hlen0
 have hn : 0 < len := Nat.pos_of_ne_zero hlen0
 split at h <;> try (cases h; done)
 rename_i c ag' hi
 split at h <;> try (cases h; done)
 rename_i hc
 obtain ⟨rfl, k0, rfl, hlt, hl⟩ := hc
 simp only [Option.bind_eq_some_iff] at h
 obtain ⟨T, hT, h⟩ := h
 split at h <;> try (cases h; done)
 rename_i hO
 simp only [Option.some.injEq, Prod.mk.injEq] at h
 obtain ⟨rfl, rfl⟩ := h
 obtain ⟨u, v, rfl, h1, h2⟩ := two_of hu
 obtain ⟨fa, ca, rfl, hfa, hca⟩ := h2.fn_inv
 have hfa' : fa = #[] := by generalize hq : fa.toList = q at hfa; cases hfa; exact Array.toList_inj.1 (by simpa using hq)
 subst hfa'
 obtain ⟨g1, sh, cc1, hp, c1, hue⟩ : ∃ g1 sh c1, π id = some (g1, sh) /\ ∃ c2 : Nat, u = .slice (some ⟨g1, sh + off, none⟩) len c1 /\ True := by
  cases h1 with
  | sl _ _ _ _ _ _ g1 sh c1 cc1 el1 fr1 hp hb hl1 hc1 hs1 => exact ⟨g1, sh, c1, hp, 0, rfl, trivial⟩
  | sl0 => exact absurd rfl hlen0
 obtain ⟨rfl, _⟩ := hue
 obtain ⟨hB, hav, ob, hb, hob⟩ := hs.hr.obj id g1 sh _ hp hi (by simp)
 cases ob <;> simp only [ORel] at hob
 rename_i cc el fr
 obtain ⟨rfl, hroom, hone, us, hus, hcc⟩ := hob
 have hgl : g1 < w.heap.size := hs.hr.avb g1 hav
 have hlu : off + len * sz <= us.length := by rw [<- hus.length]; exact hl
 have hRR := fun m dk os (hdk : dk.size = len) => row_res hs hp hi hb hus hcc hroom hone k0 hn hl m dk os hdk
 -- the table
 have hcf : ∀ x y : Nat, ∃ q, cmpRun pg R (H.set id .dead) g cs (.agg (elAt sz off c (min x (len - 1)))) (.agg (elAt sz off c (min y (len - 1)))) = some q /\ cfT T len x y = q := by
  intro x y
  obtain ⟨row, hr1, hr2⟩ := mapO_at hT (i := min x (len - 1)) (x := min x (len - 1)) (by rw [List.getElem?_range (by omega)])
  obtain ⟨q, hq1, hq2⟩ := mapO_at hr2 (i := min y (len - 1)) (x := min y (len - 1)) (by rw [List.getElem?_range (by omega)])
  refine ⟨q, hq2, ?_⟩
  unfold cfT
  simp only [List.getD_eq_getElem?_getD, hr1, hq1, Option.getD_some]
 have hg : ∀ args w, (callFunc g args).run P w = .ok (.enter g args) w := by
  obtain ⟨q, hq, _⟩ := hcf 0 0
  simp only [cmpRun, Option.bind_eq_some_iff] at hq
  obtain ⟨ags, _, p, hp2, _⟩ := hq
  exact enters_of_body hF hp2
 have hone' : ∀ x, ∀ v ∈ encOf us sz off len x, v.oneCell' = true := by
  intro x v hv
  have h3 := all_one hus hone
  exact h3 v (List.mem_of_mem_drop (List.mem_of_mem_take hv))
 have hcmp : CmpL P g ca (encOf us sz off len) sz (cfT T len) g1 (sh + off) len w := by
  intro m os dk hdk x y
  have hres := hRR m dk os hdk
  have hst := hs.nextK hres
  have hdrop := hst.hr.drop id
  rw [List.set_set] at hdrop
  have hst0 : St0 P pg Gz B π (H.set id .dead) (sortW (encOf us sz off len) sz w g1 (sh + off) m dk os) av ex := ⟨hdrop, hst.gl, hst.avg, hst.exg, hst.gB⟩
  obtain ⟨q, hq1, hq2⟩ := hcf x y
  simp only [cmpRun, Option.bind_eq_some_iff] at hq1
  obtain ⟨ags, has, ⟨r, H1⟩, hb1, hr1⟩ := hq1
  have hri : r = .i .i64 q := by
   revert hr1; cases r <;> simp
   rename_i kk nn
   cases kk <;> simp
  subst hri
  rw [hq2]
  have hmono := hres.ev
  have hwm := wrK_av (w := w) (B := B) (av := av) true
  refine snap_calls hR hF has hb1 hst0 ?_
  have he : ∀ i, VRel π (sortW (encOf us sz off len) sz w g1 (sh + off) m dk os) av ex (.agg (elAt sz off c (min i (len - 1)))) (.agg (encOf us sz off len i).toArray) := fun i =>
   .agg _ _ (by simpa [elAt, encOf] using (VsRel.mono hmono hwm ((hus.drop (off + min i (len - 1) * sz)).take sz)))
  have hcs := VsRel.mono hmono hwm hca
  simpa using VsRel.cons _ _ _ _ (he x) (.cons _ _ _ _ (he y) hcs)
 have hholds : HoldsK (encOf us sz off len) sz w g1 (sh + off) (Array.range len) := by
  intro j hj
  rw [size_flatK, Array.size_range] at hj
  have hj' : j < us.length := by omega
  have hk0 : j / sz < len := (Nat.div_lt_iff_lt_mul k0).2 hj
  have e1 : (flatK (encOf us sz off len) sz (Array.range len))[j]! = us[off + j]! := by
   rw [get_flatK _ _ _ _ (by simpa using hj)]
   have e2 : (Array.range len)[j / sz]! = j / sz := by
    rw [getElem!_pos _ _ (by simpa using hk0)]; simp
   rw [e2]
   unfold encOf
   have hmod := Nat.mod_lt j k0
   have hdm := Nat.div_add_mod j sz
   rw [List.getElem!_eq_getElem?_getD, List.getElem!_eq_getElem?_getD, List.getElem?_take, if_pos hmod, List.getElem?_drop, show min (j / sz) (len - 1) = j / sz by omega, show off + j / sz * sz + j % sz = off + j by rw [Nat.mul_comm]; omega]
  rw [e1]
  have hju : off + j < us.length := by omega
  have hc2 := hcc (off + j) us[off + j] (by simp [hju])
  refine ⟨?_, ?_⟩
  ·simp only [World.cell?, hb]
   rw [show sh + off + j = sh + (off + j) by omega]
   simp only [Option.isSome_none, Bool.false_eq_true, if_false]
   rw [hc2]
   simp [hju]
  ·simp [World.frozen?, hb]
 have hperm := sorted_perm hO
 have hcall := hsort (encOf us sz off len) (encOf_len hn hlu) hone' (cfT T len) hO g ca g1 (sh + off) cc1 (Array.range len) w hg (by rw [Array.size_range]; exact hcmp) hholds hgl (by rw [Array.size_range]; exact hlt)
 rw [Array.size_range] at hcall
 refine calls_res hcall fun w' hw => ?_
 obtain ⟨nn, os, rfl⟩ := hw
 refine ⟨π, av, .tup _ _ .nil, ?_⟩
 have hd : (pdq (fun x y => decide (cfT T len x y < 0)) (Array.range len) 0 len (Lib.bitLen len) true true).size = len := by
  have h := hperm.2.1; unfold sorted at h; rw [Array.length_toList] at h; exact h
 have hfin := hRR nn _ os hd
 have hfe : (sorted T len).flatMap (elAt sz off c) = (pdq (fun x y => decide (cfT T len x y < 0)) (Array.range len) 0 len (Lib.bitLen len) true true).toList.flatMap fun i => elAt sz off c (min i (len - 1)) := by
  show (sorted T len).flatMap (elAt sz off c) = (sorted T len).flatMap fun i => elAt sz off c (min i (len - 1))
  rw [List.flatMap_def, List.flatMap_def]
  congr 1
  apply List.map_congr_left
  intro i hi
  have := List.mem_range.1 (hperm.1.mem_iff.1 hi)
  rw [show min i (len - 1) = i by omega]
 rw [hfe]
 exact hfin

theorem call_so {R : Rec} (hR : CodeOk P pg Gz R) (hF : FnsOk P pg) (hSm : SumOk P pg Gz) {v : TV} {args : List TV} {t : TV} {H' : Heap} (h : callRun pg R .so (v :: args) H = some (t, H')) (hs : St P pg Gz B π H w av ex) {u : Value} {us : Array Value}
  (hv : VRel π w av ex v u) (hu : VsRel π w av ex args us.toList) : ∃ nx frm, (invokeS u us).run P w = .ok nx w /\ callee P nx = some frm /\ CallRes P B true π H w av ex t H' frm := by
 unfold callRun at h
 cases v <;> simp only at h <;> try (cases h; done)
 rename_i f fs cs
 split at h <;> try (cases h; done)
 rename_i hz
 obtain ⟨rfl, rfl⟩ := hz
 obtain ⟨fa, ca, rfl, h1, h2⟩ := hv.fn_inv
 have hfa : fa = #[] := by generalize hq : fa.toList = q at h1; cases h1; exact Array.toList_inj.1 (by simpa using hq)
 have hca : ca = #[] := by generalize hq : ca.toList = q at h2; cases h2; exact Array.toList_inj.1 (by simpa using hq)
 subst hfa hca
 have hi : (invokeS (.func (.func f) #[] #[]) us) = callFunc f us := by
  simp [invokeS, Deferred.ofValue, invoke]
 rw [hi]
 obtain ⟨k1, k2⟩ := sort_sound hR hF hSm h hs hu
 exact ⟨_, _, k1, rfl, k2⟩

end Go.Dn

/-
 Regions: a row of operations in the order that the machine takes, and in the order of the text.
-/

namespace Go.Dn

/-! ### what an operation does to the heap -/
theorem mapP {α : Type} {x : Option α} {f : α -> TV} {t : TV} {H H' : Heap} (h : (x.map fun v => (f v, H)) = some (t, H')) : H' = H /\ (x.map fun v => (f v, ([] : Heap))) = some (t, []) := by
 cases x <;> simp at h
 exact ⟨h.2.symm, by simp [h.1]⟩

theorem bindP {α : Type} {x : Option α} {f g : α -> Option (TV × Heap)} {t : TV} {H H' : Heap} (h : x.bind f = some (t, H')) (hf : ∀ a, f a = some (t, H') -> H' = H /\ g a = some (t, [])) : H' = H /\ x.bind g = some (t, []) := by
 cases x with
 | none => simp at h
 | some a => exact hf a h

theorem iteP {c : Prop} [Decidable c] {x y : Option (TV × Heap)} {t : TV} {H H' : Heap} (h : (if c then x else none) = some (t, H')) (hf : x = some (t, H') -> H' = H /\ y = some (t, [])) : H' = H /\ (if c then y else none) = some (t, []) := by
 split at h
 ·rw [if_pos (by assumption)]; exact hf h
 ·cases h

theorem someP {v t : TV} {H H' : Heap} (h : some (v, H) = some (t, H')) : H' = H /\ some (v, ([] : Heap)) = some (t, []) := by
 simp at h; simp [h]

set_option maxHeartbeats 1000000 in
theorem dk_pure {k : DK} {vs : List TV} {H H' : Heap} {t : TV} (h : dk k vs H = some (t, H')) (hp : k.P = true) : H' = H /\ dk k vs [] = some (t, []) := by
 cases k <;> simp only [DK.P, Bool.false_eq_true] at hp
 case build => exact mapP h
 case mkfn => exact iteP h someP
 all_goals rcases vs with _ | ⟨a, vs⟩ <;> (try (simp only [dk] at h; cases h; done))
 case slc => exact mapP h
 case mxI => exact mapP h
 case mnI => exact mapP h
 case pick =>
  rcases vs with _ | ⟨b, _ | ⟨c, _ | ⟨d, vs⟩⟩⟩ <;> cases a <;> (try (simp only [dk] at h; cases h; done))
  exact someP h
 all_goals rcases vs with _ | ⟨b, _ | ⟨c, vs⟩⟩ <;> (try (simp only [dk] at h; cases h; done))
 case mv => exact someP h
 case binI => exact mapP h
 case eqB => cases a <;> cases b <;> (try (simp only [dk] at h; cases h; done)); exact someP h
 case eqN => exact bindP h fun _ h => bindP h fun _ h => iteP h someP
 case eqA => cases a <;> cases b <;> (try (simp only [dk] at h; cases h; done)); exact mapP h
 case eqS => cases a <;> cases b <;> (try (simp only [dk] at h; cases h; done)); exact someP h
 case notB => cases a <;> (try (simp only [dk] at h; cases h; done)); exact someP h
 case negI => cases a <;> (try (simp only [dk] at h; cases h; done)); exact iteP h someP
 case xorI => cases a <;> (try (simp only [dk] at h; cases h; done)); exact someP h
 case conv => cases a <;> (try (simp only [dk] at h; cases h; done)); exact someP h
 case nilck => cases a <;> (try (simp only [dk] at h; cases h; done)) <;> exact someP h
 case fadr =>
  cases a <;> (try (simp only [dk] at h; cases h; done))
  ·exact someP h
  ·rename_i bo v
   cases v <;> (try (simp only [dk] at h; cases h; done))
   exact mapP h
 case fld => cases a <;> (try (simp only [dk] at h; cases h; done)); exact mapP h
 case ixS =>
  refine bindP h fun i h => ?_
  cases a <;> (try (cases h; done))
  ·exact iteP h someP
  ·exact iteP h mapP
 case ixA =>
  refine bindP h fun i h1 => iteP h1 fun h2 => ?_
  clear h h1
  cases a <;> (try (cases h2; done))
  ·exact someP h2
  ·rename_i bo v
   cases v <;> (try (cases h2; done))
   exact mapP h2
 case idx => cases a <;> (try (simp only [dk] at h; cases h; done)); exact bindP h fun _ h => iteP h mapP
 case ixStr => cases a <;> (try (simp only [dk] at h; cases h; done)); exact bindP h fun _ h => mapP h
 case ext => cases a <;> (try (simp only [dk] at h; cases h; done)); exact mapP h
 case cap =>
  cases a <;> (try (simp only [dk] at h; cases h; done))
  ·exact someP h
  ·rename_i cp
   cases cp with
   | none => simp only [dk] at h; cases h
   | some k => exact someP h
  ·exact someP h

theorem mapQ {α : Type} {x : Option α} {f : α -> TV} {t : TV} {H H' : Heap} (h : (x.map fun v => (f v, H)) = some (t, H')) : ∃ new, H' = H ++ new := by
 cases x <;> simp at h
 exact ⟨[], by simp [h.2]⟩
theorem bindQ {α : Type} {x : Option α} {f : α -> Option (TV × Heap)} {t : TV} {H H' : Heap} (h : x.bind f = some (t, H')) (hf : ∀ a, f a = some (t, H') -> ∃ new, H' = H ++ new) : ∃ new, H' = H ++ new := by
 cases x with
 | none => simp at h
 | some a => exact hf a h
theorem iteQ {c : Prop} [Decidable c] {x : Option (TV × Heap)} {t : TV} {H H' : Heap} (h : (if c then x else none) = some (t, H')) (hf : x = some (t, H') -> ∃ new, H' = H ++ new) : ∃ new, H' = H ++ new := by
 split at h
 ·exact hf h
 ·cases h
theorem someQ {v t : TV} {H H' : Heap} (h : some (v, H) = some (t, H')) : ∃ new, H' = H ++ new := by
 simp at h; exact ⟨[], by simp [h]⟩
theorem newQ {v t : TV} {H H' : Heap} {o : AObj} (h : some (v, H ++ [o]) = some (t, H')) : ∃ new, H' = H ++ new := by
 simp at h; exact ⟨[o], h.2.symm⟩

theorem dk_grows {k : DK} {vs : List TV} {H H' : Heap} {t : TV} (h : dk k vs H = some (t, H')) (hw : k.W = false) : ∃ new, H' = H ++ new := by
 cases hp : k.P with
 | true => exact ⟨[], by simp [(dk_pure h hp).1]⟩
 | false =>
  cases k <;> simp only [DK.W, DK.P, Bool.true_eq_false] at hw hp
  case bsl byV z ag len ix =>
   refine iteQ h fun h => bindQ h fun _ h => iteQ h fun h => ?_
   split at h
   ·exact someQ h
   ·exact newQ h
  case mkmap =>
   rcases vs with _ | ⟨a, _ | ⟨b, vs⟩⟩
   ·exact newQ h
   ·cases a <;> first | exact newQ h | (simp only [dk] at h; cases h; done)
   ·simp only [dk] at h; cases a <;> cases h
  case mkS =>
   rcases vs with _ | ⟨a, _ | ⟨b, vs⟩⟩
   ·exact newQ h
   ·cases a <;> first | exact newQ h | (simp only [dk] at h; cases h; done)
   ·simp only [dk] at h; cases a <;> cases h
  case alloc => rcases vs with _ | ⟨a, vs⟩ <;> (try (simp only [dk] at h; cases h; done)); exact newQ h
  case slcA => rcases vs with _ | ⟨a, vs⟩ <;> (try (simp only [dk] at h; cases h; done)); exact mapQ h
  all_goals rcases vs with _ | ⟨a, vs⟩ <;> (try (simp only [dk] at h; cases h; done))
  all_goals rcases vs with _ | ⟨b, _ | ⟨c, vs⟩⟩ <;> (try (simp only [dk] at h; cases h; done))
  case false.box.cons.nil => exact iteQ h newQ
  case false.boxV.cons.nil => exact iteQ h someQ
  case false.ld.cons.nil =>
   rename_i sz ag
   cases a <;> (try (simp only [dk] at h; cases h; done))
   ·simp only [dk] at h
    split at h <;> (try (cases h; done))
    exact mapQ h
   ·simp only [dk] at h
    split at h
    ·exact iteQ h someQ
    ·split at h
     ·cases h
     ·exact someQ h
  case false.mksl.cons.cons.nil => exact bindQ h fun _ h => bindQ h fun _ h => iteQ h newQ
  case false.lkp.cons.cons.nil =>
   simp only [dk] at h
   split at h <;> (try (cases h; done))
   ·exact mapQ h
   ·split at h <;> (try (cases h; done))
    refine bindQ h fun _ h => ?_
    simp only [Option.map_eq_some_iff] at h
    obtain ⟨r, _, h⟩ := h
    split at h <;> (simp at h; exact ⟨[], by simp [h]⟩)
  case false.len.cons.nil => exact mapQ h
  case false.lkS.cons.cons.nil =>
   simp only [dk] at h
   split at h <;> (try (cases h; done))
   split at h <;> (try (cases h; done))
   split at h <;> (simp at h; exact ⟨[], by simp [h]⟩)

def DK.PL (k : DK) : Bool := k.P || k.isLd

theorem DK.PL_P {k : DK} (h : k.PL = false) : k.P = false /\ k.isLd = false := by
 unfold DK.PL at h
 simpa using h

theorem ld_still {k : DK} (hk : k.isLd = true) {vs : List TV} {H H' : Heap} {t : TV} (h : dk k vs H = some (t, H')) : H' = H := by
 cases k <;> (try (simp [DK.isLd] at hk; done))
 case ld sz ag =>
  rcases vs with _ | ⟨a, _ | ⟨b, vs⟩⟩
  ·simp only [dk] at h; cases h
  ·cases a <;> (try (simp only [dk] at h; cases h; done))
   ·simp only [dk] at h
    split at h <;> (try (cases h; done))
    exact (mapP h).1
   ·simp only [dk] at h
    split at h
    ·exact (iteP (y := some (t, [])) h fun h => by simp at h; simp [h]).1
    ·split at h
     ·cases h
     ·simp at h; exact h.2.symm
  ·simp only [dk] at h; cases a <;> cases h
 case slcA => rcases vs with _ | ⟨a, vs⟩ <;> (try (simp only [dk] at h; cases h; done)); exact (mapP h).1
 all_goals rcases vs with _ | ⟨a, vs⟩ <;> (try (simp only [dk] at h; cases h; done))
 all_goals rcases vs with _ | ⟨b, _ | ⟨c, vs⟩⟩ <;> (try (simp only [dk] at h; cases h; done))
 case len.cons.nil => exact (mapP h).1
 case lkS.cons.cons.nil =>
  simp only [dk] at h
  split at h <;> (try (cases h; done))
  split at h <;> (try (cases h; done))
  split at h <;> (simp at h; exact h.2.symm)
 case lkp.cons.cons.nil =>
  simp only [dk] at h
  split at h <;> (try (cases h; done))
  ·exact (mapP h).1
  ·split at h <;> (try (cases h; done))
   simp only [Option.bind_eq_some_iff, Option.map_eq_some_iff] at h
   obtain ⟨_, _, r, _, h⟩ := h
   split at h <;> (simp at h; exact h.2.symm)

theorem obj_append {H new : Heap} {id : Nat} {o : AObj} (h : H[id]? = some o) : (H ++ new)[id]? = some o := by
 rw [List.getElem?_append_left (List.getElem?_eq_some_iff.1 h).1]; exact h

theorem mapR {α : Type} {x : Option α} {f : α -> TV} {t : TV} {H K : Heap} (h : (x.map fun v => (f v, H)) = some (t, H)) : (x.map fun v => (f v, K)) = some (t, K) := by
 cases x <;> simp at h
 simp [h]

theorem slcARun_append {lo hi mx : Bool} {n sz : Nat} {ag : Bool} {x : TV} {vs : List TV} {H new : Heap} {v : TV} (h : slcARun lo hi mx n sz ag x vs H = some v) : slcARun lo hi mx n sz ag x vs (H ++ new) = some v := by
 simp only [slcARun, Option.bind_eq_some_iff] at h ⊢
 obtain ⟨a, ha, h⟩ := h
 refine ⟨a, ha, ?_⟩
 split at h <;> (try (cases h; done))
 rename_i hc
 rw [if_pos hc]
 cases x <;> (try (exact h))
 ·rename_i id off
  simp only at h ⊢
  split at h <;> (try (cases h; done))
  rename_i c ag' hcc
  rw [obj_append hcc]
  exact h
 ·rename_i bo v
  cases v <;> exact h

theorem lenK_append {kd : Nat} {x : TV} {H new : Heap} {n : Nat} (h : lenK kd x H = some n) : lenK kd x (H ++ new) = some n := by
 unfold lenK at h ⊢
 split at h <;> (try exact h)
 split at h <;> (try (cases h; done))
 rename_i hc
 simp only [obj_append hc]
 exact h

theorem ld_append {k : DK} (hk : k.isLd = true) {vs : List TV} {H new : Heap} {t : TV} (h : dk k vs H = some (t, H)) : dk k vs (H ++ new) = some (t, H ++ new) := by
 cases k <;> (try (simp [DK.isLd] at hk; done))
 case ld sz ag =>
  rcases vs with _ | ⟨a, _ | ⟨b, vs⟩⟩
  ·simp only [dk] at h; cases h
  ·cases a <;> (try (simp only [dk] at h; cases h; done))
   ·rename_i id off
    simp only [dk] at h ⊢
    split at h <;> (try (cases h; done))
    rename_i c ag' hc
    rw [obj_append hc]
    exact mapR h
   ·simp only [dk] at h ⊢
    split at h
    ·split at h <;> (try (cases h; done))
     rename_i hh
     rw [if_pos hh]
     simp at h ⊢; exact h
    ·split at h <;> (try (cases h; done))
     simp at h ⊢
     rename_i hag
     exact ⟨by simpa using hag, h⟩
  ·simp only [dk] at h; cases a <;> cases h
 case slcA lo hi mx n sz ag =>
  rcases vs with _ | ⟨a, vs⟩ <;> (try (simp only [dk] at h; cases h; done))
  simp only [dk] at h ⊢
  simp only [Option.map_eq_some_iff, Prod.mk.injEq] at h ⊢
  obtain ⟨v, h1, h2, _⟩ := h
  exact ⟨v, slcARun_append h1, h2, trivial⟩
 all_goals rcases vs with _ | ⟨a, vs⟩ <;> (try (simp only [dk] at h; cases h; done))
 all_goals rcases vs with _ | ⟨b, _ | ⟨c, vs⟩⟩ <;> (try (simp only [dk] at h; cases h; done))
 case len.cons.nil =>
  simp only [dk] at h ⊢
  simp only [Option.map_eq_some_iff, Prod.mk.injEq] at h ⊢
  obtain ⟨v, h1, h2, _⟩ := h
  exact ⟨v, lenK_append h1, h2, trivial⟩
 case lkS.cons.cons.nil =>
  simp only [dk] at h ⊢
  split at h <;> (try (cases h; done))
  split at h <;> (try (cases h; done))
  rename_i hc
  simp only [obj_append hc]
  split at h <;> (simp at h ⊢; exact h)
 case lkp.cons.cons.nil =>
  simp only [dk] at h ⊢
  split at h <;> (try (cases h; done))
  ·exact mapR h
  ·split at h <;> (try (cases h; done))
   rename_i hc
   simp only [obj_append hc]
   simp only [Option.bind_eq_some_iff, Option.map_eq_some_iff] at h ⊢
   obtain ⟨q, hq, r, hr, h⟩ := h
   refine ⟨q, hq, r, hr, ?_⟩
   split at h <;> (simp at h ⊢; exact h)

theorem dk_A {k : DK} {vs : List TV} {H H' : Heap} {t : TV} (h : dk k vs H = some (t, H')) (ha : k.isA = true) : ∃ o, H' = H ++ [o] /\ t.idOf' = some H.length /\ ∀ K : Heap, K.length = H.length -> dk k vs K = some (t, K ++ [o]) := by
 cases k <;> (try (simp only [DK.isA, Bool.false_eq_true] at ha; done))
 case alloc z ag =>
  rcases vs with _ | ⟨a, vs⟩ <;> (try (simp only [dk] at h; cases h; done))
  simp only [dk, Option.some.injEq, Prod.mk.injEq] at h
  obtain ⟨rfl, rfl⟩ := h
  exact ⟨_, rfl, rfl, fun K hK => by simp only [dk, hK]⟩
 case box ag =>
  rcases vs with _ | ⟨a, _ | ⟨b, vs⟩⟩ <;> (try (simp only [dk] at h; cases h; done))
  simp only [dk] at h
  split at h <;> (try (cases h; done))
  rename_i hc
  simp only [Option.some.injEq, Prod.mk.injEq] at h
  obtain ⟨rfl, rfl⟩ := h
  exact ⟨_, rfl, rfl, fun K hK => by simp only [dk, if_pos hc, hK]⟩
 case bsl byV z ag len ix =>
  simp only [dk] at h
  split at h <;> (try (cases h; done))
  rename_i hc
  simp only [Option.bind_eq_some_iff] at h
  obtain ⟨l, hl, h⟩ := h
  split at h <;> (try (cases h; done))
  rename_i ho
  cases byV with
  | true => simp [DK.isA] at ha
  | false =>
   simp only [Bool.false_eq_true, if_false, Option.some.injEq, Prod.mk.injEq] at h
   obtain ⟨rfl, rfl⟩ := h
   exact ⟨_, rfl, rfl, fun K hK => by simp only [dk, if_pos hc, hl, Option.bind_some, if_pos ho, hK, Bool.false_eq_true, if_false]⟩
 case mkmap =>
  rcases vs with _ | ⟨a, _ | ⟨b, vs⟩⟩
  ·simp only [dk, Option.some.injEq, Prod.mk.injEq] at h
   obtain ⟨rfl, rfl⟩ := h
   exact ⟨_, rfl, rfl, fun K hK => by simp only [dk, hK]⟩
  ·cases a <;> (try (simp only [dk] at h; cases h; done))
   simp only [dk, Option.some.injEq, Prod.mk.injEq] at h
   obtain ⟨rfl, rfl⟩ := h
   exact ⟨_, rfl, rfl, fun K hK => by simp only [dk, hK]⟩
  ·simp only [dk] at h; cases a <;> cases h
 case mkS =>
  rcases vs with _ | ⟨a, _ | ⟨b, vs⟩⟩
  ·simp only [dk, Option.some.injEq, Prod.mk.injEq] at h
   obtain ⟨rfl, rfl⟩ := h
   exact ⟨_, rfl, rfl, fun K hK => by simp only [dk, hK]⟩
  ·cases a <;> (try (simp only [dk] at h; cases h; done))
   simp only [dk, Option.some.injEq, Prod.mk.injEq] at h
   obtain ⟨rfl, rfl⟩ := h
   exact ⟨_, rfl, rfl, fun K hK => by simp only [dk, hK]⟩
  ·simp only [dk] at h; cases a <;> cases h
 case mksl z ag bytes =>
  rcases vs with _ | ⟨a, _ | ⟨b, _ | ⟨c, vs⟩⟩⟩ <;> (try (simp only [dk] at h; cases h; done))
  simp only [dk, Option.bind_eq_some_iff] at h
  obtain ⟨l, hl, c, hc, h⟩ := h
  split at h <;> (try (cases h; done))
  rename_i hh
  simp only [Option.some.injEq, Prod.mk.injEq] at h
  obtain ⟨rfl, rfl⟩ := h
  exact ⟨_, rfl, rfl, fun K hK => by simp only [dk, hl, hc, Option.bind_some, if_pos hh, hK]⟩

theorem dk_S_append {k : DK} {vs : List TV} {H H' : Heap} {t : TV} (h : dk k vs H = some (t, H')) (hs : k.isS = true) (F : Heap) : dk k vs (H ++ F) = some (t, H' ++ F) := by
 have ap : ∀ (id : Nat) (o : AObj), H[id]? = some o -> (H ++ F)[id]? = some o /\ ∀ o', (H ++ F).set id o' = H.set id o' ++ F := fun id o ho => by
  have := (List.getElem?_eq_some_iff.1 ho).1
  exact ⟨by rw [List.getElem?_append_left this]; exact ho, fun o' => by rw [List.set_append_left _ _ this]⟩
 cases k <;> (try (simp only [DK.isS, Bool.false_eq_true] at hs; done))
 case st sz =>
  rcases vs with _ | ⟨a, _ | ⟨b, _ | ⟨c, vs⟩⟩⟩
  all_goals (try (simp only [dk] at h; cases h; done))
  all_goals (try (cases a <;> (simp only [dk] at h; cases h); done))
  cases a <;> (try (simp only [dk] at h; cases h; done))
  rename_i id off
  simp only [dk] at h ⊢
  split at h <;> (try (cases h; done))
  rename_i c ag hc
  split at h <;> (try (cases h; done))
  rename_i hh
  obtain ⟨h1, h2⟩ := ap _ _ hc
  simp only [Option.some.injEq, Prod.mk.injEq] at h
  obtain ⟨rfl, rfl⟩ := h
  simp only [h1, if_pos hh, h2]
 case setS =>
  rcases vs with _ | ⟨a, _ | ⟨b, _ | ⟨c, _ | ⟨d, vs⟩⟩⟩⟩
  all_goals (try (simp only [dk] at h; cases h; done))
  all_goals (try (cases a <;> (simp only [dk] at h; cases h); done))
  all_goals (try (cases a <;> cases b <;> (simp only [dk] at h; cases h); done))
  cases a <;> cases b <;> (try (simp only [dk] at h; cases h; done))
  rename_i id kk n
  cases kk <;> (try (simp only [dk] at h; cases h; done))
  simp only [dk] at h ⊢
  split at h <;> (try (cases h; done))
  rename_i es ck hc
  obtain ⟨h1, h2⟩ := ap _ _ hc
  simp only [Option.some.injEq, Prod.mk.injEq] at h
  obtain ⟨rfl, rfl⟩ := h
  simp only [h1, h2]
 case mset kt =>
  rcases vs with _ | ⟨a, _ | ⟨b, _ | ⟨c, _ | ⟨d, vs⟩⟩⟩⟩
  all_goals (try (simp only [dk] at h; cases h; done))
  all_goals (try (cases a <;> (simp only [dk] at h; cases h); done))
  cases a <;> (try (simp only [dk] at h; cases h; done))
  rename_i id
  simp only [dk] at h ⊢
  split at h <;> (try (cases h; done))
  rename_i es ck hc
  simp only [Option.bind_eq_some_iff, Option.map_eq_some_iff] at h
  obtain ⟨q, hq, r, hr, h⟩ := h
  obtain ⟨h1, h2⟩ := ap _ _ hc
  simp only [h1, hq, hr, Option.bind_some, Option.map_some]
  cases r with
  | none =>
   simp only [Prod.mk.injEq] at h
   obtain ⟨rfl, rfl⟩ := h
   simp only [h2]
  | some r =>
   simp only [Prod.mk.injEq] at h
   obtain ⟨rfl, rfl⟩ := h
   simp only [h2]

theorem dk_still {k : DK} {vs : List TV} {H H' : Heap} {t : TV} (h : dk k vs H = some (t, H')) (hw : k.W = false) (ha : k.isA = false) : H' = H := by
 cases hp : k.P with
 | true => exact (dk_pure h hp).1
 | false =>
  cases hl : k.isLd with
  | true =>
   exact ld_still hl h
  | false =>
   have M : ∀ {α : Type} {x : Option α} {f : α -> TV}, (x.map fun v => (f v, H)) = some (t, H') -> H' = H := fun h => (mapP h).1
   cases k <;> (try (simp [DK.isLd] at hl; done)) <;> (try (simp [DK.P] at hp; done)) <;> (try (simp [DK.W] at hw; done)) <;> (try (simp [DK.isA] at ha; done))
   case bsl byV z ag len ix =>
    cases byV with
    | false => simp [DK.isA] at ha
    | true =>
     simp only [dk] at h
     split at h <;> (try (cases h; done))
     simp only [Option.bind_eq_some_iff] at h
     obtain ⟨l, hl, h⟩ := h
     split at h <;> (try (cases h; done))
     simp at h
     exact h.2.symm
   all_goals rcases vs with _ | ⟨a, vs⟩ <;> (try (simp only [dk] at h; cases h; done))
   all_goals rcases vs with _ | ⟨b, _ | ⟨c, vs⟩⟩ <;> (try (simp only [dk] at h; cases h; done))
   case boxV.cons.nil =>
    simp only [dk] at h
    split at h <;> (try (cases h; done))
    simp at h; exact h.2.symm

theorem dk_S {k : DK} {vs : List TV} {H H' : Heap} {t : TV} (h : dk k vs H = some (t, H')) (hs : k.isS = true) : ∃ x vs' id, vs = x :: vs' /\ ((∃ o, x = .ref id o) \/ x = .mp id) /\ H'.length = H.length /\ ∀ j, j ≠ id -> H'[j]? = H[j]? := by
 cases k <;> simp only [DK.isS, Bool.false_eq_true] at hs
 case st sz =>
  rcases vs with _ | ⟨a, _ | ⟨b, _ | ⟨c, vs⟩⟩⟩
  all_goals (try (simp only [dk] at h; cases h; done))
  all_goals (try (cases a <;> (simp only [dk] at h; cases h); done))
  cases a <;> (try (simp only [dk] at h; cases h; done))
  rename_i id off
  simp only [dk] at h
  split at h <;> (try (cases h; done))
  split at h <;> (try (cases h; done))
  simp only [Option.some.injEq, Prod.mk.injEq] at h
  obtain ⟨_, rfl⟩ := h
  exact ⟨_, _, id, rfl, .inl ⟨off, rfl⟩, by simp, fun j hj => List.getElem?_set_ne (Ne.symm hj)⟩
 case setS =>
  rcases vs with _ | ⟨a, _ | ⟨b, _ | ⟨c, _ | ⟨d, vs⟩⟩⟩⟩
  all_goals (try (simp only [dk] at h; cases h; done))
  all_goals (try (cases a <;> (simp only [dk] at h; cases h); done))
  all_goals (try (cases a <;> cases b <;> (simp only [dk] at h; cases h); done))
  cases a <;> cases b <;> (try (simp only [dk] at h; cases h; done))
  rename_i id kk n
  cases kk <;> (try (simp only [dk] at h; cases h; done))
  simp only [dk] at h
  split at h <;> (try (cases h; done))
  simp only [Option.some.injEq, Prod.mk.injEq] at h
  obtain ⟨_, rfl⟩ := h
  exact ⟨_, _, id, rfl, .inr rfl, by simp, fun j hj => List.getElem?_set_ne (Ne.symm hj)⟩
 case mset kt =>
  rcases vs with _ | ⟨a, _ | ⟨b, _ | ⟨c, _ | ⟨d, vs⟩⟩⟩⟩
  all_goals (try (simp only [dk] at h; cases h; done))
  all_goals (try (cases a <;> (simp only [dk] at h; cases h); done))
  cases a <;> (try (simp only [dk] at h; cases h; done))
  rename_i id
  simp only [dk] at h
  split at h <;> (try (cases h; done))
  simp only [Option.bind_eq_some_iff, Option.map_eq_some_iff] at h
  obtain ⟨_, _, r, _, h⟩ := h
  cases r with
  | none =>
   simp only [Prod.mk.injEq] at h
   obtain ⟨_, rfl⟩ := h
   exact ⟨_, _, id, rfl, .inr rfl, by simp, fun j hj => List.getElem?_set_ne (Ne.symm hj)⟩
  | some r =>
   simp only [Prod.mk.injEq] at h
   obtain ⟨_, rfl⟩ := h
   exact ⟨_, _, id, rfl, .inr rfl, by simp, fun j hj => List.getElem?_set_ne (Ne.symm hj)⟩

end Go.Dn

/-
 Regions, part 2: the trace in the order of the text, and what holds while the operations come in another order.
-/

namespace Go.Dn

noncomputable def valRun (pg : Pg) (R : Rec) (k : DK) (vs : List TV) (H : Heap) : Option (TV × Heap) :=
 match k with
 | .call m => callRun pg R m vs H
 | k => dk k vs H

theorem callRun_pu {pg : Pg} {R : Rec} {ks : List Bool} {vs : List TV} {H H' : Heap} {t : TV} (h : callRun pg R (.pu ks) vs H = some (t, H')) : H' = H := by
 rcases vs with _ | ⟨v, vs⟩
 ·simp [callRun] at h
 ·cases v <;> simp only [callRun] at h <;> (try (cases h; done))
  simp only [Option.bind_eq_some_iff] at h
  obtain ⟨ags, _, h⟩ := h
  split at h
  ·injection h with h; injection h with _ h; exact h.symm
  ·simp only [Option.bind_eq_some_iff, Option.map_eq_some_iff, Prod.mk.injEq] at h
   obtain ⟨_, _, _, _, _, rfl⟩ := h
   rfl

theorem valRun_grows {pg : Pg} {R : Rec} {k : DK} {vs : List TV} {H H' : Heap} {t : TV} (h : valRun pg R k vs H = some (t, H')) (hw : k.W = false) : ∃ new, H' = H ++ new := by
 unfold valRun at h
 split at h
 ·rename_i m
  cases m with
  | sh => simp [DK.W] at hw
  | gr => simp [DK.W] at hw
  | so => simp [DK.W] at hw
  | pu ks => exact ⟨[], by simp [callRun_pu h]⟩
 ·exact dk_grows h hw

theorem valRun_pure {pg : Pg} {R : Rec} {k : DK} {vs : List TV} {H H' : Heap} {t : TV} (h : valRun pg R k vs H = some (t, H')) (hp : k.P = true) : H' = H /\ dk k vs [] = some (t, []) := by
 unfold valRun at h
 split at h
 ·simp [DK.P] at hp
 ·exact dk_pure h hp

theorem operRun_inv {pg : Pg} {R : Rec} {o : DOper} {e e' : Env} {H H' : Heap} (h : operRun pg R o e H = some (e', H')) :
  ∃ v, e' = putE e o.d v /\ ((guardRun e o.g = some false /\ v = .undef /\ H' = H) \/ (guardRun e o.g = some true /\ ∃ vs, mapO (evalO pg e) o.a = some vs /\ valRun pg R o.k vs H = some (v, H'))) := by
 unfold operRun at h
 cases hg : guardRun e o.g with
 | none => simp [hg] at h
 | some go =>
  simp only [hg, Option.bind_some] at h
  cases go with
  | false =>
   simp at h
   exact ⟨.undef, h.1.symm, .inl ⟨rfl, rfl, h.2.symm⟩⟩
  | true =>
   simp only [if_true, Option.bind_eq_some_iff, Option.map_eq_some_iff, Prod.mk.injEq] at h
   obtain ⟨vs, hvs, ⟨v, H2⟩, hk, rfl, rfl⟩ := h
   exact ⟨v, rfl, .inr ⟨rfl, vs, hvs, hk⟩⟩

abbrev D (ds : List DOper) (i : Nat) : DOper := ds.getD i default

structure Tr (pg : Pg) (R : Rec) (ds : List DOper) (E : Nat -> Env) (Hh : Nat -> Heap) (V : Nat -> TV) : Prop where
 env : ∀ i, i < ds.length -> E (i + 1) = putE (E i) (D ds i).d (V i)
 run : ∀ i, i < ds.length -> (guardRun (E i) (D ds i).g = some false /\ V i = .undef /\ Hh (i + 1) = Hh i) \/
  (guardRun (E i) (D ds i).g = some true /\ ∃ vs, mapO (evalO pg (E i)) (D ds i).a = some vs /\ valRun pg R (D ds i).k vs (Hh i) = some (V i, Hh (i + 1)))

theorem opsRun_trace {pg : Pg} {R : Rec} : ∀ {ds : List DOper} {e e' : Env} {H H' : Heap}, opsRun pg R ds e H = some (e', H') ->
  ∃ E Hh V, Tr pg R ds E Hh V /\ E 0 = e /\ Hh 0 = H /\ E ds.length = e' /\ Hh ds.length = H'
 | [], e, e', H, H', h => by
  simp [opsRun] at h
  exact ⟨fun _ => e, fun _ => H, fun _ => .undef, ⟨fun i hi => by simp at hi, fun i hi => by simp at hi⟩, rfl, rfl, h.1, h.2⟩
 | o :: ds, e, e', H, H', h => by
  simp only [opsRun, Option.bind_eq_some_iff] at h
  obtain ⟨⟨e1, H1⟩, h1, h2⟩ := h
  obtain ⟨v, hv, hrun⟩ := operRun_inv h1
  obtain ⟨E, Hh, V, ht, rfl, rfl, h3, h4⟩ := opsRun_trace h2
  refine ⟨fun | 0 => e | i + 1 => E i, fun | 0 => H | i + 1 => Hh i, fun | 0 => v | i + 1 => V i, ⟨?_, ?_⟩, rfl, rfl, by simpa using h3, by simpa using h4⟩
  ·intro i hi
   cases i with
   | zero => exact hv
   | succ i => exact ht.env i (by simpa using hi)
  ·intro i hi
   cases i with
   | zero => exact hrun
   | succ i => exact ht.run i (by simpa using hi)

section
variable {pg : Pg} {R : Rec} {ds : List DOper} {E : Nat -> Env} {Hh : Nat -> Heap} {V : Nat -> TV}

theorem Tr.grow (ht : Tr pg R ds E Hh V) {i : Nat} (hi : i < ds.length) (hw : (D ds i).k.W = false) : ∃ new, Hh (i + 1) = Hh i ++ new := by
 rcases ht.run i hi with ⟨_, _, h⟩ | ⟨_, vs, _, h⟩
 ·exact ⟨[], by simp [h]⟩
 ·exact valRun_grows h hw

theorem Tr.still (ht : Tr pg R ds E Hh V) {i : Nat} (hi : i < ds.length) (hp : (D ds i).k.P = true) : Hh (i + 1) = Hh i := by
 rcases ht.run i hi with ⟨_, _, h⟩ | ⟨_, vs, _, h⟩
 ·exact h
 ·exact (valRun_pure h hp).1

theorem Tr.grows (ht : Tr pg R ds E Hh V) {i : Nat} : ∀ {k : Nat}, i <= k -> k <= ds.length -> (∀ m, i <= m -> m < k -> (D ds m).k.W = false) -> ∃ new, Hh k = Hh i ++ new := by
 intro k hik
 induction hik with
 | refl => intro _ _; exact ⟨[], by simp⟩
 | step hk ih =>
  rename_i k
  intro hkn h
  obtain ⟨n1, h1⟩ := ih (by omega) fun m a b => h m a (by omega)
  obtain ⟨n2, h2⟩ := ht.grow (i := k) (by omega) (h k hk (by omega))
  exact ⟨n1 ++ n2, by rw [h2, h1, List.append_assoc]⟩

theorem Tr.len (ht : Tr pg R ds E Hh V) {i : Nat} : ∀ {k : Nat}, i <= k -> k <= ds.length -> (∀ m, i <= m -> m < k -> (D ds m).k.W = true -> (Hh m).length <= (Hh (m + 1)).length) -> (Hh i).length <= (Hh k).length := by
 intro k hik
 induction hik with
 | refl => intro _ _; exact Nat.le_refl _
 | step hk ih =>
  rename_i k
  intro hkn h
  refine Nat.le_trans (ih (by omega) fun m a b => h m a (by omega)) ?_
  cases hw : (D ds k).k.W with
  | true => exact h k hk (by omega) hw
  | false =>
   obtain ⟨n2, h2⟩ := ht.grow (i := k) (by omega) hw
   rw [h2]; simp

theorem get_putE_ne {e : Env} {d : Option Nat} {v : TV} {s : Nat} (h : d ≠ some s) : get (putE e d v) s = get e s := by
 cases d with
 | none => rfl
 | some d => simp only [putE, Dn.get]; rw [if_neg (fun e => h (by rw [e]))]

theorem Tr.slot (ht : Tr pg R ds E Hh V) {i s : Nat} : ∀ {k : Nat}, i <= k -> k <= ds.length -> (∀ m, i <= m -> m < k -> (D ds m).d ≠ some s) -> get (E k) s = get (E i) s := by
 intro k hik
 induction hik with
 | refl => intro _ _; rfl
 | step hk ih =>
  rename_i k
  intro hkn h
  rw [Nat.succ_eq_add_one, ht.env k (by omega), get_putE_ne (h k hk (by omega))]
  exact ih (by omega) fun m a b => h m a (by omega)
end

theorem DK.W_P {k : DK} (h : k.W = true) : k.P = false := by
 cases k <;> first | rfl | simp [DK.W] at h | (rename_i m; cases m <;> rfl)

theorem confl_W {x y : DOper} (h : x.k.W = true) (h' : y.k.P = false) : confl x y = true := by simp [confl, h, h']
theorem confl_W' {x y : DOper} (h : x.k.P = false) (h' : y.k.W = true) : confl x y = true := by simp [confl, h, h']
theorem confl_d {x y : DOper} {s : Nat} (h : x.d = some s) (h' : s ∈ y.names) : confl x y = true := by simp [confl, h, h']
theorem confl_d' {x y : DOper} {s : Nat} (h : s ∈ x.names) (h' : y.d = some s) : confl x y = true := by simp [confl, h, h']
theorem names_d {x : DOper} {s : Nat} (h : x.d = some s) : s ∈ x.names := by simp [DOper.names, h]

def FrS (ds : List DOper) (fr : List (Nat × Nat)) : Prop := ∀ p, p ∈ fr -> frOne ds p.1 p.2 = true

structure FrOne (ds : List DOper) (w l : Nat) : Prop where
 wl : w < ds.length
 ll : l < ds.length
 W : (D ds w).k.W = true
 k : (D ds l).k.isLd = true \/ (D ds l).k.isA = true /\ (D ds w).k.isS = true
 n1 : ∀ s, (D ds w).d = some s -> s ∉ (D ds l).names
 n2 : ∀ s, (D ds l).d = some s -> s ∉ (D ds w).names
 dd : ∃ s, (D ds l).d = some s
 hd : (D ds l).k.isLd = false -> ∃ s r, (D ds w).a = .t s :: r
 u1 : ∀ m, l <= m -> m < ds.length -> ∀ s, s ∈ (D ds l).uses -> (D ds m).d ≠ some s
 u2 : ∀ m, l < m -> m < ds.length -> (D ds m).d ≠ (D ds l).d
 u3 : ∀ m, w <= m -> m < ds.length -> ∀ s, s ∈ (D ds w).uses -> (D ds m).d ≠ some s

theorem drop_mem {α : Type} [Inhabited α] {l : List α} {i m : Nat} (h1 : i <= m) (h2 : m < l.length) : l.getD m default ∈ l.drop i := by
 rw [List.mem_iff_getElem?]
 refine ⟨m - i, ?_⟩
 rw [List.getElem?_drop, show i + (m - i) = m by omega, List.getD_eq_getElem?_getD, List.getElem?_eq_getElem h2]
 rfl

theorem FrS.one {ds : List DOper} {fr : List (Nat × Nat)} (h : FrS ds fr) {w l : Nat} (hm : (w, l) ∈ fr) : FrOne ds w l := by
 have h := h _ hm
 unfold frOne at h
 simp only at h
 split at h
 ·rename_i x y hx hy
  have hwl := (List.getElem?_eq_some_iff.1 hx).1
  have hll := (List.getElem?_eq_some_iff.1 hy).1
  have ex : D ds w = x := by simp [D, hx]
  have ey : D ds l = y := by simp [D, hy]
  simp only [Bool.and_eq_true, Bool.or_eq_true, List.all_eq_true, bne_iff_ne, ne_eq] at h
  obtain ⟨⟨⟨⟨⟨⟨⟨h1, h2⟩, h3⟩, h4⟩, h5⟩, h7⟩, h8⟩, h9⟩ := h
  refine ⟨hwl, hll, by rw [ex]; exact h1, by rw [ex, ey]; exact h2.imp id fun h => h.1, fun s hs => ?_, fun s hs => ?_, ?_, ?_, fun m a b s hs hd => ?_, fun m a b => ?_, fun m a b s hs hd => ?_⟩
  ·rw [ex] at hs; rw [ey]; rw [hs] at h3; simpa using h3
  ·rw [ey] at hs; rw [ex]; rw [hs] at h4; simpa using h4
  ·rw [ey]; exact Option.isSome_iff_exists.1 h5
  ·intro hld
   rw [ey] at hld
   rcases h2 with h2 | h2
   ·rw [hld] at h2; cases h2
   have h6 := h2.2
   rw [ex]
   cases ha : x.a with
   | nil => rw [ha] at h6; simp at h6
   | cons o r =>
    rw [ha] at h6
    cases o <;> simp at h6
    exact ⟨_, r, rfl⟩
  ·have := h7 _ (drop_mem a b)
   rw [show ds.getD m default = D ds m from rfl, hd] at this
   rw [ey] at hs
   simp at this
   exact this hs
  ·have := h8 _ (drop_mem (i := l + 1) (by omega) b)
   rw [ey]; exact this
  ·have := h9 _ (drop_mem a b)
   rw [show ds.getD m default = D ds m from rfl, hd] at this
   rw [ex] at hs
   simp at this
   exact this hs
 ·cases h

theorem DK.isLd_W {k : DK} (h : k.isLd = true) : k.W = false := by cases k <;> first | rfl | simp [DK.isLd] at h
theorem DK.isA_W {k : DK} (h : k.isA = true) : k.W = false := by cases k <;> first | rfl | simp [DK.isA] at h
theorem DK.isA_PL {k : DK} (h : k.isA = true) : k.PL = false := by cases k <;> first | rfl | simp [DK.isA] at h
theorem DK.W_PL {k : DK} (h : k.W = true) : k.PL = false := by
 unfold DK.PL
 rw [DK.W_P h]
 cases hl : k.isLd with
 | false => rfl
 | true => rw [DK.isLd_W hl] at h; cases h

section
variable {ds : List DOper} {fr : List (Nat × Nat)}

theorem cf_of (hf : FrS ds fr) {x y : Nat} (h : confl (D ds x) (D ds y) = true) (h1 : (x, y) ∉ fr) (h2 : (y, x) ∉ fr) : cf ds fr x y = true := by
 unfold cf
 rw [show confl (ds.getD x default) (ds.getD y default) = true from h]
 simp [h1, h2]

theorem cf_not {x y : Nat} (h : confl (D ds x) (D ds y) = true) (h1 : cf ds fr x y = false) : (x, y) ∈ fr \/ (y, x) ∈ fr := by
 unfold cf at h1
 rw [show confl (ds.getD x default) (ds.getD y default) = true from h] at h1
 simp at h1
 exact Classical.byContradiction fun hn => by
  simp only [not_or] at hn
  exact hn.2 (h1 hn.1)

theorem cf_d (hf : FrS ds fr) {x y s : Nat} (h : (D ds x).d = some s) (h' : s ∈ (D ds y).names) : cf ds fr x y = true :=
 cf_of hf (confl_d h h') (fun hm => (hf.one hm).n1 s h h') (fun hm => (hf.one hm).n2 s h h')

theorem cf_d' (hf : FrS ds fr) {x y s : Nat} (h : s ∈ (D ds x).names) (h' : (D ds y).d = some s) : cf ds fr x y = true :=
 cf_of hf (confl_d' h h') (fun hm => (hf.one hm).n2 s h' h) (fun hm => (hf.one hm).n1 s h' h)

theorem cf_W (hf : FrS ds fr) {x y : Nat} (h : (D ds x).k.W = true) (h' : (D ds y).k.PL = false) (hA : ¬ ((D ds y).k.isA = true /\ (D ds x).k.isS = true)) : cf ds fr x y = true :=
 cf_of hf (confl_W h (DK.PL_P h').1) (fun hm => by
  rcases (hf.one hm).k with h2 | h2
  ·rw [(DK.PL_P h').2] at h2; cases h2
  ·exact hA h2) (fun hm => by
  have h1 := (hf.one hm).k
  rcases h1 with h1 | h1
  ·rw [DK.isLd_W h1] at h; cases h
  ·rw [DK.isA_W h1.1] at h; cases h)

theorem cf_W' (hf : FrS ds fr) {x y : Nat} (h : (D ds x).k.PL = false) (h' : (D ds y).k.W = true) (hA : ¬ ((D ds x).k.isA = true /\ (D ds y).k.isS = true)) : cf ds fr x y = true :=
 cf_of hf (confl_W' (DK.PL_P h).1 h') (fun hm => by
  have h1 := (hf.one hm).k
  rcases h1 with h1 | h1
  ·rw [DK.isLd_W h1] at h'; cases h'
  ·rw [DK.isA_W h1.1] at h'; cases h') (fun hm => by
  rcases (hf.one hm).k with h2 | h2
  ·rw [(DK.PL_P h).2] at h2; cases h2
  ·exact hA h2)
end

/-! ### heaps, joined -/
section
variable {P : Program} {B : Nat} {π π' : PMap} {H : Heap} {w w' : World} {av av' ex : Nat -> Prop}

theorem HRel.nil (h : HRel P B π H w av ex) (π2 : PMap) : HRel P B π2 [] w av ex :=
 ⟨fun _ _ _ _ _ h => by simp at h, fun _ _ _ _ _ _ _ _ h => by simp at h, h.avb, h.exb, h.bsz⟩

theorem HRel.pad (h : HRel P B π H w av ex) (new : Heap) (hn : ∀ id, H.length <= id -> π id = none) : HRel P B π (H ++ new) w av ex where
 obj id g sh o hp ho hd := by
  rcases Nat.lt_or_ge id H.length with hl | hl
  ·rw [List.getElem?_append_left hl] at ho; exact h.obj id g sh o hp ho hd
  ·rw [hn id hl] at hp; cases hp
 inj id id' g sh sh' o o' hp ho hd hp' ho' hd' := by
  have q : ∀ i oo gg ss, π i = some (gg, ss) -> (H ++ new)[i]? = some oo -> H[i]? = some oo := by
   intro i oo gg ss hp ho
   rcases Nat.lt_or_ge i H.length with hl | hl
   ·rwa [List.getElem?_append_left hl] at ho
   ·rw [hn i hl] at hp; cases hp
  exact h.inj id id' g sh sh' o o' hp (q _ _ _ _ hp ho) hd hp' (q _ _ _ _ hp' ho') hd'
 avb := h.avb
 exb := h.exb
 bsz := h.bsz

end

section
variable {P : Program} {B : Nat} {π π' : PMap} {H : Heap} {w w' : World} {av av' ex : Nat -> Prop}

theorem HRel.sub (h : HRel P B π H w av ex) {K : Heap} (hk : ∀ (id : Nat) (o : AObj), K[id]? = some o -> o ≠ .dead -> H[id]? = some o) : HRel P B π K w av ex where
 obj id g sh o hp ho hd := h.obj id g sh o hp (hk id o ho hd) hd
 inj id id' g sh sh' o o' hp ho hd hp' ho' hd' := h.inj id id' g sh sh' o o' hp (hk id o ho hd) hd hp' (hk id' o' ho' hd') hd'
 avb := h.avb
 exb := h.exb
 bsz := h.bsz

theorem HRel.join2 {K : Heap} (h' : HRel P B π' K w' av' ex) (h : HRel P B π H w av ex) (e : Ev none' π w av π' w' av') (hext : ∀ g, av g -> av' g) (hn : ∀ (id : Nat) (o : AObj), π' id ≠ π id -> H[id]? = some o -> o ≠ .dead -> K[id]? = some o)
  (hfr : ∀ id g sh, π' id ≠ π id -> π' id = some (g, sh) -> w.heap.size <= g) : HRel P B π' H w' av' ex where
 obj id g sh o hp ho hd := by
  by_cases hpp : π' id = π id
  ·obtain ⟨h1, h2, ob, h3, h4⟩ := h.obj id g sh o (hpp ▸ hp) ho hd
   exact ⟨h1, hext g h2, ob, by rw [e.blk g (h.avb g h2) (fun x => x)]; exact h3, h4.mono e fun _ _ x => x.elim⟩
  ·exact h'.obj id g sh o hp (hn id o hpp ho hd) hd
 inj id id' g sh sh' o o' hp ho hd hp' ho' hd' := by
  by_cases a : π' id = π id <;> by_cases b : π' id' = π id'
  ·exact h.inj id id' g sh sh' o o' (a ▸ hp) ho hd (b ▸ hp') ho' hd'
  ·have := hfr id' g sh' b hp'
   have := h.avb g (h.obj id g sh o (a ▸ hp) ho hd).2.1
   omega
  ·have := hfr id g sh a hp
   have := h.avb g (h.obj id' g sh' o' (b ▸ hp') ho' hd').2.1
   omega
  ·exact h'.inj id id' g sh sh' o o' hp (hn id o a ho hd) hd hp' (hn id' o' b ho' hd') hd'
 avb := h'.avb
 exb := h'.exb
 bsz := h'.bsz
end

/-! ### the invariant -/
def cutS (ds : List DOper) (S : Nat -> Prop) (s k : Nat) : Prop := ∀ i, i < ds.length -> (D ds i).d = some s -> (S i ↔ i < k)
def cutW (ds : List DOper) (S : Nat -> Prop) (c : Nat) : Prop := ∀ i, i < ds.length -> (D ds i).k.W = true -> (S i ↔ i < c)

def fresh (Hh : Nat -> Heap) : Nat -> Nat -> Heap
 | 0, _ => []
 | k + 1, c => (Hh (c + 1)).drop (Hh c).length ++ fresh Hh k (c + 1)

def Kx (Hh : Nat -> Heap) (n c : Nat) : Heap := Hh c ++ fresh Hh (n - c) c

theorem Kx_succ {Hh : Nat -> Heap} {n c : Nat} (h : c < n) : Kx Hh n c = Hh c ++ ((Hh (c + 1)).drop (Hh c).length ++ fresh Hh (n - (c + 1)) (c + 1)) := by
 unfold Kx
 rw [show n - c = (n - (c + 1)) + 1 by omega, fresh]

theorem Kx_grow {Hh : Nat -> Heap} {n c : Nat} {new : Heap} (h : Hh (c + 1) = Hh c ++ new) (hc : c < n) : Kx Hh n (c + 1) = Kx Hh n c := by
 rw [Kx_succ hc, h, List.drop_left' rfl]
 unfold Kx
 rw [h, List.append_assoc]

theorem Kx_len {Hh : Nat -> Heap} {n c : Nat} (h : (Hh (c + 1)).length = (Hh c).length) (hc : c < n) : (Kx Hh n (c + 1)).length = (Kx Hh n c).length := by
 rw [Kx_succ hc, List.drop_eq_nil_of_le (by omega)]
 unfold Kx
 simp [h]

theorem Kx_S {Hh : Nat -> Heap} {n c : Nat} (h : (Hh (c + 1)).length = (Hh c).length) (hc : c < n) : ∃ F, Kx Hh n c = Hh c ++ F /\ Kx Hh n (c + 1) = Hh (c + 1) ++ F := by
 refine ⟨fresh Hh (n - (c + 1)) (c + 1), ?_, rfl⟩
 rw [Kx_succ hc, List.drop_eq_nil_of_le (by omega), List.nil_append]

structure Inv (P : Program) (N : Nat) (ds : List DOper) (fr : List (Nat × Nat)) (E : Nat -> Env) (Hh : Nat -> Heap) (B : Nat) (π0 : PMap) (w0 : World) (av0 ex : Nat -> Prop) (S : Nat -> Prop) (π : PMap) (w : World) (av : Nat -> Prop) (tm : Array Value) : Prop where
 sz : tm.size = N
 slot : ∀ s k, k <= ds.length -> cutS ds S s k -> ∀ t, get (E k) s = some t -> VRel π w av ex t (tm.getD s undef)
 heap : ∀ c, c <= ds.length -> cutW ds S c -> HRel P B π (Kx Hh ds.length c) w av ex
 base : HRel P B π [] w av ex
 dom : ∀ id, π id ≠ π0 id -> ∃ i, S i /\ i < ds.length /\ (Hh i).length <= id /\ id < (Hh (i + 1)).length
 mono : ∀ i, S i -> i < ds.length -> (Hh i).length <= (Hh (i + 1)).length
 clo : ∀ i j, S j -> i < j -> j < ds.length -> cf ds fr i j = true -> S i
 ev : Ev (wrK B av0 true) π0 w0 av0 π w av
 ext : ∀ g, av0 g -> av g
 frs : ∀ id g sh, π id ≠ π0 id -> π id = some (g, sh) -> w0.heap.size <= g \/ wrK B av0 true g

structure May (ds : List DOper) (fr : List (Nat × Nat)) (S : Nat -> Prop) (j : Nat) : Prop where
 lt : j < ds.length
 new : ¬ S j
 bef : ∀ i, i < j -> cf ds fr i j = true -> S i
 aft : ∀ i, j < i -> i < ds.length -> cf ds fr j i = true -> ¬ S i

section
variable {P : Program} {pg : Pg} {Gz : Nat} {R : Rec} {ds : List DOper} {fr : List (Nat × Nat)} {E : Nat -> Env} {Hh : Nat -> Heap} {V : Nat -> TV} {N B : Nat} {π0 π : PMap} {w0 w : World} {av0 av ex : Nat -> Prop} {S : Nat -> Prop} {tm : Array Value} {j : Nat}

theorem May.slots (hf : FrS ds fr) (hm : May ds fr S j) {s : Nat} (h : s ∈ (D ds j).names) : cutS ds S s j := by
 intro i hi hd
 rcases Nat.lt_trichotomy i j with x | x | x
 ·exact ⟨fun _ => x, fun _ => hm.bef i x (cf_d hf hd h)⟩
 ·subst x; exact ⟨fun y => absurd y hm.new, fun y => by omega⟩
 ·exact ⟨fun y => absurd y (hm.aft i x hi (cf_d' hf h hd)), fun y => by omega⟩

theorem May.cutW (hf : FrS ds fr) (hm : May ds fr S j) (h : (D ds j).k.PL = false) (hA : (D ds j).k.isA = false) : cutW ds S j := by
 intro i hi hd
 rcases Nat.lt_trichotomy i j with x | x | x
 ·exact ⟨fun _ => x, fun _ => hm.bef i x (cf_W hf hd h (by rw [hA]; simp))⟩
 ·subst x; exact ⟨fun y => absurd y hm.new, fun y => by omega⟩
 ·exact ⟨fun y => absurd y (hm.aft i x hi (cf_W' hf h hd (by rw [hA]; simp))), fun y => by omega⟩

theorem Inv.cut (hf : FrS ds fr) (hi : Inv P N ds fr E Hh B π0 w0 av0 ex S π w av tm) : ∃ c, c <= ds.length /\ Dn.cutW ds S c /\ (c < ds.length -> (D ds c).k.W = true /\ ¬ S c) := by
 classical
 have key : ∀ n, n <= ds.length -> (∃ c, c < n /\ (D ds c).k.W = true /\ ¬ S c /\ ∀ i, i < c -> (D ds i).k.W = true -> S i) \/ ∀ i, i < n -> (D ds i).k.W = true -> S i := by
  intro n
  induction n with
  | zero => intro _; exact .inr fun i hi => by omega
  | succ n ih =>
   intro hn
   rcases ih (by omega) with ⟨c, h1, h2⟩ | h
   ·exact .inl ⟨c, by omega, h2⟩
   ·by_cases hw : (D ds n).k.W = true /\ ¬ S n
    ·exact .inl ⟨n, by omega, hw.1, hw.2, h⟩
    ·refine .inr fun i hi hW => ?_
     by_cases he : i = n
     ·subst he; exact Classical.byContradiction fun hs => hw ⟨hW, hs⟩
     ·exact h i (by omega) hW
 rcases key ds.length (Nat.le_refl _) with ⟨c, h1, h2, h3, h4⟩ | h
 ·refine ⟨c, by omega, fun i hin hW => ⟨fun hS => ?_, fun hic => h4 i hic hW⟩, fun _ => ⟨h2, h3⟩⟩
  rcases Nat.lt_trichotomy i c with x | x | x
  ·exact x
  ·subst x; exact absurd hS h3
  ·exact absurd (hi.clo c i hS x hin (cf_W hf h2 (DK.W_PL hW) (fun hA => by rw [DK.isA_W hA.1] at hW; cases hW))) h3
 ·exact ⟨ds.length, Nat.le_refl _, fun i hin hW => ⟨fun _ => hin, fun _ => h i hin hW⟩, fun x => by omega⟩

theorem Tr.stillPL (ht : Tr pg R ds E Hh V) {i : Nat} (hi : i < ds.length) (hp : (D ds i).k.PL = true) : Hh (i + 1) = Hh i := by
 rcases ht.run i hi with ⟨_, _, h⟩ | ⟨_, vs, _, h⟩
 ·exact h
 ·unfold DK.PL at hp
  rw [Bool.or_eq_true] at hp
  rcases hp with hp | hp
  ·exact (valRun_pure h hp).1
  ·have hh := h
   unfold valRun at hh
   split at hh
   ·rename_i m hk; rw [hk] at hp; simp [DK.isLd] at hp
   ·exact ld_still hp hh

theorem Tr.lenS (ht : Tr pg R ds E Hh V) {i : Nat} (hi : i < ds.length) (hp : (D ds i).k.isS = true) : (Hh (i + 1)).length = (Hh i).length := by
 rcases ht.run i hi with ⟨_, _, h⟩ | ⟨_, vs, _, h⟩
 ·rw [h]
 ·unfold valRun at h
  split at h
  ·rename_i m hk; rw [hk] at hp; simp [DK.isS] at hp
  ·obtain ⟨_, _, _, _, _, h1, _⟩ := dk_S h hp
   exact h1

theorem Inv.free (hf : FrS ds fr) (hi : Inv P N ds fr E Hh B π0 w0 av0 ex S π w av tm) (ht : Tr pg R ds E Hh V) (hm : May ds fr S j) (hp : (D ds j).k.PL = false) (hjS : (D ds j).k.isS = false) (h0 : ∀ id, (Hh 0).length <= id -> π0 id = none) {id : Nat} (hid : (Hh j).length <= id)
  (hlt : (D ds j).k.W = true \/ id < (Hh (j + 1)).length) : π id = none := by
 have hbef : ∀ m, m < j -> (D ds m).k.W = true -> (Hh m).length <= (Hh (m + 1)).length := fun m a b => by
  have hj := hm.lt
  by_cases hS : (D ds m).k.isS = true
  ·rw [ht.lenS (by omega) hS]; exact Nat.le_refl _
  ·exact hi.mono m (hm.bef m a (cf_W hf b hp (fun h => hS h.2))) (by omega)
 by_cases hd : π id = π0 id
 ·rw [hd]
  exact h0 id (Nat.le_trans (ht.len (Nat.zero_le j) (Nat.le_of_lt hm.lt) fun m _ b c => hbef m b c) hid)
 ·exfalso
  obtain ⟨i, hS, hin, ha, hb⟩ := hi.dom id hd
  have hiP : (D ds i).k.PL = false := by
   cases hq : (D ds i).k.PL with
   | false => rfl
   | true => rw [ht.stillPL hin hq] at hb; omega
  have hiS : (D ds i).k.isS = false := by
   cases hq : (D ds i).k.isS with
   | false => rfl
   | true => rw [ht.lenS hin hq] at hb; omega
  rcases Nat.lt_trichotomy i j with x | x | x
  ·have := ht.len (i := i + 1) (k := j) x (Nat.le_of_lt hm.lt) fun m _ b c => hbef m b c
   omega
  ·subst x; exact hm.new hS
  ·rcases hlt with hW | hlt
   ·exact hm.aft i x hin (cf_W hf hW hiP (fun h => by rw [hjS] at h; cases h.2)) hS
   ·have hlen : (Hh (j + 1)).length <= (Hh i).length := ht.len (i := j + 1) (k := i) x (by omega) fun m a b c => by
     by_cases hmS : (D ds m).k.isS = true
     ·rw [ht.lenS (by omega) hmS]; exact Nat.le_refl _
     ·by_cases hSm : S m
      ·exact hi.mono m hSm (by omega)
      ·exact absurd (hi.clo m i hS b hin (cf_W hf c hiP (fun h => hmS h.2))) hSm
    omega

structure Fine (P : Program) (B : Nat) (ds : List DOper) (Hh : Nat -> Heap) (S : Nat -> Prop) (j : Nat) (π : PMap) (w : World) (av ex : Nat -> Prop) (π' : PMap) (w' : World) (av' : Nat -> Prop) : Prop where
 ev : Ev (wrK B av (D ds j).k.W) π w av π' w' av'
 base : HRel P B π' [] w' av' ex
 dom : ∀ id, π' id ≠ π id -> (Hh j).length <= id /\ id < (Hh (j + 1)).length
 ext : ∀ g, av g -> av' g
 hl : (Hh j).length <= (Hh (j + 1)).length
 frs : ∀ id g sh, π' id ≠ π id -> π' id = some (g, sh) -> w.heap.size <= g \/ wrK B av (D ds j).k.W g
 heap : ∀ c, c <= ds.length -> Dn.cutW ds (fun i => S i \/ i = j) c -> HRel P B π' (Kx Hh ds.length c) w' av' ex

theorem Inv.step (hf : FrS ds fr) (hi : Inv P N ds fr E Hh B π0 w0 av0 ex S π w av tm) (ht : Tr pg R ds E Hh V) (hm : May ds fr S j) (hdN : ∀ d, (D ds j).d = some d -> d < N) {π' : PMap} {w' : World} {av' : Nat -> Prop} {v : Value} (hv : VRel π' w' av' ex (V j) v)
  (hr : Fine P B ds Hh S j π w av ex π' w' av') :
  Inv P N ds fr E Hh B π0 w0 av0 ex (fun i => S i \/ i = j) π' w' av' (putT tm (D ds j).d v) := by
 have hev := hr.ev
 have hjn := hm.lt
 refine ⟨?_, ?_, hr.heap, hr.base, ?_, ?_, ?_, ?_, fun g x => hr.ext g (hi.ext g x), ?_⟩
 ·cases (D ds j).d <;> simp [putT, hi.sz]
 ·intro s k hk hc t hg
  by_cases hd : (D ds j).d = some s
  ·have hjk : j < k := (hc j hjn hd).1 (.inr rfl)
   have hsame : get (E k) s = get (E (j + 1)) s := ht.slot hjk hk fun m a b hmd => by
    have h1 := (hc m (by omega) hmd).2 b
    rcases h1 with h1 | h1
    ·exact hm.aft m (by omega) (by omega) (cf_d hf hd (names_d hmd)) h1
    ·omega
   rw [hsame, ht.env j hjn, hd] at hg
   simp only [putE, Dn.get, if_true, Option.some.injEq] at hg
   subst hg
   have : (putT tm (D ds j).d v).getD s undef = v := by
    have := hdN s hd
    rw [hd]; simp [putT, Array.getD, hi.sz, this]
   rw [this]; exact hv
  ·have hcS : cutS ds S s k := fun i hin hid => by
    rw [<- hc i hin hid]
    exact ⟨.inl, fun x => x.resolve_right fun e => hd (e ▸ hid)⟩
   have := (hi.slot s k hk hcS t hg).mono hev (wrK_av _)
   have heq : (putT tm (D ds j).d v).getD s undef = tm.getD s undef := by
    cases hdd : (D ds j).d with
    | none => rfl
    | some d =>
     have : d ≠ s := fun e => hd (by rw [hdd, e])
     simp [putT, Array.getD_eq_getD_getElem?, Array.getElem?_setIfInBounds, this]
   rw [heq]; exact this
 ·intro id hn
  by_cases hpp : π' id = π id
  ·obtain ⟨i, h1, h2⟩ := hi.dom id (hpp ▸ hn)
   exact ⟨i, .inl h1, h2⟩
  ·exact ⟨j, .inr rfl, hjn, hr.dom id hpp⟩
 ·intro i hS hin
  rcases hS with hS | rfl
  ·exact hi.mono i hS hin
  ·exact hr.hl
 ·intro i k hS hik hk hc
  rcases hS with hS | rfl
  ·exact .inl (hi.clo i k hS hik hk hc)
  ·exact .inl (hm.bef i hik hc)
 ·exact hi.ev.trans hev fun g hg x => ⟨rfl, hi.ev.sub g hg x.2.1, x.2.2⟩
 ·intro id g sh hn hg
  have hlw := hi.ev.len
  by_cases hpp : π' id = π id
  ·exact hi.frs id g sh (hpp ▸ hn) (hpp ▸ hg)
  ·rcases hr.frs id g sh hpp hg with x | x
   ·exact .inl (by omega)
   ·rcases Nat.lt_or_ge g w0.heap.size with y | y
    ·exact .inr ⟨rfl, hi.ev.sub g y x.2.1, x.2.2⟩
    ·exact .inl y

theorem cutW_of (hW : (D ds j).k.W = false) {c : Nat} (hc : Dn.cutW ds (fun i => S i \/ i = j) c) : Dn.cutW ds S c := fun i hin hid => by
 rw [<- hc i hin hid]
 exact ⟨.inl, fun x => x.resolve_right fun e => by rw [e, hW] at hid; cases hid⟩

theorem Ev.none_of {P : Program} {W : Bool} {π' : PMap} {w' : World} {av' : Nat -> Prop} (h : Ev (wrK B av W) π w av π' w' av') (hW : W = false) : Ev none' π w av π' w' av' :=
 {h with blk := fun g hg _ => h.blk g hg fun x => by rw [hW] at x; cases x.1 }

theorem fine_still (hi : Inv P N ds fr E Hh B π0 w0 av0 ex S π w av tm) (hW : (D ds j).k.W = false) (hs : Hh (j + 1) = Hh j) {K : Heap} {π' : PMap} {w' : World} {av' : Nat -> Prop} {W : Bool} (hWW : W = false)
  (hr : Res P B (wrK B av W) π K w av ex K w' π' av') : Fine P B ds Hh S j π w av ex π' w' av' := by
 subst hWW
 have hsame : ∀ id, π' id = π id := fun id => Classical.byContradiction fun hn => by have := hr.dom id hn; omega
 refine ⟨hr.ev.wider fun g x => (by cases x.1), hr.hr.nil _, fun id hn => absurd (hsame id) hn, hr.ext, by rw [hs]; exact Nat.le_refl _, fun id g sh hn _ => absurd (hsame id) hn, fun c hcn hc => ?_⟩
 exact (hi.heap c hcn (cutW_of hW hc)).mono (Ev.none_of (P := P) hr.ev rfl) (fun id o _ hn => hn (hsame id)) hr.ext hr.hr.avb

theorem fine_A (hi : Inv P N ds fr E Hh B π0 w0 av0 ex S π w av tm) (hW : (D ds j).k.W = false) {K : Heap} {o : AObj} (hK : K.length = (Hh j).length) (hs : Hh (j + 1) = Hh j ++ [o]) {π' : PMap} {w' : World} {av' : Nat -> Prop} {W : Bool} (hWW : W = false)
  (hr : Res P B (wrK B av W) π K w av ex (K ++ [o]) w' π' av') (ho : ∀ c, c <= ds.length -> Dn.cutW ds S c -> (Kx Hh ds.length c)[(Hh j).length]? = some o) : Fine P B ds Hh S j π w av ex π' w' av' := by
 subst hWW
 refine ⟨hr.ev.wider fun g x => (by cases x.1), hr.hr.nil _, fun id hn => ?_, hr.ext, by rw [hs]; simp, fun id g sh hn h => (hr.frs id g sh hn h).imp (fun x => x) fun x => (by cases x.1), fun c hcn hc => ?_⟩
 ·have := hr.dom id hn
  rw [hs]
  simp only [List.length_append, List.length_singleton] at this ⊢
  omega
 ·have hc' := cutW_of hW hc
  refine HRel.join2 hr.hr (hi.heap c hcn hc') (Ev.none_of (P := P) hr.ev rfl) hr.ext (fun id o' hn ho' _ => ?_) fun id g sh hn h => (hr.frs id g sh hn h).resolve_right fun x => by cases x.1
  have hd := hr.dom id hn
  simp only [List.length_append, List.length_singleton] at hd
  have hid : id = (Hh j).length := by omega
  subst hid
  rw [ho c hcn hc'] at ho'
  cases ho'
  rw [List.getElem?_append_right (by omega)]
  simp [hK]

theorem Kx_noW (ht : Tr pg R ds E Hh V) {i : Nat} : ∀ {k : Nat}, i <= k -> k <= ds.length -> (∀ m, i <= m -> m < k -> (D ds m).k.W = false) -> Kx Hh ds.length k = Kx Hh ds.length i := by
 intro k hik
 induction hik with
 | refl => intro _ _; rfl
 | step hk ih =>
  rename_i k
  intro hkn h
  rw [<- ih (by omega) fun m a b => h m a (by omega)]
  obtain ⟨new, hn⟩ := ht.grow (i := k) (by omega) (h k hk (by omega))
  exact Kx_grow hn (by omega)

theorem noW_after (hf : FrS ds fr) (hm : May ds fr S j) (hW : (D ds j).k.W = true) {c : Nat} (hcn : c <= ds.length) (hc : Dn.cutW ds (fun i => S i \/ i = j) c) : j < c /\ ∀ m, j + 1 <= m -> m < c -> (D ds m).k.W = false := by
 have hjc : j < c := (hc j hm.lt hW).1 (.inr rfl)
 refine ⟨hjc, fun m a b => ?_⟩
 cases hq : (D ds m).k.W with
 | false => rfl
 | true =>
  have h1 := (hc m (by omega) hq).2 b
  rcases h1 with h1 | h1
  ·exact absurd h1 (hm.aft m (by omega) (by omega) (cf_W hf hW (DK.W_PL hq) (fun h => by rw [DK.isA_W h.1] at hq; cases hq)))
  ·omega

theorem fine_S (hf : FrS ds fr) (ht : Tr pg R ds E Hh V) (hm : May ds fr S j) (hS : (D ds j).k.isS = true) {π' : PMap} {w' : World} {av' : Nat -> Prop}
  (hr : Res P B (wrK B av (D ds j).k.W) π (Kx Hh ds.length j) w av ex (Kx Hh ds.length (j + 1)) w' π' av') : Fine P B ds Hh S j π w av ex π' w' av' := by
 have hW : (D ds j).k.W = true := by cases hk : (D ds j).k <;> rw [hk] at hS <;> first | rfl | simp [DK.isS] at hS
 have hl := ht.lenS hm.lt hS
 have hll : (Kx Hh ds.length (j + 1)).length = (Kx Hh ds.length j).length := Kx_len (by rw [hl]) hm.lt
 refine ⟨hr.ev, hr.hr.nil _, fun id hn => ?_, hr.ext, by omega, hr.frs, fun c hcn hc => ?_⟩
 ·have := hr.dom id hn; omega
 ·obtain ⟨hjc, h⟩ := noW_after hf hm hW hcn hc
  rw [Kx_noW ht (i := j + 1) hjc hcn h]
  exact hr.hr

theorem fine_W (hf : FrS ds fr) (hi : Inv P N ds fr E Hh B π0 w0 av0 ex S π w av tm) (ht : Tr pg R ds E Hh V) (hm : May ds fr S j) (hW : (D ds j).k.W = true) (hS : (D ds j).k.isS = false) (h0 : ∀ id, (Hh 0).length <= id -> π0 id = none) {π' : PMap} {w' : World} {av' : Nat -> Prop}
  (hr : Res P B (wrK B av (D ds j).k.W) π (Hh j) w av ex (Hh (j + 1)) w' π' av') : Fine P B ds Hh S j π w av ex π' w' av' := by
 refine ⟨hr.ev, hr.hr.nil _, hr.dom, hr.ext, hr.hl, hr.frs, fun c hcn hc => ?_⟩
 obtain ⟨hjc, h⟩ := noW_after hf hm hW hcn hc
 rw [Kx_noW ht (i := j + 1) hjc hcn h]
 refine hr.hr.pad _ fun id hid => ?_
 by_cases hpp : π' id = π id
 ·rw [hpp]
  exact hi.free hf ht hm (DK.W_PL hW) hS h0 (Nat.le_trans hr.hl hid) (.inl hW)
 ·have := (hr.dom id hpp).2; omega
end

end Go.Dn

/-
 Regions, part 3: one operation, a whole row of them, the orders that may come.
-/

namespace Go.Dn

theorem get_keepE_mem {ks : List Nat} {e : Env} {s : Nat} (h : s ∈ ks) : get (keepE ks e) s = get e s := by
 cases hs : get e s with
 | none =>
  cases hk : get (keepE ks e) s with
  | none => rfl
  | some t => rw [get_keepE ks e s t hk] at hs; cases hs
 | some t =>
  induction ks with
  | nil => cases h
  | cons k ks ih =>
   unfold keepE
   simp only [List.filterMap_cons]
   by_cases hk : k = s
   ·subst hk; simp [hs, Dn.get]
   ·have := ih (by simpa [Ne.symm hk] using h)
    cases hg : get e k with
    | none => simpa [keepE] using this
    | some v => simpa [keepE, Dn.get, hk] using this

theorem mapO_congr {α β : Type} {f g : α -> Option β} : ∀ {l : List α}, (∀ x, x ∈ l -> f x = g x) -> mapO f l = mapO g l
 | [], _ => rfl
 | x :: l, h => by simp only [mapO]; rw [h x (by simp), mapO_congr fun y hy => h y (by simp [hy])]

theorem chkK_defer {P : Program} {k : DK} {a : List Opnd} {c : Call} (h : chkK P k a (.defer c) = true) : k = .never := by
 cases k <;> simp [chkK] at h ⊢

theorem chkOpers_get {P : Program} {N : Nat} {os : Array Oper} : ∀ {ags : List DOper} {bs : List Oper}, chkOpers P N os ags bs = true -> ags.length = bs.length /\ ∀ j, j < ags.length -> ∃ o, bs[j]? = some o /\ chkOper P N os (D ags j) o = true
 | [], [], _ => ⟨rfl, fun j hj => by simp at hj⟩
 | a :: ags, b :: bs, h => by
  simp only [chkOpers, Bool.and_eq_true] at h
  obtain ⟨h1, h2⟩ := chkOpers_get h.2
  refine ⟨by simp [h1], fun j hj => ?_⟩
  cases j with
  | zero => exact ⟨b, rfl, h.1⟩
  | succ j => simpa [D] using h2 j (by simpa using hj)
 | [], _ :: _, h => by simp [chkOpers] at h
 | _ :: _, [], h => by simp [chkOpers] at h

section
variable {P : Program} {pg : Pg} {Gz : Nat} {R : Rec} {ds : List DOper} {fr : List (Nat × Nat)} {E : Nat -> Env} {Hh : Nat -> Heap} {V : Nat -> TV} {N B : Nat} {π0 π : PMap} {w0 w : World} {av0 av ex : Nat -> Prop} {S : Nat -> Prop} {tm : Array Value} {j : Nat}

theorem Inv.st0 (hi : Inv P N ds fr E Hh B π0 w0 av0 ex S π w av tm) (hs : St P pg Gz B π0 (Hh 0) w0 av0 ex) {H : Heap} (h : HRel P B π H w av ex) : St0 P pg Gz B π H w av ex where
 hr := h
 gl := hs.gl.mono hi.ev (wrK_gz hs true)
 avg g hg := by
  rcases Nat.lt_or_ge g w0.heap.size with x | x
  ·exact hs.avg g (hi.ev.sub g x hg)
  ·have := hs.hr.bsz; have := hs.gB; omega
 exg := hs.exg
 gB := hs.gB

theorem wanted_of {os : Array Oper} {o : Oper} {d : DOper} {e : Env} {x : Bool} (hg : chkG os d.g o.guard = true) (hr : guardRun e d.g = some x) (hs : ∀ s t, s ∈ d.names -> get e s = some t -> VRel π w av ex t (tm.getD s undef)) :
  Region.wanted o (yielded os tm) = x := by
 cases hd : d.g with
 | none =>
  rw [hd] at hg hr
  cases ho : o.guard with
  | none => simp [guardRun] at hr; subst hr; simp [Region.wanted, ho]
  | some p => rw [ho] at hg; simp [chkG] at hg
 | some p =>
  obtain ⟨s, want⟩ := p
  rw [hd] at hg hr
  cases ho : o.guard with
  | none => rw [ho] at hg; simp [chkG] at hg
  | some q =>
   obtain ⟨i, want'⟩ := q
   rw [ho] at hg
   simp only [chkG, Bool.and_eq_true, beq_iff_eq] at hg
   obtain ⟨rfl, hdst⟩ := hg
   simp only [guardRun] at hr
   split at hr
   ·rename_i x' hx
    injection hr with hr
    have hv := (hs s (.b x') (by simp [DOper.names, hd]) hx).b_inv
    have hy : yielded os tm i = some x' := by
     have hlt : s < tm.size := by
      rcases Nat.lt_or_ge s tm.size with h | h
      ·exact h
      ·rw [Array.getD_eq_getD_getElem?, Array.getElem?_eq_none h] at hv; cases hv
     have : tm[s]? = some (.bool x') := by
      rw [Array.getD_eq_getD_getElem?, Array.getElem?_eq_getElem hlt] at hv
      rw [Array.getElem?_eq_getElem hlt]
      simpa using hv
     simp [yielded, hdst, this]
    simp only [Region.wanted, ho, hy]
    rw [<- hr]
    cases x' <;> cases want <;> rfl
   ·rename_i hx
    injection hr with hr
    have hv : tm.getD s undef = undef := by
     have := hs s .undef (by simp [DOper.names, hd]) hx
     generalize tm.getD s undef = u at this
     cases this
     rfl
    have hy : yielded os tm i = none := by
     simp only [yielded, hdst, Option.bind_some]
     cases hts : tm[s]? with
     | none => rfl
     | some u =>
      rw [Array.getD_eq_getD_getElem?, hts] at hv
      obtain rfl : u = undef := by simpa using hv
      rfl
    simp only [Region.wanted, ho, hy]
    rw [<- hr]
    cases want <;> rfl
   ·cases hr

structure FrD (pg : Pg) (ds : List DOper) (fr : List (Nat × Nat)) (E : Nat -> Env) (Hh : Nat -> Heap) (V : Nat -> TV) : Prop where
 ld : ∀ w l, (w, l) ∈ fr -> (D ds l).k.isLd = true -> guardRun (E l) (D ds l).g = some true -> ∀ vs, mapO (evalO pg (E l)) (D ds l).a = some vs ->
  (∃ K, dk (D ds l).k vs (Hh w) = some (V l, K)) /\ ∃ K, dk (D ds l).k vs (Hh (w + 1)) = some (V l, K)
 al : ∀ w l, (w, l) ∈ fr -> (D ds l).k.isA = true -> guardRun (E l) (D ds l).g = some true -> (Hh (w + 1))[(Hh l).length]? = (Hh w)[(Hh l).length]?

theorem fine_skip (hf : FrS ds fr) (hi : Inv P N ds fr E Hh B π0 w0 av0 ex S π w av tm) (ht : Tr pg R ds E Hh V) (hm : May ds fr S j) (hs : Hh (j + 1) = Hh j) : Fine P B ds Hh S j π w av ex π w av := by
 refine ⟨Ev.refl _ _ _ _, hi.base, fun id x => absurd rfl x, fun _ x => x, by rw [hs]; exact Nat.le_refl _, fun _ _ _ x => absurd rfl x, fun c hcn hc => ?_⟩
 cases hW : (D ds j).k.W with
 | false => exact hi.heap c hcn (cutW_of hW hc)
 | true =>
  obtain ⟨hjc, h⟩ := noW_after hf hm hW hcn hc
  have hjn := hm.lt
  rw [Kx_noW ht (i := j + 1) hjc hcn h, Kx_grow (new := []) (by rw [hs, List.append_nil]) hjn]
  exact hi.heap j (by omega) (hm.cutW hf (DK.W_PL hW) (by cases hA : (D ds j).k.isA with | false => rfl | true => rw [DK.isA_W hA] at hW; cases hW))

theorem DK.isLd_P {k : DK} (h : k.isLd = true) : k.P = false := by cases k <;> first | rfl | simp [DK.isLd] at h

theorem ld_now (hf : FrS ds fr) (hi : Inv P N ds fr E Hh B π0 w0 av0 ex S π w av tm) (ht : Tr pg R ds E Hh V) (hm : May ds fr S j) (hD : FrD pg ds fr E Hh V) (hld : (D ds j).k.isLd = true) (hg : guardRun (E j) (D ds j).g = some true) {vs : List TV} (hvs : mapO (evalO pg (E j)) (D ds j).a = some vs) {K : Heap}
  (hrun : dk (D ds j).k vs (Hh j) = some (V j, K)) : ∃ c, c <= ds.length /\ cutW ds S c /\ dk (D ds j).k vs (Kx Hh ds.length c) = some (V j, Kx Hh ds.length c) := by
 have hjW := DK.isLd_W hld
 have hjn := hm.lt
 obtain ⟨c, hcn, hcut, hc⟩ := hi.cut hf
 refine ⟨c, hcn, hcut, ?_⟩
 have fin : ∀ {K0 : Heap} (i : Nat), i <= c -> dk (D ds j).k vs (Hh i) = some (V j, K0) -> (∀ m, i <= m -> m < c -> (D ds m).k.W = false) -> dk (D ds j).k vs (Kx Hh ds.length c) = some (V j, Kx Hh ds.length c) := by
  intro K0 i hic h hno
  obtain ⟨new, hnew⟩ := ht.grows hic hcn hno
  have := ld_still hld h
  subst this
  unfold Kx
  rw [hnew, List.append_assoc]
  exact ld_append hld h
 rcases Nat.lt_or_ge c j with x | x
 ·obtain ⟨hcW, hcS⟩ := hc (by omega)
  have hcf : cf ds fr c j = false := by
   cases h : cf ds fr c j with
   | false => rfl
   | true => exact absurd (hm.bef c x h) hcS
  have hP : (D ds j).k.P = false := DK.isLd_P hld
  rcases cf_not (confl_W hcW hP) hcf with hmem | hmem
  ·obtain ⟨⟨K1, h1⟩, _⟩ := hD.ld c j hmem hld hg vs hvs
   exact fin c (Nat.le_refl _) h1 fun m a b => by omega
  ·have := (hf.one hmem).W
   rw [hjW] at this; cases this
 ·-- the last write ahead of c
  by_cases hex : ∃ i, j <= i /\ i < c /\ (D ds i).k.W = true
  ·have key : ∀ d, (∃ i, c - d <= i /\ j <= i /\ i < c /\ (D ds i).k.W = true) -> ∃ i, j <= i /\ i < c /\ (D ds i).k.W = true /\ ∀ m, i < m -> m < c -> (D ds m).k.W = false := by
    intro d
    induction d with
    | zero => rintro ⟨i, h1, _, h2, _⟩; omega
    | succ d ih =>
     rintro ⟨i, h1, h2, h3, h4⟩
     by_cases hx : ∃ i, c - d <= i /\ j <= i /\ i < c /\ (D ds i).k.W = true
     ·exact ih hx
     ·refine ⟨i, h2, h3, h4, fun m a b => ?_⟩
      cases hq : (D ds m).k.W with
      | false => rfl
      | true => exact absurd ⟨m, by omega, by omega, b, hq⟩ hx
   obtain ⟨i, h0⟩ := hex
   obtain ⟨i, h1, h2, h3, h4⟩ := key c ⟨i, by omega, h0⟩
   have hij : j < i := by
    rcases Nat.lt_or_ge j i with y | y
    ·exact y
    ·have : i = j := by omega
     rw [this, hjW] at h3; cases h3
   have hSi : S i := (hcut i (by omega) h3).2 h2
   have hcf : cf ds fr j i = false := by
    cases h : cf ds fr j i with
    | false => rfl
    | true => exact absurd hSi (hm.aft i hij (by omega) h)
   have hP : (D ds j).k.P = false := DK.isLd_P hld
   rcases cf_not (confl_W' hP h3) hcf with hmem | hmem
   ·have := (hf.one hmem).W
    rw [hjW] at this; cases this
   ·obtain ⟨_, K1, h1'⟩ := hD.ld i j hmem hld hg vs hvs
    exact fin (i + 1) (by omega) h1' fun m a b => h4 m (by omega) b
  ·exact fin j x hrun fun m a b => by
    cases hq : (D ds m).k.W with
    | false => rfl
    | true => exact absurd ⟨m, a, b, hq⟩ hex

theorem al_now (hf : FrS ds fr) (hi : Inv P N ds fr E Hh B π0 w0 av0 ex S π w av tm) (ht : Tr pg R ds E Hh V) (hm : May ds fr S j) (hD : FrD pg ds fr E Hh V) (hA : (D ds j).k.isA = true) (hg : guardRun (E j) (D ds j).g = some true) {o : AObj}
  (hs : Hh (j + 1) = Hh j ++ [o]) {c : Nat} (hcn : c <= ds.length) (hcut : cutW ds S c) : (Kx Hh ds.length c)[(Hh j).length]? = some o := by
 have hjn := hm.lt
 have hjW := DK.isA_W hA
 have hPL := DK.isA_PL hA
 have hKj : (Kx Hh ds.length j)[(Hh j).length]? = some o := by
  rw [Kx_succ hjn, hs, List.drop_left' rfl, List.getElem?_append_right (Nat.le_refl _)]
  simp
 have hexm : ∀ m, c <= m -> m < j -> (D ds m).k.W = true -> (D ds m).k.isS = true := by
  intro m a b hW
  have hnS : ¬ S m := fun h => by have := (hcut m (by omega) hW).1 h; omega
  have hcf : cf ds fr m j = false := by
   cases h : cf ds fr m j with
   | false => rfl
   | true => exact absurd (hm.bef m b h) hnS
  rcases cf_not (confl_W hW (DK.PL_P hPL).1) hcf with hmem | hmem
  ·rcases (hf.one hmem).k with h | h
   ·rw [(DK.PL_P hPL).2] at h; cases h
   ·exact h.2
  ·have := (hf.one hmem).W
   rw [hjW] at this; cases this
 rcases Nat.lt_or_ge c j with x | x
 ·have key : ∀ m, c <= m -> m <= j -> (Kx Hh ds.length m)[(Hh j).length]? = (Kx Hh ds.length c)[(Hh j).length]? := by
   intro m hcm
   induction hcm with
   | refl => intro _; rfl
   | step hk ih =>
    rename_i m
    intro hmj
    rw [<- ih (by omega)]
    cases hW : (D ds m).k.W with
    | false =>
     obtain ⟨new, hn⟩ := ht.grow (i := m) (by omega) hW
     rw [Nat.succ_eq_add_one, Kx_grow hn (by omega)]
    | true =>
     have hk' : c <= m := hk
     have hS := hexm m hk (by omega) hW
     have hl := ht.lenS (i := m) (by omega) hS
     obtain ⟨F, e1, e2⟩ := Kx_S (n := ds.length) hl (by omega)
     have hle : (Hh m).length <= (Hh j).length := ht.len (i := m) (k := j) (by omega) (by omega) fun q a b hq => by
      rw [ht.lenS (by omega) (hexm q (by omega) b hq)]; exact Nat.le_refl _
     rw [Nat.succ_eq_add_one, e1, e2, List.getElem?_append_right (by omega), List.getElem?_append_right hle, hl]
  rw [<- key j (by omega) (Nat.le_refl _)]
  exact hKj
 ·rcases Nat.eq_or_lt_of_le x with rfl | x
  ·exact hKj
  ·have key : ∀ m, j + 1 <= m -> m <= c -> (Hh m)[(Hh j).length]? = some o := by
    intro m hjm
    induction hjm with
    | refl => intro _; rw [hs, List.getElem?_append_right (Nat.le_refl _)]; simp
    | step hk ih =>
     rename_i m
     intro hmc
     have ih := ih (by omega)
     cases hW : (D ds m).k.W with
     | false =>
      obtain ⟨new, hn⟩ := ht.grow (i := m) (by omega) hW
      rw [Nat.succ_eq_add_one, hn, List.getElem?_append_left (List.getElem?_eq_some_iff.1 ih).1]
      exact ih
     | true =>
      have hSm : S m := (hcut m (by omega) hW).2 (by omega)
      have hjm : j < m := by have : j + 1 <= m := hk; omega
      have hcf : cf ds fr j m = false := by
       cases h : cf ds fr j m with
       | false => rfl
       | true => exact absurd hSm (hm.aft m hjm (by omega) h)
      rcases cf_not (confl_W' (DK.PL_P hPL).1 hW) hcf with hmem | hmem
      ·have := (hf.one hmem).W
       rw [hjW] at this; cases this
      ·rw [Nat.succ_eq_add_one, hD.al m j hmem hA hg]
       exact ih
   have h1 := key c x (Nat.le_refl _)
   unfold Kx
   rw [List.getElem?_append_left (List.getElem?_eq_some_iff.1 h1).1]
   exact h1

theorem DK.isS_W {k : DK} (h : k.isS = true) : k.W = true := by cases k <;> first | rfl | simp [DK.isS] at h

theorem exec_one (hf : FrS ds fr) (hD : FrD pg ds fr E Hh V) (hi : Inv P N ds fr E Hh B π0 w0 av0 ex S π w av tm) (hs : St P pg Gz B π0 (Hh 0) w0 av0 ex) (ht : Tr pg R ds E Hh V) (hm : May ds fr S j) (hR : CodeOk P pg Gz R) (hF : FnsOk P pg) (hSm : SumOk P pg Gz) {os : Array Oper} {o : Oper} (ho : os[j]? = some o) (hc : chkOper P N os (D ds j) o = true)
  (b : Frame) (rest : List Nat) (k : List Item) (dd : List Deferred) (cs : List Frame) :
  ∃ v w' π' av', Steps P (lone (Dn.fr b tm (.inRegion os (j :: rest) :: k) dd) cs w) (lone (Dn.fr b (putT tm (D ds j).d v) (.inRegion os rest :: k) dd) cs w') /\ VRel π' w' av' ex (V j) v /\ Fine P B ds Hh S j π w av ex π' w' av' := by
 simp only [chkOper, Bool.and_eq_true, beq_iff_eq] at hc
 obtain ⟨⟨⟨hdst, hdN⟩, hg⟩, hk⟩ := hc
 have hjn := hm.lt
 have hslot : ∀ s t, s ∈ (D ds j).names -> get (E j) s = some t -> VRel π w av ex t (tm.getD s undef) := fun s t hsn hst => hi.slot s j (Nat.le_of_lt hm.lt) (hm.slots hf hsn) t hst
 have hheap : (D ds j).k.PL = false -> (D ds j).k.isA = false -> HRel P B π (Kx Hh ds.length j) w av ex := fun hp hA => hi.heap j (Nat.le_of_lt hm.lt) (hm.cutW hf hp hA)
 have hheapj : (D ds j).k.PL = false -> (D ds j).k.isA = false -> HRel P B π (Hh j) w av ex := fun hp hA => (hheap hp hA).sub fun id o ho _ => by
  unfold Kx; rw [List.getElem?_append_left (List.getElem?_eq_some_iff.1 ho).1]; exact ho
 rcases ht.run j hm.lt with ⟨hgr, hV, hH⟩ | ⟨hgr, vs, hvs, hrun⟩
 ·refine ⟨undef, w, π, av, .one ?_, by rw [hV]; exact .undef, fine_skip hf hi ht hm hH⟩
  have := st_op_skip (P := P) (b := b) (tm := tm) (k := k) (ds := dd) (cs := cs) (w := w) (ops := os) (i := j) (rest := rest) (by rw [ho]; exact wanted_of hg hgr hslot)
  rw [ho] at this
  rw [hdst]
  exact this
 ·have hwant : Region.wanted o (yielded os tm) = true := wanted_of hg hgr hslot
  -- the operands
  have hops : ∀ {H : Heap}, HRel P B π H w av ex -> ∀ xs, chkOs (D ds j).a xs = true -> VsRel π w av ex vs (xs.map (ev tm)) := by
   intro H hH xs hx
   have he : ERel π w av ex (keepE (D ds j).names (E j)) tm := fun s t hst => by
    have h1 := get_keepE _ _ _ _ hst
    have h2 : s ∈ (D ds j).names := by
     by_cases h : s ∈ (D ds j).names
     ·exact h
     ·exfalso
      have : ∀ ks : List Nat, s ∉ ks -> get (keepE ks (E j)) s = none := by
       intro ks
       induction ks with
       | nil => intro _; rfl
       | cons a ks ih =>
        intro hn
        unfold keepE
        simp only [List.filterMap_cons]
        have h1 := ih (fun x => hn (by simp [x]))
        have h2 : a ≠ s := fun x => hn (by simp [x])
        cases get (E j) a with
        | none => simpa [keepE] using h1
        | some v => simpa [keepE, Dn.get, h2] using h1
      rw [this _ h] at hst; cases hst
    exact hslot s t h2 h1
   refine evalOs_sound (hi.st0 hs hH) he hx ?_
   rw [<- hvs]
   refine mapO_congr fun y hy => ?_
   cases y with
   | t s =>
    simp only [evalO]
    exact get_keepE_mem (by
     simp only [DOper.names, List.mem_append, List.mem_filterMap]
     exact .inl (.inr ⟨.t s, hy, rfl⟩))
   | c v => rfl
   | g n => rfl
  have hnd : ∀ c, o.op ≠ .defer c := by
   intro c hcd
   rw [hcd] at hk
   have hkn := chkK_defer hk
   rw [hkn] at hrun
   simp only [valRun, dk] at hrun
   cases hrun
  unfold valRun at hrun
  split at hrun
  ·-- a call
   rename_i m hkm
   rw [hkm] at hk
   have hp : (D ds j).k.PL = false := by rw [hkm]; rfl
   have hA : (D ds j).k.isA = false := by rw [hkm]; rfl
   have hSS : (D ds j).k.isS = false := by rw [hkm]; rfl
   obtain ⟨f, args, at', hop, hx⟩ : ∃ f args ats, o.op = .call { callee := .value f, args := args, argTypes := ats } /\ chkOs (D ds j).a (f :: args.toList) = true := by
    cases hop : o.op <;> rw [hop] at hk <;> (try (simp [chkK] at hk; done))
    rename_i c
    obtain ⟨cl, args, ats⟩ := c
    cases cl <;> simp [chkK] at hk
    exact ⟨_, _, _, rfl, hk⟩
   have hH := hheapj hp hA
   have hargs := hops hH _ hx
   have hex : execOp (ev tm) o = invokeS (ev tm f) (args.map (ev tm)) := by
    simp only [execOp, hop, resolve, invokeS]
   rcases vs with _ | ⟨v0, vs⟩
   ·cases hargs
   cases hargs with | cons _ _ _ _ hv0 hvs' =>
   have hvs2 : VsRel π w av ex vs (args.map (ev tm)).toList := by simpa using hvs'
   have fin : ∀ {W : Bool} {nx : Next} {frm : Frame} {H' : Heap}, (invokeS (ev tm f) (args.map (ev tm))).run P w = .ok nx w -> callee P nx = some frm -> CallRes P B W π (Hh j) w av ex (V j) H' frm ->
     ∃ v w' π' av', Steps P (lone (Dn.fr b tm (.inRegion os (j :: rest) :: k) dd) cs w) (lone (Dn.fr b (putT tm (D ds j).d v) (.inRegion os rest :: k) dd) cs w') /\ VRel π' w' av' ex (V j) v /\ Res P B (wrK B av W) π (Hh j) w av ex H' w' π' av' := by
    intro W nx frm H' h1 h2 h3
    obtain ⟨v, w', π', av', hst, hv, hres⟩ := h3 (Dn.fr b tm (.inRegion os (j :: rest) :: k) dd) cs
    refine ⟨v, w', π', av', .head (st_call ho hwant hnd (by rw [hex]; exact h1) h2) ?_, hv, hres⟩
    have := fr_finish (b := b) (tm := tm) (k := k) (ds := dd) os j rest v
    rw [ho] at this
    rw [this] at hst
    rw [show (D ds j).d = o.dst from hdst]
    exact hst
   cases m with
   | sh =>
    have hst : St P pg Gz B π (Hh j) w av ex := { hi.st0 hs hH with dom := fun id hid => hi.free hf ht hm hp hSS hs.dom hid (.inl (by rw [hkm]; rfl)) }
    obtain ⟨nx, frm, h1, h2, h3⟩ := call_sh hR hF hrun hst hv0 hvs2
    obtain ⟨v, w', π', av', k1, k2, k3⟩ := fin h1 h2 h3
    exact ⟨v, w', π', av', k1, k2, fine_W hf hi ht hm (by rw [hkm]; rfl) hSS hs.dom (by rw [hkm]; exact k3)⟩
   | gr =>
    have hst : St P pg Gz B π (Hh j) w av ex := { hi.st0 hs hH with dom := fun id hid => hi.free hf ht hm hp hSS hs.dom hid (.inl (by rw [hkm]; rfl)) }
    obtain ⟨nx, frm, h1, h2, h3⟩ := call_gr hR hF hrun hst hv0 hvs2
    obtain ⟨v, w', π', av', k1, k2, k3⟩ := fin h1 h2 h3
    exact ⟨v, w', π', av', k1, k2, fine_W hf hi ht hm (by rw [hkm]; rfl) hSS hs.dom (by rw [hkm]; exact k3)⟩
   | so =>
    have hst : St P pg Gz B π (Hh j) w av ex := { hi.st0 hs hH with dom := fun id hid => hi.free hf ht hm hp hSS hs.dom hid (.inl (by rw [hkm]; rfl)) }
    obtain ⟨nx, frm, h1, h2, h3⟩ := call_so hR hF hSm hrun hst hv0 hvs2
    obtain ⟨v, w', π', av', k1, k2, k3⟩ := fin h1 h2 h3
    exact ⟨v, w', π', av', k1, k2, fine_W hf hi ht hm (by rw [hkm]; rfl) hSS hs.dom (by rw [hkm]; exact k3)⟩
   | pu ks =>
    obtain ⟨hHe, nx, frm, h1, h2, h3⟩ := call_pu hR hF hSm hrun (hi.st0 hs hH) hv0 hvs2
    obtain ⟨v, w', π', av', k1, k2, k3⟩ := fin h1 h2 h3
    exact ⟨v, w', π', av', k1, k2, fine_still hi (by rw [hkm]; rfl) hHe rfl k3⟩
  ·have fin : ∀ {W : Bool} {H H' : Heap}, OpOk P B W π H w av ex ((execOp (ev tm) o).run P w) (V j) H' ->
     ∃ v w' π' av', Steps P (lone (Dn.fr b tm (.inRegion os (j :: rest) :: k) dd) cs w) (lone (Dn.fr b (putT tm (D ds j).d v) (.inRegion os rest :: k) dd) cs w') /\ VRel π' w' av' ex (V j) v /\ Res P B (wrK B av W) π H w av ex H' w' π' av' := by
    intro W H H' h
    obtain ⟨nx, w', π', av', h1, h2, h3⟩ := h
    rw [show (D ds j).d = o.dst from hdst]
    rcases h2 with ⟨v, rfl, hv⟩ | ⟨rfl, hv⟩
    ·exact ⟨v, w', π', av', .one (st_value ho hwant hnd h1), hv, h3⟩
    ·exact ⟨undef, w', π', av', .one (st_skipv ho hwant hnd h1), by rw [hv]; exact .undef, h3⟩
   cases hW : (D ds j).k.W with
   | false =>
    cases hp : (D ds j).k.P with
    | true =>
     obtain ⟨_, hd⟩ := dk_pure hrun hp
     obtain ⟨v, w', π', av', k1, k2, k3⟩ := fin (dk_sound (P := P) (B := B) (π := π) (w := w) (av := av) (ex := ex) (o := o) hi.base (fun x => by simp at x) hd hk (hops hi.base))
     exact ⟨v, w', π', av', k1, k2, fine_still hi hW (dk_pure hrun hp).1 hW k3⟩
    | false =>
     cases hld : (D ds j).k.isLd with
     | true =>
      obtain ⟨c, hcn, hcut, hnow⟩ := ld_now hf hi ht hm hD hld hgr hvs hrun
      have hH := hi.heap c hcn hcut
      obtain ⟨v, w', π', av', k1, k2, k3⟩ := fin (dk_sound hH (fun x => absurd x (Nat.lt_irrefl _)) hnow hk (hops hH))
      have hst : Hh (j + 1) = Hh j := ht.stillPL hjn (by unfold DK.PL; rw [hld, Bool.or_true])
      exact ⟨v, w', π', av', k1, k2, fine_still hi hW hst hW k3⟩
     | false =>
      have hPL : (D ds j).k.PL = false := by unfold DK.PL; rw [hp, hld]; rfl
      cases hA : (D ds j).k.isA with
      | true =>
       obtain ⟨ob, hob, _, hK⟩ := dk_A hrun hA
       obtain ⟨c, hcn, hcut, hc⟩ := hi.cut hf
       have hnow := al_now hf hi ht hm hD hA hgr hob hcn hcut
       have hlt := (List.getElem?_eq_some_iff.1 hnow).1
       obtain ⟨K, hKd⟩ : ∃ K, K = (Kx Hh ds.length c).take (Hh j).length := ⟨_, rfl⟩
       have hKl : K.length = (Hh j).length := by rw [hKd, List.length_take]; omega
       have hH : HRel P B π K w av ex := (hi.heap c hcn hcut).sub fun id o ho _ => by
        rw [hKd, List.getElem?_take] at ho
        split at ho
        ·exact ho
        ·cases ho
       have hSS : (D ds j).k.isS = false := by
        cases hq : (D ds j).k.isS with
        | false => rfl
        | true => rw [DK.isS_W hq] at hW; cases hW
       obtain ⟨v, w', π', av', k1, k2, k3⟩ := fin (dk_sound hH (fun _ => by rw [hKl]; exact hi.free hf ht hm hPL hSS hs.dom (Nat.le_refl _) (.inr (by rw [hob]; simp))) (hK K hKl) hk (hops hH))
       exact ⟨v, w', π', av', k1, k2, fine_A hi hW hKl hob hW k3 fun c hcn hc => al_now hf hi ht hm hD hA hgr hob hcn hc⟩
      | false =>
       have hst := dk_still hrun hW hA
       have hH := hheapj hPL hA
       rw [hst] at hrun
       obtain ⟨v, w', π', av', k1, k2, k3⟩ := fin (dk_sound hH (fun x => absurd x (Nat.lt_irrefl _)) hrun hk (hops hH))
       exact ⟨v, w', π', av', k1, k2, fine_still hi hW hst hW k3⟩
   | true =>
    have hPL := DK.W_PL hW
    have hA : (D ds j).k.isA = false := by
     cases hA : (D ds j).k.isA with
     | false => rfl
     | true => rw [DK.isA_W hA] at hW; cases hW
    cases hSS : (D ds j).k.isS with
    | true =>
     have hl := ht.lenS hjn hSS
     obtain ⟨F, e1, e2⟩ := Kx_S (n := ds.length) hl hjn
     have hH := hheap hPL hA
     have hrun' := dk_S_append hrun hSS F
     rw [<- e1, <- e2] at hrun'
     obtain ⟨v, w', π', av', k1, k2, k3⟩ := fin (dk_sound hH (fun x => by rw [e1, e2] at x; simp [hl] at x) hrun' hk (hops hH))
     exact ⟨v, w', π', av', k1, k2, fine_S hf ht hm hSS k3⟩
    | false =>
     have hH := hheapj hPL hA
     obtain ⟨v, w', π', av', k1, k2, k3⟩ := fin (dk_sound hH (fun x => hi.free hf ht hm hPL hSS hs.dom (Nat.le_refl _) (.inr x)) hrun hk (hops hH))
     exact ⟨v, w', π', av', k1, k2, fine_W hf hi ht hm hW hSS hs.dom k3⟩
end

/-! ### orders -/
def Sched (ds : List DOper) (fr : List (Nat × Nat)) : (Nat -> Prop) -> List Nat -> Prop
 | S, [] => ∀ i, i < ds.length -> S i
 | S, j :: rest => May ds fr S j /\ Sched ds fr (fun i => S i \/ i = j) rest

section
variable {P : Program} {pg : Pg} {Gz : Nat} {R : Rec} {ds : List DOper} {fr : List (Nat × Nat)} {E : Nat -> Env} {Hh : Nat -> Heap} {V : Nat -> TV} {N B : Nat} {π0 : PMap} {w0 : World} {av0 ex : Nat -> Prop}

theorem run_order (hf : FrS ds fr) (hD : FrD pg ds fr E Hh V) (hs : St P pg Gz B π0 (Hh 0) w0 av0 ex) (ht : Tr pg R ds E Hh V) (hR : CodeOk P pg Gz R) (hF : FnsOk P pg) (hSm : SumOk P pg Gz) {os : Array Oper} (b : Frame) (k : List Item) (dd : List Deferred) (cs : List Frame) :
  ∀ (order : List Nat) (S : Nat -> Prop) (π : PMap) (w : World) (av : Nat -> Prop) (tm : Array Value), (∀ j, j < ds.length -> ¬ S j -> ∃ o, os[j]? = some o /\ chkOper P N os (D ds j) o = true) -> Sched ds fr S order -> Inv P N ds fr E Hh B π0 w0 av0 ex S π w av tm ->
   ∃ π' w' av' tm' S', (∀ i, i < ds.length -> S' i) /\ Inv P N ds fr E Hh B π0 w0 av0 ex S' π' w' av' tm' /\ Steps P (lone (Dn.fr b tm (.inRegion os order :: k) dd) cs w) (lone (Dn.fr b tm' (.inRegion os [] :: k) dd) cs w')
 | [], S, π, w, av, tm, hc, hS, hi => ⟨π, w, av, tm, S, hS, hi, Steps.refl _ _⟩
 | j :: rest, S, π, w, av, tm, hc, hS, hi => by
  obtain ⟨hm, hS⟩ := hS
  obtain ⟨o, ho', hco⟩ := hc j hm.lt hm.new
  obtain ⟨v, w', π', av', h1, h2, h3⟩ := exec_one hf hD hi hs ht hm hR hF hSm ho' hco b rest k dd cs
  have hdN : ∀ d, (D ds j).d = some d -> d < N := by
   intro d hd
   simp only [chkOper, Bool.and_eq_true, beq_iff_eq] at hco
   have := hco.1.1.2
   rw [hd] at this
   simpa using this
  obtain ⟨π2, w2, av2, tm2, S2, k1, k2, k3⟩ := run_order hf hD hs ht hR hF hSm b k dd cs rest _ π' w' av' _ (fun i hi hn => hc i hi fun x => hn (.inl x)) hS (hi.step hf ht hm hdN h2 h3)
  exact ⟨π2, w2, av2, tm2, S2, k1, k2, h1.trans k3⟩

theorem region_trace (hf : FrS ds fr) (hD : FrD pg ds fr E Hh V) (ht : Tr pg R ds E Hh V) {w : World} {π : PMap} {av : Nat -> Prop} {tm : Array Value} (hs : St P pg Gz B π (Hh 0) w av ex) (he : ERel π w av ex (E 0) tm) (hsz : tm.size = N) (hR : CodeOk P pg Gz R) (hF : FnsOk P pg) (hSm : SumOk P pg Gz)
  {os : Array Oper} (hc : chkOpers P N os ds os.toList = true) {order : List Nat} (ho : Sched ds fr (fun _ => False) order) (b : Frame) (k : List Item) (dd : List Deferred) (cs : List Frame) :
  ∃ tm' w' π' av', Steps P (lone (Dn.fr b tm (.inRegion os order :: k) dd) cs w) (lone (Dn.fr b tm' k dd) cs w') /\ tm'.size = N /\ ERel π' w' av' ex (E ds.length) tm' /\ Res P B (wrK B av true) π (Hh 0) w av ex (Hh ds.length) w' π' av' := by
 have hi : Inv P N ds fr E Hh B π w av ex (fun _ => False) π w av tm := by
  refine ⟨hsz, ?_, ?_, hs.hr.nil _, fun id hn => absurd rfl hn, fun i x => x.elim, fun i j x => x.elim, Ev.refl _ _ _ _, fun _ x => x, fun _ _ _ x => absurd rfl x⟩
  ·intro s k hk hcut t hg
   have := ht.slot (i := 0) (s := s) (Nat.zero_le k) hk fun m _ hmk hd => ((hcut m (by omega) hd).2 hmk).elim
   rw [this] at hg
   exact he s t hg
  ·intro c hcn hcut
   rw [Kx_noW ht (Nat.zero_le c) hcn fun m _ hmc => by
    cases hq : (D ds m).k.W with
    | false => rfl
    | true => exact ((hcut m (by omega) hq).2 hmc).elim]
   exact hs.hr.pad _ hs.dom
 obtain ⟨π', w', av', tm', S', h1, h2, h3⟩ := run_order hf hD hs ht hR hF hSm b k dd cs order _ π w av tm (fun j hj _ => by obtain ⟨o, h1, h2⟩ := (chkOpers_get hc).2 j hj; exact ⟨o, by simpa using h1, h2⟩) ho hi
 have hend : HRel P B π' (Hh ds.length) w' av' ex := (h2.heap _ (Nat.le_refl _) (fun i hin _ => ⟨fun _ => hin, fun _ => h1 i hin⟩)).sub fun id o ho _ => by
  unfold Kx; rw [List.getElem?_append_left (List.getElem?_eq_some_iff.1 ho).1]; exact ho
 refine ⟨tm', w', π', av', h3.trans (.one st_region_end), h2.sz, fun s t hg => h2.slot s _ (Nat.le_refl _) (fun i hin _ => ⟨fun _ => hin, fun _ => h1 i hin⟩) t hg, h2.ev,
  hend, fun id hn => ?_, h2.ext, ht.len (Nat.zero_le _) (Nat.le_refl _) fun m _ hm _ => h2.mono m (h1 m hm) hm, h2.frs⟩
 obtain ⟨i, _, hin, ha, hb⟩ := h2.dom id hn
 have l1 := ht.len (i := 0) (k := i) (Nat.zero_le _) (by omega) fun m _ hm _ => h2.mono m (h1 m (by omega)) (by omega)
 have l2 := ht.len (i := i + 1) (k := ds.length) hin (Nat.le_refl _) fun m _ hm _ => h2.mono m (h1 m hm) hm
 omega

theorem FrS.nil (ds : List DOper) : FrS ds [] := fun p hp => by cases hp
theorem FrD.nil (ds : List DOper) : FrD pg ds [] E Hh V := ⟨fun w l hm => (by cases hm), fun w l hm => (by cases hm)⟩

theorem sched_range (ds : List DOper) : ∀ (m n : Nat), m + n = ds.length -> Sched ds [] (fun i => i < m) (List.range' m n)
 | m, 0, h => fun i hi => by omega
 | m, n + 1, h => by
  refine ⟨⟨by omega, by omega, fun i hi _ => hi, fun i hi _ _ x => by omega⟩, ?_⟩
  have := sched_range ds (m + 1) n (by omega)
  have he : (fun i => i < m \/ i = m) = (fun i => i < m + 1) := by
   funext i; exact propext (by omega)
  rw [he]
  exact this

theorem region_tail {p : Nat} {ds' : List DOper} {e e' : Env} {H H' : Heap} {w : World} {π : PMap} {av : Nat -> Prop} {tm : Array Value} (h : opsRun pg R (⟨some p, .mv, [.t p], none⟩ :: ds') e H = some (e', H')) (hs : St P pg Gz B π H w av ex) (he : ERel π w av ex e tm) (hsz : tm.size = N) (hR : CodeOk P pg Gz R) (hF : FnsOk P pg) (hSm : SumOk P pg Gz)
  {os : Array Oper} {o : Oper} {ors : List Oper} (hos : os.toList = o :: ors) (hc : chkOpers P N os ds' ors = true) (b : Frame) (k : List Item) (dd : List Deferred) (cs : List Frame) :
  ∃ tm' w' π' av', Steps P (lone (Dn.fr b tm (.inRegion os (List.range' 1 ds'.length) :: k) dd) cs w) (lone (Dn.fr b tm' k dd) cs w') /\ tm'.size = N /\ ERel π' w' av' ex e' tm' /\ Res P B (wrK B av true) π H w av ex H' w' π' av' := by
 obtain ⟨E, Hh, V, ht, e0, e1, e2, e3⟩ := opsRun_trace h
 generalize hds : (⟨some p, .mv, [.t p], none⟩ : DOper) :: ds' = ds at ht e2 e3
 have hlen : ds.length = ds'.length + 1 := by rw [<- hds]; rfl
 have hD0 : D ds 0 = ⟨some p, .mv, [.t p], none⟩ := by rw [<- hds]; rfl
 have hH1 : Hh 1 = Hh 0 := ht.still (i := 0) (by omega) (by rw [hD0]; rfl)
 have hE1 : ∀ s, get (E 1) s = get (E 0) s := by
  intro s
  have hv := ht.env 0 (by omega)
  rcases ht.run 0 (by omega) with ⟨hgr, _, _⟩ | ⟨_, vs, hvs, hrun⟩
  ·rw [hD0] at hgr; simp [guardRun] at hgr
  ·rw [hD0] at hvs hrun hv
   simp only [mapO, evalO, Option.bind_eq_some_iff, Option.some.injEq] at hvs
   obtain ⟨v, hg, vs', rfl, rfl⟩ := hvs
   simp only [valRun, dk, Option.some.injEq, Prod.mk.injEq] at hrun
   rw [hv]
   simp only [putE, get]
   split
   ·rename_i hps; subst hps; rw [hg, hrun.1]
   ·rfl
 have hi : Inv P N ds [] E Hh B π w av ex (fun i => i < 1) π w av tm := by
  refine ⟨hsz, ?_, ?_, hs.hr.nil _, fun id hn => absurd rfl hn, fun i x hin => ?_, fun i j x hij _ _ => by omega, Ev.refl _ _ _ _, fun _ x => x, fun _ _ _ x => absurd rfl x⟩
  ·intro s k hk hcut t hg
   refine he s t ?_
   rw [<- e0]
   rcases Nat.eq_zero_or_pos k with rfl | hk0
   ·exact hg
   ·have := ht.slot (i := 1) (s := s) (k := k) (by omega) hk fun m h1 hmk hd => by
     have := (hcut m (by omega) hd).2 hmk; omega
    rw [<- hE1, <- this]; exact hg
  ·intro c hcn hcut
   have hH : HRel P B π (Kx Hh ds.length 0) w av ex := by
    have := hs.hr
    rw [<- e1] at this
    exact this.pad _ (by rw [e1]; exact hs.dom)
   have h0 : Kx Hh ds.length 1 = Kx Hh ds.length 0 := Kx_noW ht (Nat.zero_le 1) (by omega) fun m _ hm => by
    have : m = 0 := by omega
    subst this; rw [hD0]; rfl
   rcases Nat.eq_zero_or_pos c with rfl | hc0
   ·exact hH
   ·rw [Kx_noW ht (i := 1) (k := c) (by omega) hcn fun m h1 hmc => by
     cases hq : (D ds m).k.W with
     | false => rfl
     | true => have := (hcut m (by omega) hq).2 hmc; omega, h0]
    exact hH
  ·have : i = 0 := by omega
   subst this
   rw [hH1]; exact Nat.le_refl _
 have hsd : Sched ds [] (fun i => i < 1) (List.range' 1 ds'.length) := sched_range ds 1 ds'.length (by omega)
 have hcc : ∀ j, j < ds.length -> ¬ (j < 1) -> ∃ o, os[j]? = some o /\ chkOper P N os (D ds j) o = true := by
  intro j hj hn
  obtain ⟨j, rfl⟩ : ∃ i, j = i + 1 := ⟨j - 1, by omega⟩
  obtain ⟨x, h1, h2⟩ := (chkOpers_get hc).2 j (by omega)
  refine ⟨x, ?_, ?_⟩
  ·rw [<- Array.getElem?_toList, hos]; simpa using h1
  ·rw [<- hds]; exact h2
 have hs0 : St P pg Gz B π (Hh 0) w av ex := by rw [e1]; exact hs
 obtain ⟨π', w', av', tm', S', h1, h2, h3⟩ := run_order (FrS.nil ds) (FrD.nil ds) hs0 ht hR hF hSm b k dd cs _ _ π w av tm hcc hsd hi
 have hend : HRel P B π' (Hh ds.length) w' av' ex := (h2.heap _ (Nat.le_refl _) (fun i hin _ => ⟨fun _ => hin, fun _ => h1 i hin⟩)).sub fun id o ho _ => by
  unfold Kx; rw [List.getElem?_append_left (List.getElem?_eq_some_iff.1 ho).1]; exact ho
 rw [<- e2, <- e3, <- e1]
 refine ⟨tm', w', π', av', h3.trans (.one st_region_end), h2.sz, fun s t hg => h2.slot s _ (Nat.le_refl _) (fun i hin _ => ⟨fun _ => hin, fun _ => h1 i hin⟩) t hg, h2.ev,
  hend, fun id hn => ?_, h2.ext, ht.len (Nat.zero_le _) (Nat.le_refl _) fun m _ hm _ => h2.mono m (h1 m hm) hm, h2.frs⟩
 obtain ⟨i, _, hin, ha, hb⟩ := h2.dom id hn
 have l1 := ht.len (i := 0) (k := i) (Nat.zero_le _) (by omega) fun m _ hm _ => h2.mono m (h1 m (by omega)) (by omega)
 have l2 := ht.len (i := i + 1) (k := ds.length) hin (Nat.le_refl _) fun m _ hm _ => h2.mono m (h1 m hm) hm
 omega

theorem region_sound {e e' : Env} {H H' : Heap} {w : World} {π : PMap} {av : Nat -> Prop} {tm : Array Value} (h : opsRun pg R ds e H = some (e', H')) (hs : St P pg Gz B π H w av ex) (he : ERel π w av ex e tm) (hsz : tm.size = N) (hR : CodeOk P pg Gz R) (hF : FnsOk P pg) (hSm : SumOk P pg Gz)
  {os : Array Oper} (hc : chkOpers P N os ds os.toList = true) {order : List Nat} (ho : Sched ds [] (fun _ => False) order) (b : Frame) (k : List Item) (dd : List Deferred) (cs : List Frame) :
  ∃ tm' w' π' av', Steps P (lone (Dn.fr b tm (.inRegion os order :: k) dd) cs w) (lone (Dn.fr b tm' k dd) cs w') /\ tm'.size = N /\ ERel π' w' av' ex e' tm' /\ Res P B (wrK B av true) π H w av ex H' w' π' av' := by
 obtain ⟨E, Hh, V, ht, rfl, rfl, rfl, rfl⟩ := opsRun_trace h
 exact region_trace (FrS.nil ds) (FrD.nil ds) ht hs he hsz hR hF hSm hc ho b k dd cs

theorem opsTr_trace {pg : Pg} {R : Rec} : ∀ {ds : List DOper} {e e' : Env} {H H' : Heap} {hs : List Heap}, opsTr pg R ds e H = some (e', hs, H') ->
  ∃ E Hh V, Tr pg R ds E Hh V /\ E 0 = e /\ Hh 0 = H /\ E ds.length = e' /\ Hh ds.length = H' /\ ∀ i, i <= ds.length -> hs[i]? = some (Hh i)
 | [], e, e', H, H', hs, h => by
  simp [opsTr] at h
  obtain ⟨rfl, rfl, rfl⟩ := h
  exact ⟨fun _ => e, fun _ => H, fun _ => .undef, ⟨fun i hi => by simp at hi, fun i hi => by simp at hi⟩, rfl, rfl, rfl, rfl, fun i hi => by
   have : i = 0 := by simpa using hi
   subst this; rfl⟩
 | o :: ds, e, e', H, H', hs, h => by
  simp only [opsTr, Option.bind_eq_some_iff, Option.map_eq_some_iff] at h
  obtain ⟨⟨e1, H1⟩, h1, ⟨e2, hs2, H2⟩, h2, h3⟩ := h
  simp only [Prod.mk.injEq] at h3
  obtain ⟨rfl, rfl, rfl⟩ := h3
  obtain ⟨v, hv, hrun⟩ := operRun_inv h1
  obtain ⟨E, Hh, V, ht, rfl, rfl, h3, h4, h5⟩ := opsTr_trace h2
  refine ⟨fun | 0 => e | i + 1 => E i, fun | 0 => H | i + 1 => Hh i, fun | 0 => v | i + 1 => V i, ⟨?_, ?_⟩, rfl, rfl, by simpa using h3, by simpa using h4, fun i hi => ?_⟩
  ·intro i hi
   cases i with
   | zero => exact hv
   | succ i => exact ht.env i (by simpa using hi)
  ·intro i hi
   cases i with
   | zero => exact hrun
   | succ i => exact ht.run i (by simpa using hi)
  ·cases i with
   | zero => rfl
   | succ i => simpa using h5 i (by simpa using hi)

theorem allB_eq {α : Type} {f : α -> α -> Bool} (hf : ∀ x y, f x y = true -> x = y) : ∀ {l k : List α}, allB f l k = true -> l = k
 | [], [], _ => rfl
 | x :: xs, y :: ys, h => by
  simp only [allB, Bool.and_eq_true] at h
  rw [hf _ _ h.1, allB_eq hf h.2]
 | [], _ :: _, h => by cases h
 | _ :: _, [], h => by cases h

theorem same_eq : ∀ (n : Nat) (x y : TV), same n x y = true -> x = y
 | 0, _, _, h => by cases h
 | n + 1, x, y, h => by
  have ih := same_eq n
  unfold same at h
  split at h <;> (try rfl) <;> (try (cases h; done)) <;> (try simp only [Bool.and_eq_true, beq_iff_eq, decide_eq_true_eq] at h)
  ·rw [h]
  ·rw [h.1, h.2]
  ·rw [allB_eq ih h]
  ·rw [h.1.1, allB_eq ih h.1.2, allB_eq ih h.2]
  ·rw [h]
  ·rw [h]
  ·rw [h.1, h.2]
  ·obtain ⟨⟨⟨⟨⟨h1, h2⟩, h3⟩, h4⟩, h5⟩, h6⟩ := h
   rw [h1, h2, h3, h4, h5, h6]
  ·rw [h.1, ih _ _ h.2]
  ·rw [h.1.1, h.1.2, allB_eq ih h.2]

theorem frOk_D (hf : FrS ds fr) (ht : Tr pg R ds E Hh V) {hs : List Heap} (hh : ∀ i, i <= ds.length -> hs[i]? = some (Hh i)) (h : frOk pg ds (E ds.length) hs fr = true) : FrD pg ds fr E Hh V := by
 have hget : ∀ {w l}, (w, l) ∈ fr -> ∃ x o, ds[w]? = some x /\ ds[l]? = some o /\ D ds w = x /\ D ds l = o := by
  intro w l hm
  have h1 := (hf.one hm).wl
  have h2 := (hf.one hm).ll
  exact ⟨_, _, List.getElem?_eq_getElem h1, List.getElem?_eq_getElem h2, by simp [D, h1], by simp [D, h2]⟩
 have hall : ∀ {w l}, (w, l) ∈ fr -> (if (D ds l).k.isLd = true then ldSame pg (D ds l) (E ds.length) hs[w]? && ldSame pg (D ds l) (E ds.length) hs[w + 1]? else stElse (D ds w) (D ds l) (E ds.length)) = true := by
  intro w l hm
  obtain ⟨x, o, h1, h2, h3, h4⟩ := hget hm
  have := List.all_eq_true.1 h (w, l) hm
  simp only [h1, h2] at this
  rw [h3, h4]
  exact this
 have hslot : ∀ {w l}, (w, l) ∈ fr -> ∀ s, s ∈ (D ds l).uses -> get (E ds.length) s = get (E l) s := fun {w l} hm s hs => ht.slot (Nat.le_of_lt (hf.one hm).ll) (Nat.le_refl _) fun m a b => (hf.one hm).u1 m a b s hs
 have hguard : ∀ {w l}, (w, l) ∈ fr -> guardRun (E ds.length) (D ds l).g = guardRun (E l) (D ds l).g := by
  intro w l hm
  have h := hslot hm
  cases hg : (D ds l).g with
  | none => rfl
  | some p =>
   obtain ⟨s, x⟩ := p
   simp only [guardRun]
   rw [h s (by unfold DOper.uses; rw [hg]; simp)]
 have hdst : ∀ {w l}, (w, l) ∈ fr -> (D ds l).d.bind (get (E ds.length)) = some (V l) := by
  intro w l hm
  obtain ⟨s, hsd⟩ := (hf.one hm).dd
  have hll := (hf.one hm).ll
  rw [hsd, Option.bind_some, ht.slot (i := l + 1) hll (Nat.le_refl _) fun m a b => by rw [<- hsd]; exact (hf.one hm).u2 m (by omega) b, ht.env l hll, hsd]
  simp [putE, Dn.get]
 refine ⟨fun w l hm hld hg vs hvs => ?_, fun w l hm hA hg => ?_⟩
 ·have h := hall hm
  rw [if_pos hld, Bool.and_eq_true] at h
  have hev : mapO (evalO pg (E ds.length)) (D ds l).a = some vs := by
   rw [<- hvs]
   refine mapO_congr fun y hy => ?_
   cases y with
   | t s =>
    simp only [evalO]
    exact hslot hm s (by simp only [DOper.uses, List.mem_append, List.mem_filterMap]; exact .inl ⟨.t s, hy, rfl⟩)
   | c v => rfl
   | g n => rfl
  have one : ∀ i, i <= ds.length -> ldSame pg (D ds l) (E ds.length) hs[i]? = true -> ∃ K, dk (D ds l).k vs (Hh i) = some (V l, K) := by
   intro i hi hsm
   unfold ldSame at hsm
   rw [hguard hm, hg] at hsm
   simp only [hev, hdst hm, hh i hi] at hsm
   split at hsm
   ·rename_i u K hu
    have := same_eq _ _ _ hsm
    subst this
    exact ⟨K, hu⟩
   ·cases hsm
  have hwl := (hf.one hm).wl
  exact ⟨one w (by omega) h.1, one (w + 1) (by omega) h.2⟩
 ·have hld : (D ds l).k.isLd = false := (DK.PL_P (DK.isA_PL hA)).2
  have h := hall hm
  rw [hld] at h
  simp only [Bool.false_eq_true, if_false] at h
  have hO := hf.one hm
  have hwl := hO.wl
  have hll := hO.ll
  have hSS : (D ds w).k.isS = true := by
   rcases hO.k with h1 | h1
   ·rw [hld] at h1; cases h1
   ·exact h1.2
  rcases ht.run w hwl with ⟨_, _, hw⟩ | ⟨hgw, vs, hvs, hw⟩
  ·rw [hw]
  ·rcases ht.run l hll with ⟨hgl, _⟩ | ⟨_, us, _, hl⟩
   ·rw [hg] at hgl; cases hgl
   ·have hlA : (V l).idOf' = some (Hh l).length := by
     unfold valRun at hl
     split at hl
     ·rename_i m hk; rw [hk] at hA; simp [DK.isA] at hA
     ·obtain ⟨_, _, h1, _⟩ := dk_A hl hA
      exact h1
    unfold valRun at hw
    split at hw
    ·rename_i m hk; rw [hk] at hSS; simp [DK.isS] at hSS
    ·obtain ⟨x, vs', id, rfl, hx, _, hne⟩ := dk_S hw hSS
     refine hne _ fun he => ?_
     obtain ⟨p, r, hp⟩ := hO.hd hld
     unfold stElse at h
     rw [hguard hm, hg] at h
     simp only [hp, hdst hm, Option.bind_some, hlA] at h
     have hpe : get (E ds.length) p = some x := by
      have h1 : get (E ds.length) p = get (E w) p := ht.slot (Nat.le_of_lt hwl) (Nat.le_refl _) fun m a b => hO.u3 m a b p (by simp only [DOper.uses, List.mem_append, List.mem_filterMap]; exact .inl ⟨.t p, by rw [hp]; simp, rfl⟩)
      rw [h1]
      rw [hp] at hvs
      simp only [mapO, evalO, Option.bind_eq_some_iff, Option.map_eq_some_iff] at hvs
      obtain ⟨y, hy, ys, _, hyy⟩ := hvs
      simp only [Option.some.injEq, List.cons.injEq] at hyy
      rw [hy, hyy.1]
     rw [hpe] at h
     rcases hx with ⟨o, rfl⟩ | rfl <;> (simp at h; exact h he.symm)

theorem sched_text (ds : List DOper) : Sched ds [] (fun _ => False) (List.range ds.length) := by
 have := sched_range ds 0 ds.length (by omega)
 rw [List.range_eq_range']
 have he : (fun i : Nat => i < 0) = (fun _ => False) := by funext i; exact propext ⟨fun h => by omega, fun h => h.elim⟩
 rw [<- he]; exact this
end

end Go.Dn

