/-
  Calls of function values, rounds of loops over functions.
-/
import Derived.Test.YtegihfgibonhpaaDnCall
set_option linter.unusedVariables false
set_option linter.unusedSimpArgs false
namespace Go.Dn

variable {P : Program} {pg : Pg} {Gz : Nat} {B : Nat} {π : PMap} {H : Heap} {w : World} {av ex : Nat → Prop}

def setL (w : World) (g : Nat) (r : Loop) : World := { w with heap := w.heap.setIfInBounds g (.loop r) }

theorem setL_at {g : Nat} {r r' : Loop} (h : w.heap[g]? = some (.loop r)) : (setL w g r').heap[g]? = some (.loop r') := by
  have := (Array.getElem?_eq_some_iff.1 h).1
  simp [setL, this]

theorem Ev.setL {g : Nat} {r : Loop} (h : w.heap[g]? = some (.loop r)) (r' : Loop) : Ev (only g) π w av π (setL w g r') av where
  map _ _ h := h
  blk x hx hn := by
    show (w.heap.setIfInBounds g (.loop r'))[x]? = _
    rw [Array.getElem?_setIfInBounds, if_neg (fun e => hn e.symm)]
  siz x cc el fr hx := by
    refine ⟨cc, ?_, rfl⟩
    show (w.heap.setIfInBounds g (.loop r'))[x]? = _
    rw [Array.getElem?_setIfInBounds]
    split
    · rename_i e; subst e; rw [h] at hx; cases hx
    · exact hx
  lop x q hx := by
    by_cases e : g = x
    · subst e; exact ⟨r', setL_at h⟩
    · refine ⟨q, ?_⟩
      show (w.heap.setIfInBounds g (.loop r'))[x]? = _
      rw [Array.getElem?_setIfInBounds, if_neg e]
      exact hx
  sub _ _ x := x
  len := by simp [Dn.setL]
  os := rfl
  tape := rfl
  out := rfl

theorem loop_at (hs : St P pg Gz B π H w av ex) {id g : Nat} {L : ALoop} (hp : π id = some (g, 0)) (hi : H[id]? = some (.loop L)) :
    ∃ r, w.heap[g]? = some (.loop r) ∧ ORel P π w av ex 0 (.loop L) (.loop r) ∧ av g ∧ B ≤ g := by
  obtain ⟨h1, h2, ob, h3, h4⟩ := hs.hr.obj id g 0 _ hp hi (by simp)
  cases ob <;> simp only [ORel] at h4
  rename_i r
  exact ⟨r, h3, by simpa only [ORel] using h4, h2, h1⟩

theorem Res.setLoop (hs : St P pg Gz B π H w av ex) {id g : Nat} {L L' : ALoop} {r r' : Loop} (hp : π id = some (g, 0)) (hi : H[id]? = some (.loop L)) (hr : w.heap[g]? = some (.loop r)) (ho : ORel P π w av ex 0 (.loop L') (.loop r')) :
    Res P B (wrK B av true) π H w av ex (H.set id (.loop L')) (setL w g r') π av := by
  have e := Ev.setL (π := π) (av := av) hr r'
  obtain ⟨h1, h2, _⟩ := hs.hr.obj id g 0 _ hp hi (by simp)
  refine ⟨e.wider fun x hx => by rw [show x = g from hx]; exact ⟨rfl, h2, h1⟩, ?_, fun _ x => absurd rfl x, fun _ x => x, by simp, fun _ _ _ x => absurd rfl x⟩
  exact hs.hr.set hp hi (by simp) e _ _ (setL_at hr) (ho.mono e fun x _ hx => by rw [show x = g from hx]; exact h2)

/-- a loop's round asks for -/
theorem yield_run {g : Nat} {r : Loop} {us : Array Value} (h : w.heap[g]? = some (.loop r)) (hl : us.size = r.params.size) :
    (Instr.yield g us).run P w = .ok (.round g r.fn ((r.params.zip us).foldl (fun tmps (t, a) => tmps.setIfInBounds t a) r.tmps) r.assign r.body) w := by
  simp [Instr.yield, Instr.getLoop, getObj, Sem.run, h, hl]

theorem foldl_size (ps : List (Nat × Value)) : ∀ tm : Array Value, (ps.foldl (fun tmps (t, a) => tmps.setIfInBounds t a) tm).size = tm.size := by
  induction ps with
  | nil => intro tm; rfl
  | cons p ps ih => intro tm; simp [ih]

theorem ERel.puts {e : Env} {tm : Array Value} : ∀ {ps : List Nat} {ts : List TV} {us : List Value}, VsRel π w av ex ts us → ps.length = us.length → (ps.all (· < tm.size)) = true → ERel π w av ex e tm →
    ERel π w av ex ((ps.zip ts).reverse ++ e) ((ps.zip us).foldl (fun tmps (t, a) => tmps.setIfInBounds t a) tm) := by
  intro ps
  induction ps generalizing e tm with
  | nil => intro ts us hv hl ha he; simpa using he
  | cons p ps ih =>
    intro ts us hv hl ha he
    cases hv with
    | nil => simp at hl
    | cons t u ts us h hs =>
      simp only [List.all_cons, Bool.and_eq_true, decide_eq_true_eq] at ha
      have := ih (e := (p, t) :: e) (tm := tm.setIfInBounds p u) hs (by simpa using hl) (by simpa using ha.2) (he.put ha.1 h)
      simpa using this

theorem st_beginRound {b : Frame} {tm : Array Value} {k : List Item} {ds : List Deferred} {cs : List Frame} {l : Nat} {r : Loop} (hb : b.roundOf = some l) (hr : w.heap[l]? = some (.loop r)) (hst : r.state = .ready) :
    step P (lone (fr b tm (.beginRound :: k) ds) cs w) = .next (lone (fr b tm k ds) cs (setL w l { r with state := .busy })) := by
  refine step_lone_go ?_
  have h1 : (Instr.beginRound l).run P w = .ok () (setL w l { r with state := .busy }) := by
    simp [Instr.beginRound, Instr.getLoop, getObj, setObj, Sem.run, hr, hst, setL]
  have h2 : ((do (some l).elim (stuck "beginRound: no round") Instr.beginRound; Pure.pure .skip : Sem Next)).run P w = .ok .skip (setL w l { r with state := .busy }) := by
    simp [h1]
  simp only [stepG, stepG.exec, fr, hb, stepG.apply]
  simp [h1, Frame.finish]

def jumpOf : Ex → Option Code
  | .normal => none
  | .exit id => some (.exit id)
  | .ret => some .ret

theorem endRound_run {l : Nat} {r : Loop} (hr : w.heap[l]? = some (.loop r)) (j : Option Code) :
    (Instr.endRound l j).run P w = .ok (.bool j.isNone) (setL w l { r with state := if j.isNone then .ready else .done, pending := j }) := by
  simp [Instr.endRound, Instr.getLoop, getObj, setObj, Sem.run, hr, setL]

theorem st_endRound {b : Frame} {tm : Array Value} {td : List Item} {ds : List Deferred} {c : Frame} {cs : List Frame} {l : Nat} {r : Loop} {x : Ex} (hb : b.roundOf = some l) (hk : b.kind = .normal) (hx : ExTo x [] td) (hr : w.heap[l]? = some (.loop r)) :
    step P (lone (fr b tm td ds) (c :: cs) w) = .next (lone (c.finish (.bool (jumpOf x).isNone)) cs (setL w l { r with state := if (jumpOf x).isNone then .ready else .done, pending := jumpOf x })) := by
  refine step_lone_go ?_
  have h1 := endRound_run (P := P) hr (jumpOf x)
  cases x with
  | normal =>
    have : td = [] := hx
    subst this
    simp only [jumpOf] at h1 ⊢
    simp [stepG, stepG.exec, fr, hb, h1, doReturn, hk]
  | exit id =>
    obtain ⟨K, rfl, hK⟩ := hx
    simp only [exitTo] at hK
    simp only [jumpOf] at h1 ⊢
    simp [stepG, stepG.exec, fr, hb, h1, doReturn, hk, hK]
  | ret =>
    obtain ⟨K, rfl⟩ := hx
    simp only [jumpOf] at h1 ⊢
    simp [stepG, stepG.exec, fr, hb, h1, doReturn, hk]

theorem yield_sound {R : Rec} (hR : CodeOk P pg Gz R) {id : Nat} {args : List TV} {t : TV} {H' : Heap} (h : yieldRun R id args H = some (t, H')) (hs : St P pg Gz B π H w av ex) {g : Nat} (hp : π id = some (g, 0)) {us : Array Value} (hu : VsRel π w av ex args us.toList) :
    ∃ nx frm, (Instr.yield g us).run P w = .ok nx w ∧ callee P nx = some frm ∧ CallRes P B true π H w av ex t H' frm := by
  unfold yieldRun at h
  split at h <;> try (cases h; done)
  rename_i L hi
  split at h <;> try (cases h; done)
  rename_i hlen
  obtain ⟨r, hr, ho, hav, hB⟩ := loop_at hs hp hi
  have ho' := ho
  simp only [ORel] at ho
  obtain ⟨_, hst0, hpend, henv, hpar, hpall, hca, hcb⟩ := ho
  have hul := hu.length
  simp at hul
  have hpl : r.params.size = L.params.length := by rw [← hpar]; simp
  simp only [Option.bind_eq_some_iff] at h
  obtain ⟨o1, h1, h⟩ := h
  refine ⟨_, _, yield_run hr (by omega), rfl, fun c cs => ?_⟩
  let b : Frame := { (default : Frame) with fn := r.fn, kind := .normal, roundOf := some g }
  let tm0 := (r.params.zip us).foldl (fun tmps (t, a) => tmps.setIfInBounds t a) r.tmps
  have htm0 : tm0 = (L.params.zip us.toList).foldl (fun tmps (t, a) => tmps.setIfInBounds t a) r.tmps := by
    simp only [tm0]
    rw [← Array.foldl_toList, Array.toList_zip, hpar]
  have hsz0 : tm0.size = r.tmps.size := by rw [htm0]; exact foldl_size _ _
  have hfr : Frame.round g r.fn tm0 r.assign r.body .normal = fr b tm0 [.code r.assign, .beginRound, .code r.body] [] := rfl
  have he0 : ERel π w av ex ((L.params.zip args).reverse ++ L.env) tm0 := by
    rw [htm0]
    exact ERel.puts hu (by simp; omega) (by rw [hpar] at *; exact hpall) henv
  obtain ⟨tm1, td1, ds1, w1, π1, av1, hst1, hsz1, hex1, her1, hdef1, hr1⟩ := hR _ _ _ _ h1 r.tmps.size r.assign hca b tm0 [.beginRound, .code r.body] [] (c :: cs) w π av ex B w.heap.size hs he0 hsz0
    (fun l hl => by simp [b] at hl; subst hl; exact ⟨r, hr⟩) ⟨[], rfl, List.nodup_nil, fun x hx => by simp at hx⟩ (Nat.le_refl _)
  have hs1 := hs.nextK hr1
  have hp1 := hr1.ev.map _ _ hp
  split at h <;> try (cases h; done)
  rename_i hn1 hL1
  rename_i L1
  rw [hn1] at hex1
  have : td1 = [.beginRound, .code r.body] := hex1
  subst this
  split at h <;> try (cases h; done)
  rename_i hready
  obtain ⟨r1, hg1, ho1, hav1, hB1⟩ := loop_at hs1 hp1 hL1
  have ho1' := ho1
  simp only [ORel] at ho1
  obtain ⟨_, hst1', hpend1, henv1, hpar1, hpall1, hca1, hcb1⟩ := ho1
  have hres2 := Res.setLoop (L' := { L1 with st := .busy }) (r' := { r1 with state := .busy }) hs1 hp1 hL1 hg1 (by
    simp only [ORel]; exact ⟨trivial, trivial, hpend1, henv1, hpar1, hpall1, hca1, hcb1⟩)
  have hs2 := hs1.nextK hres2
  have her2 := her1.mono hres2.ev (wrK_av (w := w1) true)
  simp only [Option.bind_eq_some_iff] at h
  obtain ⟨o2, h2, h⟩ := h
  obtain ⟨tm3, td3, ds3, w3, π3, av3, hst3, hsz3, hex3, her3, hdef3, hr3⟩ := hR _ _ _ _ h2 r.tmps.size r.body hcb b tm1 [] ds1 (c :: cs) _ π1 av1 ex B w.heap.size hs2 her2 hsz1
    (fun l hl => by simp [b] at hl; subst hl; exact ⟨_, setL_at hg1⟩) (hdef1.next hres2.ev) (Nat.le_trans hr1.ev.len hres2.ev.len)
  have hs3 := hs2.nextK hr3
  have hp3 := hr3.ev.map _ _ hp1
  have hr12 := Res.trans (W := true) hr1 hres2
  have hr13 := Res.trans (W := true) hr12 hr3
  split at h <;> try (cases h; done)
  rename_i L2 hL2
  obtain ⟨r3, hg3, ho3, hav3, hB3⟩ := loop_at hs3 hp3 hL2
  simp only [ORel] at ho3
  obtain ⟨_, hst3', hpend3, henv3, hpar3, hpall3, hca3, hcb3⟩ := ho3
  have hsteps : ∀ j, jumpOf o2.ex = j → Steps P (lone (Frame.round g r.fn tm0 r.assign r.body .normal) (c :: cs) w) (lone (c.finish (.bool j.isNone)) cs (setL w3 g { r3 with state := if j.isNone then .ready else .done, pending := j })) := by
    rintro _ rfl
    rw [hfr]
    exact hst1.trans (.head (st_beginRound (l := g) rfl hg1 (by rw [hst1', hready])) (hst3.trans (.one (st_endRound (l := g) rfl rfl hex3 hg3))))
  split at h
  · rename_i hn
    simp only [Option.some.injEq, Prod.mk.injEq] at h
    obtain ⟨rfl, rfl⟩ := h
    have hres4 := Res.setLoop (L' := { L2 with st := .ready, pend := none }) (r' := { r3 with state := .ready, pending := none }) hs3 hp3 hL2 hg3 (by
      simp only [ORel]; exact ⟨trivial, trivial, trivial, henv3, hpar3, hpall3, hca3, hcb3⟩)
    exact ⟨_, _, _, _, hsteps none (by rw [hn]; rfl), .b true, Res.trans (W := true) hr13 hres4⟩
  · rename_i hn
    simp only [Option.some.injEq, Prod.mk.injEq] at h
    obtain ⟨rfl, rfl⟩ := h
    cases hj : jumpOf o2.ex with
    | none => cases ho2 : o2.ex <;> rw [ho2] at hj hn <;> simp [jumpOf] at hj; exact absurd rfl hn
    | some j =>
      have hres4 := Res.setLoop (L' := { L2 with st := .done, pend := some o2.ex }) (r' := { r3 with state := .done, pending := some j }) hs3 hp3 hL2 hg3 (by
        simp only [ORel]; refine ⟨trivial, trivial, ?_, henv3, hpar3, hpall3, hca3, hcb3⟩
        cases ho2 : o2.ex <;> rw [ho2] at hj <;> simp [jumpOf] at hj <;> subst hj <;> simp [PendRel])
      exact ⟨_, _, _, _, hsteps _ hj, .b false, Res.trans (W := true) hr13 hres4⟩

theorem VRel.fn_inv {f : Nat} {fs cs : List TV} {u : Value} (h : VRel π w av ex (.fn f fs cs) u) : ∃ fa ca, u = .func (.func f) fa ca ∧ VsRel π w av ex fs fa.toList ∧ VsRel π w av ex cs ca.toList := by
  cases h; exact ⟨_, _, rfl, by assumption, by assumption⟩
theorem VRel.yl_inv {id : Nat} {u : Value} (h : VRel π w av ex (.yl id) u) : ∃ g, u = .func (.yield g) #[] #[] ∧ π id = some (g, 0) := by
  cases h; exact ⟨_, rfl, by assumption⟩

def CMode.W : CMode → Bool
  | .sh => true
  | .pu _ => false

theorem call_pu {R : Rec} (hR : CodeOk P pg Gz R) (hF : FnsOk P pg) (hS : SumOk P pg Gz) {ks : List Bool} {v : TV} {args : List TV} {t : TV} {H' : Heap} (h : callRun pg R (.pu ks) (v :: args) H = some (t, H')) (hs : St0 P pg Gz B π H w av ex) {u : Value} {us : Array Value}
    (hv : VRel π w av ex v u) (hu : VsRel π w av ex args us.toList) : H' = H ∧ ∃ nx frm, (invokeS u us).run P w = .ok nx w ∧ callee P nx = some frm ∧ CallRes P B false π H w av ex t H frm := by
  unfold callRun at h
  cases v <;> simp only at h <;> try (cases h; done)
  rename_i f fs cs
  obtain ⟨fa, ca, rfl, h1, h2⟩ := hv.fn_inv
  have hall : VsRel π w av ex (fs ++ args ++ cs) (fa ++ us ++ ca).toList := by simpa using (h1.append hu).append h2
  have hi : (invokeS (.func (.func f) fa ca) us) = callFunc f (fa ++ us ++ ca) := by
    simp [invokeS, Deferred.ofValue, invoke]
  rw [hi]
  simp only [Option.bind_eq_some_iff] at h
  obtain ⟨as, has, h⟩ := h
  split at h
  · rename_i r hr
    injection h with h
    injection h with ha hb
    subst ha hb
    obtain ⟨pg', R', hG, hR', hF', r0, H1, hb, hr'⟩ := hS f as r hr
    have hs' : St0 P pg' Gz B π H w av ex := ⟨hs.hr, fun n tv hn => hs.gl n tv (hG ▸ hn), hs.avg, hs.exg, hs.gB⟩
    obtain ⟨k1, k2⟩ := pure_sound hR' hF' has hb hr' hs' hall
    exact ⟨rfl, _, _, k1, rfl, k2⟩
  · simp only [Option.bind_eq_some_iff, Option.map_eq_some_iff, Prod.mk.injEq] at h
    obtain ⟨⟨r, H1⟩, hb, r', hr', rfl, rfl⟩ := h
    obtain ⟨k1, k2⟩ := pure_sound hR hF has hb hr' hs hall
    exact ⟨rfl, _, _, k1, rfl, k2⟩

theorem call_sh {R : Rec} (hR : CodeOk P pg Gz R) (hF : FnsOk P pg) {v : TV} {args : List TV} {t : TV} {H' : Heap} (h : callRun pg R .sh (v :: args) H = some (t, H')) (hs : St P pg Gz B π H w av ex) {u : Value} {us : Array Value}
    (hv : VRel π w av ex v u) (hu : VsRel π w av ex args us.toList) : ∃ nx frm, (invokeS u us).run P w = .ok nx w ∧ callee P nx = some frm ∧ CallRes P B true π H w av ex t H' frm := by
  unfold callRun at h
  cases v <;> simp only at h <;> try (cases h; done)
  case fn f fs cs =>
    obtain ⟨fa, ca, rfl, h1, h2⟩ := hv.fn_inv
    have hall : VsRel π w av ex (fs ++ args ++ cs) (fa ++ us ++ ca).toList := by simpa using (h1.append hu).append h2
    have hi : (invokeS (.func (.func f) fa ca) us) = callFunc f (fa ++ us ++ ca) := by
      simp [invokeS, Deferred.ofValue, invoke]
    rw [hi]
    obtain ⟨k1, k2⟩ := shared_sound hR hF h hs hall
    exact ⟨_, _, k1, rfl, k2⟩
  case yl id =>
    obtain ⟨g, rfl, hp⟩ := hv.yl_inv
    have hi : (invokeS (.func (.yield g) #[] #[]) us) = Instr.yield g us := by
      simp [invokeS, Deferred.ofValue, invoke]
    rw [hi]
    exact yield_sound hR h hs hp hu

end Go.Dn
