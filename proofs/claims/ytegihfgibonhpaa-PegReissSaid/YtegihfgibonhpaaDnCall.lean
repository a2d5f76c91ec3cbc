/-
  Calls: out of what is known of code.
-/
import Derived.Test.YtegihfgibonhpaaDnRun
set_option linter.unusedVariables false
set_option linter.unusedSimpArgs false
namespace Go.Dn

variable {P : Program} {pg : Pg} {Gz : Nat} {B : Nat} {π : PMap} {H : Heap} {w : World} {av ex : Nat → Prop}

def ExTo : Ex → List Item → List Item → Prop
  | .normal, k, td => td = k
  | .exit id, k, td => ∃ K, td = .code (.exit id) :: K ∧ exitTo id K = exitTo id k
  | .ret, k, td => ∃ K, td = .code .ret :: K

def mkD (r : Nat) : Deferred := { target := .collected r, args := #[] }

/-- deferred marks of loops over functions: each block is spent at the call's end -/
def DefOk (W0 : Nat) (w : World) (av : Nat → Prop) (ds : List Deferred) : Prop := ∃ rs : List Nat, ds = rs.map mkD ∧ rs.Nodup ∧ ∀ r, r ∈ rs → W0 ≤ r ∧ ¬ av r ∧ w.heap[r]? = some (.deferred (some []))

def RoundOk (b : Frame) (w : World) : Prop := ∀ l, b.roundOf = some l → ∃ r, w.heap[l]? = some (.loop r)

def CodeOk (P : Program) (pg : Pg) (Gz : Nat) (R : Rec) : Prop := ∀ dc e H out, R dc e H = some out → ∀ N c, chkC P N dc c = true →
  ∀ (b : Frame) (tm : Array Value) (k : List Item) (ds : List Deferred) (cs : List Frame) (w : World) (π : PMap) (av ex : Nat → Prop) (B W0 : Nat), St P pg Gz B π H w av ex → ERel π w av ex e tm → tm.size = N → RoundOk b w → DefOk W0 w av ds → W0 ≤ w.heap.size →
    ∃ tm' td ds' w' π' av', Steps P (lone (fr b tm (.code c :: k) ds) cs w) (lone (fr b tm' td ds') cs w') ∧ tm'.size = N ∧ ExTo out.ex k td ∧ ERel π' w' av' ex out.env tm' ∧ DefOk W0 w' av' ds' ∧
      Res P B (wrK B av true) π H w av ex out.H w' π' av'

/-- the answers that are taken as known are right -/
def SumOk (P : Program) (pg : Pg) (Gz : Nat) : Prop := ∀ f as r, pg.S f as = some r → ∃ pg' R', pg'.G = pg.G ∧ CodeOk P pg' Gz R' ∧ (∀ f d, pg'.F f = some d → ∃ fn, P.funcs[f]? = some fn ∧ (fn.name == "runtime.NumGoroutine") = false ∧ chkF P d fn = true) ∧
  ∃ r0 H1, bodyRun pg' R' f as [] = some (r0, H1) ∧ snap .fin H1 9 r0 = some r

def FnsOk (P : Program) (pg : Pg) : Prop := ∀ f d, pg.F f = some d → ∃ fn, P.funcs[f]? = some fn ∧ (fn.name == "runtime.NumGoroutine") = false ∧ chkF P d fn = true

theorem DefOk.next {W0 : Nat} {ds : List Deferred} {W : Bool} {π' : PMap} {w' : World} {av' : Nat → Prop} (h : DefOk W0 w av ds) (e : Ev (wrK B av W) π w av π' w' av') : DefOk W0 w' av' ds := by
  obtain ⟨rs, h1, h2, h3⟩ := h
  refine ⟨rs, h1, h2, fun r hr => ?_⟩
  obtain ⟨a, b, c⟩ := h3 r hr
  have hlt : r < w.heap.size := (Array.getElem?_eq_some_iff.1 c).1
  exact ⟨a, fun x => b (e.sub r hlt x), by rw [e.blk r hlt fun x => b x.2.1]; exact c⟩

theorem RoundOk.next {b : Frame} {wr : Nat → Prop} {π' : PMap} {w' : World} {av' : Nat → Prop} (h : RoundOk b w) (e : Ev wr π w av π' w' av') : RoundOk b w' := fun l hl => by
  obtain ⟨r, hr⟩ := h l hl
  exact e.lop l r hr

/-! ### results -/
def rdRes (tm : Array Value) : ResultVar → Sem Value
  | .tmp t => Pure.pure (tm.getD t undef)
  | .cell a t => do loadVar t (← asAddr (tm.getD a undef))

theorem results_eq (fn : Func) (tm : Array Value) : results fn tm = (do let vs ← fn.results.mapM (rdRes tm); Pure.pure (if h : vs.size = 1 then vs[0] else .tuple vs)) := by
  have : (rdRes tm) = (fun | .tmp t => Pure.pure (tm.getD t undef) | .cell a t => (do loadVar t (← asAddr (tm.getD a undef)) : Sem Value)) := by
    funext x; cases x <;> rfl
  rw [this]; rfl

theorem resRun_sound (hs : St P pg Gz B π H w av ex) {e : Env} {tm : Array Value} (he : ERel π w av ex e tm) : ∀ {rs : List RV} {vs : List ResultVar} {ts : List TV}, chkR P rs vs = true → mapO (resRun e H) rs = some ts →
    ∃ us, (vs.mapM (rdRes tm)).run P w = .ok us w ∧ VsRel π w av ex ts us
  | [], [], ts, _, h => by simp [mapO] at h; subst h; exact ⟨[], by simp, .nil⟩
  | r :: rs, v :: vs, ts, hc, h => by
    simp only [mapO, Option.bind_eq_some_iff, Option.some.injEq] at h
    obtain ⟨t, ht, ts', hts, rfl⟩ := h
    cases r <;> cases v <;> simp only [chkR, Bool.false_eq_true, Bool.and_eq_true, beq_iff_eq] at hc
    case t.tmp s s' =>
      obtain ⟨rfl, hc⟩ := hc
      obtain ⟨us, h1, h2⟩ := resRun_sound hs he hc hts
      exact ⟨tm.getD s undef :: us, by simp [List.mapM_cons, h1, rdRes], .cons _ _ _ _ (he s t ht) h2⟩
    case c.cell s sz ag s' ty =>
      obtain ⟨⟨rfl, hty⟩, hc⟩ := hc
      obtain ⟨us, h1, h2⟩ := resRun_sound hs he hc hts
      simp only [resRun, Option.bind_eq_some_iff, Option.map_eq_some_iff] at ht
      obtain ⟨p, hp, ⟨t', H'⟩, hd, rfl⟩ := ht
      have hpr := he s p hp
      obtain ⟨_, v, hv, hvr⟩ := ld_sound hs.hr hd hpr hty
      refine ⟨v :: us, ?_, .cons _ _ _ _ hvr h2⟩
      have ha : ∃ a, tm.getD s undef = .pointer (some a) := by
        generalize tm.getD s undef = u at hpr
        cases hpr <;> simp only [dk] at hd <;> first | (cases hd; done) | exact ⟨_, rfl⟩
      obtain ⟨a, ha⟩ := ha
      rw [ha] at hv
      have hv' : (loadVar ty a).run P w = .ok v w := by simpa [Instr.loadAt, Instr.sureAddr] using hv
      simp only [List.mapM_cons, rdRes, Sem.run_bind, ha, asAddr, Sem.run_pure, Result.andThen_ok, hv', h1]
  | [], _ :: _, _, hc, _ => by simp [chkR] at hc
  | _ :: _, [], _, hc, _ => by cases ‹RV› <;> simp [chkR] at hc

theorem get_zipE : ∀ (l : List TV) (n s : Nat) (t : TV), get (zipE l n) s = some t → n ≤ s ∧ l[s - n]? = some t
  | [], n, s, t, h => by simp [zipE, get] at h
  | v :: l, n, s, t, h => by
    simp only [zipE, get] at h
    split at h
    · rename_i he; subst he; injection h with h; subst h; simp
    · have := get_zipE l (n + 1) s t h
      refine ⟨by omega, ?_⟩
      rw [show s - n = (s - (n + 1)) + 1 by omega]
      simpa using this.2

theorem ERel.args {args : List TV} {us : Array Value} (h : VsRel π w av ex args us.toList) (m : Nat) : ERel π w av ex (zipE args 0) (us ++ Array.replicate m undef) := by
  intro s t hs
  obtain ⟨_, ht⟩ := get_zipE args 0 s t hs
  obtain ⟨u, hu, hr⟩ := h.get ht
  simp at hu
  have hlt := (Array.getElem?_eq_some_iff.1 hu).1
  have : (us ++ Array.replicate m undef).getD s undef = u := by
    rw [Array.getD_eq_getD_getElem?, Array.getElem?_append_left hlt, hu]; rfl
  rw [this]; exact hr

/-- the collected marks are taken one after the other, then the frame is bare -/
theorem take_all {W0 : Nat} {f : Frame} {cs : List Frame} : ∀ (rs : List Nat) (f : Frame) (w : World), f.mode = .returning → f.defers = rs.map mkD → rs.Nodup → (∀ r, r ∈ rs → W0 ≤ r ∧ w.heap[r]? = some (.deferred (some []))) →
    ∃ w', Steps P (lone f cs w) (lone { f with defers := [] } cs w') ∧ SameW w w' ∧ ∀ g, g < W0 → w'.heap[g]? = w.heap[g]?
  | [], f, w, hm, hd, _, _ => by
    refine ⟨w, ?_, ⟨rfl, rfl, rfl, rfl, fun _ _ h _ => h⟩, fun _ _ => rfl⟩
    have : f = { f with defers := [] } := by rw [← show f.defers = [] from hd]
    rw [← this]
    exact Steps.refl _ _
  | r :: rs, f, w, hm, hd, hn, hr => by
    obtain ⟨h1, h2⟩ := hr r (by simp)
    have hs := st_take (P := P) (cs := cs) (w := w) (f := f) (blk := r) (ds := rs.map mkD) hm hd h2
    have hsame := SameW.take w (d' := none) h2
    obtain ⟨w', h3, h4, h5⟩ := take_all (W0 := W0) (f := f) rs { f with defers := rs.map mkD } { w with heap := w.heap.setIfInBounds r (.deferred none) } hm rfl (List.nodup_cons.1 hn).2 (fun r' hr' => by
      obtain ⟨a, b⟩ := hr r' (by simp [hr'])
      refine ⟨a, ?_⟩
      show (w.heap.setIfInBounds r (.deferred none))[r']? = _
      rw [Array.getElem?_setIfInBounds, if_neg (fun e : r = r' => (List.nodup_cons.1 hn).1 (by rw [e]; exact hr'))]
      exact b)
    refine ⟨w', .head hs h3, ?_, fun g hg => ?_⟩
    · exact ⟨h4.1.trans hsame.1, h4.2.1.trans hsame.2.1, h4.2.2.1.trans hsame.2.2.1, h4.2.2.2.1.trans hsame.2.2.2.1, fun g ob hg hd => h4.2.2.2.2 g ob (hsame.2.2.2.2 g ob hg hd) hd⟩
    · rw [h5 g hg]
      show (w.heap.setIfInBounds r (.deferred none))[g]? = _
      rw [Array.getElem?_setIfInBounds, if_neg (by omega)]

def tupR : List TV → TV
  | [v] => v
  | vs => .tup vs

/-- a function's body, run on the heap that the call finds -/
theorem body_sound {R : Rec} (hR : CodeOk P pg Gz R) (hF : FnsOk P pg) {f : Nat} {args : List TV} {t : TV} {H' : Heap} (h : bodyRun pg R f args H = some (t, H')) (hs : St P pg Gz B π H w av ex) {us : Array Value} (hu : VsRel π w av ex args us.toList) :
    (callFunc f us).run P w = .ok (.enter f us) w ∧ ∀ cs, ∃ frm v w' π' av', Steps P (lone (Frame.enter P f us .normal) cs w) (lone frm cs w') ∧ frm.fn = f ∧ frm.leaving P w' (.returned v) ∧ VRel π' w' av' ex t v ∧
      Res P B (wrK B av true) π H w av ex H' w' π' av' := by
  simp only [bodyRun, Option.bind_eq_some_iff] at h
  obtain ⟨d, hd, h⟩ := h
  obtain ⟨fn, hfn, hname, hchk⟩ := hF f d hd
  simp only [chkF, Bool.and_eq_true, beq_iff_eq, decide_eq_true_eq] at hchk
  obtain ⟨⟨⟨hnt, hnp⟩, hbody⟩, hres⟩ := hchk
  cases hb : fn.body with
  | none => rw [hb] at hbody; simp at hbody
  | some c =>
    simp only [hb] at hbody
    split at h <;> try (cases h; done)
    rename_i hlen
    simp only [Option.bind_eq_some_iff] at h
    obtain ⟨o, ho, h⟩ := h
    have hul := hu.length
    simp at hul
    refine ⟨?_, fun cs => ?_⟩
    · have hname' : ¬ (fn.name == "runtime.NumGoroutine") = true := by rw [hname]; simp
      simp [callFunc, hfn, hname', hb]
      simpa using hname
    · let b : Frame := { (default : Frame) with fn := f, kind := .normal, roundOf := none }
      have henter : Frame.enter P f us .normal = fr b (us ++ Array.replicate (fn.ntmps - us.size) undef) [.code c] [] := by
        simp [Frame.enter, fr, hfn, hb, b]
      have hsz : (us ++ Array.replicate (fn.ntmps - us.size) undef).size = d.nt := by simp; omega
      obtain ⟨tm', td, ds', w', π', av', hst, hsz', hex, her, hdef, hr⟩ := hR _ _ _ _ ho d.nt c hbody b _ [] [] cs w π av ex B w.heap.size hs (ERel.args hu _) hsz (fun l hl => by simp [b] at hl)
        ⟨[], rfl, List.nodup_nil, fun r hr => by simp at hr⟩ (Nat.le_refl _)
      have hs' := hs.nextK hr
      obtain ⟨rs, hds, hnod, hrs⟩ := hdef
      -- the results
      have hfin : ∃ vs, mapO (resRun o.env o.H) d.res = some vs ∧ t = tupR vs ∧ H' = o.H ∧ (∀ id, o.ex ≠ .exit id) := by
        cases hoe : o.ex with
        | exit id => rw [hoe] at h; simp at h
        | normal =>
          rw [hoe] at h
          simp only [Option.map_eq_some_iff, Prod.mk.injEq] at h
          obtain ⟨vs, hvs, h1, h2⟩ := h
          refine ⟨vs, hvs, ?_, h2.symm, by simp⟩
          rw [← h1]; rcases vs with _ | ⟨_, _ | ⟨_, _⟩⟩ <;> rfl
        | ret =>
          rw [hoe] at h
          simp only [Option.map_eq_some_iff, Prod.mk.injEq] at h
          obtain ⟨vs, hvs, h1, h2⟩ := h
          refine ⟨vs, hvs, ?_, h2.symm, by simp⟩
          rw [← h1]; rcases vs with _ | ⟨_, _ | ⟨_, _⟩⟩ <;> rfl
      obtain ⟨vs, hvs, rfl, rfl, hne⟩ := hfin
      -- to the state of returning
      have hret : ∃ td', Steps P (lone (fr b tm' td ds') cs w') (lone { fr b tm' td' ds' with mode := .returning } cs w') := by
        cases hoe : o.ex with
        | exit id => exact absurd hoe (hne id)
        | normal =>
          rw [hoe] at hex
          have : td = [] := hex
          subst this
          exact ⟨[], .one (st_leave rfl)⟩
        | ret =>
          rw [hoe] at hex
          obtain ⟨K, rfl⟩ := hex
          exact ⟨_, .one (st_ret rfl)⟩
      obtain ⟨td', hret⟩ := hret
      obtain ⟨w2, htk, hsw, hlow⟩ := take_all (P := P) (cs := cs) (W0 := w.heap.size) (f := fr b tm' td' ds') rs { fr b tm' td' ds' with mode := .returning } w' rfl hds hnod (fun r hr => ⟨(hrs r hr).1, (hrs r hr).2.2⟩)
      have hr2 := hr.sameW hsw hlow
      have hs2 := hs.nextK hr2
      have her2 : ERel π' w2 av' ex o.env tm' := fun s t hst => (her s t hst).same hsw
      obtain ⟨us', hru, hvr⟩ := resRun_sound hs2 her2 hres hvs
      have hresults : ∃ v, (results fn tm').run P w2 = .ok v w2 ∧ VRel π' w2 av' ex (tupR vs) v := by
        have hl := hvr.length
        have hm : (fn.results.mapM (rdRes tm')).run P w2 = .ok us'.toArray w2 := by
          rw [Array.mapM_eq_mapM_toList, Sem.run_map, hru]; rfl
        rw [results_eq, Sem.run_bind, hm, Result.andThen_ok]
        rcases vs with _ | ⟨v1, _ | ⟨v2, vs⟩⟩
        · cases hvr
          exact ⟨_, rfl, .tup _ _ .nil⟩
        · obtain ⟨x, hx, hxr⟩ : ∃ x, us' = [x] ∧ VRel π' w2 av' ex v1 x := by
            cases hvr with | cons _ u _ us h hs => cases hs; exact ⟨u, rfl, h⟩
          subst hx
          exact ⟨x, rfl, hxr⟩
        · have hne1 : ¬ (us'.toArray.size = 1) := by simp; simp at hl; omega
          refine ⟨.tuple us'.toArray, ?_, .tup _ _ (by simpa using hvr)⟩
          simp only [dif_neg hne1]
          rfl
      obtain ⟨v, hv, hvrel⟩ := hresults
      refine ⟨{ fr b tm' td' [] with mode := .returning }, v, w2, π', av', ?_, rfl, ⟨rfl, rfl, rfl, fn, hfn, hv⟩, hvrel, hr2⟩
      rw [henter]
      exact hst.trans (hret.trans htk)

/-! ### a call, of whatever kind -/
/-- where the call of a function value leads to -/
def invokeS (u : Value) (us : Array Value) : Sem Next := do let d ← Deferred.ofValue u us; invoke d.target d.args

def CallRes (P : Program) (B : Nat) (W : Bool) (π : PMap) (H : Heap) (w : World) (av ex : Nat → Prop) (t : TV) (H' : Heap) (frm : Frame) : Prop :=
  ∀ (c : Frame) cs, ∃ v w' π' av', Steps P (lone frm (c :: cs) w) (lone (c.finish v) cs w') ∧ VRel π' w' av' ex t v ∧ Res P B (wrK B av W) π H w av ex H' w' π' av'

theorem snapArgs_sound (hH : HRel P B π H w av ex) {av2 ex2 : Nat → Prop} {π2 : PMap} (hb : SnOk .borrow B av ex av2 ex2) (hk : SnOk .keep B av ex av2 ex2) : ∀ {ks : List Bool} {ts ts' : List TV} {us : List Value}, snapArgs H ks ts = some ts' →
    VsRel π w av ex ts us → VsRel π2 w av2 ex2 ts' us
  | ks, [], ts', us, h, hv => by simp [snapArgs] at h; subst h; cases hv; exact .nil
  | ks, t :: ts, ts', us, h, hv => by
    simp only [snapArgs, Option.bind_eq_some_iff, Option.map_eq_some_iff] at h
    obtain ⟨t', ht, ts'', hts, rfl⟩ := h
    cases hv with | cons _ u _ us hu hus =>
    refine .cons _ _ _ _ ?_ (snapArgs_sound hH hb hk hts hus)
    split at ht
    · exact snap_sound hH hk 9 ht hu
    · exact snap_sound hH hb 9 ht hu

theorem pure_sound {R : Rec} (hR : CodeOk P pg Gz R) (hF : FnsOk P pg) {f : Nat} {ks : List Bool} {args as : List TV} {r t : TV} {H1 : Heap} (ha : snapArgs H ks args = some as) (hb : bodyRun pg R f as [] = some (r, H1)) (hf : snap .fin H1 9 r = some t)
    (hs : St0 P pg Gz B π H w av ex) {us : Array Value} (hu : VsRel π w av ex args us.toList) : (callFunc f us).run P w = .ok (.enter f us) w ∧ CallRes P B false π H w av ex t H (Frame.enter P f us .normal) := by
  let ex2 : Nat → Prop := fun g => av g ∨ ex g
  have hB : SnOk .borrow B av ex none' ex2 := ⟨fun g bo bo' hfl _ => by simp [SM.flag] at hfl; subst hfl; exact ⟨id, fun h => by cases h⟩, fun g _ _ _ => ⟨id, fun h => by simp at h⟩⟩
  have hK : SnOk .keep B av ex none' ex2 := ⟨fun g bo bo' hfl h => by simp [SM.flag] at hfl; subst hfl; exact ⟨id, fun hb hx => hx.elim h.1 (h.2 hb)⟩, fun g hk _ _ => absurd rfl hk⟩
  have hargs := snapArgs_sound (π2 := fun _ => none) hs.hr hB hK ha hu
  have hs0 : St P pg Gz w.heap.size (fun _ => none) [] w none' ex2 :=
    ⟨⟨⟨(fun _ _ _ _ h => by cases h), (fun _ _ _ _ _ _ _ h => by cases h), (fun g h => False.elim h), (fun g h => Or.elim h (hs.hr.avb g) (hs.hr.exb g)), Nat.le_refl _⟩, hs.gl, (fun g h => False.elim h), (fun g h => Or.elim h (hs.avg g) (hs.exg g)),
      Nat.le_trans hs.gB hs.hr.bsz⟩, fun _ _ => rfl⟩
  obtain ⟨h1, h2⟩ := body_sound hR hF hb hs0 hargs
  refine ⟨h1, fun c cs => ?_⟩
  obtain ⟨frm, v, w', π', av', hst, hfnn, hlv, hvr, hres⟩ := h2 (c :: cs)
  have hev : Ev (wrK B av false) π w av π w' av :=
    ⟨fun _ _ h => h, fun g hg _ => hres.ev.blk g hg fun x => by have := x.2.2; omega, hres.ev.siz, hres.ev.lop, fun _ _ h => h, hres.ev.len, hres.ev.os, hres.ev.tape, hres.ev.out⟩
  have hev0 : Ev none' π w av π w' av := { hev with blk := fun g hg _ => hres.ev.blk g hg fun x => by have := x.2.2; omega }
  refine ⟨v, w', π, av, hst.trans (.one (step_leave_returned hlv)), ?_, ⟨hev, hs.hr.mono hev0 (fun _ _ _ x => x rfl) (fun _ x => x) fun g x => Nat.lt_of_lt_of_le (hs.hr.avb g x) hev.len, fun _ x => absurd rfl x, fun _ x => x, Nat.le_refl _, fun _ _ _ x => absurd rfl x⟩⟩
  refine snap_sound hres.hr ⟨fun g bo bo' hfl h => ?_, fun g _ hav hBg => ?_⟩ 9 hf hvr
  · cases bo <;> simp [SM.flag] at hfl
    subst hfl
    have := h.2 rfl
    exact ⟨fun x => this (.inl x), fun _ x => this (.inr x)⟩
  · exact ⟨fun x => by have := hs.hr.avb g x; omega, fun _ x => by have := hs.hr.exb g x; omega⟩

theorem shared_sound {R : Rec} (hR : CodeOk P pg Gz R) (hF : FnsOk P pg) {f : Nat} {args : List TV} {t : TV} {H' : Heap} (hb : bodyRun pg R f args H = some (t, H')) (hs : St P pg Gz B π H w av ex) {us : Array Value} (hu : VsRel π w av ex args us.toList) :
    (callFunc f us).run P w = .ok (.enter f us) w ∧ CallRes P B true π H w av ex t H' (Frame.enter P f us .normal) := by
  obtain ⟨h1, h2⟩ := body_sound hR hF hb hs hu
  refine ⟨h1, fun c cs => ?_⟩
  obtain ⟨frm, v, w', π', av', hst, hfnn, hlv, hvr, hres⟩ := h2 (c :: cs)
  exact ⟨v, w', π', av', hst.trans (.one (step_leave_returned hlv)), hvr, hres⟩

end Go.Dn
