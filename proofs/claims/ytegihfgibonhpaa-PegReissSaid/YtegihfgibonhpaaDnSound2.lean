/-
  The evaluator's code: sound, part 2.
-/
import Derived.Test.YtegihfgibonhpaaDnSound
set_option linter.unusedVariables false
set_option linter.unusedSimpArgs false
namespace Go.Dn

variable {P : Program} {pg : Pg} {Gz : Nat}

section
variable {B W0 N : Nat} {b : Frame} {ds : List Deferred} {cs : List Frame} {π : PMap} {H : Heap} {w : World} {av ex : Nat → Prop}

theorem Res.alloc (W : Bool) (h : HRel P B π H w av ex) (ob : Obj) : Res P B (wrK B av W) π H w av ex H (w.alloc ob) π av :=
  ⟨Ev.alloc _ _ _ _ _, h.alloc ob, fun _ x => absurd rfl x, fun _ x => x, Nat.le_refl _, fun _ _ _ x => absurd rfl x⟩

theorem St.alloc (hs : St P pg Gz B π H w av ex) (ob : Obj) : St P pg Gz B π H (w.alloc ob) av ex := hs.nextK (Res.alloc true hs.hr ob)

/-- the loop is laid -/
theorem enter_sound {tm : Array Value} {ks : List Nat} {e : Env} {ps : List Nat} {x y : DC} {params : Array Tmp} {a c : Code} (hs : St P pg Gz B π H w av ex) (he : ERel π w av ex e tm) (hb : RoundOk b w) (hd : DefOk W0 w av ds) (hW : W0 ≤ w.heap.size)
    (hp : ps = params.toList) (hps : (ps.all (· < tm.size)) = true) (hx : chkC P tm.size x a = true) (hy : chkC P tm.size y c = true) :
    ∃ l mark w1 π1 av1, (Instr.enterLoop b.fn tm params a c b.roundOf).run P w = .ok (l, mark) w1 ∧ DefOk W0 w1 av1 (mark ++ ds) ∧ π1 H.length = some (l, 0) ∧
      Res P B (wrK B av true) π H w av ex (H ++ [.loop { env := keepE ks e, params := ps, assign := x, body := y, st := .ready, pend := none }]) w1 π1 av1 := by
  have key : ∀ (df : Nat) (w0 : World), St P pg Gz B π H w0 av ex → ERel π w0 av ex e tm → Res P B (wrK B av true) π H w av ex H w0 π av →
      ∃ π1 av1, π1 H.length = some (w0.heap.size, 0) ∧ Ev (wrK B av true) π w0 av π1 (w0.alloc (.loop { state := .ready, pending := none, fn := b.fn, tmps := tm, params := params, assign := a, body := c, defers := df })) av1 ∧ Res P B (wrK B av true) π H w av ex (H ++ [.loop { env := keepE ks e, params := ps, assign := x, body := y, st := .ready, pend := none }])
        (w0.alloc (.loop { state := .ready, pending := none, fn := b.fn, tmps := tm, params := params, assign := a, body := c, defers := df })) π1 av1 := by
    intro df w0 hs0 he0 hr0
    have := Res.new (P := P) (wrK B av true) hs0.hr (hs0.dom _ (Nat.le_refl _)) (.loop { state := .ready, pending := none, fn := b.fn, tmps := tm, params := params, assign := a, body := c, defers := df }) (.loop { env := keepE ks e, params := ps, assign := x, body := y, st := .ready, pend := none }) (by simp)
      (fun π' w' av' e' => by
        simp only [ORel]
        exact ⟨trivial, trivial, trivial, (he0.mono e' (fun _ _ x => x.elim)).keep ks, hp.symm, hps, hx, hy⟩)
    exact ⟨_, _, PMap.add_self _ _ _, this.ev, Res.trans (W := true) hr0 this⟩
  obtain ⟨rs, hds, hnd, hrs⟩ := hd
  cases hr : b.roundOf with
  | none =>
    have h0 := Res.alloc true hs.hr (.deferred (some []))
    obtain ⟨π1, av1, h1, h2, h3⟩ := key w.heap.size (w.alloc (.deferred (some []))) (hs.alloc _) (he.mono h0.ev (wrK_av true)) h0
    refine ⟨_, [mkD w.heap.size], _, π1, av1, ?_, ?_, h1, h3⟩
    · simp [Instr.enterLoop, mkD]
    · refine ⟨w.heap.size :: rs, by simp [hds, mkD], List.nodup_cons.2 ⟨fun hm => ?_, hnd⟩, ?_⟩
      · have := (Array.getElem?_eq_some_iff.1 (hrs _ hm).2.2).1; omega
      · intro r hm
        simp only [List.mem_cons] at hm
        rcases hm with rfl | hm
        · refine ⟨hW, fun hx => ?_, ?_⟩
          · have := hs.hr.avb _ (h2.sub _ (by simp) hx); omega
          · rw [heap_push_lt _ _ (by simp), heap_push_eq]
        · obtain ⟨c1, c2, c3⟩ := hrs r hm
          have hlt := (Array.getElem?_eq_some_iff.1 c3).1
          refine ⟨c1, fun hx => c2 (h2.sub r (by simp; omega) hx), ?_⟩
          rw [heap_push_lt _ _ (by simp; omega), heap_push_lt _ _ hlt, c3]
  | some l0 =>
    obtain ⟨r0, hr0⟩ := hb l0 hr
    obtain ⟨π1, av1, h1, h2, h3⟩ := key r0.defers w hs he (Res.same _ hs.hr)
    refine ⟨_, [], _, π1, av1, ?_, ?_, h1, h3⟩
    · simp [Instr.enterLoop, Instr.getLoop, getObj, Sem.run, hr0]
    · refine ⟨rs, by simpa using hds, hnd, fun r hm => ?_⟩
      obtain ⟨c1, c2, c3⟩ := hrs r hm
      have hlt := (Array.getElem?_eq_some_iff.1 c3).1
      exact ⟨c1, fun hx => c2 (h2.sub r hlt hx), by rw [heap_push_lt _ _ hlt, c3]⟩

theorem rfunc_sound {R : Rec} (hR : CodeOk P pg Gz R) (hF : FnsOk P pg) {tm : Array Value} {f : Opnd} {ps ks : List Nat} {x y : DC} {e : Env} {out : Out} {f' : Operand} {params : Array Tmp} {a c : Code} {k : List Item} (h : runC pg R (.rfunc f ps x y ks) e H = some out)
    (hc : chkC P N (.rfunc f ps x y ks) (.rangeFunc f' params a c) = true) (hs : St P pg Gz B π H w av ex) (he : ERel π w av ex e tm) (hsz : tm.size = N) (hb : RoundOk b w) (hd : DefOk W0 w av ds) (hW : W0 ≤ w.heap.size) :
    Done P pg B W0 N b tm (.code (.rangeFunc f' params a c) :: k) k ds cs π H w av ex out := by
  subst hsz
  simp only [chkC, Bool.and_eq_true, beq_iff_eq] at hc
  obtain ⟨⟨⟨⟨hf, hp⟩, hps⟩, hx⟩, hy⟩ := hc
  simp only [runC, Option.bind_eq_some_iff] at h
  obtain ⟨fv, hfv, ⟨t, H2⟩, hcall, h⟩ := h
  have hfr := evalO_sound hs.toSt0 he hf hfv
  obtain ⟨l, mark, w1, π1, av1, h1, hd1, hl, hr1⟩ := enter_sound (ks := ks) (b := b) hs he hb hd hW hp hps hx hy
  have hs1 := hs.nextK hr1
  have hfr1 := hfr.mono hr1.ev (wrK_av true)
  obtain ⟨nx, frm, h2, h3, h4⟩ := call_sh hR hF hcall hs1 hfr1 (us := #[.func (.yield l) #[] #[]]) (.cons _ _ _ _ (.yl _ _ hl) .nil)
  obtain ⟨v, w2, π2, av2, hst2, _, hr2⟩ := h4 (fr b tm (.inRangeFunc l :: k) (mark ++ ds)) cs
  have hs2 := hs1.nextK hr2
  have hl2 := hr2.ev.map _ _ hl
  simp only at h
  split at h <;> try (cases h; done)
  rename_i L hL
  split at h <;> try (cases h; done)
  rename_i hnb
  injection h with h
  subst h
  obtain ⟨r, hg, ho, hav, hB⟩ := loop_at hs2 hl2 hL
  have ho' := ho
  simp only [ORel] at ho
  obtain ⟨_, hst0, hpend, henv, hpar, hpall, hca, hcb⟩ := ho
  have hr3 := Res.setLoop (L' := { L with st := .exhausted }) (r' := { r with state := .exhausted }) hs2 hl2 hL hg (by
    simp only [ORel]; exact ⟨trivial, trivial, hpend, henv, hpar, hpall, hca, hcb⟩)
  have hstep3 := st_endRange (P := P) (b := b) (ds := mark ++ ds) (cs := cs) (tm := tm) (k := k) hg (by rw [hst0]; exact hnb)
  have hr12 := Res.trans (W := true) hr1 hr2
  have hr13 := Res.trans (W := true) hr12 hr3
  refine ⟨tm, (r.pending.map Item.code).toList ++ k, mark ++ ds, _, π2, av2, .head (rfunc_enter h1 h2 h3) (hst2.trans (.one hstep3)), rfl, ?_, ?_, (hd1.next hr2.ev).next hr3.ev, hr13⟩
  · cases hpd : L.pend with
    | none =>
      rw [hpd] at hpend
      cases hq : r.pending with
      | none => simp [ExTo]
      | some j => rw [hq] at hpend; simp [PendRel] at hpend
    | some p =>
      rw [hpd] at hpend
      cases hq : r.pending with
      | none => rw [hq] at hpend; cases p <;> simp [PendRel] at hpend
      | some j =>
        rw [hq] at hpend
        cases p <;> cases j <;> simp only [PendRel] at hpend
        · subst hpend; exact ⟨k, rfl, rfl⟩
        · exact ⟨k, rfl⟩
  · exact (he.mono hr13.ev (wrK_av true)).keep ks

theorem Done.of_steps {tm : Array Value} {c c' k : List Item} {out : Out} (hst : Steps P (lone (fr b tm c ds) cs w) (lone (fr b tm c' ds) cs w)) (h : Done P pg B W0 N b tm c' k ds cs π H w av ex out) : Done P pg B W0 N b tm c k ds cs π H w av ex out := by
  obtain ⟨tm', td, ds', w', π', av', h1, h2⟩ := h
  exact ⟨tm', td, ds', w', π', av', hst.trans h1, h2⟩

/-- going on from where a part ended -/
theorem Done.bind {tm tm' : Array Value} {c k c' : List Item} {ds' : List Deferred} {w' : World} {π' : PMap} {av' : Nat → Prop} {H' : Heap} {out : Out} (h1 : Steps P (lone (fr b tm c ds) cs w) (lone (fr b tm' c' ds') cs w')) (hr : Res P B (wrK B av true) π H w av ex H' w' π' av')
    (h : Done P pg B W0 N b tm' c' k ds' cs π' H' w' av' ex out) : Done P pg B W0 N b tm c k ds cs π H w av ex out := by
  obtain ⟨tm2, td, ds2, w2, π2, av2, k1, k2, k3, k4, k5, k6⟩ := h
  exact ⟨tm2, td, ds2, w2, π2, av2, h1.trans k1, k2, k3, k4, k5, Res.trans (W := true) hr k6⟩

theorem Done.stop {tm : Array Value} {c : List Item} {k : List Item} {x : Ex} {e : Env} (hx : ExTo x k c) (hs : St P pg Gz B π H w av ex) (he : ERel π w av ex e tm) (hsz : tm.size = N) (hd : DefOk W0 w av ds) : Done P pg B W0 N b tm c k ds cs π H w av ex ⟨x, e, H⟩ :=
  ⟨tm, c, ds, w, π, av, Steps.refl _ _, hsz, hx, he, hd, Res.same _ hs.hr⟩
end

theorem runC_sound {R : Rec} (hm : P.follows .mixedOrders = true) (hR : CodeOk P pg Gz R) (hF : FnsOk P pg) (hS : SumOk P pg Gz) : CodeOk P pg Gz (runC pg R) := by
  intro dc
  have main : ∀ e H out, runC pg R dc e H = some out → ∀ N c, chkC P N dc c = true →
      ∀ (b : Frame) (tm : Array Value) (k : List Item) (ds : List Deferred) (cs : List Frame) (w : World) (π : PMap) (av ex : Nat → Prop) (B W0 : Nat), St P pg Gz B π H w av ex → ERel π w av ex e tm → tm.size = N → RoundOk b w → DefOk W0 w av ds → W0 ≤ w.heap.size →
        Done P pg B W0 N b tm (.code c :: k) k ds cs π H w av ex out := by
    induction dc with
    | skip =>
      intro e H out h N c hc b tm k ds cs w π av ex B W0 hs he hsz hb hd hW
      simp only [runC, Option.some.injEq] at h
      subst h
      cases c <;> simp only [chkC, Bool.false_eq_true] at hc
      · exact Done.of_steps (.one st_skip) (Done.stop (x := .normal) rfl hs he hsz hd)
      · exact Done.of_steps (.one st_label) (Done.stop (x := .normal) rfl hs he hsz hd)
    | reg ops ks =>
      intro e H out h N c hc b tm k ds cs w π av ex B W0 hs he hsz hb hd hW
      simp only [runC, Option.map_eq_some_iff] at h
      obtain ⟨⟨e', H'⟩, h, rfl⟩ := h
      cases c <;> simp only [chkC, Bool.false_eq_true] at hc
      rename_i id os draw
      simp only [Bool.and_eq_true, Bool.or_eq_true, Bool.not_eq_true'] at hc
      obtain ⟨hco, hdr⟩ := hc
      have hlen : ops.length = os.size := by simpa using (chkOpers_get hco).1
      cases draw with
      | false =>
        obtain ⟨tm', w', π', av', h1, h2, h3, h4⟩ := region_sound h hs he hsz hR hF hS hco (sched_text ops) b k ds cs
        rw [hlen] at h1
        exact ⟨tm', k, ds, w', π', av', .head st_region h1, h2, rfl, h3.keep ks, hd.next h4.ev, h4⟩
      | true =>
        have hdr' : drawOk ops os = true := by rcases hdr with x | x <;> first | cases x | exact x
        have h0 := Res.drawn (P := P) (B := B) (wrK B av true) hs.hr (w.drawn + 1)
        have hs0 := hs.nextK h0
        obtain ⟨tm', w', π', av', h1, h2, h3, h4⟩ := region_sound h hs0 (he.mono h0.ev (wrK_av true)) hsz hR hF hS hco (sched_draw hdr' hlen (w.tape w.drawn (.order b.fn id))) b k ds cs
        have h5 := Res.trans (W := true) h0 h4
        refine ⟨tm', k, ds, w', π', av', .head st_region_draw ?_, h2, rfl, h3.keep ks, hd.next h5.ev, h5⟩
        simp only [Region.schedule, hm, Bool.true_or, if_true]
        exact h1
    | seq x y ihx ihy =>
      intro e H out h N c hc b tm k ds cs w π av ex B W0 hs he hsz hb hd hW
      simp only [runC, Option.bind_eq_some_iff] at h
      obtain ⟨o, ho, h⟩ := h
      cases c <;> simp only [chkC, Bool.false_eq_true, Bool.and_eq_true] at hc
      rename_i c1 c2
      obtain ⟨tm', td, ds', w', π', av', h1, h2, h3, h4, h5, h6⟩ := ihx _ _ _ ho N c1 hc.1 b tm (.code c2 :: k) ds cs w π av ex B W0 hs he hsz hb hd hW
      refine Done.of_steps (.one st_seq) ?_
      split at h
      · rename_i hn
        rw [hn] at h3
        have : td = .code c2 :: k := h3
        subst this
        exact Done.bind h1 h6 (ihy _ _ _ h N c2 hc.2 b tm' k ds' cs w' π' av' ex B W0 (hs.nextK h6) h4 h2 (hb.next h6.ev) h5 (Nat.le_trans hW h6.ev.len))
      · rename_i hn
        injection h with h
        subst h
        exact ⟨tm', td, ds', w', π', av', h1, h2, h3.under hn (by simp), h4, h5, h6⟩
    | cond cd x y ihx ihy =>
      intro e H out h N c hc b tm k ds cs w π av ex B W0 hs he hsz hb hd hW
      simp only [runC] at h
      cases c <;> simp only [chkC, Bool.false_eq_true, Bool.and_eq_true] at hc
      rename_i cd' c1 c2
      split at h <;> try (cases h; done)
      rename_i t ht
      have hv := (evalO_sound hs.toSt0 he hc.1.1 ht).b_inv
      refine Done.of_steps (.one (st_cond hv)) ?_
      split at h
      · rename_i htt
        simp only [htt, if_true]
        exact ihx _ _ _ h N c1 hc.1.2 b tm k ds cs w π av ex B W0 hs he hsz hb hd hW
      · rename_i htt
        rw [if_neg htt]
        exact ihy _ _ _ h N c2 hc.2 b tm k ds cs w π av ex B W0 hs he hsz hb hd hW
    | block id x ih =>
      intro e H out h N c hc b tm k ds cs w π av ex B W0 hs he hsz hb hd hW
      simp only [runC, Option.map_eq_some_iff] at h
      obtain ⟨o, ho, h⟩ := h
      cases c <;> simp only [chkC, Bool.false_eq_true, Bool.and_eq_true, beq_iff_eq] at hc
      rename_i id' c1
      obtain ⟨rfl, hc⟩ := hc
      obtain ⟨tm', td, ds', w', π', av', h1, h2, h3, h4, h5, h6⟩ := ih _ _ _ ho N c1 hc b tm (.inBlock id :: k) ds cs w π av ex B W0 hs he hsz hb hd hW
      refine Done.of_steps (.one st_block) ?_
      cases hx : o.ex with
      | normal =>
        rw [hx] at h h3
        rw [if_neg (by simp)] at h
        subst h
        have : td = .inBlock id :: k := h3
        subst this
        exact ⟨tm', k, ds', w', π', av', h1.trans (.one st_inBlock), h2, by rw [hx]; rfl, h4, h5, h6⟩
      | exit i =>
        rw [hx] at h h3
        obtain ⟨K, rfl, hK⟩ := h3
        rw [exitTo_block] at hK
        split at h
        · rename_i hi
          injection hi with hi
          subst hi
          rw [if_pos rfl] at hK
          subst h
          exact ⟨tm', k, ds', w', π', av', h1.trans (.one (st_exit hK)), h2, rfl, h4, h5, h6⟩
        · rename_i hi
          subst h
          rw [if_neg (fun hh => hi (by rw [hh]))] at hK
          exact ⟨tm', _, ds', w', π', av', h1, h2, by rw [hx]; exact ⟨K, rfl, hK⟩, h4, h5, h6⟩
      | ret =>
        rw [hx] at h h3
        rw [if_neg (by simp)] at h
        subst h
        exact ⟨tm', td, ds', w', π', av', h1, h2, by rw [hx]; exact h3, h4, h5, h6⟩
    | scope x ih =>
      intro e H out h N c hc b tm k ds cs w π av ex B W0 hs he hsz hb hd hW
      simp only [runC] at h
      cases c <;> simp only [chkC, Bool.false_eq_true] at hc
      rename_i c1
      obtain ⟨tm', td, ds', w', π', av', h1, h2, h3, h4, h5, h6⟩ := ih _ _ _ h N c1 hc b tm (.inScope c1 :: k) ds cs w π av ex B W0 hs he hsz hb hd hW
      refine Done.of_steps (.one st_scope) ?_
      by_cases hn : out.ex = .normal
      · rw [hn] at h3
        have : td = .inScope c1 :: k := h3
        subst this
        exact ⟨tm', k, ds', w', π', av', h1.trans (.one st_inScope), h2, by rw [hn]; rfl, h4, h5, h6⟩
      · exact ⟨tm', td, ds', w', π', av', h1, h2, h3.under hn (by simp), h4, h5, h6⟩
    | loop ks x ih =>
      intro e H out h N c hc b tm k ds cs w π av ex B W0 hs he hsz hb hd hW
      simp only [runC, Option.bind_eq_some_iff] at h
      obtain ⟨o, ho, h⟩ := h
      have hc0 := hc
      cases c <;> simp only [chkC, Bool.false_eq_true] at hc
      rename_i c1
      obtain ⟨tm', td, ds', w', π', av', h1, h2, h3, h4, h5, h6⟩ := ih _ _ _ ho N c1 hc b tm (.inLoop c1 :: k) ds cs w π av ex B W0 hs (he.keep ks) hsz hb hd hW
      refine Done.of_steps (.one st_loop) ?_
      split at h
      · rename_i hn
        rw [hn] at h3
        have : td = .inLoop c1 :: k := h3
        subst this
        obtain ⟨tm2, td2, ds2, w2, π2, av2, k1, k2, k3, k4, k5, k6⟩ := hR _ _ _ _ h N (.loop c1) hc0 b tm' k ds' cs w' π' av' ex B W0 (hs.nextK h6) h4 h2 (hb.next h6.ev) h5 (Nat.le_trans hW h6.ev.len)
        refine ⟨tm2, td2, ds2, w2, π2, av2, h1.trans (.head st_inLoop (Steps.tail k1 st_loop ?_)), k2, k3, k4, k5, Res.trans (W := true) h6 k6⟩
        intro heq
        have htd : .code (.loop c1) :: k = td2 := by
          have := congrArg (fun m : Machine => (m.gs[0]?).map fun g => g.frame.todo) heq
          simpa [lone, fr] using this
        subst htd
        cases hx : out.ex with
        | normal => rw [hx] at k3; have := congrArg List.length (show Item.code (.loop c1) :: k = k from k3); simp at this
        | exit i => rw [hx] at k3; obtain ⟨K, hK, _⟩ := k3; cases hK
        | ret => rw [hx] at k3; obtain ⟨K, hK⟩ := k3; cases hK
      · rename_i hn
        injection h with h
        subst h
        exact ⟨tm', td, ds', w', π', av', h1, h2, h3.under hn (by simp), h4, h5, h6⟩
    | exit id =>
      intro e H out h N c hc b tm k ds cs w π av ex B W0 hs he hsz hb hd hW
      simp only [runC, Option.some.injEq] at h
      subst h
      cases c <;> simp only [chkC, Bool.false_eq_true, beq_iff_eq] at hc
      subst hc
      exact Done.stop (x := .exit id) ⟨k, rfl, rfl⟩ hs he hsz hd
    | ret =>
      intro e H out h N c hc b tm k ds cs w π av ex B W0 hs he hsz hb hd hW
      simp only [runC, Option.some.injEq] at h
      subst h
      cases c <;> simp only [chkC, Bool.false_eq_true] at hc
      exact Done.stop (x := .ret) ⟨k, rfl⟩ hs he hsz hd
    | rfunc f ps as bd ks iha ihb =>
      intro e H out h N c hc b tm k ds cs w π av ex B W0 hs he hsz hb hd hW
      cases c <;> simp only [chkC, Bool.false_eq_true] at hc
      exact rfunc_sound hR hF h (by simpa only [chkC] using hc) hs he hsz hb hd hW
    | bad => intro e H out h; simp [runC] at h
  intro e H out h N c hc b tm k ds cs w π av ex B W0 hs he hsz hb hd hW
  exact main e H out h N c hc b tm k ds cs w π av ex B W0 hs he hsz hb hd hW

theorem denN_sound (hm : P.follows .mixedOrders = true) (hF : FnsOk P pg) (hS : SumOk P pg Gz) : ∀ n, CodeOk P pg Gz (denN pg n)
  | 0 => fun _ _ _ _ h => by simp [denN] at h
  | n + 1 => runC_sound hm (denN_sound hm hF hS n) hF hS

end Go.Dn
