/-
  Regions, part 3: one operation, a whole row of them, the orders that may come.
-/
import Derived.Test.YtegihfgibonhpaaDnReg2
import Derived.Orders
set_option linter.unusedVariables false
set_option linter.unusedSimpArgs false
namespace Go.Dn

theorem get_keepE_mem {ks : List Nat} {e : Env} {s : Nat} (h : s ∈ ks) : get (keepE ks e) s = get e s := by
  cases hs : get e s with
  | none =>
    cases hk : get (keepE ks e) s with
    | none => rfl
    | some t => rw [get_keepE ks e s t hk] at hs; cases hs
  | some t =>
    induction ks with
    | nil => cases h
    | cons k ks ih =>
      unfold keepE
      simp only [List.filterMap_cons]
      by_cases hk : k = s
      · subst hk; simp [hs, Dn.get]
      · have := ih (by simpa [Ne.symm hk] using h)
        cases hg : get e k with
        | none => simpa [keepE] using this
        | some v => simpa [keepE, Dn.get, hk] using this

theorem mapO_congr {α β : Type} {f g : α → Option β} : ∀ {l : List α}, (∀ x, x ∈ l → f x = g x) → mapO f l = mapO g l
  | [], _ => rfl
  | x :: l, h => by simp only [mapO]; rw [h x (by simp), mapO_congr fun y hy => h y (by simp [hy])]

theorem chkK_defer {P : Program} {k : DK} {a : List Opnd} {c : Call} (h : chkK P k a (.defer c) = true) : k = .never := by
  cases k <;> simp [chkK] at h ⊢

theorem chkOpers_get {P : Program} {N : Nat} {os : Array Oper} : ∀ {as : List DOper} {bs : List Oper}, chkOpers P N os as bs = true → as.length = bs.length ∧ ∀ j, j < as.length → ∃ o, bs[j]? = some o ∧ chkOper P N os (D as j) o = true
  | [], [], _ => ⟨rfl, fun j hj => by simp at hj⟩
  | a :: as, b :: bs, h => by
    simp only [chkOpers, Bool.and_eq_true] at h
    obtain ⟨h1, h2⟩ := chkOpers_get h.2
    refine ⟨by simp [h1], fun j hj => ?_⟩
    cases j with
    | zero => exact ⟨b, rfl, h.1⟩
    | succ j => simpa [D] using h2 j (by simpa using hj)
  | [], _ :: _, h => by simp [chkOpers] at h
  | _ :: _, [], h => by simp [chkOpers] at h

section
variable {P : Program} {pg : Pg} {Gz : Nat} {R : Rec} {ds : List DOper} {E : Nat → Env} {Hh : Nat → Heap} {V : Nat → TV} {N B : Nat} {π0 π : PMap} {w0 w : World} {av0 av ex : Nat → Prop} {S : Nat → Prop} {tm : Array Value} {j : Nat}

theorem Inv.st0 (hi : Inv P N ds E Hh B π0 w0 av0 ex S π w av tm) (hs : St P pg Gz B π0 (Hh 0) w0 av0 ex) {H : Heap} (h : HRel P B π H w av ex) : St0 P pg Gz B π H w av ex where
  hr := h
  gl := hs.gl.mono hi.ev (wrK_gz hs true)
  avg g hg := by
    rcases Nat.lt_or_ge g w0.heap.size with x | x
    · exact hs.avg g (hi.ev.sub g x hg)
    · have := hs.hr.bsz; have := hs.gB; omega
  exg := hs.exg
  gB := hs.gB

theorem wanted_of {os : Array Oper} {o : Oper} {d : DOper} {e : Env} {x : Bool} (hg : chkG os d.g o.guard = true) (hr : guardRun e d.g = some x) (hs : ∀ s t, s ∈ d.names → get e s = some t → VRel π w av ex t (tm.getD s undef)) :
    Region.wanted o (yielded os tm) = x := by
  cases hd : d.g with
  | none =>
    rw [hd] at hg hr
    cases ho : o.guard with
    | none => simp [guardRun] at hr; subst hr; simp [Region.wanted, ho]
    | some p => rw [ho] at hg; simp [chkG] at hg
  | some p =>
    obtain ⟨s, want⟩ := p
    rw [hd] at hg hr
    cases ho : o.guard with
    | none => rw [ho] at hg; simp [chkG] at hg
    | some q =>
      obtain ⟨i, want'⟩ := q
      rw [ho] at hg
      simp only [chkG, Bool.and_eq_true, beq_iff_eq] at hg
      obtain ⟨rfl, hdst⟩ := hg
      simp only [guardRun] at hr
      split at hr <;> try (cases hr; done)
      rename_i x' hx
      injection hr with hr
      have hv := (hs s (.b x') (by simp [DOper.names, hd]) hx).b_inv
      have hy : yielded os tm i = some x' := by
        have hlt : s < tm.size := by
          rcases Nat.lt_or_ge s tm.size with h | h
          · exact h
          · rw [Array.getD_eq_getD_getElem?, Array.getElem?_eq_none h] at hv; cases hv
        have : tm[s]? = some (.bool x') := by
          rw [Array.getD_eq_getD_getElem?, Array.getElem?_eq_getElem hlt] at hv
          rw [Array.getElem?_eq_getElem hlt]
          simpa using hv
        simp [yielded, hdst, this]
      simp only [Region.wanted, ho, hy]
      rw [← hr]
      cases x' <;> cases want <;> rfl

theorem exec_one (hi : Inv P N ds E Hh B π0 w0 av0 ex S π w av tm) (hs : St P pg Gz B π0 (Hh 0) w0 av0 ex) (ht : Tr pg R ds E Hh V) (hm : May ds S j) (hR : CodeOk P pg Gz R) (hF : FnsOk P pg) (hSm : SumOk P pg Gz) {os : Array Oper} {o : Oper} (ho : os[j]? = some o) (hc : chkOper P N os (D ds j) o = true)
    (b : Frame) (rest : List Nat) (k : List Item) (dd : List Deferred) (cs : List Frame) :
    ∃ v w' π' av', Steps P (lone (fr b tm (.inRegion os (j :: rest) :: k) dd) cs w) (lone (fr b (putT tm (D ds j).d v) (.inRegion os rest :: k) dd) cs w') ∧ VRel π' w' av' ex (V j) v ∧
      (if (D ds j).k.P = true then Res P B (wrK B av false) π [] w av ex [] w' π' av' else Res P B (wrK B av (D ds j).k.W) π (Hh j) w av ex (Hh (j + 1)) w' π' av') := by
  simp only [chkOper, Bool.and_eq_true, beq_iff_eq] at hc
  obtain ⟨⟨⟨hdst, hdN⟩, hg⟩, hk⟩ := hc
  have hslot : ∀ s t, s ∈ (D ds j).names → get (E j) s = some t → VRel π w av ex t (tm.getD s undef) := fun s t hsn hst => hi.slot s j (Nat.le_of_lt hm.lt) (hm.slots hsn) t hst
  have hheap : (D ds j).k.P = false → HRel P B π (Hh j) w av ex := fun hp => hi.heap j (Nat.le_of_lt hm.lt) (hm.cutW hp)
  rcases ht.run j hm.lt with ⟨hgr, hV, hH⟩ | ⟨hgr, vs, hvs, hrun⟩
  · refine ⟨undef, w, π, av, .one ?_, by rw [hV]; exact .undef _, ?_⟩
    · have := st_op_skip (P := P) (b := b) (tm := tm) (k := k) (ds := dd) (cs := cs) (w := w) (ops := os) (i := j) (rest := rest) (by rw [ho]; exact wanted_of hg hgr hslot)
      rw [ho] at this
      rw [hdst]
      exact this
    · split
      · exact Res.same _ hi.base
      · rename_i hp
        rw [hH]
        exact Res.same _ (hheap (Bool.eq_false_iff.2 hp))
  · have hwant : Region.wanted o (yielded os tm) = true := wanted_of hg hgr hslot
    -- the operands
    have hops : ∀ {H : Heap}, HRel P B π H w av ex → ∀ xs, chkOs (D ds j).a xs = true → VsRel π w av ex vs (xs.map (ev tm)) := by
      intro H hH xs hx
      have he : ERel π w av ex (keepE (D ds j).names (E j)) tm := fun s t hst => by
        have h1 := get_keepE _ _ _ _ hst
        have h2 : s ∈ (D ds j).names := by
          by_cases h : s ∈ (D ds j).names
          · exact h
          · exfalso
            have : ∀ ks : List Nat, s ∉ ks → get (keepE ks (E j)) s = none := by
              intro ks
              induction ks with
              | nil => intro _; rfl
              | cons a ks ih =>
                intro hn
                unfold keepE
                simp only [List.filterMap_cons]
                have h1 := ih (fun x => hn (by simp [x]))
                have h2 : a ≠ s := fun x => hn (by simp [x])
                cases get (E j) a with
                | none => simpa [keepE] using h1
                | some v => simpa [keepE, Dn.get, h2] using h1
            rw [this _ h] at hst; cases hst
        exact hslot s t h2 h1
      refine evalOs_sound (hi.st0 hs hH) he hx ?_
      rw [← hvs]
      refine mapO_congr fun y hy => ?_
      cases y with
      | t s =>
        simp only [evalO]
        exact get_keepE_mem (by
          simp only [DOper.names, List.mem_append, List.mem_filterMap]
          exact .inl (.inr ⟨.t s, hy, rfl⟩))
      | c v => rfl
      | g n => rfl
    have hnd : ∀ c, o.op ≠ .defer c := by
      intro c hcd
      rw [hcd] at hk
      have hkn := chkK_defer hk
      rw [hkn] at hrun
      simp only [valRun, dk] at hrun
      cases hrun
    unfold valRun at hrun
    split at hrun
    · -- a call
      rename_i m hkm
      rw [hkm] at hk
      have hp : (D ds j).k.P = false := by rw [hkm]; rfl
      have hif : ∀ X Y : Prop, (if (D ds j).k.P = true then X else Y) = Y := fun X Y => if_neg (by rw [hp]; exact Bool.false_ne_true)
      simp only [hif]
      obtain ⟨f, args, at', hop, hx⟩ : ∃ f args ats, o.op = .call { callee := .value f, args := args, argTypes := ats } ∧ chkOs (D ds j).a (f :: args.toList) = true := by
        cases hop : o.op <;> rw [hop] at hk <;> (try (simp [chkK] at hk; done))
        rename_i c
        obtain ⟨cl, args, ats⟩ := c
        cases cl <;> simp [chkK] at hk
        exact ⟨_, _, _, rfl, hk⟩
      have hH := hheap hp
      have hargs := hops hH _ hx
      have hex : execOp (ev tm) o = invokeS (ev tm f) (args.map (ev tm)) := by
        simp only [execOp, hop, resolve, invokeS]
      rcases vs with _ | ⟨v0, vs⟩
      · cases hargs
      cases hargs with | cons _ _ _ _ hv0 hvs' =>
      have hvs2 : VsRel π w av ex vs (args.map (ev tm)).toList := by simpa using hvs'
      have fin : ∀ {W : Bool} {nx : Next} {frm : Frame} {H' : Heap}, (invokeS (ev tm f) (args.map (ev tm))).run P w = .ok nx w → callee P nx = some frm → CallRes P B W π (Hh j) w av ex (V j) H' frm →
          ∃ v w' π' av', Steps P (lone (fr b tm (.inRegion os (j :: rest) :: k) dd) cs w) (lone (fr b (putT tm (D ds j).d v) (.inRegion os rest :: k) dd) cs w') ∧ VRel π' w' av' ex (V j) v ∧ Res P B (wrK B av W) π (Hh j) w av ex H' w' π' av' := by
        intro W nx frm H' h1 h2 h3
        obtain ⟨v, w', π', av', hst, hv, hres⟩ := h3 (fr b tm (.inRegion os (j :: rest) :: k) dd) cs
        refine ⟨v, w', π', av', .head (st_call ho hwant hnd (by rw [hex]; exact h1) h2) ?_, hv, hres⟩
        have := fr_finish (b := b) (tm := tm) (k := k) (ds := dd) os j rest v
        rw [ho] at this
        rw [this] at hst
        rw [show (D ds j).d = o.dst from hdst]
        exact hst
      cases m with
      | sh =>
        have hst : St P pg Gz B π (Hh j) w av ex := { hi.st0 hs hH with dom := fun id hid => hi.free ht hm hp hs.dom hid (.inl (by rw [hkm]; rfl)) }
        obtain ⟨nx, frm, h1, h2, h3⟩ := call_sh hR hF hrun hst hv0 hvs2
        rw [hkm]
        exact fin h1 h2 h3
      | pu ks =>
        obtain ⟨hHe, nx, frm, h1, h2, h3⟩ := call_pu hR hF hSm hrun (hi.st0 hs hH) hv0 hvs2
        rw [hkm, hHe]
        exact fin h1 h2 h3
    · have fin : ∀ {W : Bool} {H H' : Heap}, OpOk P B W π H w av ex ((execOp (ev tm) o).run P w) (V j) H' →
          ∃ v w' π' av', Steps P (lone (fr b tm (.inRegion os (j :: rest) :: k) dd) cs w) (lone (fr b (putT tm (D ds j).d v) (.inRegion os rest :: k) dd) cs w') ∧ VRel π' w' av' ex (V j) v ∧ Res P B (wrK B av W) π H w av ex H' w' π' av' := by
        intro W H H' h
        obtain ⟨nx, w', π', av', h1, h2, h3⟩ := h
        rw [show (D ds j).d = o.dst from hdst]
        rcases h2 with ⟨v, rfl, hv⟩ | ⟨rfl, hv⟩
        · exact ⟨v, w', π', av', .one (st_value ho hwant hnd h1), hv, h3⟩
        · exact ⟨undef, w', π', av', .one (st_skipv ho hwant hnd h1), by rw [hv]; exact .undef _, h3⟩
      by_cases hp : (D ds j).k.P = true
      · have hif : ∀ X Y : Prop, (if (D ds j).k.P = true then X else Y) = X := fun X Y => if_pos hp
        simp only [hif]
        obtain ⟨_, hd⟩ := dk_pure hrun hp
        have hW : (D ds j).k.W = false := by
          cases hw : (D ds j).k.W with
          | false => rfl
          | true => rw [DK.W_P hw] at hp; cases hp
        have := dk_sound (P := P) (B := B) (π := π) (w := w) (av := av) (ex := ex) (o := o) hi.base (fun x => by simp at x) hd hk (hops hi.base)
        rw [hW] at this
        exact fin this
      · have hif : ∀ X Y : Prop, (if (D ds j).k.P = true then X else Y) = Y := fun X Y => if_neg hp
        simp only [hif]
        have hp' : (D ds j).k.P = false := Bool.eq_false_iff.2 hp
        exact fin (dk_sound (hheap hp') (fun x => hi.free ht hm hp' hs.dom (Nat.le_refl _) (.inr x)) hrun hk (hops (hheap hp')))
end

/-! ### orders -/
def Sched (ds : List DOper) : (Nat → Prop) → List Nat → Prop
  | S, [] => ∀ i, i < ds.length → S i
  | S, j :: rest => May ds S j ∧ Sched ds (fun i => S i ∨ i = j) rest

section
variable {P : Program} {pg : Pg} {Gz : Nat} {R : Rec} {ds : List DOper} {E : Nat → Env} {Hh : Nat → Heap} {V : Nat → TV} {N B : Nat} {π0 : PMap} {w0 : World} {av0 ex : Nat → Prop}

theorem run_order (hs : St P pg Gz B π0 (Hh 0) w0 av0 ex) (ht : Tr pg R ds E Hh V) (hR : CodeOk P pg Gz R) (hF : FnsOk P pg) (hSm : SumOk P pg Gz) {os : Array Oper} (hc : chkOpers P N os ds os.toList = true) (b : Frame) (k : List Item) (dd : List Deferred) (cs : List Frame) :
    ∀ (order : List Nat) (S : Nat → Prop) (π : PMap) (w : World) (av : Nat → Prop) (tm : Array Value), Sched ds S order → Inv P N ds E Hh B π0 w0 av0 ex S π w av tm →
      ∃ π' w' av' tm' S', (∀ i, i < ds.length → S' i) ∧ Inv P N ds E Hh B π0 w0 av0 ex S' π' w' av' tm' ∧ Steps P (lone (fr b tm (.inRegion os order :: k) dd) cs w) (lone (fr b tm' (.inRegion os [] :: k) dd) cs w')
  | [], S, π, w, av, tm, hS, hi => ⟨π, w, av, tm, S, hS, hi, Steps.refl _ _⟩
  | j :: rest, S, π, w, av, tm, hS, hi => by
    obtain ⟨hm, hS⟩ := hS
    obtain ⟨hl, hg⟩ := chkOpers_get hc
    obtain ⟨o, ho, hco⟩ := hg j hm.lt
    have ho' : os[j]? = some o := by simpa using ho
    obtain ⟨v, w', π', av', h1, h2, h3⟩ := exec_one hi hs ht hm hR hF hSm ho' hco b rest k dd cs
    have hdN : ∀ d, (D ds j).d = some d → d < N := by
      intro d hd
      simp only [chkOper, Bool.and_eq_true, beq_iff_eq] at hco
      have := hco.1.1.2
      rw [hd] at this
      simpa using this
    obtain ⟨π2, w2, av2, tm2, S2, k1, k2, k3⟩ := run_order hs ht hR hF hSm hc b k dd cs rest _ π' w' av' _ hS (hi.step ht hm hdN hs.dom h2 h3)
    exact ⟨π2, w2, av2, tm2, S2, k1, k2, h1.trans k3⟩

theorem region_sound {e e' : Env} {H H' : Heap} {w : World} {π : PMap} {av : Nat → Prop} {tm : Array Value} (h : opsRun pg R ds e H = some (e', H')) (hs : St P pg Gz B π H w av ex) (he : ERel π w av ex e tm) (hsz : tm.size = N) (hR : CodeOk P pg Gz R) (hF : FnsOk P pg) (hSm : SumOk P pg Gz)
    {os : Array Oper} (hc : chkOpers P N os ds os.toList = true) {order : List Nat} (ho : Sched ds (fun _ => False) order) (b : Frame) (k : List Item) (dd : List Deferred) (cs : List Frame) :
    ∃ tm' w' π' av', Steps P (lone (fr b tm (.inRegion os order :: k) dd) cs w) (lone (fr b tm' k dd) cs w') ∧ tm'.size = N ∧ ERel π' w' av' ex e' tm' ∧ Res P B (wrK B av true) π H w av ex H' w' π' av' := by
  obtain ⟨E, Hh, V, ht, rfl, rfl, rfl, rfl⟩ := opsRun_trace h
  have hi : Inv P N ds E Hh B π w av ex (fun _ => False) π w av tm := by
    refine ⟨hsz, ?_, ?_, hs.hr.nil _, fun id hn => absurd rfl hn, fun i x => x.elim, fun i j x => x.elim, Ev.refl _ _ _ _, fun _ x => x, fun _ _ _ x => absurd rfl x⟩
    · intro s k hk hcut t hg
      have := ht.slot (i := 0) (s := s) (Nat.zero_le k) hk fun m _ hmk hd => ((hcut m (by omega) hd).2 hmk).elim
      rw [this] at hg
      exact he s t hg
    · intro c hcn hcut
      obtain ⟨new, hnew⟩ := ht.grows (i := 0) (Nat.zero_le c) hcn fun m _ hmc => by
        cases hq : (D ds m).k.W with
        | false => rfl
        | true => exact ((hcut m (by omega) hq).2 hmc).elim
      rw [hnew]
      exact hs.hr.pad new hs.dom
  obtain ⟨π', w', av', tm', S', h1, h2, h3⟩ := run_order hs ht hR hF hSm hc b k dd cs order _ π w av tm ho hi
  refine ⟨tm', w', π', av', h3.trans (.one st_region_end), h2.sz, fun s t hg => h2.slot s _ (Nat.le_refl _) (fun i hin _ => ⟨fun _ => hin, fun _ => h1 i hin⟩) t hg, h2.ev,
    h2.heap _ (Nat.le_refl _) (fun i hin _ => ⟨fun _ => hin, fun _ => h1 i hin⟩), fun id hn => ?_, h2.ext, ht.len (Nat.zero_le _) (Nat.le_refl _) fun m _ hm _ => h2.mono m (h1 m hm) hm, h2.frs⟩
  obtain ⟨i, _, hin, ha, hb⟩ := h2.dom id hn
  have l1 := ht.len (i := 0) (k := i) (Nat.zero_le _) (by omega) fun m _ hm _ => h2.mono m (h1 m (by omega)) (by omega)
  have l2 := ht.len (i := i + 1) (k := ds.length) hin (Nat.le_refl _) fun m _ hm _ => h2.mono m (h1 m hm) hm
  omega

theorem sched_range (ds : List DOper) : ∀ (m n : Nat), m + n = ds.length → Sched ds (fun i => i < m) (List.range' m n)
  | m, 0, h => fun i hi => by omega
  | m, n + 1, h => by
    refine ⟨⟨by omega, by omega, fun i hi _ => hi, fun i hi _ _ x => by omega⟩, ?_⟩
    have := sched_range ds (m + 1) n (by omega)
    have he : (fun i => i < m ∨ i = m) = (fun i => i < m + 1) := by
      funext i; exact propext (by omega)
    rw [he]
    exact this

theorem sched_text (ds : List DOper) : Sched ds (fun _ => False) (List.range ds.length) := by
  have := sched_range ds 0 ds.length (by omega)
  rw [List.range_eq_range']
  have he : (fun i : Nat => i < 0) = (fun _ => False) := by funext i; exact propext ⟨fun h => by omega, fun h => h.elim⟩
  rw [← he]; exact this
end

end Go.Dn
