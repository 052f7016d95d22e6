/- Regions whose order is open: every order comes to the same. -/
import Derived.Test.YtjilfolpkkhfmaaDoorAM16
namespace Go.AM

theorem Sim.adopt {ρ : Ren} {σ : Sto} {w : World} (hs : Sim ρ σ w) {b : Nat} {l : Loc} {o : AObj} {cobj : Obj} (hb : ρ b = some l) (hh : w.heap[l.blk]? = some cobj) (hor : OR ρ l o cobj) (hnl : ¬ Live ρ σ l.blk) :
    Sim ρ { σ with objs := σ.objs.set b o } w := by
  refine ⟨?_, ?_, hs.dom⟩
  · intro b' x hx
    simp only [Tr.get_set] at hx
    split at hx
    · rename_i e; cases hx; subst e; exact ⟨l, cobj, hb, hh, hor⟩
    · exact hs.live _ _ hx
  · intro b1 b2 o1 o2 l1 l2 h1 h2 h3 h4 h5 h6
    simp only [Tr.get_set] at h1 h2
    split at h1
    · rename_i e1; subst e1
      split at h2
      · rename_i e2; exact e2
      · rw [hb] at h3; cases h3
        exact (hnl ⟨b2, o2, l2, h2, h4, h5.symm⟩).elim
    · split at h2
      · rename_i e2; subst e2
        rw [hb] at h4; cases h4
        exact (hnl ⟨b1, o1, l1, h1, h3, h5⟩).elim
      · exact hs.inj _ _ _ _ _ _ h1 h2 h3 h4 h5 h6

theorem Ev.adopt {ρ0 ρ : Ren} {σ0 σ : Sto} {w0 w : World} (h : Ev ρ0 σ0 w0 ρ σ w) {b : Nat} {l : Loc} {o : AObj} (hb : ρ b = some l) (hl : w0.heap.size ≤ l.blk) :
    Ev ρ0 σ0 w0 ρ { σ with objs := σ.objs.set b o } w := by
  refine ⟨h.sub, h.os, h.tape, h.output, h.size, h.pres, ?_, h.next, h.new, ?_⟩
  · rintro k ⟨b', x, l', h1, h2, h3, h4⟩
    simp only [Tr.get_set] at h1
    split at h1
    · rename_i e; subst e; rw [hb] at h2; cases h2; right; omega
    · exact h.foot k ⟨b', x, l', h1, h2, h3, h4⟩
  · rintro k ⟨b', x, l', h1, h2, h3⟩
    simp only [Tr.get_set] at h1
    split at h1
    · rename_i e; subst e; rw [hb] at h2; cases h2; right; omega
    · exact h.all k ⟨b', x, l', h1, h2, h3⟩

theorem Sim.unheld {ρ : Ren} {σ : Sto} {w : World} (hs : Sim ρ σ w) {b : Nat} (hb : ρ b = none) : σ.objs.get b = none := by
  cases e : σ.objs.get b with
  | none => rfl
  | some o => obtain ⟨l, _, h1, _⟩ := hs.live b o e; rw [hb] at h1; cases h1

theorem Sim.pend {ρ : Ren} {σ : Sto} {w : World} (hs : Sim ρ σ w) {b : Nat} {l : Loc} {cobj : Obj} (hb : ρ b = none) (hn : b < σ.next) : Sim (extend ρ b l) σ (w.alloc cobj) := by
  have hsub := Sub.extend l hb
  have hg := hs.unheld hb
  refine ⟨?_, ?_, ?_⟩
  · intro b' x hx
    obtain ⟨l', obj, h1, h2, h3⟩ := hs.live b' x hx
    refine ⟨l', obj, hsub _ _ h1, ?_, h3.mono hsub⟩
    rw [heap_push, if_neg, h2]
    have := (Array.getElem?_eq_some_iff.1 h2).1; omega
  · intro b1 b2 o1 o2 l1 l2 h1 h2 h3 h4 h5 h6
    obtain ⟨l1', _, h7, _⟩ := hs.live b1 o1 h1
    obtain ⟨l2', _, h8, _⟩ := hs.live b2 o2 h2
    obtain rfl : l1 = l1' := Option.some.inj (h3.symm.trans (hsub _ _ h7))
    obtain rfl : l2 = l2' := Option.some.inj (h4.symm.trans (hsub _ _ h8))
    exact hs.inj _ _ _ _ _ _ h1 h2 h7 h8 h5 h6
  · intro b' l' h
    unfold extend at h
    split at h
    · omega
    · exact hs.dom _ _ h

theorem Live.unpend {ρ : Ren} {σ : Sto} {w : World} (hs : Sim ρ σ w) {b : Nat} {l : Loc} (hb : ρ b = none) {k : Nat} (h : Live (extend ρ b l) σ k) : Live ρ σ k := by
  obtain ⟨b', x, l', h1, h2, h3⟩ := h
  obtain ⟨l'', _, h7, _⟩ := hs.live b' x h1
  obtain rfl : l' = l'' := Option.some.inj (h2.symm.trans (Sub.extend l hb _ _ h7))
  exact ⟨b', x, l', h1, h7, h3⟩

theorem Ev.pend {ρ0 ρ : Ren} {σ0 σ : Sto} {w0 w : World} (h : Ev ρ0 σ0 w0 ρ σ w) (hs : Sim ρ σ w) {b : Nat} {l : Loc} {cobj : Obj} (hb : ρ b = none) (hn : σ0.next ≤ b) :
    Ev ρ0 σ0 w0 (extend ρ b l) σ (w.alloc cobj) := by
  have hsub := Sub.extend l hb
  refine ⟨h.sub.trans hsub, h.os, h.tape, h.output, ?_, ?_, ?_, h.next, ?_, ?_⟩
  · have := h.size; simp; omega
  · intro k hk hf
    rw [heap_push, if_neg (by have := h.size; omega), h.pres k hk hf]
  · rintro k ⟨b', x, l', h1, h2, h3, h4⟩
    obtain ⟨l'', _, h7, _⟩ := hs.live b' x h1
    obtain rfl : l' = l'' := Option.some.inj (h2.symm.trans (hsub _ _ h7))
    exact h.foot k ⟨b', x, l', h1, h7, h3, h4⟩
  · intro b' l' h1
    unfold extend at h1
    split at h1
    · right; omega
    · exact h.new _ _ h1
  · intro k hk
    exact h.all k (Live.unpend hs hb hk)

/-- One operation, its slots alone in sight. -/
theorem one_sound {P : Program} {tab : Tab} {mrows : String → List (TypeId × FuncId)} (C : Ctx P tab mrows) {call : CallF} (hcall : CallsOK P call) {N : Nat} {ops : Array Oper} {o : Oper} {ao : AOper} (hc : compileOper P tab mrows N ops o = some ao)
    {t : Tr Value} {v : Value} {σ σ' : Sto} (hr : one call t σ ao = some (v, σ')) {ρ : Ren} {a : Act} {w : World} (hs : Sim ρ σ w) (hG : GR P ρ) (hl : LR ρ t a.tmps)
    {next : Act → World → Prop} {Q : Exit → Act → World → Prop} (K : ∀ ρ' c w', VR ρ' v c → Sim ρ' σ' w' → Ev ρ σ w ρ' σ' w' → next (a.put o.dst c) w') :
    if Region.wanted o (yielded ops a.tmps) then o.wp P a w next Q ∨ (o.asks P a w ∧ LetsOut Q) else next (a.put o.dst undef) w := by
  obtain ⟨h1, h2, _, _, _⟩ := compileOper_inv hc
  unfold one at hr
  split at hr
  · rename_i hw
    rw [wanted_sound hc hl hw]
    simp only [if_true]
    left
    rcases op_sound C hcall hl hG hs h2 h1 hr with ⟨cv, w', ρ', hv, hvr, hs', he⟩ | ⟨f, cargs, hrun, hcalls⟩
    · rcases hv with hrun | ⟨hrun, rfl⟩
      · simp only [Oper.wp, hrun, Oper.upon_value]; exact K ρ' _ w' hvr hs' he
      · simp only [Oper.wp, hrun, Oper.upon_skip]; exact K ρ' _ w' hvr hs' he
    · simp only [Oper.wp, hrun, Oper.upon_enter]
      refine hcalls.mono ?_
      rintro e w'' ⟨cv, ρ', rfl, hvr, hs', he⟩
      exact K ρ' _ w'' hvr hs' he
  · rename_i hw
    rw [wanted_sound hc hl hw]
    simp only [Bool.false_eq_true, if_false]
    cases hr
    exact K ρ _ w VR.undef hs (Ev.refl _ _ _)
  · cases hr

theorem Steps.inj {ops : Array Oper} {n : Nat} {steps : List DStep} (S : Steps ops n steps) {x y : DStep} (hx : x ∈ steps) (hy : y ∈ steps) (h : x.i = y.i) : x = y := by
  obtain ⟨s1, s2, e⟩ := List.append_of_mem hx
  rw [e, List.mem_append, List.mem_cons] at hy
  rcases hy with hy | rfl | hy
  · obtain ⟨M, _, hk⟩ := S.ok s1 x s2 e
    exact (okStep.fresh hk y (by simpa using hy) h.symm).elim
  · rfl
  · obtain ⟨p, q, e2⟩ := List.append_of_mem hy
    obtain ⟨M, _, hk⟩ := S.ok (s1 ++ x :: p) y q (by rw [e, e2]; simp)
    exact (okStep.fresh hk x (by simp) h).elim

/-- What a step knows of what stands before it. -/
theorem Steps.of {ops : Array Oper} {n : Nat} {steps : List DStep} (S : Steps ops n steps) {s1 s2 : List DStep} {x : DStep} (e : steps = s1 ++ x :: s2) {y : DStep} (hy : y ∈ s2) :
    ∃ M u, (∀ j, M.testBit j = true → Anc ops y.i j) ∧ okStep ops M n u y = true ∧ x ∈ u ∧ ∀ z ∈ s1, z ∈ u := by
  obtain ⟨p, q, e2⟩ := List.append_of_mem hy
  obtain ⟨M, h, hk⟩ := S.ok (s1 ++ x :: p) y q (by rw [e, e2]; simp)
  exact ⟨M, _, h, hk, by simp, fun z hz => by simp [hz]⟩

/-- What stays the same through a region. -/
structure Reg where
  P : Program
  call : CallF
  base : Nat
  n : Nat
  ops : Array Oper
  steps : List DStep
  t0 : Tr Value
  tf : Tr Value
  σs : Sto
  σ0 : Sto
  σf : Sto
  ρ0 : Ren
  w0 : World
  a0 : Act
  N : Nat

structure Inv (G : Reg) (s1 s2 : List DStep) (t1 : Tr Value) (σ : Sto) (listed : Array Bool) (ρ : Ren) (a : Act) (w : World) : Prop where
  st : G.steps = s1 ++ s2
  run1 : runSteps G.call G.base [] s1 G.t0 G.σ0 = some (t1, σ)
  run2 : runSteps G.call G.base s1.reverse s2 t1 σ = some (G.tf, G.σf)
  done : ∀ y ∈ s1, y.o.op.cls = .eff ∨ y.o.op.cls = .alloc → listed.getD y.i false = true
  todo : ∀ y ∈ s2, y.o.op.cls = .eff → listed.getD y.i false = false
  closed : ∀ i o, listed.getD i false = true → G.ops[i]? = some o → ∀ e ∈ o.after, Region.binds .any e = true → listed.getD e.on false = true
  size : listed.size = G.ops.size
  sim : Sim ρ σ w
  ev : Ev G.ρ0 G.σs G.w0 ρ σ w
  next : G.base + G.n ≤ σ.next
  gr : GR G.P ρ
  after : ∀ d v, G.tf.get d = some v → (∀ y ∈ G.steps, y.o.dst = some d → listed.getD y.i false = true) → VR ρ v (a.tmps.getD d undef)
  before : ∀ d v, G.t0.get d = some v → (∀ y ∈ G.steps, y.o.dst = some d → listed.getD y.i false = false) → VR ρ v (a.tmps.getD d undef)
  pend : ∀ y ∈ s2, y.o.op.cls = .alloc → listed.getD y.i false = true → ∃ l cobj, ρ (G.base + y.j) = some l ∧ w.heap[l.blk]? = some cobj ∧
    (∀ p q tv σv obj f, G.steps = p ++ y :: q → runSteps G.call G.base [] p G.t0 G.σ0 = some (tv, σv) → runAlloc (small tv y.sl) y.o.op = some (obj, f) → OR ρ l obj cobj) ∧ ¬ Live ρ σ l.blk ∧ G.w0.heap.size ≤ l.blk
  dist : ∀ y ∈ s2, ∀ y' ∈ s2, y.o.op.cls = .alloc → y'.o.op.cls = .alloc → listed.getD y.i false = true → listed.getD y'.i false = true → ∀ l l', ρ (G.base + y.j) = some l → ρ (G.base + y'.j) = some l' → l.blk = l'.blk → y.j = y'.j
  none : ∀ y ∈ s2, y.o.op.cls = .alloc → listed.getD y.i false = false → ρ (G.base + y.j) = none
  defers : a.defers = G.a0.defers
  tsize : a.tmps.size = G.a0.tmps.size

section
variable {G : Reg} {s1 s2 : List DStep} {t1 : Tr Value} {σ : Sto} {listed : Array Bool} {ρ : Ren} {a : Act} {w : World}

theorem Inv.anc (I : Inv G s1 s2 t1 σ listed ρ a w) {i j : Nat} (h : Anc G.ops i j) (hi : listed.getD i false = true) : listed.getD j false = true := by
  induction h with
  | one ho he hb => exact I.closed _ _ hi ho _ he hb
  | more ho he hb _ ih => exact ih (I.closed _ _ hi ho _ he hb)

theorem Inv.ancReady (I : Inv G s1 s2 t1 σ listed ρ a w) {i j : Nat} (h : Anc G.ops i j) (hi : i ∈ Region.ready .any G.ops listed) : listed.getD j false = true := by
  obtain ⟨_, o, ho, hall⟩ := mem_ready.1 hi
  cases h with
  | one ho' he hb => rw [ho] at ho'; cases ho'; exact hall _ he hb
  | more ho' he hb h => rw [ho] at ho'; cases ho'; exact I.anc h (hall _ he hb)

theorem ready_unlisted {md : Region.Mode} {ops : Array Oper} {i : Nat} (hi : i ∈ Region.ready md ops listed) : listed.getD i false = false ∧ i < listed.size := by
  have h := (mem_ready.1 hi).1
  rw [Array.getD_eq_getD_getElem?] at h
  cases e : listed[i]? with
  | none => rw [e] at h; cases h
  | some b =>
    rw [e] at h
    have hlt := (Array.getElem?_eq_some_iff.1 e).1
    refine ⟨?_, hlt⟩
    rw [Array.getD_eq_getD_getElem?, e]; exact h

/-- The slots that a step looks at, as the concrete run has them. -/
theorem Inv.locals (I : Inv G s1 s2 t1 σ listed ρ a w) (S : Steps G.ops G.n G.steps) (hrun : runSteps G.call G.base [] G.steps G.t0 G.σ0 = some (G.tf, G.σf)) {p q : List DStep} {x : DStep} (e : G.steps = p ++ x :: q) {tv : Tr Value} {σv : Sto} (hv : runSteps G.call G.base [] p G.t0 G.σ0 = some (tv, σv))
    (hx : x.i ∈ Region.ready .any G.ops listed) : LR ρ (small tv x.sl) a.tmps := by
  intro d v hd
  rw [small_get] at hd
  split at hd
  · rename_i hm
    obtain ⟨M, hM, hk⟩ := S.ok p x q e
    have hself : x.o.dst ≠ some d := fun h => (okStep.writes hk h).1 hm
    have hlate : ∀ y ∈ q, y.o.dst = some d → ∃ M : Nat, M.testBit x.i = true ∧ ∀ j, M.testBit j = true → Anc G.ops y.i j := by
      intro y hy hyd
      obtain ⟨M', u, hM', hk', hxu, _⟩ := S.of e hy
      exact ⟨M', ((okStep.writes hk' hyd).2 x hxu hm).1, hM'⟩
    by_cases hw : ∃ y ∈ p, y.o.dst = some d
    · obtain ⟨y0, hy0, hd0⟩ := hw
      have hno : ∀ y ∈ q, y.o.dst ≠ some d := by
        intro y hy hyd
        obtain ⟨M', u, hM', hk', hxu, hpu⟩ := S.of e hy
        exact (okStep.reads hk' y0 (hpu _ hy0) d hd0).2 hyd
      refine I.after d v ?_ ?_
      · obtain ⟨t', σ', h1, h2⟩ := runSteps_split (e ▸ hrun)
        rw [hv] at h1; cases h1
        rw [runSteps_get _ _ _ _ _ _ d h2 (by
          intro y hy
          rcases List.mem_cons.1 hy with rfl | hy
          · exact hself
          · exact hno y hy)]
        exact hd
      · intro y hy hyd
        rw [e, List.mem_append, List.mem_cons] at hy
        rcases hy with hy | rfl | hy
        · exact I.ancReady (hM _ ((okStep.reads hk y (by simpa using hy) d hyd).1 hm)) hx
        · exact (hself hyd).elim
        · exact (hno y hy hyd).elim
    · have hno : ∀ y ∈ p, y.o.dst ≠ some d := fun y hy h => hw ⟨y, hy, h⟩
      refine I.before d v ?_ ?_
      · rw [← runSteps_get _ _ _ _ _ _ d hv hno]; exact hd
      · intro y hy hyd
        rw [e, List.mem_append, List.mem_cons] at hy
        rcases hy with hy | rfl | hy
        · exact (hno y hy hyd).elim
        · exact (hself hyd).elim
        · obtain ⟨M', h1, h2⟩ := hlate y hy hyd
          cases hl : listed.getD y.i false with
          | false => rfl
          | true =>
            have := I.anc (h2 _ h1) hl
            rw [(ready_unlisted hx).1] at this
            cases this
  · cases hd

theorem Inv.shift {x : DStep} (I : Inv G s1 (x :: s2) t1 σ listed ρ a w) (S : Steps G.ops G.n G.steps) (hx : x.o.op.cls ≠ .eff) (hxl : x.o.op.cls = .alloc → listed.getD x.i false = true) :
    ∃ t2 σ2, Inv G (s1 ++ [x]) s2 t2 σ2 listed ρ a w := by
  obtain ⟨t2, σ2, h1, h2⟩ := runSteps_cons I.run2
  have e : G.steps = s1 ++ x :: s2 := I.st
  have hrun1 : runSteps G.call G.base [] (s1 ++ [x]) G.t0 G.σ0 = some (t2, σ2) := by
    rw [runSteps_append, I.run1]; simp only [List.append_nil, runSteps, h1]
  have hrun2 : runSteps G.call G.base (s1 ++ [x]).reverse s2 t2 σ2 = some (G.tf, G.σf) := by simpa using h2
  have hdone : ∀ y ∈ s1 ++ [x], y.o.op.cls = .eff ∨ y.o.op.cls = .alloc → listed.getD y.i false = true := by
    intro y hy hc
    rcases List.mem_append.1 hy with hy | hy
    · exact I.done y hy hc
    · obtain rfl : y = x := by simpa using hy
      exact hc.elim (fun h => (hx h).elim) hxl
  refine ⟨t2, σ2, ?_⟩
  by_cases hc : x.o.op.cls = .alloc
  · unfold runStep at h1
    rw [hc] at h1
    simp only at h1
    split at h1
    · rename_i obj f ho hg
      cases h1
      obtain ⟨l, cobj, hb, hh, hor, hnl, hge⟩ := I.pend x (by simp) hc (hxl hc)
      have hor' := hor s1 s2 t1 σ obj f e I.run1 ho
      refine ⟨by simpa using e, hrun1, hrun2, hdone, fun y hy => I.todo y (List.mem_cons_of_mem _ hy), I.closed, I.size, I.sim.adopt hb hh hor' hnl, I.ev.adopt hb hge, I.next, I.gr, I.after, I.before, ?_,
        fun y hy y' hy' => I.dist y (List.mem_cons_of_mem _ hy) y' (List.mem_cons_of_mem _ hy'), fun y hy => I.none y (List.mem_cons_of_mem _ hy), I.defers, I.tsize⟩
      intro y hy hyc hyl
      obtain ⟨l', cobj', h3, h4, h5, h6, h7⟩ := I.pend y (List.mem_cons_of_mem _ hy) hyc hyl
      refine ⟨l', cobj', h3, h4, h5, ?_, h7⟩
      rintro ⟨b, o, l2, h8, h9, h10⟩
      simp only [Tr.get_set] at h8
      split at h8
      · rename_i eb; subst eb
        have := I.dist x (by simp) y (List.mem_cons_of_mem _ hy) hc hyc (hxl hc) hyl l2 l' h9 h3 h10
        obtain ⟨M, u, _, hk, hxu, _⟩ := S.of e hy
        exact (clsStep.alloc (okStep.cls hk) hyc).2.2 x hxu hc this
      · exact h6 ⟨b, o, l2, h8, h9, h10⟩
    · cases h1
  · have hσ : σ2 = σ := by
      unfold runStep at h1
      split at h1
      · exact (hc (by assumption)).elim
      · exact (hx (by assumption)).elim
      · split at h1
        · rename_i h3
          cases h1
          exact one_val (by cases hcl : x.o.op.cls <;> simp_all) h3
        · cases h1
    subst hσ
    exact ⟨by simpa using e, hrun1, hrun2, hdone, fun y hy => I.todo y (List.mem_cons_of_mem _ hy), I.closed, I.size, I.sim, I.ev, I.next, I.gr, I.after, I.before, fun y hy => I.pend y (List.mem_cons_of_mem _ hy),
      fun y hy y' hy' => I.dist y (List.mem_cons_of_mem _ hy) y' (List.mem_cons_of_mem _ hy'), fun y hy => I.none y (List.mem_cons_of_mem _ hy), I.defers, I.tsize⟩

theorem Inv.shifts (S : Steps G.ops G.n G.steps) : ∀ (p : List DStep) {s1 : List DStep} {t1 : Tr Value} {σ : Sto}, Inv G s1 (p ++ s2) t1 σ listed ρ a w → (∀ x ∈ p, x.o.op.cls ≠ .eff ∧ (x.o.op.cls = .alloc → listed.getD x.i false = true)) →
    ∃ t2 σ2, Inv G (s1 ++ p) s2 t2 σ2 listed ρ a w := by
  intro p
  induction p with
  | nil => intro s1 t1 σ I _; exact ⟨t1, σ, by simpa using I⟩
  | cons x p ih =>
    intro s1 t1 σ I h
    obtain ⟨t2, σ2, I2⟩ := Inv.shift (x := x) I S (h x (by simp)).1 (h x (by simp)).2
    obtain ⟨t3, σ3, I3⟩ := ih I2 (fun y hy => h y (List.mem_cons_of_mem _ hy))
    exact ⟨t3, σ3, by simpa using I3⟩

/-- A reading holds at a store. -/
def HOK (G : Reg) (x : DStep) (σ : Sto) : Prop := ∃ v, one G.call (small G.tf x.sl) σ x.o = some (v, σ) ∧ ∀ d, x.o.dst = some d → G.tf.get d = some v

/-- After a reading nothing writes its slots. -/
theorem late_slots {S : Steps G.ops G.n G.steps} {p q : List DStep} {x : DStep} (e : G.steps = p ++ x :: q) (hc : x.o.op.cls = .heap) : (∀ s ∈ x.sl, ∀ y ∈ x :: q, y.o.dst ≠ some s) ∧ (∀ d, x.o.dst = some d → ∀ y ∈ q, y.o.dst ≠ some d) := by
  constructor
  · intro s hs y hy hd
    rcases List.mem_cons.1 hy with rfl | hy
    · obtain ⟨M, _, hk⟩ := S.ok p y q e
      exact (okStep.writes hk hd).1 hs
    · obtain ⟨M, u, _, hk, hxu, _⟩ := S.of e hy
      exact ((okStep.writes hk hd).2 x hxu hs).2 hc
  · intro d hd y hy hyd
    obtain ⟨M, u, _, hk, hxu, _⟩ := S.of e hy
    exact (okStep.reads hk x hxu d hd).2 hyd

theorem dst_final {S : Steps G.ops G.n G.steps} {p q : List DStep} {x : DStep} (e : G.steps = p ++ x :: q) {t2 : Tr Value} {σ2 : Sto} (h2 : runSteps G.call G.base (x :: p.reverse) q t2 σ2 = some (G.tf, G.σf)) {d : Nat} (hd : x.o.dst = some d) : G.tf.get d = t2.get d :=
  runSteps_get _ _ _ _ _ _ d h2 (fun y hy hyd => by
    obtain ⟨M, u, _, hk, hxu, _⟩ := S.of e hy
    exact (okStep.reads hk x hxu d hd).2 hyd)

theorem heap_here (S : Steps G.ops G.n G.steps) {p q : List DStep} {x : DStep} (e : G.steps = p ++ x :: q) (hc : x.o.op.cls = .heap) {tv t2 : Tr Value} {σv σ2 : Sto} (h1 : runStep G.call G.base p.reverse x tv σv = some (t2, σ2))
    (h2 : runSteps G.call G.base (x :: p.reverse) q t2 σ2 = some (G.tf, G.σf)) : HOK G x σv ∧ σ2 = σv := by
  obtain ⟨h3, h4⟩ := late_slots (S := S) e hc
  have hsm : small tv x.sl = small G.tf x.sl := small_congr _ (fun s hs => by
    have hall : runSteps G.call G.base p.reverse (x :: q) tv σv = some (G.tf, G.σf) := by simp only [runSteps, h1, h2]
    exact (runSteps_get _ _ _ _ _ _ s hall (h3 s hs)).symm)
  unfold runStep at h1
  rw [hc] at h1
  simp only at h1
  split at h1
  · rename_i v σ' ho
    cases h1
    obtain rfl := one_val (.inr hc) ho
    refine ⟨⟨v, by rw [← hsm]; exact ho, fun d hd => ?_⟩, rfl⟩
    rw [dst_final (S := S) e h2 hd, put_get, if_pos hd]
  · cases h1

theorem heap_walk (S : Steps G.ops G.n G.steps) {x : DStep} (hc : x.o.op.cls = .heap) : ∀ (q p r : List DStep), G.steps = p ++ (q ++ r) → x ∈ p → (∀ z ∈ q, z.o.op.cls = .eff → ¬ Anc G.ops z.i x.i) →
    ∀ {t t' : Tr Value} {σ σ' : Sto}, runSteps G.call G.base p.reverse q t σ = some (t', σ') → runSteps G.call G.base (p ++ q).reverse r t' σ' = some (G.tf, G.σf) → HOK G x σ → HOK G x σ' := by
  intro q
  induction q with
  | nil => intro p r _ _ _ t t' σ σ' h _ hh; cases h; exact hh
  | cons z q ih =>
    intro p r e hx hz t t' σ σ' h hr hh
    obtain ⟨t2, σ2, h1, h2⟩ := runSteps_cons h
    have hrest : runSteps G.call G.base (z :: p.reverse) (q ++ r) t2 σ2 = some (G.tf, G.σf) := by
      rw [runSteps_append, h2]
      simpa using hr
    have e' : G.steps = p ++ z :: (q ++ r) := by simpa using e
    refine ih (p ++ [z]) r (by simpa using e) (by simp [hx]) (fun y hy => hz y (List.mem_cons_of_mem _ hy)) (by simpa using h2) (by simpa using hr) ?_
    obtain ⟨v, hv, hvd⟩ := hh
    unfold runStep at h1
    split at h1
    · split at h1
      · rename_i hg
        cases h1
        exact ⟨v, one_heap hc hv (More.set hg), hvd⟩
      · cases h1
    · rename_i hzc
      split at h1
      · rename_i u σ3 ho
        split at h1
        · rename_i hre
          cases h1
          obtain ⟨M, hM, hk⟩ := S.ok p z (q ++ r) e'
          have hxu : x ∈ p.reverse := by simpa using hx
          rcases (clsStep.eff (okStep.cls hk) hzc x hxu).2 hc with hb | hb
          · exact (hz z (by simp) hzc (hM _ hb)).elim
          · have := List.all_eq_true.1 hre x hxu
            simp only [hb, Bool.not_true, Bool.false_or, hc] at this
            unfold recheck at this
            obtain ⟨p1, p2, ep⟩ := List.append_of_mem hx
            have e2 : G.steps = p1 ++ x :: (p2 ++ z :: (q ++ r)) := by rw [e', ep]; simp
            obtain ⟨h3, h4⟩ := late_slots (S := S) e2 hc
            have hfin : ∀ s, (∀ y ∈ q ++ r, y.o.dst ≠ some s) → G.tf.get s = (put t z.o.dst u).get s := fun s h => runSteps_get _ _ _ _ _ _ s hrest h
            have hin : ∀ y ∈ q ++ r, y ∈ p2 ++ z :: (q ++ r) := fun y hy => List.mem_append_right _ (List.mem_cons_of_mem _ hy)
            have hsm : small (put t z.o.dst u) x.sl = small G.tf x.sl := small_congr _ (fun s hs => (hfin s (fun y hy => h3 s hs y (List.mem_cons_of_mem _ (hin y hy)))).symm)
            split at this
            · cases this
            · rename_i v1 σ4 ho1
              obtain rfl := one_val (.inr hc) ho1
              refine ⟨v1, by rw [← hsm]; exact ho1, fun d hd => ?_⟩
              rw [hd] at this
              simp only at this
              split at this
              · rename_i v2 hv2
                rw [hfin d (fun y hy => h4 d hd y (hin y hy)), hv2, vEq_sound this]
              · cases this
        · cases h1
      · cases h1
    · rename_i hn1 hn2
      split at h1
      · rename_i u σ3 ho
        cases h1
        obtain rfl := one_val (by cases hcl : z.o.op.cls <;> simp_all) ho
        exact ⟨v, hv, hvd⟩
      · cases h1

/-- What a reading gives at the store of now. -/
theorem Inv.heap (I : Inv G s1 s2 t1 σ listed ρ a w) (S : Steps G.ops G.n G.steps) {x : DStep} (hm : x ∈ G.steps) (hc : x.o.op.cls = .heap) (hx : x.i ∈ Region.ready .any G.ops listed) :
    ∃ s1' s2' t1' σ', Inv G s1' s2' t1' σ' listed ρ a w ∧ HOK G x σ' := by
  rw [I.st, List.mem_append] at hm
  rcases hm with hm | hm
  · refine ⟨s1, s2, t1, σ, I, ?_⟩
    obtain ⟨p, q, e⟩ := List.append_of_mem hm
    have hr1 := I.run1
    rw [e] at hr1
    obtain ⟨tv, σv, h1, h2⟩ := runSteps_split hr1
    obtain ⟨t2, σ2, h3, h4⟩ := runSteps_cons h2
    have e2 : G.steps = p ++ x :: (q ++ s2) := by rw [I.st, e]; simp
    have hr2 : runSteps G.call G.base (p ++ [x] ++ q).reverse s2 t1 σ = some (G.tf, G.σf) := by have := I.run2; rw [e] at this; simpa using this
    have hfull : runSteps G.call G.base (x :: p.reverse) (q ++ s2) t2 σ2 = some (G.tf, G.σf) := by
      rw [runSteps_append]
      simp only [List.append_nil] at h4
      rw [h4]
      simpa using hr2
    obtain ⟨h5, h6⟩ := heap_here S e2 hc (by simpa using h3) hfull
    subst h6
    refine heap_walk S hc q (p ++ [x]) s2 (by rw [e2]; simp) (by simp) ?_ (by simpa using h4) hr2 h5
    intro z hz hzc hanc
    have hzl := I.done z (by rw [e]; simp [hz]) (.inl hzc)
    have := I.anc hanc hzl
    rw [(ready_unlisted hx).1] at this
    cases this
  · obtain ⟨p, q, e⟩ := List.append_of_mem hm
    have e2 : G.steps = (s1 ++ p) ++ x :: q := by rw [I.st, e]; simp
    obtain ⟨M, hM, hk⟩ := S.ok _ x q e2
    have hg := clsStep.heap (okStep.cls hk) hc
    rw [List.reverse_append] at hg
    rcases gapClean_append _ _ hg with ⟨z, hz, hzc, hzM⟩ | hall
    · have h1 := I.ancReady (hM _ hzM) hx
      rw [I.todo z (by rw [e]; simp at hz; simp [hz]) hzc] at h1
      cases h1
    · have I0 := I
      rw [e] at I0
      obtain ⟨t2, σ2, I2⟩ := Inv.shifts S p I0 (fun y hy => ⟨(hall y (by simpa using hy)).1, fun hyc => I.ancReady (hM _ ((hall y (by simpa using hy)).2 hyc)) hx⟩)
      obtain ⟨t3, σ3, h3, h4⟩ := runSteps_cons I2.run2
      exact ⟨_, _, _, _, I2, (heap_here S e2 hc h3 h4).1⟩

end

end Go.AM
