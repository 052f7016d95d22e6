/- Regions whose order is open: the theorem. -/
import Derived.Test.YtjilfolpkkhfmaaDoorAM17
namespace Go.AM

theorem Steps.split_unique {ops : Array Oper} {n : Nat} {steps : List DStep} (S : Steps ops n steps) {x : DStep} : ∀ {p q p' q' : List DStep}, steps = p ++ x :: q → steps = p' ++ x :: q' → p = p' := by
  intro p q p' q' e e'
  have h := e.symm.trans e'
  rw [List.append_eq_append_iff] at h
  rcases h with ⟨a, h1, h2⟩ | ⟨a, h1, h2⟩
  · cases a with
    | nil => simpa using h1.symm
    | cons y a =>
      simp only [List.cons_append, List.cons.injEq] at h2
      obtain ⟨rfl, _⟩ := h2
      obtain ⟨M, _, hk⟩ := S.ok p' x q' e'
      exact (okStep.fresh hk x (by rw [h1]; simp) rfl).elim
  · cases a with
    | nil => simpa using h1
    | cons y a =>
      simp only [List.cons_append, List.cons.injEq] at h2
      obtain ⟨rfl, _⟩ := h2
      obtain ⟨M, _, hk⟩ := S.ok p x q e
      exact (okStep.fresh hk x (by rw [h1]; simp) rfl).elim

theorem Steps.jinj {ops : Array Oper} {n : Nat} {steps : List DStep} (S : Steps ops n steps) {x y : DStep} (hx : x ∈ steps) (hy : y ∈ steps) (hxc : x.o.op.cls = .alloc) (hyc : y.o.op.cls = .alloc) (h : x.j = y.j) : x = y := by
  obtain ⟨s1, s2, e⟩ := List.append_of_mem hx
  rw [e, List.mem_append, List.mem_cons] at hy
  rcases hy with hy | rfl | hy
  · obtain ⟨M, _, hk⟩ := S.ok s1 x s2 e
    exact ((clsStep.alloc (okStep.cls hk) hxc).2.2 y (by simpa using hy) hyc h.symm).elim
  · rfl
  · obtain ⟨M, u, _, hk, hxu, _⟩ := S.of e hy
    exact ((clsStep.alloc (okStep.cls hk) hyc).2.2 x hxu hxc h).elim

theorem Steps.jlt {ops : Array Oper} {n : Nat} {steps : List DStep} (S : Steps ops n steps) {x : DStep} (hx : x ∈ steps) (hxc : x.o.op.cls = .alloc) : x.j < n := by
  obtain ⟨s1, s2, e⟩ := List.append_of_mem hx
  obtain ⟨M, _, hk⟩ := S.ok s1 x s2 e
  exact (clsStep.alloc (okStep.cls hk) hxc).2.1

theorem getD_set_self {listed : Array Bool} {i : Nat} (h : i < listed.size) (d : Bool) : (listed.setIfInBounds i true).getD i d = true := by
  simp [h]

theorem Foot.live {ρ : Ren} {σ : Sto} {k : Nat} (h : Foot ρ σ k) : Live ρ σ k := by
  obtain ⟨b, o, l, h1, h2, h3, _⟩ := h; exact ⟨b, o, l, h1, h2, h3⟩

section
variable {G : Reg} {s1 s2 : List DStep} {t1 : Tr Value} {σ : Sto} {listed : Array Bool} {ρ : Ren} {a : Act} {w : World}

theorem Inv.closed_set (I : Inv G s1 s2 t1 σ listed ρ a w) {j : Nat} (hx : j ∈ Region.ready .any G.ops listed) :
    ∀ i o, (listed.setIfInBounds j true).getD i false = true → G.ops[i]? = some o → ∀ e ∈ o.after, Region.binds .any e = true → (listed.setIfInBounds j true).getD e.on false = true := by
  intro i o hi ho e he hb
  obtain ⟨_, o', ho', hall⟩ := mem_ready.1 hx
  by_cases h : j = i
  · subst h; rw [ho] at ho'; cases ho'
    exact getD_set_true (hall e he hb)
  · rw [getD_set_ne false h] at hi
    exact getD_set_true (I.closed i o hi ho e he hb)

theorem put_tmps (a : Act) (d : Option Nat) (c : Value) (s : Nat) (hd : ∀ d', d = some d' → d' < a.tmps.size) : (a.put d c).tmps.getD s undef = if d = some s then c else a.tmps.getD s undef := by
  cases d with
  | none => simp [Act.put]
  | some d =>
    have := hd d rfl
    simp only [Act.put, Array.getD_eq_getD_getElem?, Array.getElem?_setIfInBounds, Option.some.injEq]
    by_cases e : d = s
    · subst e; simp [this]
    · simp [e]

theorem Inv.slots (I : Inv G s1 s2 t1 σ listed ρ a w) (S : Steps G.ops G.n G.steps) {x : DStep} (hxm : x ∈ G.steps) (hx : x.i ∈ Region.ready .any G.ops listed) {v c : Value} (hdst : ∀ d, x.o.dst = some d → G.tf.get d = some v)
    (hdn : ∀ d, x.o.dst = some d → d < a.tmps.size) {ρ' : Ren} (hsub : Sub ρ ρ') (hvc : VR ρ' v c) :
    (∀ d u, G.tf.get d = some u → (∀ y ∈ G.steps, y.o.dst = some d → (listed.setIfInBounds x.i true).getD y.i false = true) → VR ρ' u ((a.put x.o.dst c).tmps.getD d undef)) ∧
    (∀ d u, G.t0.get d = some u → (∀ y ∈ G.steps, y.o.dst = some d → (listed.setIfInBounds x.i true).getD y.i false = false) → VR ρ' u ((a.put x.o.dst c).tmps.getD d undef)) := by
  have hlt := (ready_unlisted hx).2
  constructor
  · intro d u hu hw
    rw [put_tmps a _ c d hdn]
    split
    · rename_i e; rw [hdst d e] at hu; cases hu; exact hvc
    · rename_i e
      refine (I.after d u hu (fun y hy hyd => ?_)).mono hsub
      have := hw y hy hyd
      rw [getD_set_ne false (fun ei => e (by rw [S.inj hxm hy ei]; exact hyd))] at this
      exact this
  · intro d u hu hw
    have hne : x.o.dst ≠ some d := fun e => by
      have := hw x hxm e
      rw [getD_set_self hlt] at this; cases this
    rw [put_tmps a _ c d hdn, if_neg hne]
    refine (I.before d u hu (fun y hy hyd => ?_)).mono hsub
    have := hw y hy hyd
    rw [getD_set_ne false (fun ei => hne (by rw [S.inj hxm hy ei]; exact hyd))] at this
    exact this

theorem Inv.step (I : Inv G s1 s2 t1 σ listed ρ a w) (S : Steps G.ops G.n G.steps) {x : DStep} (hxm : x ∈ G.steps) (hx : x.i ∈ Region.ready .any G.ops listed) {s1' s2' : List DStep} {t1' : Tr Value} {σ' : Sto}
    (hst : G.steps = s1' ++ s2') (hr1 : runSteps G.call G.base [] s1' G.t0 G.σ0 = some (t1', σ')) (hr2 : runSteps G.call G.base s1'.reverse s2' t1' σ' = some (G.tf, G.σf))
    (hdone : ∀ y ∈ s1', y.o.op.cls = .eff ∨ y.o.op.cls = .alloc → y = x ∨ y ∈ s1) (htodo : ∀ y ∈ s2', y ∈ s2 ∧ (y.o.op.cls = .eff → y ≠ x)) (hxa : x.o.op.cls ≠ .alloc)
    {v c : Value} (hdst : ∀ d, x.o.dst = some d → G.tf.get d = some v) (hdn : ∀ d, x.o.dst = some d → d < a.tmps.size) {ρ' : Ren} {w' : World} (hvc : VR ρ' v c) (hs' : Sim ρ' σ' w') (he : Ev ρ σ w ρ' σ' w') :
    Inv G s1' s2' t1' σ' (listed.setIfInBounds x.i true) ρ' (a.put x.o.dst c) w' := by
  have hlt := (ready_unlisted hx).2
  obtain ⟨ha, hb⟩ := I.slots S hxm hx hdst hdn he.sub hvc
  have hms : ∀ y ∈ s2', y ∈ G.steps := fun y hy => by rw [hst]; simp [hy]
  have hset : ∀ y ∈ s2', y ≠ x → (listed.setIfInBounds x.i true).getD y.i false = listed.getD y.i false := fun y hy hne =>
    getD_set_ne false (fun e => hne (S.inj (hms y hy) hxm e.symm))
  have hna : ∀ y ∈ s2', y.o.op.cls = .alloc → y ≠ x := fun y _ hc e => hxa (e ▸ hc)
  have hold : ∀ y ∈ s2', y.o.op.cls = .alloc → (listed.setIfInBounds x.i true).getD y.i false = true → ∃ l cobj, ρ (G.base + y.j) = some l ∧ ρ' (G.base + y.j) = some l ∧ w.heap[l.blk]? = some cobj ∧
      (∀ p q tv σv obj f, G.steps = p ++ y :: q → runSteps G.call G.base [] p G.t0 G.σ0 = some (tv, σv) → runAlloc (small tv y.sl) y.o.op = some (obj, f) → OR ρ l obj cobj) ∧ ¬ Live ρ σ l.blk ∧ G.w0.heap.size ≤ l.blk := by
    intro y hy hyc hyl
    rw [hset y hy (hna y hy hyc)] at hyl
    obtain ⟨l, cobj, h1, h2, h3, h4, h5⟩ := I.pend y (htodo y hy).1 hyc hyl
    exact ⟨l, cobj, h1, he.sub _ _ h1, h2, h3, h4, h5⟩
  refine ⟨hst, hr1, hr2, ?_, ?_, I.closed_set hx, by simp [I.size], hs', I.ev.trans he, Nat.le_trans I.next he.next, I.gr.mono he.sub, ha, hb, ?_, ?_, ?_, by rw [put_defers]; exact I.defers, by rw [put_size]; exact I.tsize⟩
  · intro y hy hc
    rcases hdone y hy hc with rfl | h
    · exact getD_set_self hlt _
    · exact getD_set_true (I.done y h hc)
  · intro y hy hc
    rw [hset y hy ((htodo y hy).2 hc)]
    exact I.todo y (htodo y hy).1 hc
  · intro y hy hyc hyl
    obtain ⟨l, cobj, h1, h2, h3, h4, h5, h6⟩ := hold y hy hyc hyl
    have hbl := (Array.getElem?_eq_some_iff.1 h3).1
    refine ⟨l, cobj, h2, ?_, fun p q tv σv obj f e1 e2 e3 => (h4 p q tv σv obj f e1 e2 e3).mono he.sub, ?_, h6⟩
    · rw [he.pres _ hbl (fun h => h5 h.live)]; exact h3
    · intro h
      rcases he.all _ h with h | h
      · exact h5 h
      · omega
  · intro y hy y' hy' hc hc' hl hl' l l' h1 h2 h3
    obtain ⟨l1, _, g1, g2, _⟩ := hold y hy hc hl
    obtain ⟨l2, _, g3, g4, _⟩ := hold y' hy' hc' hl'
    rw [h1] at g2; cases g2
    rw [h2] at g4; cases g4
    rw [hset y hy (hna y hy hc)] at hl
    rw [hset y' hy' (hna y' hy' hc')] at hl'
    exact I.dist y (htodo y hy).1 y' (htodo y' hy').1 hc hc' hl hl' _ _ g1 g3 h3
  · intro y hy hc hl
    rw [hset y hy (hna y hy hc)] at hl
    have h1 := I.none y (htodo y hy).1 hc hl
    cases h2 : ρ' (G.base + y.j) with
    | none => rfl
    | some l =>
      rcases he.new _ _ h2 with h3 | h3
      · rw [h1] at h3; cases h3
      · have := I.next; have := S.jlt (hms y hy) hc; omega

theorem Inv.made (I : Inv G s1 s2 t1 σ listed ρ a w) (S : Steps G.ops G.n G.steps) (hbase : G.σs.next ≤ G.base) {x : DStep} (hxm : x ∈ G.steps) (hx : x.i ∈ Region.ready .any G.ops listed) (hxc : x.o.op.cls = .alloc)
    {p q : List DStep} (e : G.steps = p ++ x :: q) {tv : Tr Value} {σv : Sto} (hv : runSteps G.call G.base [] p G.t0 G.σ0 = some (tv, σv)) {obj : AObj} {f : Nat → Value} (ho : runAlloc (small tv x.sl) x.o.op = some (obj, f))
    {cobj : Obj} {tot : Nat} {c : Value} (hor : OR (extend ρ (G.base + x.j) ⟨w.heap.size, 0, tot⟩) ⟨w.heap.size, 0, tot⟩ obj cobj) (hvc : VR (extend ρ (G.base + x.j) ⟨w.heap.size, 0, tot⟩) (f (G.base + x.j)) c)
    (hdst : ∀ d, x.o.dst = some d → G.tf.get d = some (f (G.base + x.j))) (hdn : ∀ d, x.o.dst = some d → d < a.tmps.size) :
    Inv G s1 s2 t1 σ (listed.setIfInBounds x.i true) (extend ρ (G.base + x.j) ⟨w.heap.size, 0, tot⟩) (a.put x.o.dst c) (w.alloc cobj) := by
  have hun := ready_unlisted hx
  have hlt := hun.2
  have hx2 : x ∈ s2 := by
    have hm := hxm
    rw [I.st, List.mem_append] at hm
    refine hm.resolve_left (fun h => ?_)
    have := I.done x h (.inr hxc)
    rw [hun.1] at this; cases this
  have hnone := I.none x hx2 hxc hun.1
  have hsub := Sub.extend ⟨w.heap.size, 0, tot⟩ hnone
  obtain ⟨ha, hb⟩ := I.slots S hxm hx hdst hdn hsub hvc
  have hms : ∀ y ∈ s2, y ∈ G.steps := fun y hy => by rw [I.st]; simp [hy]
  have hset : ∀ y ∈ s2, y ≠ x → (listed.setIfInBounds x.i true).getD y.i false = listed.getD y.i false := fun y hy hne =>
    getD_set_ne false (fun e => hne (S.inj (hms y hy) hxm e.symm))
  have hold : ∀ y ∈ s2, y ≠ x → y.o.op.cls = .alloc → (listed.setIfInBounds x.i true).getD y.i false = true → ∃ l cobj', ρ (G.base + y.j) = some l ∧ extend ρ (G.base + x.j) ⟨w.heap.size, 0, tot⟩ (G.base + y.j) = some l ∧ w.heap[l.blk]? = some cobj' ∧
      (∀ p q tv σv obj f, G.steps = p ++ y :: q → runSteps G.call G.base [] p G.t0 G.σ0 = some (tv, σv) → runAlloc (small tv y.sl) y.o.op = some (obj, f) → OR ρ l obj cobj') ∧ ¬ Live ρ σ l.blk ∧ G.w0.heap.size ≤ l.blk := by
    intro y hy hne hyc hyl
    rw [hset y hy hne] at hyl
    obtain ⟨l, cobj', h1, h2, h3, h4, h5⟩ := I.pend y hy hyc hyl
    exact ⟨l, cobj', h1, hsub _ _ h1, h2, h3, h4, h5⟩
  have hjlt := S.jlt hxm hxc
  have hnext := I.next
  refine ⟨I.st, I.run1, I.run2, fun y hy hc => getD_set_true (I.done y hy hc), ?_, I.closed_set hx, by simp [I.size], I.sim.pend hnone (by omega), I.ev.pend I.sim hnone (by omega), I.next, I.gr.mono hsub, ha, hb, ?_, ?_, ?_, by rw [put_defers]; exact I.defers, by rw [put_size]; exact I.tsize⟩
  · intro y hy hc
    rw [hset y hy (fun e => by subst e; rw [hxc] at hc; cases hc)]
    exact I.todo y hy hc
  · intro y hy hyc hyl
    by_cases hne : y = x
    · subst hne
      refine ⟨_, cobj, extend_self _ _ _, by rw [heap_push, if_pos rfl], ?_, ?_, I.ev.size⟩
      · intro p' q' tv' σv' obj' f' e1 e2 e3
        obtain rfl := S.split_unique e e1
        rw [hv] at e2; cases e2
        rw [ho] at e3; cases e3
        exact hor
      · intro h
        obtain ⟨b, o, l, h1, h2, h3⟩ := Live.unpend I.sim hnone h
        obtain ⟨l', _, h4, h5, _⟩ := I.sim.live b o h1
        rw [h2] at h4; cases h4
        have := (Array.getElem?_eq_some_iff.1 h5).1
        simp only at h3
        omega
    · obtain ⟨l, cobj', h1, h2, h3, h4, h5, h6⟩ := hold y hy hne hyc hyl
      have hbl := (Array.getElem?_eq_some_iff.1 h3).1
      refine ⟨l, cobj', h2, by rw [heap_push, if_neg (by omega)]; exact h3, fun p q tv σv obj f e1 e2 e3 => (h4 p q tv σv obj f e1 e2 e3).mono hsub, fun h => h5 (Live.unpend I.sim hnone h), h6⟩
  · intro y hy y' hy' hc hc' hl hl' l l' h1 h2 h3
    by_cases hne : y = x
    · by_cases hne' : y' = x
      · rw [hne, hne']
      · subst hne
        obtain ⟨l2, _, g3, g4, g5, _⟩ := hold y' hy' hne' hc' hl'
        have hbl := (Array.getElem?_eq_some_iff.1 g5).1
        rw [extend_self] at h1; cases h1
        rw [h2] at g4; cases g4
        simp only at h3
        omega
    · obtain ⟨l1, _, g1, g2, g6, _⟩ := hold y hy hne hc hl
      rw [h1] at g2; cases g2
      have hbl := (Array.getElem?_eq_some_iff.1 g6).1
      by_cases hne' : y' = x
      · subst hne'
        rw [extend_self] at h2; cases h2
        simp only at h3
        omega
      · obtain ⟨l2, _, g3, g4, _⟩ := hold y' hy' hne' hc' hl'
        rw [h2] at g4; cases g4
        rw [hset y hy hne] at hl
        rw [hset y' hy' hne'] at hl'
        exact I.dist y hy y' hy' hc hc' hl hl' _ _ g1 g3 h3
  · intro y hy hc hl
    have hne : y ≠ x := fun e => by subst e; rw [getD_set_self hlt] at hl; cases hl
    rw [hset y hy hne] at hl
    have h1 := I.none y hy hc hl
    unfold extend
    rw [if_neg, h1]
    intro e
    exact hne (S.jinj (hms y hy) hxm hc hxc (by omega))

end

/-- How many are still to come. -/
def unl (n : Nat) (listed : Array Bool) : Nat := ((List.range n).filter fun i => !listed.getD i true).length

theorem filter_lt {α : Type} (f g : α → Bool) : ∀ (l : List α) (x : α), x ∈ l → f x = true → g x = false → (∀ y, g y = true → f y = true) → (l.filter g).length < (l.filter f).length := by
  intro l
  induction l with
  | nil => intro x hx; cases hx
  | cons y l ih =>
    intro x hx hf hg hle
    have hmono : (l.filter g).length ≤ (l.filter f).length := by
      clear ih hx
      induction l with
      | nil => simp
      | cons z l ih =>
        simp only [List.filter_cons]
        cases hgz : g z
        · simp only [Bool.false_eq_true, if_false]
          split
          · simp; omega
          · exact ih
        · simp only [if_true, hle z hgz]; simpa using ih
    simp only [List.filter_cons]
    rcases List.mem_cons.1 hx with rfl | hx
    · rw [hf, hg]; simp; omega
    · have := ih x hx hf hg hle
      cases hgy : g y
      · simp only [Bool.false_eq_true, if_false]
        split
        · simp; omega
        · exact this
      · simp only [if_true, hle y hgy]; simpa using this

theorem unl_lt {n : Nat} {listed : Array Bool} {i : Nat} (hi : i < n) (hl : listed.getD i true = false) (hs : i < listed.size) : unl n (listed.setIfInBounds i true) < unl n listed := by
  refine filter_lt _ _ _ i (by simpa using hi) (by rw [hl]; rfl) (by rw [getD_set_self hs]; rfl) ?_
  intro y hy
  by_cases e : i = y
  · subst e; rw [getD_set_self hs] at hy; cases hy
  · rw [getD_set_ne true e] at hy; exact hy

theorem unl_zero {n : Nat} {listed : Array Bool} (h : unl n listed = 0) {i : Nat} (hi : i < n) : listed.getD i true = true := by
  unfold unl at h
  rw [List.length_eq_zero_iff, List.filter_eq_nil_iff] at h
  have := h i (by simpa using hi)
  simpa using this

section
variable {G : Reg} {tab : Tab} {mrows : String → List (TypeId × FuncId)}

theorem Inv.all_listed {s1 s2 : List DStep} {t1 : Tr Value} {σ : Sto} {listed : Array Bool} {ρ : Ren} {a : Act} {w : World} (I : Inv G s1 s2 t1 σ listed ρ a w) (S : Steps G.ops G.n G.steps) (hr : Region.ready .any G.ops listed = []) :
    ∀ y ∈ G.steps, listed.getD y.i false = true := by
  have key : ∀ (q p : List DStep), G.steps = p ++ q → (∀ y ∈ p, listed.getD y.i false = true) → ∀ y ∈ q, listed.getD y.i false = true := by
    intro q
    induction q with
    | nil => intro p _ _ y hy; cases hy
    | cons x q ih =>
      intro p e hp
      have hxl : listed.getD x.i false = true := by
        obtain ⟨M, _, hk⟩ := S.ok p x q e
        obtain ⟨o, ho, hed⟩ := okStep.edges hk
        cases hl : listed.getD x.i false with
        | true => rfl
        | false =>
          have hlt : x.i < listed.size := by rw [I.size]; exact (Array.getElem?_eq_some_iff.1 ho).1
          have : x.i ∈ Region.ready .any G.ops listed := mem_ready.2 ⟨by
            rw [Array.getD_eq_getD_getElem?, Array.getElem?_eq_getElem hlt] at hl ⊢; exact hl, o, ho, fun e' he' hb => by
            obtain ⟨y, hy, hye⟩ := hed e' he' hb
            rw [← hye]; exact hp y (by simpa using hy)⟩
          rw [hr] at this; cases this
      intro y hy
      rcases List.mem_cons.1 hy with rfl | hy
      · exact hxl
      · exact ih (p ++ [x]) (by rw [e]; simp) (fun z hz => by
          rcases List.mem_append.1 hz with hz | hz
          · exact hp z hz
          · obtain rfl : z = x := by simpa using hz
            exact hxl) y hy
  exact key G.steps [] rfl (fun y hy => by cases hy)

theorem Inv.last {s1 s2 : List DStep} {t1 : Tr Value} {σ : Sto} {listed : Array Bool} {ρ : Ren} {a : Act} {w : World} (I : Inv G s1 s2 t1 σ listed ρ a w) (S : Steps G.ops G.n G.steps) (hall : ∀ y ∈ G.steps, listed.getD y.i false = true) :
    Sim ρ G.σf w ∧ LR ρ G.tf a.tmps ∧ Ev G.ρ0 G.σs G.w0 ρ G.σf w := by
  have I' : Inv G s1 (s2 ++ []) t1 σ listed ρ a w := by simpa using I
  obtain ⟨t2, σ2, I2⟩ := Inv.shifts S s2 I' (fun x hx => by
    have hl := hall x (by rw [I.st]; simp [hx])
    refine ⟨fun hc => ?_, fun _ => hl⟩
    rw [I.todo x hx hc] at hl; cases hl)
  have h := I2.run2
  simp only [runSteps, Option.some.injEq, Prod.mk.injEq] at h
  obtain ⟨rfl, rfl⟩ := h
  exact ⟨I2.sim, fun d v hd => I2.after d v hd (fun y hy _ => hall y hy), I2.ev⟩

end

end Go.AM
