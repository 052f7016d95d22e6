/- Regions whose order is open: what is checked, and what a run of the steps tells. -/
import Derived.Test.YtjilfolpkkhfmaaDoorAM15
import Derived.Orders
namespace Go.AM

/- equality -/
theorem eqP_sound {a b : Value} (h : eqP a b = true) : a = b := by
  unfold eqP at h
  split at h <;> simp only [Bool.and_eq_true, decide_eq_true_eq, beq_iff_eq, Bool.false_eq_true] at h <;> try rfl
  · rw [h]
  · rw [h.1, h.2]
  · rename_i a b
    obtain ⟨⟨x⟩⟩ := a
    obtain ⟨⟨y⟩⟩ := b
    simp only at h
    subst h; rfl
  · rw [h]
  · rw [h.1.1, h.1.2, h.2]
  · rw [h]

theorem eqI_sound {a b : Value} (h : eqI a b = true) : a = b := by
  unfold eqI at h
  split at h
  · simp only [Bool.and_eq_true, decide_eq_true_eq] at h
    rw [h.1, eqP_sound h.2]
  · exact eqP_sound h

theorem eqL_sound {f : Value → Value → Bool} (hf : ∀ a b, f a b = true → a = b) : ∀ (l m : List Value), eqL f l m = true → l = m := by
  intro l
  induction l with
  | nil => intro m h; cases m with
    | nil => rfl
    | cons _ _ => simp [eqL] at h
  | cons a l ih => intro m h; cases m with
    | nil => simp [eqL] at h
    | cons b m =>
      simp only [eqL, Bool.and_eq_true] at h
      rw [hf _ _ h.1, ih m h.2]

theorem vEq_sound {a b : Value} (h : vEq a b = true) : a = b := by
  unfold vEq at h
  split at h
  · rename_i a b
    have := eqL_sound (fun _ _ => eqI_sound) _ _ h
    rw [show a = b by cases a; cases b; simpa using this]
  · rename_i a b
    have := eqL_sound (fun _ _ => eqI_sound) _ _ h
    rw [show a = b by cases a; cases b; simpa using this]
  · exact eqI_sound h

theorem natBeq {a b : Nat} : (Nat.beq a b = true) = (a = b) := propext ⟨Nat.eq_of_beq_eq_true, fun h => h ▸ Nat.beq_refl a⟩

/- order -/
inductive Anc (ops : Array Oper) : Nat → Nat → Prop
  | one {i : Nat} {o : Oper} {e : Edge} (ho : ops[i]? = some o) (he : e ∈ o.after) (hb : Region.binds .any e = true) : Anc ops i e.on
  | more {i j : Nat} {o : Oper} {e : Edge} (ho : ops[i]? = some o) (he : e ∈ o.after) (hb : Region.binds .any e = true) (h : Anc ops e.on j) : Anc ops i j

theorem testBit_or_pow {m k j : Nat} (h : (m ||| 2 ^ k).testBit j = true) : m.testBit j = true ∨ j = k := by
  rw [Nat.testBit_or, Bool.or_eq_true] at h
  refine h.imp id fun h => ?_
  rw [Nat.testBit_two_pow] at h
  simpa [eq_comm] using h

theorem maskOf_sound {ops : Array Oper} {T : Tr Nat} (hT : ∀ i m, T.get i = some m → ∀ j, m.testBit j = true → Anc ops i j) {i j : Nat} (h : (maskOf ops T i).testBit j = true) : Anc ops i j := by
  unfold maskOf at h
  split at h
  · rename_i o ho
    have key : ∀ (l : List Edge) (acc : Nat), (∀ e ∈ l, e ∈ o.after) → (acc.testBit j = true → Anc ops i j) → (l.foldl (fun acc e => if Region.binds .any e then (acc ||| 2 ^ e.on) ||| (T.get e.on).getD 0 else acc) acc).testBit j = true → Anc ops i j := by
      intro l
      induction l with
      | nil => intro acc _ ha h; exact ha h
      | cons e l ih =>
        intro acc hl ha h
        refine ih _ (fun e he => hl e (List.mem_cons_of_mem _ he)) ?_ h
        intro hx
        dsimp only at hx
        split at hx
        · rename_i hb
          rw [Nat.testBit_or, Bool.or_eq_true] at hx
          rcases hx with hx | hx
          · rcases testBit_or_pow hx with hx | rfl
            · exact ha hx
            · exact .one ho (hl e (by simp)) hb
          · cases hg : T.get e.on with
            | none => rw [hg] at hx; simp at hx
            | some m => rw [hg] at hx; exact .more ho (hl e (by simp)) hb (hT _ _ hg _ hx)
        · exact ha hx
    exact key _ 0 (fun e he => by simpa using he) (by simp) h
  · simp at h

theorem chkSteps_split {ops : Array Oper} {n : Nat} : ∀ (s1 : List DStep) (T : Tr Nat) (u : List DStep) (x : DStep) (s2 : List DStep), (∀ i m, T.get i = some m → ∀ j, m.testBit j = true → Anc ops i j) →
    chkSteps ops n T u (s1 ++ x :: s2) = true → ∃ M, (∀ j, M.testBit j = true → Anc ops x.i j) ∧ okStep ops M n (s1.reverse ++ u) x = true := by
  intro s1
  induction s1 with
  | nil =>
    intro T u x s2 hT h
    simp only [List.nil_append, chkSteps, Bool.and_eq_true] at h
    exact ⟨_, fun j hj => maskOf_sound hT hj, by simpa using h.1⟩
  | cons y s1 ih =>
    intro T u x s2 hT h
    simp only [List.cons_append, chkSteps, Bool.and_eq_true] at h
    obtain ⟨M, h1, h2⟩ := ih _ (y :: u) x s2 (by
      intro i m hi j hj
      rw [Tr.get_set] at hi
      split at hi
      · rename_i e; cases hi; subst e; exact maskOf_sound hT hj
      · exact hT _ _ hi _ hj) h.2
    exact ⟨M, h1, by simpa using h2⟩

/-- What is known of the steps. -/
structure Steps (ops : Array Oper) (n : Nat) (steps : List DStep) : Prop where
  ok : ∀ (s1 : List DStep) (x : DStep) (s2 : List DStep), steps = s1 ++ x :: s2 → ∃ M, (∀ j, M.testBit j = true → Anc ops x.i j) ∧ okStep ops M n s1.reverse x = true
  all : ∀ i, i < ops.size → ∃ y ∈ steps, y.i = i

theorem chkDraw_spec {ops : Array Oper} {n : Nat} {steps : List DStep} (h : chkDraw ops n steps = true) : Steps ops n steps := by
  unfold chkDraw at h
  simp only [Bool.and_eq_true, List.all_eq_true, List.any_eq_true, List.mem_range, natBeq] at h
  refine ⟨fun s1 x s2 e => ?_, h.2⟩
  obtain ⟨M, h1, h2⟩ := chkSteps_split s1 .leaf [] x s2 (by intro i m hi; cases hi) (e ▸ h.1)
  exact ⟨M, h1, by simpa using h2⟩

/- the clauses of a step's check -/
section
variable {ops : Array Oper} {M n : Nat} {u : List DStep} {x : DStep}

theorem okStep.edges (h : okStep ops M n u x = true) : ∃ o, ops[x.i]? = some o ∧ ∀ e ∈ o.after, Region.binds .any e = true → ∃ y ∈ u, y.i = e.on := by
  unfold okStep at h
  simp only [Bool.and_eq_true] at h
  have := h.1.1.1.1
  split at this
  · rename_i o ho
    refine ⟨o, ho, fun e he hb => ?_⟩
    have := List.all_eq_true.1 this e (by simpa using he)
    simp only [hb, Bool.not_true, Bool.false_or, List.any_eq_true, natBeq] at this
    exact this
  · cases this

theorem okStep.fresh (h : okStep ops M n u x = true) : ∀ y ∈ u, y.i ≠ x.i := by
  unfold okStep at h
  simp only [Bool.and_eq_true] at h
  intro y hy
  have := List.all_eq_true.1 h.1.1.1.2 y hy
  intro e
  rw [e] at this
  simp [Nat.beq_refl] at this

theorem okStep.reads (h : okStep ops M n u x = true) : ∀ y ∈ u, ∀ d, y.o.dst = some d → (d ∈ x.sl → M.testBit y.i = true) ∧ x.o.dst ≠ some d := by
  unfold okStep at h
  simp only [Bool.and_eq_true] at h
  intro y hy d hd
  have := List.all_eq_true.1 h.1.1.2 y hy
  simp only [hd, Bool.and_eq_true, Bool.or_eq_true, Bool.not_eq_true', List.contains_eq_mem, decide_eq_false_iff_not, beq_eq_false_iff_ne, ne_eq] at this
  exact ⟨fun hm => this.1.resolve_left (fun hn => hn hm), this.2⟩

theorem okStep.writes (h : okStep ops M n u x = true) {d : Nat} (hd : x.o.dst = some d) : d ∉ x.sl ∧ ∀ y ∈ u, d ∈ y.sl → M.testBit y.i = true ∧ y.o.op.cls ≠ .heap := by
  unfold okStep at h
  simp only [Bool.and_eq_true] at h
  have := h.1.2
  simp only [hd, Bool.and_eq_true, Bool.not_eq_true', List.contains_eq_mem, decide_eq_false_iff_not, List.all_eq_true, Bool.or_eq_true] at this
  refine ⟨this.1, fun y hy hm => ?_⟩
  have := (this.2 y hy).resolve_left (fun hn => hn hm)
  refine ⟨this.1, fun hc => ?_⟩
  rw [hc] at this
  simp [isHeap] at this

theorem okStep.cls (h : okStep ops M n u x = true) : clsStep M n u x = true := by
  unfold okStep at h
  simp only [Bool.and_eq_true] at h
  exact h.2

theorem clsStep.eff (h : clsStep M n u x = true) (hc : x.o.op.cls = .eff) : ∀ y ∈ u, (y.o.op.cls = .eff ∨ y.o.op.cls = .alloc → M.testBit y.i = true) ∧ (y.o.op.cls = .heap → M.testBit y.i = true ∨ x.again.testBit y.i = true) := by
  unfold clsStep at h
  rw [hc] at h
  intro y hy
  have := List.all_eq_true.1 h y hy
  split at this
  · rename_i e; rw [e]; exact ⟨fun h => by simp at h, fun h => by simp at h⟩
  · rename_i e; rw [e]; exact ⟨fun h => by simp at h, fun _ => by simpa using this⟩
  · rename_i e1 e2
    exact ⟨fun _ => this, fun h => (e2 h).elim⟩

theorem clsStep.alloc (h : clsStep M n u x = true) (hc : x.o.op.cls = .alloc) : x.o.guard = none ∧ x.j < n ∧ ∀ y ∈ u, y.o.op.cls = .alloc → y.j ≠ x.j := by
  unfold clsStep at h
  rw [hc] at h
  simp only [Bool.and_eq_true, Option.isNone_iff_eq_none, List.all_eq_true] at h
  refine ⟨h.1.1, by simpa [Nat.blt_eq] using h.1.2, fun y hy e => ?_⟩
  have := h.2 y hy
  rw [e] at this
  intro ej
  simp [ej, Nat.beq_refl] at this

theorem clsStep.heap (h : clsStep M n u x = true) (hc : x.o.op.cls = .heap) : gapClean M u = true := by
  unfold clsStep at h
  rw [hc] at h
  exact h

theorem gapClean_append : ∀ (u v : List DStep), gapClean M (u ++ v) = true → (∃ z ∈ u, z.o.op.cls = .eff ∧ M.testBit z.i = true) ∨ (∀ z ∈ u, z.o.op.cls ≠ .eff ∧ (z.o.op.cls = .alloc → M.testBit z.i = true)) := by
  intro u
  induction u with
  | nil => intro v h; exact .inr (fun z hz => by simp at hz)
  | cons y u ih =>
    intro v h
    simp only [List.cons_append, gapClean] at h
    split at h
    · rename_i e; exact .inl ⟨y, by simp, e, h⟩
    · rename_i e
      simp only [Bool.and_eq_true] at h
      rcases ih v h.2 with ⟨z, hz, h2⟩ | h2
      · exact .inl ⟨z, List.mem_cons_of_mem _ hz, h2⟩
      · refine .inr fun z hz => ?_
        rcases List.mem_cons.1 hz with rfl | hz
        · exact ⟨by rw [e]; simp, fun _ => h.1⟩
        · exact h2 z hz
    · rename_i e1 e2
      rcases ih v h with ⟨z, hz, h2⟩ | h2
      · exact .inl ⟨z, List.mem_cons_of_mem _ hz, h2⟩
      · refine .inr fun z hz => ?_
        rcases List.mem_cons.1 hz with rfl | hz
        · exact ⟨e1, fun h => (e2 h).elim⟩
        · exact h2 z hz
end

/- slots -/
theorem small_get (t : Tr Value) (sl : List Nat) (s : Nat) : (small t sl).get s = if s ∈ sl then t.get s else none := by
  induction sl with
  | nil => rfl
  | cons a l ih =>
    simp only [small, Tr.get_upd, ih, List.mem_cons]
    by_cases h : a = s
    · subst h; simp
    · rw [if_neg h]
      by_cases h' : s ∈ l
      · simp [h']
      · simp [h', Ne.symm h]

theorem small_congr {t t' : Tr Value} : ∀ (sl : List Nat), (∀ s ∈ sl, t.get s = t'.get s) → small t sl = small t' sl := by
  intro sl
  induction sl with
  | nil => intro _; rfl
  | cons a l ih => intro h; simp only [small]; rw [ih (fun s hs => h s (List.mem_cons_of_mem _ hs)), h a (by simp)]

/- runs -/
section
variable {call : CallF} {base : Nat}

theorem runStep_get {u : List DStep} {x : DStep} {t t' : Tr Value} {σ σ' : Sto} (h : runStep call base u x t σ = some (t', σ')) : ∃ v, t' = put t x.o.dst v := by
  unfold runStep at h
  split at h
  · split at h
    · cases h; exact ⟨_, rfl⟩
    · cases h
  · split at h
    · split at h
      · cases h; exact ⟨_, rfl⟩
      · cases h
    · cases h
  · split at h
    · cases h; exact ⟨_, rfl⟩
    · cases h

theorem put_get (t : Tr Value) (d : Option Nat) (v : Value) (s : Nat) : (put t d v).get s = if d = some s then some v else t.get s := by
  cases d with
  | none => simp [put]
  | some d => simp [put, Tr.get_set]

theorem runSteps_append : ∀ (s1 : List DStep) (u s2 : List DStep) (t : Tr Value) (σ : Sto), runSteps call base u (s1 ++ s2) t σ = match runSteps call base u s1 t σ with
    | some (t1, σ1) => runSteps call base (s1.reverse ++ u) s2 t1 σ1
    | none => none := by
  intro s1
  induction s1 with
  | nil => intro u s2 t σ; rfl
  | cons x s1 ih =>
    intro u s2 t σ
    simp only [List.cons_append, runSteps]
    cases runStep call base u x t σ with
    | none => rfl
    | some r => obtain ⟨t1, σ1⟩ := r; simp only [ih, List.reverse_cons, List.append_assoc, List.singleton_append]

theorem runSteps_split {s1 u s2 : List DStep} {t t' : Tr Value} {σ σ' : Sto} (h : runSteps call base u (s1 ++ s2) t σ = some (t', σ')) : ∃ t1 σ1, runSteps call base u s1 t σ = some (t1, σ1) ∧ runSteps call base (s1.reverse ++ u) s2 t1 σ1 = some (t', σ') := by
  rw [runSteps_append] at h
  split at h
  · rename_i t1 σ1 h1; exact ⟨t1, σ1, h1, h⟩
  · cases h

theorem runSteps_cons {u s2 : List DStep} {x : DStep} {t t' : Tr Value} {σ σ' : Sto} (h : runSteps call base u (x :: s2) t σ = some (t', σ')) : ∃ t1 σ1, runStep call base u x t σ = some (t1, σ1) ∧ runSteps call base (x :: u) s2 t1 σ1 = some (t', σ') := by
  simp only [runSteps] at h
  split at h
  · rename_i t1 σ1 h1; exact ⟨t1, σ1, h1, h⟩
  · cases h

theorem runSteps_get : ∀ (s u : List DStep) (t t' : Tr Value) (σ σ' : Sto) (d : Nat), runSteps call base u s t σ = some (t', σ') → (∀ y ∈ s, y.o.dst ≠ some d) → t'.get d = t.get d := by
  intro s
  induction s with
  | nil => intro u t t' σ σ' d h _; cases h; rfl
  | cons x s ih =>
    intro u t t' σ σ' d h hd
    obtain ⟨t1, σ1, h1, h2⟩ := runSteps_cons h
    rw [ih _ _ _ _ _ d h2 (fun y hy => hd y (List.mem_cons_of_mem _ hy))]
    obtain ⟨v, rfl⟩ := runStep_get h1
    rw [put_get, if_neg (hd x (by simp))]

theorem one_val {t : Tr Value} {σ σ' : Sto} {o : AOper} {v : Value} (hc : o.op.cls = .pure ∨ o.op.cls = .heap) (h : one call t σ o = some (v, σ')) : σ' = σ := by
  unfold one at h
  split at h
  · unfold runOp at h
    rcases hc with hc | hc <;> rw [hc] at h <;> simp only at h <;> split at h <;> cases h <;> rfl
  · cases h; rfl
  · cases h

theorem one_pure {t : Tr Value} {σ σ' σ1 : Sto} {o : AOper} {v : Value} (hc : o.op.cls = .pure) (h : one call t σ o = some (v, σ')) : one call t σ1 o = some (v, σ1) := by
  unfold one at h ⊢
  split at h
  · rename_i hw
    unfold runOp at h ⊢
    rw [hc] at h ⊢
    simp only at h ⊢
    split at h
    · rename_i u hu; cases h; simp
    · cases h
  · rename_i hw; cases h; simp
  · cases h

/-- One store holds all that another holds. -/
def More (σ σ' : Sto) : Prop := ∀ b o, σ.objs.get b = some o → σ'.objs.get b = some o
theorem More.refl (σ : Sto) : More σ σ := fun _ _ h => h
theorem More.trans {a b c : Sto} (h : More a b) (h' : More b c) : More a c := fun x o hx => h' x o (h x o hx)
theorem More.set {σ : Sto} {b : Nat} {o : AObj} (h : σ.objs.get b = none) : More σ { σ with objs := σ.objs.set b o } := by
  intro j x hx
  simp only [Tr.get_set]
  rw [if_neg, hx]
  intro e; subst e; rw [h] at hx; cases hx

theorem More.load {σ σ' : Sto} (h : More σ σ') {b o : Nat} {v : Value} (hl : σ.load b o = some v) : σ'.load b o = some v := by
  unfold Sto.load at hl ⊢
  split at hl
  · rename_i n z c e hb; rw [h _ _ hb]; exact hl
  · cases hl
theorem More.loads {σ σ' : Sto} (h : More σ σ') : ∀ (n b o : Nat) (vs : List Value), σ.loads b o n = some vs → σ'.loads b o n = some vs := by
  intro n
  induction n with
  | zero => intro b o vs hl; exact hl
  | succ n ih =>
    intro b o vs hl
    simp only [Sto.loads, Option.bind_eq_bind, Option.bind_eq_some_iff, Option.pure_def, Option.some.injEq] at hl ⊢
    obtain ⟨v, h1, vs', h2, h3⟩ := hl
    exact ⟨v, h.load h1, vs', ih _ _ _ h2, h3⟩

theorem More.mapEs {σ σ' : Sto} (h : More σ σ') {m : Value} {es : List MapEntry} (hm : mapEs σ m = some es) : mapEs σ' m = some es := by
  unfold AM.mapEs at hm ⊢
  split at hm
  · exact hm
  · split at hm
    · rename_i r es' k hb; rw [h _ _ hb]; exact hm
    · cases hm
  · cases hm

theorem More.heap {σ σ' : Sto} (h : More σ σ') {t : Tr Value} {o : AOp} {v : Value} (hr : runHeap t σ o = some v) : runHeap t σ' o = some v := by
  unfold runHeap at hr ⊢
  split at hr
  · split at hr
    · rename_i u hu
      unfold loadV at hr ⊢
      split at hr
      · split at hr
        · exact h.load hr
        · split at hr
          · rename_i vs hvs; rw [h.loads _ _ _ _ hvs]; exact hr
          · cases hr
      · cases hr
    · cases hr
  · split at hr
    · rename_i m k hm hk
      unfold lookupV at hr ⊢
      split at hr
      · cases hr
      · rename_i es hes; rw [h.mapEs hes]; exact hr
    · cases hr
  · split at hr
    · rename_i m hm
      split at hr
      · rename_i es hes; rw [h.mapEs hes]; exact hr
      · cases hr
    · cases hr
  · split at hr
    · rename_i u hu
      unfold entryV at hr ⊢
      split at hr
      · split at hr
        · rename_i m a seen st hb
          rw [h _ _ hb]
          simp only
          split at hr
          · cases hr
          · rename_i stamp hs
            split at hr
            · rename_i es clock hb2
              rw [h _ _ hb2]
              exact hr
            · cases hr
        · cases hr
      · cases hr
    · cases hr
  · split at hr
    · rename_i u hu
      unfold b2sV at hr ⊢
      split at hr
      · exact hr
      · split at hr
        · cases hr
        · rename_i vs hvs; rw [h.loads _ _ _ _ hvs]; exact hr
      · cases hr
    · cases hr
  · cases hr

theorem one_heap {t : Tr Value} {σ σ' σ1 : Sto} {o : AOper} {v : Value} (hc : o.op.cls = .heap) (h : one call t σ o = some (v, σ')) (hm : More σ σ1) : one call t σ1 o = some (v, σ1) := by
  unfold one at h ⊢
  split at h
  · rename_i hw
    unfold runOp at h ⊢
    rw [hc] at h ⊢
    simp only at h ⊢
    split at h
    · rename_i u hu; cases h; rw [hm.heap hu]
    · cases h
  · cases h; simp
  · cases h
end

end Go.AM
