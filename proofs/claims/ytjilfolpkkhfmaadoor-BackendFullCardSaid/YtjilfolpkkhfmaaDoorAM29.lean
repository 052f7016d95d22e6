/- A third evaluation: the code, by continuations; slots are known by name. -/
import Derived.Test.YtjilfolpkkhfmaaDoorAM28
namespace Go.AM

abbrev LL := List (Nat × Value)
abbrev RR := Option (Value × Sto)
abbrev KL := LL → Sto → RR

noncomputable def unF (op : UnOp) (v : Value) : Option Value :=
  match op with
  | .not => notF v
  | op => unV op v
theorem unF_eq (op : UnOp) (v : Value) : unF op v = unV op v := by
  cases op <;> first | exact notF_eq v | rfl

/-- What the names stand for. -/
def LE (L : LL) : Env
  | .tmp s => lk s L
  | .const v => some v
  | .global g => some (.pointer (some ⟨g, 0, none⟩))
  | .func f => some (.func (.func f) #[] #[])

def RelL (L : LL) (t : Tr Value) : Prop := ∀ s v, lk s L = some v → t.get s = some v
theorem RelL.le {L : LL} {t : Tr Value} (h : RelL L t) : Le (LE L) (ev t) := by
  intro x v hx
  cases x with
  | tmp s => exact h s v hx
  | const u => exact hx
  | global g => exact hx
  | func f => exact hx
def addL (d : Option Nat) (v : Value) (L : LL) : LL :=
  match d with
  | some d => (d, v) :: L
  | none => L
theorem lk_cons (d s : Nat) (v : Value) (L : LL) : lk s ((d, v) :: L) = if d = s then some v else lk s L := by
  simp only [lk]
  split
  · rename_i e; rw [if_pos (Nat.eq_of_beq_eq_true e)]
  · rename_i e; rw [if_neg (by intro e'; cases e'; rw [Nat.beq_refl] at e; cases e)]
theorem RelL.put {L : LL} {t : Tr Value} (h : RelL L t) (d : Option Nat) (v : Value) : RelL (addL d v L) (put t d v) := by
  cases d with
  | none => exact h
  | some d =>
    intro s u hs
    simp only [addL, lk_cons] at hs
    rw [put_get]
    split at hs
    · rename_i e; cases hs; rw [if_pos (by rw [e])]
    · rename_i e; rw [if_neg (fun e' => e (by cases e'; rfl))]; exact h s u hs

noncomputable def pureK (E : Env) (op : AOp) : Option Value :=
  @AOp.rec (fun _ => Option Value)
    (fun x => E x)
    (fun c a b => @Option.rec Value (fun _ => Option Value) none (fun u => pickF (E a) (E b) u) (E c))
    (fun x => @Option.rec Value (fun _ => Option Value) none (fun u => nilF u) (E x))
    (fun _ _ => runPureE E op)
    (fun op x y => @Option.rec Value (fun _ => Option Value) none (fun u => @Option.rec Value (fun _ => Option Value) none (fun w => binF op u w) (E y)) (E x))
    (fun k neg x y => @Option.rec Value (fun _ => Option Value) none (fun u => @Option.rec Value (fun _ => Option Value) none (fun w => eqvF k neg (isConst x || isConst y) u w) (E y)) (E x))
    (fun _ _ _ _ => runPureE E op)
    (fun op x => @Option.rec Value (fun _ => Option Value) none (fun u => unF op u) (E x))
    (fun k x => @Option.rec Value (fun _ => Option Value) none (fun u => convF k u) (E x))
    (fun _ => runPureE E op)
    (fun _ => runPureE E op)
    (fun _ => runPureE E op)
    (fun _ => runPureE E op)
    (fun t x => @Option.rec Value (fun _ => Option Value) none (fun u => some (.iface t u)) (E x))
    (fun _ _ _ => runPureE E op)
    (fun x off => @Option.rec Value (fun _ => Option Value) none (fun u => addOffF off u) (E x))
    (fun x off n => @Option.rec Value (fun _ => Option Value) none (fun u => fieldF off n u) (E x))
    (fun x i len size => @Option.rec Value (fun _ => Option Value) none (fun u => @Option.rec Value (fun _ => Option Value) none (fun w => ixAF len size u w) (E i)) (E x))
    (fun x i size => @Option.rec Value (fun _ => Option Value) none (fun u => @Option.rec Value (fun _ => Option Value) none (fun w => ixSF size u w) (E i)) (E x))
    (fun x i len size n => @Option.rec Value (fun _ => Option Value) none (fun u => @Option.rec Value (fun _ => Option Value) none (fun w => ixVF len size n u w) (E i)) (E x))
    (fun _ _ => runPureE E op)
    (fun _ _ _ _ _ => runPureE E op)
    (fun _ _ _ _ _ _ => runPureE E op)
    (fun _ _ _ => runPureE E op)
    (fun x i => @Option.rec Value (fun _ => Option Value) none (fun u => extractF i u) (E x))
    (fun str x => @Option.rec Value (fun _ => Option Value) none (fun u => lenF str u) (E x))
    (fun _ => runPureE E op)
    (fun _ _ => runPureE E op)
    (fun _ _ => runPureE E op)
    (fun _ _ _ _ _ => runPureE E op)
    (fun _ => runPureE E op)
    (fun _ _ _ => runPureE E op)
    (fun _ _ _ _ => runPureE E op)
    (fun _ _ _ _ => runPureE E op)
    (fun _ _ _ => runPureE E op)
    (fun _ _ _ => runPureE E op)
    (fun _ _ _ _ => runPureE E op)
    (fun _ _ _ => runPureE E op)
    (fun _ _ => runPureE E op)
    (fun _ _ => runPureE E op)
    (fun _ _ => runPureE E op)
    (fun _ _ _ => runPureE E op)
    (fun _ _ => runPureE E op)
    (fun _ => runPureE E op)
    (fun _ => runPureE E op)
    (fun _ => runPureE E op)
    (fun _ => runPureE E op)
    (fun _ => runPureE E op)
    (fun _ _ _ _ => runPureE E op)
    (fun _ _ _ _ => runPureE E op)
    (runPureE E op)
    op


theorem oneR {α β : Type} (o : Option α) (f : α → Option β) : @Option.rec α (fun _ => Option β) none f o = o.bind f := by cases o <;> rfl

theorem pureK_le {E : Env} {op : AOp} {v : Value} (h : pureK E op = some v) : runPureE E op = some v := by
  cases op with
  | pick c a b =>
    simp only [pureK, oneR] at h
    simp only [runPureE]
    refine bind_mono (fun _ h => h) (fun u hu => ?_) h
    cases u with
    | bool b => cases b <;> exact hu
    | _ => cases hu
  | _ => simpa only [pureK, runPureE, oneR, binF_eq, eqvF_eq, unF_eq, convF_eq, addOffF_eq, fieldF_eq, ixAF_eq, ixSF_eq, ixVF_eq, extractF_eq, lenF_eq, nilF_eq] using h

noncomputable def findR (l : List (TypeId × FuncId)) (ty : Nat) : Option FuncId := @List.rec (TypeId × FuncId) (fun _ => Option FuncId) none (fun p _ ih => @Bool.rec (fun _ => Option FuncId) ih (some p.2) (Nat.beq p.1 ty)) l
theorem findR_eq (l : List (TypeId × FuncId)) (ty : Nat) : findR l ty = (l.find? (·.1 == ty)).map (·.2) := by
  induction l with
  | nil => rfl
  | cons p l ih =>
    have e : findR (p :: l) ty = @Bool.rec (fun _ => Option FuncId) (findR l ty) (some p.2) (Nat.beq p.1 ty) := rfl
    rw [e, ih, List.find?_cons]
    cases h : Nat.beq p.1 ty with
    | true => have e2 : (p.1 == ty) = true := by rw [Nat.eq_of_beq_eq_true h]; exact beq_self_eq_true ty
              rw [e2]; rfl
    | false => have e2 : (p.1 == ty) = false := by
                rw [beq_eq_false_iff_ne]; intro e3; rw [e3, Nat.beq_refl] at h; cases h
               rw [e2]
noncomputable def invokeF (call : CallF) (σ : Sto) (tbl : List (TypeId × FuncId)) (vs : List Value) (v : Value) : RR :=
  vIface none (fun ty u => @Option.rec FuncId (fun _ => RR) none (fun f => call f (u :: vs) σ) (findR tbl ty)) v
theorem invokeF_le {call : CallF} {σ : Sto} {tbl : List (TypeId × FuncId)} {vs : List Value} {v : Value} {r : Value × Sto} (h : invokeF call σ tbl vs v = some r) : invokeV call σ tbl vs v = some r := by
  cases v with
  | iface ty u =>
    simp only [invokeF, vIface, findR_eq] at h
    simp only [invokeV]
    revert h
    cases tbl.find? (·.1 == ty) with
    | none => intro h; cases h
    | some p => intro h; exact h
  | _ => cases h

noncomputable def heapK (E : Env) (σ : Sto) (op : AOp) : Option Value :=
  match op with
  | .load x n => @Option.rec Value (fun _ => Option Value) none (fun u => loadF σ n u) (E x)
  | op => runHeapE E σ op
theorem heapK_le {E : Env} {σ : Sto} {op : AOp} {v : Value} (h : heapK E σ op = some v) : runHeapE E σ op = some v := by
  cases op with
  | load x n => simpa only [heapK, runHeapE, oneR, loadF_eq] using h
  | _ => exact h

/-- Operands' values, one by one. -/
noncomputable def opdsK {β : Type} (E : Env) (l : List Operand) (f : List Value → Option β) : Option β :=
  match l with
  | [] => f []
  | x :: l => @Option.rec Value (fun _ => Option β) none (fun v => opdsK E l fun vs => f (v :: vs)) (E x)
theorem opdsK_eq {β : Type} (E : Env) : ∀ (l : List Operand) (f : List Value → Option β), opdsK E l f = (evsE E l).bind f := by
  intro l
  induction l with
  | nil => intro f; rfl
  | cons x l ih =>
    intro f
    simp only [opdsK, evsE, oneR]
    cases E x with
    | none => rfl
    | some v => simp only [Option.bind_some, ih]; cases evsE E l <;> rfl

noncomputable def effK (call : CallF) (E : Env) (σ : Sto) (op : AOp) : RR :=
  match op with
  | .store a v n => @Option.rec Value (fun _ => RR) none (fun a => @Option.rec Value (fun _ => RR) none (fun v => storeF σ n a v) (E v)) (E a)
  | .call f args => opdsK E args fun vs => call f vs σ
  | .invoke r tbl args => @Option.rec Value (fun _ => RR) none (fun r => opdsK E args fun vs => invokeF call σ tbl vs r) (E r)
  | op => runEffE call E σ op
theorem effK_le {call : CallF} {E : Env} {σ : Sto} {op : AOp} {r : Value × Sto} (h : effK call E σ op = some r) : runEffE call E σ op = some r := by
  cases op with
  | store a v n =>
    simp only [effK, oneR] at h
    exact bind_mono (fun _ h => h) (fun u hu => bind_mono (fun _ h => h) (fun w hw => storeF_le hw) hu) h
  | call f args => simp only [effK, opdsK_eq] at h; exact h
  | invoke q tbl args =>
    simp only [effK, oneR, opdsK_eq] at h
    exact bind_mono (fun _ h => h) (fun u hu => bind_mono (fun _ h => h) (fun w hw => invokeF_le hw) hu) h
  | _ => exact h

noncomputable def bind2 {α β γ : Type} (o : Option (α × β)) (f : α → β → Option γ) : Option γ := @Option.rec (α × β) (fun _ => Option γ) none (fun p => @Prod.rec α β (fun _ => Option γ) (fun a b => f a b) p) o
theorem bind2_eq {α β γ : Type} (o : Option (α × β)) (f : α → β → Option γ) : bind2 o f = o.bind fun p => f p.1 p.2 := by cases o <;> rfl

/-- By a guard. -/
noncomputable def guardF {β : Type} (want : Bool) (v : Value) (run skip : Option β) : Option β :=
  @Value.rec (fun _ => Option β) (fun _ => PUnit) (fun _ => PUnit) (fun b => @Bool.rec (fun _ => Option β) (@Bool.rec (fun _ => Option β) run skip b) (@Bool.rec (fun _ => Option β) skip run b) want) (fun _ _ => none) (fun _ _ => none) (fun _ _ _ => none) (fun _ => none) (fun _ => none) (fun _ _ _ => none) (fun _ => none) (fun _ => none) (fun _ _ _ _ _ => none) none (fun _ _ _ => none) none (fun _ _ => none) (fun _ _ => skip) (fun _ _ => ⟨⟩) ⟨⟩ (fun _ _ _ _ => ⟨⟩) v

def mv? : AOp → Option Operand
  | .mv x => some x
  | _ => none

/-- One operation that computes or reads. -/
noncomputable def oneP (E : Env) (σ : Sto) (op : AOp) : Option Value :=
  match op.cls with
  | .pure => pureK E op
  | .heap => heapK E σ op
  | _ => none
noncomputable def onePG (E : Env) (σ : Sto) (o : AOper) : Option Value :=
  match o.guard with
  | none => oneP E σ o.op
  | some (s, want) => @Option.rec Value (fun _ => Option Value) none (fun g => guardF want g (oneP E σ o.op) (some undef)) (E (.tmp s))
/-- One effect. -/
noncomputable def oneKG (call : CallF) (E : Env) (σ : Sto) (o : AOper) : RR :=
  match o.guard with
  | none => effK call E σ o.op
  | some (s, want) => @Option.rec Value (fun _ => RR) none (fun g => guardF want g (effK call E σ o.op) (some (undef, σ))) (E (.tmp s))

theorem guardF_le {call : CallF} {E : Env} {σ : Sto} {o : AOper} {s : Nat} {want : Bool} (hg : o.guard = some (s, want)) {g : Value} (he : E (.tmp s) = some g) {run : RR} {r : Value × Sto} (hrun : ∀ r, run = some r → runOpE call E σ o.op = some r)
    (h : guardF want g run (some (undef, σ)) = some r) : oneE call E σ o = some r := by
  unfold oneE
  simp only [wantedE, hg, he]
  cases g with
  | bool b => cases b <;> cases want <;> first | exact hrun r h | exact h
  | tuple vs => exact h
  | _ => cases h

theorem onePG_le {call : CallF} {E : Env} {σ : Sto} {o : AOper} {v : Value} (h : onePG E σ o = some v) : oneE call E σ o = some (v, σ) := by
  have key : ∀ u, oneP E σ o.op = some u → runOpE call E σ o.op = some (u, σ) := by
    intro u hu
    unfold oneP at hu
    unfold runOpE
    cases hc : o.op.cls with
    | pure => rw [hc] at hu; simp only [pureK_le hu]; rfl
    | heap => rw [hc] at hu; simp only [heapK_le hu]; rfl
    | _ => rw [hc] at hu; cases hu
  unfold onePG at h
  split at h
  · rename_i hg
    unfold oneE
    simp only [hg, wantedE]
    exact key v h
  · rename_i s want hg
    rw [oneR, Option.bind_eq_some_iff] at h
    obtain ⟨g, he, h⟩ := h
    refine guardF_le hg he (run := (oneP E σ o.op).map fun u => (u, σ)) (fun r hr => ?_) ?_
    · rw [Option.map_eq_some_iff] at hr
      obtain ⟨u, hu, rfl⟩ := hr
      exact key u hu
    · cases g with
      | bool b => cases b <;> cases want <;> simp only [guardF] at h ⊢ <;> simp_all
      | tuple vs => simp only [guardF] at h ⊢; simp_all
      | _ => cases h
theorem oneKG_le {call : CallF} {E : Env} {σ : Sto} {o : AOper} {r : Value × Sto} (hc : o.op.cls = .eff) (h : oneKG call E σ o = some r) : oneE call E σ o = some r := by
  have key : ∀ r, effK call E σ o.op = some r → runOpE call E σ o.op = some r := by
    intro r hr
    unfold runOpE
    simp only [hc]
    exact effK_le hr
  unfold oneKG at h
  split at h
  · rename_i hg
    unfold oneE
    simp only [hg, wantedE]
    exact key r h
  · rename_i s want hg
    rw [oneR, Option.bind_eq_some_iff] at h
    obtain ⟨g, he, h⟩ := h
    exact guardF_le hg he key h

/-- One new block, by its guard. -/
noncomputable def oneAG (E : Env) (σ : Sto) (o : AOper) : RR :=
  match o.guard with
  | none => none
  | some (s, want) => @Option.rec Value (fun _ => RR) none (fun g => guardF want g (bind2 (runAllocE E o.op) fun obj f => some (f σ.next, ⟨Nat.succ σ.next, setR σ.objs σ.next obj⟩)) (some (undef, σ))) (E (.tmp s))
theorem oneAG_le {call : CallF} {E : Env} {σ : Sto} {o : AOper} {r : Value × Sto} (hc : o.op.cls = .alloc) (h : oneAG E σ o = some r) : oneE call E σ o = some r := by
  unfold oneAG at h
  split at h
  · cases h
  · rename_i s want hg
    rw [oneR, Option.bind_eq_some_iff] at h
    obtain ⟨g, he, h⟩ := h
    refine guardF_le hg he (fun r hr => ?_) h
    rw [bind2_eq, Option.bind_eq_some_iff] at hr
    obtain ⟨⟨obj, f⟩, h1, h2⟩ := hr
    cases h2
    unfold runOpE
    simp only [hc, h1, Option.bind_some, setR_eq]

/-- Operations in the order of the text. -/
noncomputable def opsK (call : CallF) : List AOper → LL → Sto → KL → RR
  | [], L, σ, k => k L σ
  | o :: l, L, σ, k =>
    match o.guard with
    | none => match o.op.cls with
      | .pure => match mv? o.op with
        | some x => @Option.rec Value (fun _ => RR) none (fun v => opsK call l (addL o.dst v L) σ k) (LE L x)
        | none => bindR (pureK (LE L) o.op) fun v => opsK call l (addL o.dst v L) σ k
      | .heap => bindR (heapK (LE L) σ o.op) fun v => opsK call l (addL o.dst v L) σ k
      | .eff => bind2 (effK call (LE L) σ o.op) fun v σ => opsK call l (addL o.dst v L) σ k
      | .alloc => bind2 (runAllocE (LE L) o.op) fun obj f => opsK call l (addL o.dst (f σ.next) L) ⟨Nat.succ σ.next, setR σ.objs σ.next obj⟩ k
    | some _ => match o.op.cls with
      | .eff => bind2 (oneKG call (LE L) σ o) fun v σ => opsK call l (addL o.dst v L) σ k
      | .alloc => bind2 (oneAG (LE L) σ o) fun v σ => opsK call l (addL o.dst v L) σ k
      | _ => bindR (onePG (LE L) σ o) fun v => opsK call l (addL o.dst v L) σ k

theorem opsK_sound {call call' : CallF} (hc : LeC call call') {k : KL} {r : Value × Sto} : ∀ (l : List AOper) (L : LL) (t : Tr Value) (σ : Sto), RelL L t → opsK call l L σ k = some r →
    ∃ L' t' σ', runOps call' l t σ = some (t', σ') ∧ RelL L' t' ∧ k L' σ' = some r := by
  intro l
  induction l with
  | nil => intro L t σ h hr; exact ⟨L, t, σ, rfl, h, hr⟩
  | cons o l ih =>
    intro L t σ h hr
    -- one operation, then the others
    have step : ∀ v σ1, oneE call (LE L) σ o = some (v, σ1) → opsK call l (addL o.dst v L) σ1 k = some r → ∃ L' t' σ', runOps call' (o :: l) t σ = some (t', σ') ∧ RelL L' t' ∧ k L' σ' = some r := by
      intro v σ1 h1 h2
      obtain ⟨L', t', σ', h3, h4, h5⟩ := ih _ _ _ (h.put o.dst v) h2
      refine ⟨L', t', σ', ?_, h4, h5⟩
      have h6 := oneE_mono hc h.le h1
      have : runOper call' o t σ = some (put t o.dst v, σ1) := by
        unfold one at h6
        unfold runOper
        split at h6
        · rw [h6]
        · cases h6; rfl
        · cases h6
      simp only [runOps, this, h3]
    have plain : ∀ {p : Value × Sto}, o.guard = none → runOpE call (LE L) σ o.op = some p → oneE call (LE L) σ o = some p := by
      intro p hg hp
      unfold oneE
      simp only [hg, wantedE]
      exact hp
    simp only [opsK] at hr
    split at hr
    · rename_i hg
      split at hr
      · rename_i hcl
        split at hr
        · rename_i x hx
          rw [oneR, Option.bind_eq_some_iff] at hr
          obtain ⟨v, h1, h2⟩ := hr
          refine step v σ (plain hg ?_) h2
          unfold runOpE
          rw [hcl]
          have : o.op = .mv x := by
            revert hx
            cases o.op <;> intro hx <;> simp only [mv?] at hx <;> cases hx
            rfl
          simp only [this, runPureE, h1]
          rfl
        · rw [bindR_eq, Option.bind_eq_some_iff] at hr
          obtain ⟨v, h1, h2⟩ := hr
          refine step v σ (plain hg ?_) h2
          unfold runOpE
          rw [hcl]
          simp only [pureK_le h1]
          rfl
      · rename_i hcl
        rw [bindR_eq, Option.bind_eq_some_iff] at hr
        obtain ⟨v, h1, h2⟩ := hr
        refine step v σ (plain hg ?_) h2
        unfold runOpE
        rw [hcl]
        simp only [heapK_le h1]
        rfl
      · rename_i hcl
        rw [bind2_eq, Option.bind_eq_some_iff] at hr
        obtain ⟨⟨v, σ1⟩, h1, h2⟩ := hr
        refine step v σ1 (plain hg ?_) h2
        unfold runOpE
        rw [hcl]
        exact effK_le h1
      · rename_i hcl
        rw [bind2_eq, Option.bind_eq_some_iff] at hr
        obtain ⟨⟨obj, f⟩, h1, h2⟩ := hr
        refine step (f σ.next) _ (plain hg ?_) h2
        unfold runOpE
        rw [hcl]
        simp only [h1, Option.bind_some, setR_eq]
    · split at hr
      · rename_i hcl
        rw [bind2_eq, Option.bind_eq_some_iff] at hr
        obtain ⟨⟨v, σ1⟩, h1, h2⟩ := hr
        exact step v σ1 (oneKG_le hcl h1) h2
      · rename_i hcl
        rw [bind2_eq, Option.bind_eq_some_iff] at hr
        obtain ⟨⟨v, σ1⟩, h1, h2⟩ := hr
        exact step v σ1 (oneAG_le hcl h1) h2
      · rw [bindR_eq, Option.bind_eq_some_iff] at hr
        obtain ⟨v, h1, h2⟩ := hr
        exact step v σ (onePG_le h1) h2

end Go.AM
