/- A third evaluation: regions in any order, control, calls. -/
import Derived.Test.YtjilfolpkkhfmaaDoorAM29
namespace Go.AM

theorem onlyL_le {L : LL} {t : Tr Value} (h : RelL L t) (sl : List Nat) : Le (only sl (LE L)) (ev (small t sl)) := by
  intro x v hx
  cases x with
  | tmp s =>
    simp only [only] at hx
    split at hx
    · rename_i hs
      simp only [ev, small_get]
      rw [if_pos (by simpa using hs)]
      exact h s v hx
    · cases hx
  | const u => exact hx
  | global g => exact hx
  | func f => exact hx

/-- Are two values the same? -/
noncomputable def vEqF (a b : Value) : Bool :=
  vInt (vEq a b) (fun k x => vInt (vEq a b) (fun k' y => @Bool.rec (fun _ => Bool) (vEq a b) (@Int.rec (fun _ => Bool) (fun m => @Int.rec (fun _ => Bool) (fun n => Nat.beq m n) (fun _ => vEq a b) y) (fun _ => vEq a b) x) (Nat.beq (kc k) (kc k'))) b) a
theorem vEqF_eq (a b : Value) : vEqF a b = vEq a b := by
  cases a with
  | int k x => cases b with
    | int k' y =>
      simp only [vEqF, vInt]
      cases hk : Nat.beq (kc k) (kc k') with
      | false => rfl
      | true =>
        obtain rfl := kc_inj hk
        cases x with
        | ofNat m => cases y with
          | ofNat n =>
            show Nat.beq m n = _
            simp only [vEq, eqI, eqP]
            cases h : Nat.beq m n
            · have : m ≠ n := fun e => by subst e; rw [Nat.beq_refl] at h; cases h
              symm
              rw [Bool.and_eq_false_iff]
              right
              rw [decide_eq_false_iff_not]
              intro e; exact this (Int.ofNat.inj e)
            · have := Nat.eq_of_beq_eq_true h
              subst this; simp
          | negSucc n => rfl
        | negSucc m => rfl
    | _ => rfl
  | _ => rfl

/-- What is asked once more. -/
noncomputable def againK (E : Env) (σ : Sto) (again : Nat) : List DStep → RR → RR
  | [], r => r
  | y :: u, r => match again.testBit y.i with
    | false => againK E σ again u r
    | true => match y.o.op.cls with
      | .heap => bindR (onePG (only y.sl E) σ y.o) fun v => match y.o.dst with
        | none => againK E σ again u r
        | some d => @Option.rec Value (fun _ => RR) none (fun v' => @Bool.rec (fun _ => RR) none (againK E σ again u r) (vEqF v v')) (E (.tmp d))
      | _ => againK E σ again u r

theorem againK_sound {call' : CallF} {L : LL} {t : Tr Value} (h : RelL L t) {σ : Sto} {again : Nat} {r : Value × Sto} : ∀ (u : List DStep) (rest : RR), againK (LE L) σ again u rest = some r → rechecks call' t σ again u = true ∧ rest = some r := by
  intro u
  induction u with
  | nil => intro rest hr; exact ⟨rfl, hr⟩
  | cons y u ih =>
    intro rest hr
    simp only [againK] at hr
    have cons : ∀ (b : Bool), (!(again.testBit y.i) || (match y.o.op.cls with | .heap => recheck call' t σ y | _ => true)) = b → rechecks call' t σ again (y :: u) = (b && rechecks call' t σ again u) := by
      intro b hb
      simp only [rechecks, List.all_cons]
      rw [← hb]; rfl
    split at hr
    · rename_i hb
      obtain ⟨h1, h2⟩ := ih rest hr
      refine ⟨?_, h2⟩
      rw [cons true (by rw [hb]; rfl), h1]; rfl
    · rename_i hb
      split at hr
      · rename_i hcl
        rw [bindR_eq, Option.bind_eq_some_iff] at hr
        obtain ⟨v, h1, hr⟩ := hr
        have h3 := oneE_mono (call := call') (call' := call') (fun _ _ _ _ h => h) (onlyL_le h y.sl) (onePG_le h1)
        split at hr
        · rename_i hd
          obtain ⟨h4, h5⟩ := ih rest hr
          refine ⟨?_, h5⟩
          have : recheck call' t σ y = true := by simp only [recheck, h3, hd]
          rw [cons true (by rw [hb, hcl]; simp only [this]; rfl), h4]; rfl
        · rename_i d hd
          rw [oneR, Option.bind_eq_some_iff] at hr
          obtain ⟨v', h4, hr⟩ := hr
          cases he : vEqF v v' with
          | false => rw [he] at hr; cases hr
          | true =>
            rw [he] at hr
            obtain ⟨h5, h6⟩ := ih rest hr
            refine ⟨?_, h6⟩
            have h7 : t.get d = some v' := h.le _ _ h4
            have : recheck call' t σ y = true := by simp only [recheck, h3, hd, h7]; rw [← vEqF_eq]; exact he
            rw [cons true (by rw [hb, hcl]; simp only [this]; rfl), h5]; rfl
      · rename_i hne
        obtain ⟨h1, h2⟩ := ih rest hr
        refine ⟨?_, h2⟩
        rw [cons true (by
          cases hcl : y.o.op.cls with
          | heap => exact (hne hcl).elim
          | _ => simp), h1]; rfl

noncomputable def drawK (call : CallF) (base : Nat) : List DStep → List DStep → LL → Sto → KL → RR
  | _, [], L, σ, k => k L σ
  | u, x :: l, L, σ, k => match x.o.op.cls with
    | .alloc => bind2 (runAllocE (only x.sl (LE L)) x.o.op) fun obj f =>
        @Option.rec AObj (fun _ => RR) (drawK call base (x :: u) l (addL x.o.dst (f (Nat.add base x.j)) L) ⟨σ.next, setR σ.objs (Nat.add base x.j) obj⟩ k) (fun _ => none) (getR σ.objs (Nat.add base x.j))
    | .eff => bind2 (oneKG call (only x.sl (LE L)) σ x.o) fun v σ => againK (LE (addL x.o.dst v L)) σ x.again u (drawK call base (x :: u) l (addL x.o.dst v L) σ k)
    | _ => match x.o.guard, mv? x.o.op with
      | none, some y => @Option.rec Value (fun _ => RR) none (fun v => drawK call base (x :: u) l (addL x.o.dst v L) σ k) (only x.sl (LE L) y)
      | _, _ => bindR (onePG (only x.sl (LE L)) σ x.o) fun v => drawK call base (x :: u) l (addL x.o.dst v L) σ k

theorem drawK_sound {call call' : CallF} (hc : LeC call call') {base : Nat} {k : KL} {r : Value × Sto} : ∀ (l u : List DStep) (L : LL) (t : Tr Value) (σ : Sto), RelL L t → drawK call base u l L σ k = some r →
    ∃ L' t' σ', runSteps call' base u l t σ = some (t', σ') ∧ RelL L' t' ∧ k L' σ' = some r := by
  intro l
  induction l with
  | nil => intro u L t σ h hr; exact ⟨L, t, σ, rfl, h, hr⟩
  | cons x l ih =>
    intro u L t σ h hr
    simp only [drawK] at hr
    split at hr
    · rename_i hcl
      rw [bind2_eq, Option.bind_eq_some_iff] at hr
      obtain ⟨⟨obj, f⟩, h1, hr⟩ := hr
      have h2 := runAllocE_mono (onlyL_le h x.sl) _ h1
      rw [runAllocE_eq] at h2
      rw [getR_eq, show Nat.add base x.j = base + x.j from rfl] at hr
      cases hg : σ.objs.get (base + x.j) with
      | some o => rw [hg] at hr; cases hr
      | none =>
        rw [hg] at hr
        rw [setR_eq] at hr
        obtain ⟨L', t', σ', h3, h4, h5⟩ := ih (x :: u) _ _ _ (h.put x.o.dst _) hr
        refine ⟨L', t', σ', ?_, h4, h5⟩
        simp only [runSteps, runStep, hcl, h2, hg]
        exact h3
    · rename_i hcl
      rw [bind2_eq, Option.bind_eq_some_iff] at hr
      obtain ⟨⟨v, σ1⟩, h1, hr⟩ := hr
      have h2 := oneE_mono hc (onlyL_le h x.sl) (oneKG_le hcl h1)
      obtain ⟨h3, hr⟩ := againK_sound (call' := call') (h.put x.o.dst v) u _ hr
      obtain ⟨L', t', σ', h4, h5, h6⟩ := ih (x :: u) _ _ _ (h.put x.o.dst v) hr
      refine ⟨L', t', σ', ?_, h5, h6⟩
      simp only [runSteps, runStep, hcl, h2]
      rw [if_pos h3]
      exact h4
    · rename_i hn1 hn2
      have step : ∀ v, oneE call (only x.sl (LE L)) σ x.o = some (v, σ) → drawK call base (x :: u) l (addL x.o.dst v L) σ k = some r → ∃ L' t' σ', runSteps call' base u (x :: l) t σ = some (t', σ') ∧ RelL L' t' ∧ k L' σ' = some r := by
        intro v h1 hr
        have h2 := oneE_mono hc (onlyL_le h x.sl) h1
        obtain ⟨L', t', σ', h4, h5, h6⟩ := ih (x :: u) _ _ _ (h.put x.o.dst v) hr
        refine ⟨L', t', σ', ?_, h5, h6⟩
        cases hcl : x.o.op.cls with
        | alloc => exact (hn1 hcl).elim
        | eff => exact (hn2 hcl).elim
        | pure => simp only [runSteps, runStep, hcl, h2]; exact h4
        | heap => simp only [runSteps, runStep, hcl, h2]; exact h4
      split at hr
      · rename_i y hg hy
        rw [oneR, Option.bind_eq_some_iff] at hr
        obtain ⟨v, h1, hr⟩ := hr
        refine step v ?_ hr
        have : x.o.op = .mv y := by
          revert hy
          cases x.o.op <;> intro hy <;> simp only [mv?] at hy <;> cases hy
          rfl
        unfold oneE
        simp only [hg, wantedE]
        unfold runOpE
        rw [this]
        simp only [AOp.cls, runPureE, h1]
        rfl
      · rw [bindR_eq, Option.bind_eq_some_iff] at hr
        obtain ⟨v, h1, hr⟩ := hr
        exact step v (onePG_le h1) hr

/-- Code with the names that live at its joins. -/
inductive KCode where
  | skip
  | ops (l : List AOper)
  | draw (nalloc : Nat) (l : List DStep)
  | seq (a b : KCode)
  | cond (c : Operand) (live : Option (List Nat)) (a b : KCode)
  | block (id : Nat) (live : List Nat) (c : KCode)
  | loop (live : List Nat) (c : KCode)
  | exit (id : Nat)
  | ret

def KCode.erase : KCode → ACode
  | .skip => .skip
  | .ops l => .ops l
  | .draw n l => .draw n l
  | .seq a b => .seq a.erase b.erase
  | .cond c _ a b => .cond c a.erase b.erase
  | .block id _ c => .block id c.erase
  | .loop _ c => .loop c.erase
  | .exit id => .exit id
  | .ret => .ret

def KF : List Nat → Type
  | [] => Sto → RR
  | _ :: l => Value → KF l
def curryK : (live : List Nat) → LL → KL → KF live
  | [], acc, k => fun σ => k acc σ
  | s :: l, acc, k => fun v => curryK l ((s, v) :: acc) k
noncomputable def applyK : (live : List Nat) → KF live → LL → Sto → RR
  | [], f, _, σ => f σ
  | s :: l, f, L, σ => @Option.rec Value (fun _ => RR) none (fun v => applyK l (f v) L σ) (lk s L)

theorem applyK_curry {k : KL} {σ : Sto} {r : Value × Sto} {L : LL} {t : Tr Value} (hL : RelL L t) : ∀ (live : List Nat) (acc : LL), RelL acc t → applyK live (curryK live acc k) L σ = some r → ∃ L', RelL L' t ∧ k L' σ = some r := by
  intro live
  induction live with
  | nil => intro acc ha hr; exact ⟨acc, ha, hr⟩
  | cons s l ih =>
    intro acc ha hr
    simp only [applyK, oneR, Option.bind_eq_some_iff] at hr
    obtain ⟨v, h1, hr⟩ := hr
    refine ih ((s, v) :: acc) ?_ hr
    intro s' u hs
    rw [lk_cons] at hs
    split at hs
    · rename_i e; cases hs; rw [← e]; exact hL s v h1
    · exact ha s' u hs

noncomputable def joinK {α : Type} (j : α) (f : α → RR) : RR := f j

def lkK (id : Nat) : List (Nat × KL) → Option KL
  | [] => none
  | (i, k) :: l => match Nat.beq i id with
    | true => some k
    | false => lkK id l

noncomputable def branch (v : Value) (a b : RR) : RR := vBool none (fun c => @Bool.rec (fun _ => RR) b a c) v

noncomputable def execK (call : CallF) (lf : Nat) : KCode → LL → Sto → KL → List (Nat × KL) → KL → RR
  | .skip, L, σ, kn, _, _ => kn L σ
  | .ops l, L, σ, kn, _, _ => opsK call l L σ kn
  | .draw n l, L, σ, kn, _, _ => drawK call σ.next [] l L ⟨Nat.add σ.next n, σ.objs⟩ kn
  | .seq a b, L, σ, kn, ks, kr => execK call lf a L σ (fun L σ => execK call lf b L σ kn ks kr) ks kr
  | .cond c none a b, L, σ, kn, ks, kr => @Option.rec Value (fun _ => RR) none (fun v => branch v (execK call lf a L σ kn ks kr) (execK call lf b L σ kn ks kr)) (LE L c)
  | .cond c (some live) a b, L, σ, kn, ks, kr => joinK (curryK live [] kn) fun J =>
      @Option.rec Value (fun _ => RR) none (fun v => branch v (execK call lf a L σ (applyK live J) ks kr) (execK call lf b L σ (applyK live J) ks kr)) (LE L c)
  | .block id live c, L, σ, kn, ks, kr => joinK (curryK live [] kn) fun J => execK call lf c L σ (applyK live J) ((id, applyK live J) :: ks) kr
  | .loop live c, L, σ, _, ks, kr =>
      applyK live (@Nat.rec (fun _ => KF live) (curryK live [] fun _ _ => none) (fun _ ih => curryK live [] fun L σ => execK call lf c L σ (applyK live ih) ks kr) lf) L σ
  | .exit id, L, σ, _, ks, _ => @Option.rec KL (fun _ => RR) none (fun k => k L σ) (lkK id ks)
  | .ret, L, σ, _, _, kr => kr L σ

/-- Where a run goes on. -/
def Goes (kn : KL) (ks : List (Nat × KL)) (kr : KL) (ex : AExit) (L : LL) (σ : Sto) (r : Value × Sto) : Prop :=
  match ex with
  | .normal => kn L σ = some r
  | .exit id => ∃ k, lkK id ks = some k ∧ k L σ = some r
  | .ret => kr L σ = some r

theorem branch_eq {v : Value} {a b : RR} {r : Value × Sto} (h : branch v a b = some r) : (v = .bool true ∧ a = some r) ∨ (v = .bool false ∧ b = some r) := by
  cases v with
  | bool c => cases c
              · exact Or.inr ⟨rfl, h⟩
              · exact Or.inl ⟨rfl, h⟩
  | _ => cases h

theorem execK_sound {call call' : CallF} (hc : LeC call call') {lf : Nat} {r : Value × Sto} : ∀ (c : KCode) (L : LL) (t : Tr Value) (σ : Sto) (kn : KL) (ks : List (Nat × KL)) (kr : KL), RelL L t → execK call lf c L σ kn ks kr = some r →
    ∃ ex L' t' σ', exec call' lf c.erase t σ = some (ex, t', σ') ∧ RelL L' t' ∧ Goes kn ks kr ex L' σ' r := by
  intro c
  induction c with
  | skip => intro L t σ kn ks kr h hr; exact ⟨.normal, L, t, σ, rfl, h, hr⟩
  | ops l =>
    intro L t σ kn ks kr h hr
    obtain ⟨L', t', σ', h1, h2, h3⟩ := opsK_sound hc l L t σ h hr
    exact ⟨.normal, L', t', σ', by simp only [KCode.erase, exec, h1], h2, h3⟩
  | draw n l =>
    intro L t σ kn ks kr h hr
    obtain ⟨L', t', σ', h1, h2, h3⟩ := drawK_sound hc l [] L t _ h hr
    exact ⟨.normal, L', t', σ', by simp only [KCode.erase, exec]; rw [show σ.next + n = Nat.add σ.next n from rfl]; simp only [h1], h2, h3⟩
  | seq a b iha ihb =>
    intro L t σ kn ks kr h hr
    obtain ⟨ex, L1, t1, σ1, h1, h2, h3⟩ := iha L t σ _ ks kr h hr
    cases ex with
    | normal =>
      obtain ⟨ex', L', t', σ', h4, h5, h6⟩ := ihb L1 t1 σ1 kn ks kr h2 h3
      exact ⟨ex', L', t', σ', by simp only [KCode.erase, exec, h1, h4], h5, h6⟩
    | exit id => exact ⟨.exit id, L1, t1, σ1, by simp only [KCode.erase, exec, h1], h2, h3⟩
    | ret => exact ⟨.ret, L1, t1, σ1, by simp only [KCode.erase, exec, h1], h2, h3⟩
  | cond c live a b iha ihb =>
    intro L t σ kn ks kr h hr
    have key : ∀ kn', (@Option.rec Value (fun _ => RR) none (fun v => branch v (execK call lf a L σ kn' ks kr) (execK call lf b L σ kn' ks kr)) (LE L c)) = some r →
        ∃ ex L' t' σ', exec call' lf (KCode.erase (.cond c live a b)) t σ = some (ex, t', σ') ∧ RelL L' t' ∧ Goes kn' ks kr ex L' σ' r := by
      intro kn' hr
      rw [oneR, Option.bind_eq_some_iff] at hr
      obtain ⟨v, h1, hr⟩ := hr
      have h2 := h.le _ _ h1
      rcases branch_eq hr with ⟨rfl, hr⟩ | ⟨rfl, hr⟩
      · obtain ⟨ex, L', t', σ', h3, h4, h5⟩ := iha L t σ kn' ks kr h hr
        exact ⟨ex, L', t', σ', by simp only [KCode.erase, exec, h2, h3], h4, h5⟩
      · obtain ⟨ex, L', t', σ', h3, h4, h5⟩ := ihb L t σ kn' ks kr h hr
        exact ⟨ex, L', t', σ', by simp only [KCode.erase, exec, h2, h3], h4, h5⟩
    cases live with
    | none => exact key kn hr
    | some live =>
      obtain ⟨ex, L', t', σ', h1, h2, h3⟩ := key (applyK live (curryK live [] kn)) hr
      cases ex with
      | normal =>
        obtain ⟨L2, h4, h5⟩ := applyK_curry h2 live [] (fun s v hs => by cases hs) h3
        exact ⟨.normal, L2, t', σ', h1, h4, h5⟩
      | exit id => exact ⟨.exit id, L', t', σ', h1, h2, h3⟩
      | ret => exact ⟨.ret, L', t', σ', h1, h2, h3⟩
  | block id live c ih =>
    intro L t σ kn ks kr h hr
    obtain ⟨ex, L1, t1, σ1, h1, h2, h3⟩ := ih L t σ (applyK live (curryK live [] kn)) ((id, applyK live (curryK live [] kn)) :: ks) kr h hr
    cases ex with
    | normal =>
      obtain ⟨L2, h4, h5⟩ := applyK_curry h2 live [] (fun s v hs => by cases hs) h3
      exact ⟨.normal, L2, t1, σ1, by simp only [KCode.erase, exec, h1], h4, h5⟩
    | exit i =>
      obtain ⟨k, h4, h5⟩ := h3
      simp only [lkK] at h4
      split at h4
      · rename_i e
        cases h4
        obtain rfl := Nat.eq_of_beq_eq_true e
        obtain ⟨L2, h6, h7⟩ := applyK_curry h2 live [] (fun s v hs => by cases hs) h5
        exact ⟨.normal, L2, t1, σ1, by simp only [KCode.erase, exec, h1, if_true], h6, h7⟩
      · rename_i e
        exact ⟨.exit i, L1, t1, σ1, by simp only [KCode.erase, exec, h1]; rw [if_neg (by intro e'; subst e'; rw [Nat.beq_refl] at e; cases e)], h2, k, h4, h5⟩
    | ret => exact ⟨.ret, L1, t1, σ1, by simp only [KCode.erase, exec, h1], h2, h3⟩
  | loop live c ih =>
    intro L t σ kn ks kr h hr
    have key : ∀ (n : Nat) (L : LL) (t : Tr Value) (σ : Sto), RelL L t →
        applyK live (@Nat.rec (fun _ => KF live) (curryK live [] fun _ _ => none) (fun _ ih => curryK live [] fun L σ => execK call lf c L σ (applyK live ih) ks kr) n) L σ = some r →
        ∃ ex L' t' σ', iter (exec call' lf c.erase) n t σ = some (ex, t', σ') ∧ RelL L' t' ∧ Goes kn ks kr ex L' σ' r := by
      intro n
      induction n with
      | zero =>
        intro L t σ h hr
        obtain ⟨L2, _, h5⟩ := applyK_curry h live [] (fun s v hs => by cases hs) hr
        cases h5
      | succ n ihn =>
        intro L t σ h hr
        obtain ⟨L2, h4, h5⟩ := applyK_curry h live [] (fun s v hs => by cases hs) hr
        obtain ⟨ex, L1, t1, σ1, h1, h2, h3⟩ := ih L2 t σ _ ks kr h4 h5
        cases ex with
        | normal =>
          obtain ⟨ex', L', t', σ', h6, h7, h8⟩ := ihn L1 t1 σ1 h2 h3
          exact ⟨ex', L', t', σ', by simp only [iter, h1, h6], h7, h8⟩
        | exit id => exact ⟨.exit id, L1, t1, σ1, by simp only [iter, h1], h2, h3⟩
        | ret => exact ⟨.ret, L1, t1, σ1, by simp only [iter, h1], h2, h3⟩
    exact key lf L t σ h hr
  | exit id =>
    intro L t σ kn ks kr h hr
    simp only [execK, oneR, Option.bind_eq_some_iff] at hr
    exact ⟨.exit id, L, t, σ, rfl, h, hr⟩
  | ret => intro L t σ kn ks kr h hr; exact ⟨.ret, L, t, σ, rfl, h, hr⟩

noncomputable def argsK : Nat → Nat → List Value → LL → (LL → RR) → RR
  | 0, _, _, L, f => f L
  | n + 1, i, as, L, f => @List.rec Value (fun _ => RR) none (fun a tl _ => argsK n (i + 1) tl ((i, a) :: L) f) as

theorem argsK_sound {f : LL → RR} {r : Value × Sto} {t0 : Tr Value} : ∀ (n i : Nat) (as : List Value) (L : LL), (∀ s v, lk s L = some v → t0.get s = some v) → (∀ j, j < as.length → t0.get (i + j) = as[j]?) → argsK n i as L f = some r →
    ∃ L', RelL L' t0 ∧ f L' = some r := by
  intro n
  induction n with
  | zero => intro i as L hL _ hr; exact ⟨L, hL, hr⟩
  | succ n ih =>
    intro i as L hL ha hr
    cases as with
    | nil => cases hr
    | cons a tl =>
      refine ih (i + 1) tl ((i, a) :: L) ?_ ?_ hr
      · intro s v hs
        rw [lk_cons] at hs
        split at hs
        · rename_i e; cases hs; subst e
          have := ha 0 (by simp)
          simpa using this
        · exact hL s v hs
      · intro j hj
        have := ha (j + 1) (by simp; omega)
        rw [show i + 1 + j = i + (j + 1) by omega, this]
        simp

noncomputable def resK : List ARes → LL → Sto → (List Value → RR) → RR
  | [], _, _, f => f []
  | .tmp s :: l, L, σ, f => @Option.rec Value (fun _ => RR) none (fun v => resK l L σ fun vs => f (v :: vs)) (lk s L)
  | .cell s n :: l, L, σ, f => @Option.rec Value (fun _ => RR) none (fun p => bindR (loadF σ n p) fun v => resK l L σ fun vs => f (v :: vs)) (lk s L)

def tupV : List Value → Value
  | [v] => v
  | vs => .tuple (Array.mk vs)

theorem resK_sound {L : LL} {t : Tr Value} (h : RelL L t) {σ : Sto} {r : Value × Sto} : ∀ (rs : List ARes) (f : List Value → RR), resK rs L σ f = some r → ∃ vs, ress t σ rs = some vs ∧ f vs = some r := by
  intro rs
  induction rs with
  | nil => intro f hr; exact ⟨[], rfl, hr⟩
  | cons a rs ih =>
    intro f hr
    cases a with
    | tmp s =>
      simp only [resK, oneR, Option.bind_eq_some_iff] at hr
      obtain ⟨v, h1, hr⟩ := hr
      obtain ⟨vs, h2, h3⟩ := ih _ hr
      exact ⟨v :: vs, by simp only [ress, res1, h s v h1, h2], h3⟩
    | cell s n =>
      simp only [resK, oneR, bindR_eq, Option.bind_eq_some_iff] at hr
      obtain ⟨p, h1, v, h4, hr⟩ := hr
      obtain ⟨vs, h2, h3⟩ := ih _ hr
      rw [loadF_eq] at h4
      have h5 : res1 t σ (.cell s n) = some v := by
        simp only [res1, h s p h1]
        unfold loadV at h4
        split at h4
        · exact h4
        · cases h4
      exact ⟨v :: vs, by simp only [ress, h5, h2], h3⟩

structure KFunc where
  code : KCode
  results : List ARes
  nparams : Nat

def KFunc.erase (k : KFunc) : AFunc := ⟨k.code.erase, k.results, k.nparams⟩

noncomputable def runK (k : KFunc) (call : CallF) (lf : Nat) (args : List Value) (σ : Sto) : RR :=
  argsK k.nparams 0 args [] fun L => execK call lf k.code L σ (fun L σ => resK k.results L σ fun vs => some (tupV vs, σ)) [] (fun L σ => resK k.results L σ fun vs => some (tupV vs, σ))

theorem runK_sound {call call' : CallF} (hc : LeC call call') {lf : Nat} {k : KFunc} {args : List Value} {σ : Sto} {r : Value × Sto} (h : runK k call lf args σ = some r) : runFunc call' lf k.erase args σ = some r := by
  unfold runK at h
  obtain ⟨L, hL, h⟩ := argsK_sound (t0 := Tr.ofList args 0 .leaf) k.nparams 0 args [] (fun s v hs => by cases hs) (fun j hj => by
    rw [Tr.get_ofList]
    rw [if_pos ⟨by omega, by omega⟩]
    simp) h
  obtain ⟨ex, L', t', σ', h1, h2, h3⟩ := execK_sound hc k.code L _ σ _ _ _ hL h
  have key : resK k.results L' σ' (fun vs => some (tupV vs, σ')) = some r → ex ≠ .exit 0 ∧ (∀ id, ex ≠ .exit id) → runFunc call' lf k.erase args σ = some r := by
    intro h4 hne
    obtain ⟨vs, h5, h6⟩ := resK_sound h2 k.results _ h4
    cases h6
    unfold runFunc
    have h7 : result t' σ' k.results = some (tupV vs) := by
      unfold result
      rw [h5]
      cases vs with
      | nil => rfl
      | cons a l => cases l <;> rfl
    simp only [KFunc.erase, h1]
    cases ex with
    | exit id => exact (hne.2 id rfl).elim
    | normal => simp only [h7]
    | ret => simp only [h7]
  cases ex with
  | normal => exact key h3 ⟨by simp, by simp⟩
  | exit id => obtain ⟨q, h4, _⟩ := h3; cases h4
  | ret => exact key h3 ⟨by simp, by simp⟩

abbrev SFun := CallF → Nat → List Value → Sto → RR

noncomputable def callY (tab : Tr SFun) (n : Nat) : CallF :=
  @Nat.rec (fun _ => CallF) (fun _ _ _ => none) (fun n ih f args σ => @Option.rec SFun (fun _ => RR) none (fun g => g ih n args σ) (getR tab f)) n

/-- A table of staged functions, and what they are. -/
def StagedOK (tab : Tr SFun) (A : AProg) : Prop := ∀ f g, tab.get f = some g → ∃ k : KFunc, A f = some k.erase ∧ ∀ call lf args σ, g call lf args σ = runK k call lf args σ

theorem callY_le {tab : Tr SFun} {A : AProg} (h : StagedOK tab A) (S : CallF) : ∀ n, LeC (callY tab n) (callA A S n) := by
  intro n
  induction n with
  | zero => intro f a σ r hr; cases hr
  | succ n ih =>
    intro f args σ r hr
    have e : callY tab (n + 1) f args σ = @Option.rec SFun (fun _ => RR) none (fun g => g (callY tab n) n args σ) (getR tab f) := rfl
    rw [e, getR_eq, oneR, Option.bind_eq_some_iff] at hr
    obtain ⟨g, hg, hr⟩ := hr
    obtain ⟨k, h1, h2⟩ := h f g hg
    rw [h2] at hr
    simp only [callA, h1]
    exact runK_sound ih hr

end Go.AM
