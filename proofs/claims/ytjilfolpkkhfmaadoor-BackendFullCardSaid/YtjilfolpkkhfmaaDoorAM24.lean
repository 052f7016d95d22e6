/- A faster evaluation: regions, control, calls. -/
import Derived.Test.YtjilfolpkkhfmaaDoorAM23
namespace Go.AM

/-- Slots that live within one region. -/
def lk (s : Nat) : List (Nat × Value) → Option Value
  | [] => none
  | (d, v) :: l => match Nat.beq d s with
    | true => some v
    | false => lk s l

/-- The slots of 'F' lie in the trie, all others in the list. -/
def getX (F : Nat) (L : List (Nat × Value)) (T : Tr Value) (s : Nat) : Option Value :=
  match Nat.testBit F s with
  | true => T.get s
  | false => lk s L

def XE (F : Nat) (L : List (Nat × Value)) (T : Tr Value) : Env
  | .tmp s => getX F L T s
  | .const v => some v
  | .global g => some (.pointer (some ⟨g, 0, none⟩))
  | .func f => some (.func (.func f) #[] #[])

def Rel (F : Nat) (L : List (Nat × Value)) (T t : Tr Value) : Prop := ∀ s v, getX F L T s = some v → t.get s = some v

theorem Rel.le {F : Nat} {L : List (Nat × Value)} {T t : Tr Value} (h : Rel F L T t) : Le (XE F L T) (ev t) := by
  intro x v hx
  cases x with
  | tmp s => exact h s v hx
  | const u => exact hx
  | global g => exact hx
  | func f => exact hx

/-- A region's slots are forgotten. -/
theorem Rel.drop {F : Nat} {L : List (Nat × Value)} {T t : Tr Value} (h : Rel F L T t) : Rel F [] T t := by
  intro s v hs
  unfold getX at hs
  split at hs
  · rename_i hF
    exact h s v (by unfold getX; rw [hF]; exact hs)
  · cases hs

/-- A write. -/
def addX (F : Nat) (d : Nat) (v : Value) (L : List (Nat × Value)) : List (Nat × Value) :=
  match Nat.testBit F d with
  | true => L
  | false => (d, v) :: L
def setX (F : Nat) (d : Nat) (v : Value) (T : Tr Value) : Tr Value :=
  match Nat.testBit F d with
  | true => T.set d v
  | false => T
def addO (F : Nat) (d : Option Nat) (v : Value) (L : List (Nat × Value)) : List (Nat × Value) :=
  match d with
  | some d => addX F d v L
  | none => L
def setO (F : Nat) (d : Option Nat) (v : Value) (T : Tr Value) : Tr Value :=
  match d with
  | some d => setX F d v T
  | none => T

theorem Rel.put {F : Nat} {L : List (Nat × Value)} {T t : Tr Value} (h : Rel F L T t) (d : Option Nat) (v : Value) : Rel F (addO F d v L) (setO F d v T) (put t d v) := by
  cases d with
  | none => exact h
  | some d =>
    intro s u hs
    simp only [addO, setO] at hs
    rw [put_get]
    unfold getX addX setX at hs
    cases hd : Nat.testBit F d <;> rw [hd] at hs <;> simp only at hs
    · cases hF : Nat.testBit F s <;> rw [hF] at hs <;> simp only at hs
      · simp only [lk] at hs
        split at hs
        · rename_i e
          cases hs
          rw [if_pos (by rw [Nat.eq_of_beq_eq_true e])]
        · rename_i e
          rw [if_neg (by intro e'; cases e'; rw [Nat.beq_refl] at e; cases e)]
          exact h s u (by unfold getX; rw [hF]; exact hs)
      · rw [if_neg (by intro e'; cases e'; rw [hd] at hF; cases hF)]
        exact h s u (by unfold getX; rw [hF]; exact hs)
    · cases hF : Nat.testBit F s <;> rw [hF] at hs <;> simp only at hs
      · rw [if_neg (by intro e'; cases e'; rw [hd] at hF; cases hF)]
        exact h s u (by unfold getX; rw [hF]; exact hs)
      · rw [Tr.get_set] at hs
        by_cases e : d = s
        · subst e; rw [if_pos rfl] at hs; cases hs; rw [if_pos rfl]
        · rw [if_neg e] at hs; rw [if_neg (fun e' => e (by cases e'; rfl))]
          exact h s u (by unfold getX; rw [hF]; exact hs)

def wantedE (E : Env) : Option (Nat × Bool) → Option Bool
  | none => some true
  | some (s, want) => match E (.tmp s) with
    | some (.bool b) => some (b == want)
    | some (.tuple _) => some false
    | _ => none

theorem wantedE_mono {E : Env} {t : Tr Value} (h : Le E (ev t)) (g : Option (Nat × Bool)) {b : Bool} (hw : wantedE E g = some b) : wanted t g = some b := by
  cases g with
  | none => exact hw
  | some g =>
    obtain ⟨s, want⟩ := g
    simp only [wantedE] at hw
    simp only [wanted]
    split at hw
    · rename_i x hx
      have : t.get s = some (.bool x) := h _ _ hx
      rw [this]; exact hw
    · rename_i x hx
      have : t.get s = some (.tuple x) := h _ _ hx
      rw [this]; exact hw
    · cases hw

def oneE (call : CallF) (E : Env) (σ : Sto) (o : AOper) : Option (Value × Sto) :=
  match wantedE E o.guard with
  | some true => runOpE call E σ o.op
  | some false => some (undef, σ)
  | none => none

theorem oneE_mono {call call' : CallF} (hc : LeC call call') {E : Env} {t : Tr Value} (h : Le E (ev t)) {σ : Sto} {o : AOper} {r : Value × Sto} (hr : oneE call E σ o = some r) : one call' t σ o = some r := by
  unfold oneE at hr
  unfold one
  split at hr
  · rename_i hw
    rw [wantedE_mono h _ hw, ← runOpE_eq]
    exact runOpE_mono hc h _ hr
  · rename_i hw; rw [wantedE_mono h _ hw]; exact hr
  · cases hr

/-- Operations in the order of the text. -/
def opsX (F : Nat) (call : CallF) : List AOper → List (Nat × Value) → Tr Value → Sto → Option (Tr Value × Sto)
  | [], _, T, σ => some (T, σ)
  | o :: l, L, T, σ => match o.guard with
    | none => match o.op.cls with
      | .pure => (runPureE (XE F L T) o.op).bind fun v => opsX F call l (addO F o.dst v L) (setO F o.dst v T) σ
      | .heap => (runHeapE (XE F L T) σ o.op).bind fun v => opsX F call l (addO F o.dst v L) (setO F o.dst v T) σ
      | .eff => (runEffE call (XE F L T) σ o.op).bind fun p => opsX F call l (addO F o.dst p.1 L) (setO F o.dst p.1 T) p.2
      | .alloc => (runAllocE (XE F L T) o.op).bind fun p => opsX F call l (addO F o.dst (p.2 σ.next) L) (setO F o.dst (p.2 σ.next) T) { next := σ.next + 1, objs := σ.objs.set σ.next p.1 }
    | some _ => (oneE call (XE F L T) σ o).bind fun p => opsX F call l (addO F o.dst p.1 L) (setO F o.dst p.1 T) p.2

theorem opsX_cons {F : Nat} {call : CallF} {o : AOper} {l : List AOper} {L : List (Nat × Value)} {T : Tr Value} {σ : Sto} :
    opsX F call (o :: l) L T σ = (oneE call (XE F L T) σ o).bind fun p => opsX F call l (addO F o.dst p.1 L) (setO F o.dst p.1 T) p.2 := by
  simp only [opsX]
  cases hg : o.guard with
  | some g => rfl
  | none =>
    simp only [oneE, hg, wantedE, runOpE]
    cases hc : o.op.cls with
    | pure => simp only; cases runPureE (XE F L T) o.op <;> rfl
    | heap => simp only; cases runHeapE (XE F L T) σ o.op <;> rfl
    | eff => rfl
    | alloc => simp only; cases runAllocE (XE F L T) o.op <;> rfl

theorem opsX_sound {F : Nat} {call call' : CallF} (hc : LeC call call') : ∀ (l : List AOper) (L : List (Nat × Value)) (T t : Tr Value) (σ : Sto) (T' : Tr Value) (σ' : Sto), Rel F L T t → opsX F call l L T σ = some (T', σ') →
    ∃ t', runOps call' l t σ = some (t', σ') ∧ Rel F [] T' t' := by
  intro l
  induction l with
  | nil => intro L T t σ T' σ' h hr; cases hr; exact ⟨t, rfl, h.drop⟩
  | cons o l ih =>
    intro L T t σ T' σ' h hr
    rw [opsX_cons, Option.bind_eq_some_iff] at hr
    obtain ⟨⟨v, σ1⟩, h1, hr⟩ := hr
    obtain ⟨t', h2, h3⟩ := ih _ _ _ _ _ _ (h.put o.dst v) hr
    refine ⟨t', ?_, h3⟩
    have h4 := oneE_mono hc h.le h1
    have : runOper call' o t σ = some (put t o.dst v, σ1) := by
      unfold one at h4
      unfold runOper
      split at h4
      · rw [h4]
      · cases h4; rfl
      · cases h4
    simp only [runOps, this, h2]

/-- A step's own slots. -/
def only (sl : List Nat) (E : Env) : Env
  | .tmp s => match sl.contains s with
    | true => E (.tmp s)
    | false => none
  | x => E x

theorem only_le {F : Nat} {L : List (Nat × Value)} {T t : Tr Value} (h : Rel F L T t) (sl : List Nat) : Le (only sl (XE F L T)) (ev (small t sl)) := by
  intro x v hx
  cases x with
  | tmp s =>
    simp only [only] at hx
    split at hx
    · rename_i hs
      simp only [ev, small_get]
      rw [if_pos (by simpa using hs)]
      exact h s v hx
    · cases hx
  | const u => exact hx
  | global g => exact hx
  | func f => exact hx

def recheckX (call : CallF) (E : Env) (σ : Sto) (y : DStep) : Bool :=
  match oneE call (only y.sl E) σ y.o with
  | none => false
  | some (v, _) => match y.o.dst with
    | none => true
    | some d => match E (.tmp d) with
      | some v' => vEq v v'
      | none => false

def rechecksX (call : CallF) (E : Env) (σ : Sto) (again : Nat) (u : List DStep) : Bool :=
  u.all fun y => !(again.testBit y.i) || (match y.o.op.cls with | .heap => recheckX call E σ y | _ => true)

theorem recheckX_sound {call call' : CallF} (hc : LeC call call') {F : Nat} {L : List (Nat × Value)} {T t : Tr Value} (h : Rel F L T t) {σ : Sto} {y : DStep} (hx : recheckX call (XE F L T) σ y = true) : recheck call' t σ y = true := by
  unfold recheckX at hx
  unfold recheck
  split at hx
  · cases hx
  · rename_i v s h1
    rw [oneE_mono hc (only_le h y.sl) h1]
    cases hd : y.o.dst with
    | none => rfl
    | some d =>
      rw [hd] at hx
      simp only at hx ⊢
      split at hx
      · rename_i v' hv'
        have : t.get d = some v' := h.le _ _ hv'
        rw [this]; exact hx
      · cases hx

theorem rechecksX_sound {call call' : CallF} (hc : LeC call call') {F : Nat} {L : List (Nat × Value)} {T t : Tr Value} (h : Rel F L T t) {σ : Sto} {again : Nat} {u : List DStep} (hr : rechecksX call (XE F L T) σ again u = true) : rechecks call' t σ again u = true := by
  unfold rechecksX at hr
  unfold rechecks
  rw [List.all_eq_true] at hr ⊢
  intro y hy
  have := hr y hy
  rw [Bool.or_eq_true] at this ⊢
  refine this.imp id (fun hx => ?_)
  cases hcl : y.o.op.cls with
  | heap => rw [hcl] at hx; exact recheckX_sound hc h hx
  | _ => rfl

def stepsX (F : Nat) (call : CallF) (base : Nat) : List DStep → List DStep → List (Nat × Value) → Tr Value → Sto → Option (Tr Value × Sto)
  | _, [], _, T, σ => some (T, σ)
  | u, x :: l, L, T, σ => match x.o.op.cls with
    | .alloc => match runAllocE (only x.sl (XE F L T)) x.o.op, σ.objs.get (base + x.j) with
      | some (obj, f), none => stepsX F call base (x :: u) l (addO F x.o.dst (f (base + x.j)) L) (setO F x.o.dst (f (base + x.j)) T) { σ with objs := σ.objs.set (base + x.j) obj }
      | _, _ => none
    | .eff => match oneE call (only x.sl (XE F L T)) σ x.o with
      | some (v, σ') => match rechecksX call (XE F (addO F x.o.dst v L) (setO F x.o.dst v T)) σ' x.again u with
        | true => stepsX F call base (x :: u) l (addO F x.o.dst v L) (setO F x.o.dst v T) σ'
        | false => none
      | none => none
    | _ => match oneE call (only x.sl (XE F L T)) σ x.o with
      | some (v, σ') => stepsX F call base (x :: u) l (addO F x.o.dst v L) (setO F x.o.dst v T) σ'
      | none => none

theorem stepsX_sound {F : Nat} {call call' : CallF} (hc : LeC call call') {base : Nat} : ∀ (l u : List DStep) (L : List (Nat × Value)) (T t : Tr Value) (σ : Sto) (T' : Tr Value) (σ' : Sto), Rel F L T t → stepsX F call base u l L T σ = some (T', σ') →
    ∃ t', runSteps call' base u l t σ = some (t', σ') ∧ Rel F [] T' t' := by
  intro l
  induction l with
  | nil => intro u L T t σ T' σ' h hr; cases hr; exact ⟨t, rfl, h.drop⟩
  | cons x l ih =>
    intro u L T t σ T' σ' h hr
    simp only [stepsX] at hr
    simp only [runSteps, runStep]
    split at hr
    · rename_i hcl
      simp only [hcl]
      split at hr
      · rename_i obj f ho hg
        have ho' := runAllocE_mono (only_le h x.sl) _ ho
        rw [runAllocE_eq] at ho'
        simp only [ho', hg]
        exact ih _ _ _ _ _ _ _ (h.put x.o.dst _) hr
      · cases hr
    · rename_i hcl
      simp only [hcl]
      split at hr
      · rename_i v σ1 h1
        simp only [oneE_mono hc (only_le h x.sl) h1]
        split at hr
        · rename_i hre
          rw [if_pos (rechecksX_sound hc (h.put x.o.dst v) hre)]
          exact ih _ _ _ _ _ _ _ (h.put x.o.dst v) hr
        · cases hr
      · cases hr
    · rename_i hn1 hn2
      split at hr
      · rename_i v σ1 h1
        have h2 := oneE_mono hc (only_le h x.sl) h1
        cases hcl : x.o.op.cls with
        | alloc => exact (hn1 hcl).elim
        | eff => exact (hn2 hcl).elim
        | pure => simp only [h2]; exact ih _ _ _ _ _ _ _ (h.put x.o.dst v) hr
        | heap => simp only [h2]; exact ih _ _ _ _ _ _ _ (h.put x.o.dst v) hr
      · cases hr

end Go.AM
