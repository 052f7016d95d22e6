/- A faster evaluation: control, calls. -/
import Derived.Test.YtjilfolpkkhfmaaDoorAM24
namespace Go.AM

def seqR (r : ExecR) (k : Tr Value → Sto → ExecR) : ExecR :=
  match r with
  | some (.normal, T, σ) => k T σ
  | r => r
def opsR (r : Option (Tr Value × Sto)) : ExecR :=
  match r with
  | some (T, σ) => some (.normal, T, σ)
  | none => none
def condR (v : Option Value) (a b : ExecR) : ExecR :=
  match v with
  | some (.bool true) => a
  | some (.bool false) => b
  | _ => none
def blockR (id : Nat) (r : ExecR) : ExecR :=
  match r with
  | some (.exit i, T, σ) => match Nat.beq i id with
    | true => some (.normal, T, σ)
    | false => some (.exit i, T, σ)
  | r => r

def execX (F : Nat) (call : CallF) (lf : Nat) : ACode → Tr Value → Sto → ExecR
  | .skip, T, σ => some (.normal, T, σ)
  | .ops l, T, σ => opsR (opsX F call l [] T σ)
  | .draw n l, T, σ => opsR (stepsX F call σ.next [] l [] T { σ with next := σ.next + n })
  | .seq a b, T, σ => seqR (execX F call lf a T σ) fun T σ => execX F call lf b T σ
  | .cond c a b, T, σ => condR (XE F [] T c) (execX F call lf a T σ) (execX F call lf b T σ)
  | .block id c, T, σ => blockR id (execX F call lf c T σ)
  | .loop c, T, σ => iter (fun T σ => execX F call lf c T σ) lf T σ
  | .exit id, T, σ => some (.exit id, T, σ)
  | .ret, T, σ => some (.ret, T, σ)

theorem execX_sound {F : Nat} {call call' : CallF} (hc : LeC call call') {lf : Nat} : ∀ (c : ACode) {T t : Tr Value} {σ : Sto} {ex : AExit} {T' : Tr Value} {σ' : Sto}, Rel F [] T t → execX F call lf c T σ = some (ex, T', σ') →
    ∃ t', exec call' lf c t σ = some (ex, t', σ') ∧ Rel F [] T' t' := by
  intro c
  induction c with
  | skip => intro T t σ ex T' σ' h hr; cases hr; exact ⟨t, rfl, h⟩
  | ops l =>
    intro T t σ ex T' σ' h hr
    simp only [execX, opsR] at hr
    split at hr
    · rename_i T1 σ1 h1
      cases hr
      obtain ⟨t', h2, h3⟩ := opsX_sound hc l [] T t σ T' σ' h h1
      exact ⟨t', by simp only [exec, h2], h3⟩
    · cases hr
  | draw n l =>
    intro T t σ ex T' σ' h hr
    simp only [execX, opsR] at hr
    split at hr
    · rename_i T1 σ1 h1
      cases hr
      obtain ⟨t', h2, h3⟩ := stepsX_sound hc l [] [] T t _ T' σ' h h1
      exact ⟨t', by simp only [exec, h2], h3⟩
    · cases hr
  | seq a b iha ihb =>
    intro T t σ ex T' σ' h hr
    simp only [execX, seqR] at hr
    split at hr
    · rename_i T1 σ1 h1
      obtain ⟨t1, h2, h3⟩ := iha h h1
      obtain ⟨t', h4, h5⟩ := ihb h3 hr
      exact ⟨t', by simp only [exec, h2, h4], h5⟩
    · rename_i hne
      obtain ⟨t1, h2, h3⟩ := iha h hr
      refine ⟨t1, ?_, h3⟩
      cases ex with
      | normal => exact (hne T' σ' hr).elim
      | exit id => simp only [exec, h2]
      | ret => simp only [exec, h2]
  | cond c a b iha ihb =>
    intro T t σ ex T' σ' h hr
    simp only [execX, condR] at hr
    split at hr
    · rename_i hcv
      obtain ⟨t', h4, h5⟩ := iha h hr
      exact ⟨t', by simp only [exec, h.le _ _ hcv, h4], h5⟩
    · rename_i hcv
      obtain ⟨t', h4, h5⟩ := ihb h hr
      exact ⟨t', by simp only [exec, h.le _ _ hcv, h4], h5⟩
    · cases hr
  | block id c ih =>
    intro T t σ ex T' σ' h hr
    simp only [execX, blockR] at hr
    split at hr
    · rename_i i T1 σ1 h1
      obtain ⟨t1, h2, h3⟩ := ih h h1
      split at hr
      · rename_i e
        cases hr
        exact ⟨t1, by simp only [exec, h2, Nat.eq_of_beq_eq_true e, if_true], h3⟩
      · rename_i e
        cases hr
        exact ⟨t1, by simp only [exec, h2]; rw [if_neg (by intro e'; subst e'; rw [Nat.beq_refl] at e; cases e)], h3⟩
    · rename_i hne
      obtain ⟨t1, h2, h3⟩ := ih h hr
      refine ⟨t1, ?_, h3⟩
      cases ex with
      | normal => simp only [exec, h2]
      | exit id => exact (hne id T' σ' hr).elim
      | ret => simp only [exec, h2]
  | loop c ih =>
    intro T t σ ex T' σ' h hr
    have key : ∀ (n : Nat) {T t : Tr Value} {σ : Sto}, Rel F [] T t → iter (execX F call lf c) n T σ = some (ex, T', σ') → ∃ t', iter (exec call' lf c) n t σ = some (ex, t', σ') ∧ Rel F [] T' t' := by
      intro n
      induction n with
      | zero => intro T t σ h hr; cases hr
      | succ n ihn =>
        intro T t σ h hr
        simp only [iter] at hr
        split at hr
        · rename_i T1 σ1 h1
          obtain ⟨t1, h2, h3⟩ := ih h h1
          obtain ⟨t', h4, h5⟩ := ihn h3 hr
          exact ⟨t', by simp only [iter, h2, h4], h5⟩
        · rename_i hne
          obtain ⟨t1, h2, h3⟩ := ih h hr
          refine ⟨t1, ?_, h3⟩
          cases ex with
          | normal => exact (hne T' σ' hr).elim
          | exit id => simp only [iter, h2]
          | ret => simp only [iter, h2]
    exact key lf h hr
  | exit id => intro T t σ ex T' σ' h hr; cases hr; exact ⟨t, rfl, h⟩
  | ret => intro T t σ ex T' σ' h hr; cases hr; exact ⟨t, rfl, h⟩

def resX1 (F : Nat) (T : Tr Value) (σ : Sto) : ARes → Option Value
  | .tmp s => getX F [] T s
  | .cell s n => (getX F [] T s).bind (loadV σ n)

def ressX (F : Nat) (T : Tr Value) (σ : Sto) : List ARes → Option (List Value)
  | [] => some []
  | r :: l => match resX1 F T σ r, ressX F T σ l with
    | some v, some vs => some (v :: vs)
    | _, _ => none

def resultX (F : Nat) (T : Tr Value) (σ : Sto) (rs : List ARes) : Option Value :=
  match ressX F T σ rs with
  | some [v] => some v
  | some vs => some (.tuple vs.toArray)
  | none => none

theorem resX1_sound {F : Nat} {T t : Tr Value} {σ : Sto} (h : Rel F [] T t) {r : ARes} {v : Value} (hr : resX1 F T σ r = some v) : res1 t σ r = some v := by
  cases r with
  | tmp s => exact h s v hr
  | cell s n =>
    simp only [resX1, Option.bind_eq_some_iff] at hr
    obtain ⟨u, hu, hv⟩ := hr
    simp only [res1, h s u hu]
    unfold loadV at hv
    split at hv
    · exact hv
    · cases hv

theorem ressX_sound {F : Nat} {T t : Tr Value} {σ : Sto} (h : Rel F [] T t) : ∀ (rs : List ARes) (vs : List Value), ressX F T σ rs = some vs → ress t σ rs = some vs := by
  intro rs
  induction rs with
  | nil => intro vs hr; exact hr
  | cons r rs ih =>
    intro vs hr
    simp only [ressX] at hr
    split at hr
    · rename_i v vs' h1 h2
      cases hr
      simp only [ress, resX1_sound h h1, ih vs' h2]
    · cases hr

theorem resultX_sound {F : Nat} {T t : Tr Value} {σ : Sto} (h : Rel F [] T t) {rs : List ARes} {v : Value} (hr : resultX F T σ rs = some v) : result t σ rs = some v := by
  unfold resultX at hr
  unfold result
  split at hr
  · rename_i u hu; rw [ressX_sound h rs _ hu]; exact hr
  · rename_i vs hne hu
    rw [ressX_sound h rs _ hu]
    cases hr
    cases vs with
    | nil => rfl
    | cons a l => cases l with
      | nil => exact (hne a rfl).elim
      | cons b l => rfl
  · cases hr

structure XFunc where
  F : Nat
  fn : AFunc
  deriving Inhabited

def runFuncX (call : CallF) (lf : Nat) (x : XFunc) (args : List Value) (σ : Sto) : Option (Value × Sto) :=
  match execX x.F call lf x.fn.code (Tr.ofList args 0 .leaf) σ with
  | some (.exit _, _, _) => none
  | some (_, T, σ) => match resultX x.F T σ x.fn.results with
    | some v => some (v, σ)
    | none => none
  | none => none

def callX (A : FuncId → Option XFunc) (S : CallF) : Nat → CallF
  | 0 => S
  | n + 1 => fun f args σ => match A f with
    | some x => runFuncX (callX A S n) n x args σ
    | none => S f args σ

def plainA (A : FuncId → Option XFunc) : AProg := fun f => (A f).map (·.fn)

theorem callX_le (A : FuncId → Option XFunc) (S : CallF) : ∀ n, LeC (callX A S n) (callA (plainA A) S n) := by
  intro n
  induction n with
  | zero => exact fun _ _ _ _ h => h
  | succ n ih =>
    intro f args σ r h
    simp only [callX] at h
    simp only [callA, plainA]
    cases hA : A f with
    | none => rw [hA] at h; exact h
    | some x =>
      rw [hA] at h
      simp only [Option.map_some] at h ⊢
      have hrel : Rel x.F [] (Tr.ofList args 0 .leaf) (Tr.ofList args 0 .leaf) := by
        intro s v hs
        unfold getX at hs
        split at hs
        · exact hs
        · cases hs
      unfold runFuncX at h
      unfold runFunc
      split at h
      · cases h
      · rename_i ex T1 σ1 hne hex
        obtain ⟨t1, h1, h2⟩ := execX_sound ih x.fn.code hrel hex
        change (match exec (callA (plainA A) S n) n x.fn.code (Tr.ofList args 0 .leaf) σ with | some (.exit _, _, _) => none | some (_, t, σ) => (match result t σ x.fn.results with | some v => some (v, σ) | none => none) | none => none) = some r
        rw [h1]
        split at h
        · rename_i v hv
          cases h
          cases ex with
          | exit id => exact (hne id rfl).elim
          | normal => simp only [resultX_sound h2 hv]
          | ret => simp only [resultX_sound h2 hv]
        · cases h
      · cases h

end Go.AM
