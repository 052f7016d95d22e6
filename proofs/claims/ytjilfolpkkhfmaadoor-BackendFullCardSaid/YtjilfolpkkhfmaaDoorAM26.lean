/- What is asked of a table of compiled functions; a function's run in parts. -/
import Derived.Test.YtjilfolpkkhfmaaDoorAM21
import Derived.Test.YtjilfolpkkhfmaaDoorAM25
namespace Go.AM

def Tr.ofPairs {α : Type} : List (Nat × α) → Tr α → Tr α
  | [], t => t
  | (k, a) :: l, t => ofPairs l (t.set k a)

theorem Tr.get_ofPairs {α : Type} {k : Nat} {a : α} : ∀ (l : List (Nat × α)) (t : Tr α), (Tr.ofPairs l t).get k = some a → (k, a) ∈ l ∨ t.get k = some a := by
  intro l
  induction l with
  | nil => intro t h; exact Or.inr h
  | cons p l ih =>
    obtain ⟨j, b⟩ := p
    intro t h
    simp only [Tr.ofPairs] at h
    rcases ih _ h with h | h
    · exact Or.inl (List.mem_cons_of_mem _ h)
    · rw [Tr.get_set] at h
      split at h
      · rename_i e
        cases h; subst e
        exact Or.inl (by simp)
      · exact Or.inr h

/-- One function of the table is what the model's code compiles to. -/
def EntryOK (P : Program) (tab : Tab) (mrows : String → List (TypeId × FuncId)) (p : Nat × XFunc) : Prop :=
  callable P p.1 = true ∧ ∃ func, P.funcs[p.1]? = some func ∧ compileFunc P tab mrows func = some p.2.fn

theorem aok_of_list {P : Program} {tab : Tab} {mrows : String → List (TypeId × FuncId)} (l : List (Nat × XFunc)) (h : ∀ p ∈ l, EntryOK P tab mrows p) : AOK P tab mrows (plainA fun f => (Tr.ofPairs l .leaf).get f) := by
  intro f fn hf
  simp only [plainA, Option.map_eq_some_iff] at hf
  obtain ⟨x, hx, rfl⟩ := hf
  rcases Tr.get_ofPairs l _ hx with h' | h'
  · exact h _ h'
  · simp [Tr.get_leaf] at h'

def mrowsOf : List (String × List (TypeId × FuncId)) → String → List (TypeId × FuncId)
  | [], _ => []
  | (k, r) :: l, n => if n = k then r else mrowsOf l n

def mrowsChk (P : Program) (l : List (String × List (TypeId × FuncId))) : Bool := l.all fun p => p.2.all fun q => methodRow P p.1 q.1 == some q.2

theorem rowsOK_of {P : Program} {l : List (String × List (TypeId × FuncId))} (h : mrowsChk P l = true) : RowsOK P (mrowsOf l) := by
  intro name ty f hm
  induction l with
  | nil => simp [mrowsOf] at hm
  | cons p l ih =>
    obtain ⟨k, r⟩ := p
    simp only [mrowsChk, List.all_cons, Bool.and_eq_true] at h
    simp only [mrowsOf] at hm
    split at hm
    · rename_i e
      subst e
      have := List.all_eq_true.1 h.1 _ hm
      simpa using this
    · exact ih (by simpa [mrowsChk] using h.2) hm

/-- A type whose zero value holds no address, nor an aggregate within a tuple. -/
def tyC (P : Program) (t : TypeId) : Option ATy :=
  match tyOf P t with
  | some i => match i.zero with
    | some v => if closedV v then some i else none
    | none => some i
  | none => none

def tabCFrom (P : Program) : Nat → Tab → Tab
  | 0, tab => tab
  | n + 1, tab => tabCFrom P n (tab.upd n (tyC P n))
def tabC (P : Program) : Tab := tabCFrom P P.types.size .leaf

theorem tabCFrom_get (P : Program) : ∀ (n : Nat) (tab : Tab) (t : Nat), (tabCFrom P n tab).get t = if t < n then tyC P t else tab.get t := by
  intro n
  induction n with
  | zero => intro tab t; simp [tabCFrom]
  | succ n ih =>
    intro tab t
    rw [tabCFrom, ih, Tr.get_upd]
    by_cases h : t < n
    · rw [if_pos h, if_pos (by omega)]
    · rw [if_neg h]
      by_cases h2 : n = t
      · subst h2; rw [if_pos rfl, if_pos (by omega)]
      · rw [if_neg h2, if_neg (by omega)]

theorem tabC_get {P : Program} {t : TypeId} {i : ATy} (h : (tabC P).get t = some i) : tyC P t = some i := by
  rw [tabC, tabCFrom_get] at h
  split at h
  · exact h
  · simp [Tr.get_leaf] at h

theorem tabC_of {P : Program} {t : TypeId} {i : ATy} (h : (tabC P).get t = some i) : (tabOf P).get t = some i := by
  rw [tabC, tabCFrom_get] at h
  rw [tabOf, tabFrom_get]
  split at h
  · rename_i ht
    rw [if_pos ht]
    unfold tyC at h
    split at h
    · rename_i j hj
      rw [hj]
      split at h
      · split at h
        · exact h
        · cases h
      · exact h
    · cases h
  · simp [Tr.get_leaf] at h

theorem tabC_ok (P : Program) : TabOK P (tabC P) :=
  ⟨fun t i h => (tabOf_ok P).desc t i (tabC_of h), fun t i h => (tabOf_ok P).info t i (tabC_of h)⟩

theorem zeroC_ok (P : Program) : ZeroOK (tabC P) := by
  intro t i v hi hv
  have h := tabC_get hi
  unfold tyC at h
  split at h
  · split at h
    · rename_i u hu
      split at h
      · rename_i hc
        cases h
        rw [hu] at hv
        cases hv
        exact hc
      · cases h
    · rename_i hn
      cases h
      rw [hn] at hv
      cases hv
  · cases h

/-- A function's code, cut behind its first n parts. -/
def pfxN : Nat → ACode → ACode
  | 0, .seq a _ => a
  | n + 1, .seq a b => .seq a (pfxN n b)
  | _, c => c
def sfxN : Nat → ACode → ACode
  | 0, .seq _ b => b
  | n + 1, .seq _ b => sfxN n b
  | _, _ => .skip

theorem execX_cut {F : Nat} {call : CallF} {lf : Nat} : ∀ (n : Nat) (c : ACode) {T T1 : Tr Value} {σ σ1 : Sto}, execX F call lf (pfxN n c) T σ = some (.normal, T1, σ1) → execX F call lf c T σ = execX F call lf (sfxN n c) T1 σ1 := by
  intro n
  induction n with
  | zero =>
    intro c T T1 σ σ1 h
    cases c with
    | seq a b => simp only [pfxN] at h; simp only [execX, h, seqR, sfxN]
    | _ => exact h
  | succ n ih =>
    intro c T T1 σ σ1 h
    cases c with
    | seq a b =>
      simp only [pfxN, execX] at h
      simp only [execX, sfxN]
      revert h
      cases ha : execX F call lf a T σ with
      | none => intro h; cases h
      | some r =>
        obtain ⟨ex, T2, σ2⟩ := r
        cases ex with
        | normal => intro h; exact ih b h
        | exit i => intro h; cases h
        | ret => intro h; cases h
    | _ => exact h

/-- Does a run end with 'true'? -/
def finX (F : Nat) (rs : List ARes) (r : ExecR) : Bool :=
  match r with
  | some (.exit _, _, _) => false
  | some (_, T, σ) => match resultX F T σ rs with
    | some (.bool b) => b
    | _ => false
  | none => false

theorem runFuncX_of_fin {call : CallF} {lf : Nat} {x : XFunc} {args : List Value} {σ : Sto} (h : finX x.F x.fn.results (execX x.F call lf x.fn.code (Tr.ofList args 0 .leaf) σ) = true) :
    ∃ σ', runFuncX call lf x args σ = some (.bool true, σ') := by
  unfold runFuncX
  unfold finX at h
  split at h
  · cases h
  · rename_i ex T1 σ1 hne hex
    rw [hex]
    split at h
    · rename_i b hb
      subst h
      refine ⟨σ1, ?_⟩
      cases ex with
      | exit id => exact (hne id rfl).elim
      | normal => simp only [hb]
      | ret => simp only [hb]
    · cases h
  · cases h

/-- From a run's parts to the interpreter's answer. -/
theorem callA_of_cut {A : FuncId → Option XFunc} {S : CallF} {n : Nat} {f : FuncId} {x : XFunc} (hx : A f = some x) {args : List Value} {σ σ1 : Sto} {T1 : Tr Value} (k : Nat)
    (h1 : execX x.F (callX A S n) n (pfxN k x.fn.code) (Tr.ofList args 0 .leaf) σ = some (.normal, T1, σ1))
    (h2 : finX x.F x.fn.results (execX x.F (callX A S n) n (sfxN k x.fn.code) T1 σ1) = true) :
    ∃ σ', callA (plainA A) S (n + 1) f args σ = some (.bool true, σ') := by
  rw [← execX_cut k _ h1] at h2
  obtain ⟨σ', h⟩ := runFuncX_of_fin h2
  exact ⟨σ', callX_le A S (n + 1) _ _ _ _ (by simp only [callX, hx]; exact h)⟩

end Go.AM
