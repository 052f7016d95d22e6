/- Staged functions beside summaries; a function's run in parts. -/
import Derived.Test.YtjilfolpkkhfmaaDoorAM30
namespace Go.AM

noncomputable def callZ (tab : Tr SFun) (S : CallF) (n : Nat) : CallF :=
  @Nat.rec (fun _ => CallF) S (fun n ih f args σ => @Option.rec SFun (fun _ => RR) (S f args σ) (fun g => g ih n args σ) (getR tab f)) n

theorem callZ_le {tab : Tr SFun} {A : AProg} (h : StagedOK tab A) (hn : ∀ f, tab.get f = none → A f = none) (S : CallF) : ∀ n, LeC (callZ tab S n) (callA A S n) := by
  intro n
  induction n with
  | zero => exact fun _ _ _ _ h => h
  | succ n ih =>
    intro f args σ r hr
    have e : callZ tab S (n + 1) f args σ = @Option.rec SFun (fun _ => RR) (S f args σ) (fun g => g (callZ tab S n) n args σ) (getR tab f) := rfl
    rw [e, getR_eq] at hr
    cases hg : tab.get f with
    | none =>
      rw [hg] at hr
      simp only [callA, hn f hg]
      exact hr
    | some g =>
      rw [hg] at hr
      obtain ⟨k, h1, h2⟩ := h f g hg
      simp only [h2] at hr
      simp only [callA, h1]
      exact runK_sound ih hr

theorem callsOK_le {P : Program} {c c' : CallF} (h : LeC c c') (hc : CallsOK P c') : CallsOK P c := fun f args σ v σ' hr => hc f args σ v σ' (h f args σ _ hr)

/-- The staged functions of a list, as a trie. -/
theorem staged_of_list {A : AProg} (l : List (Nat × SFun)) (h : ∀ p ∈ l, ∃ k : KFunc, A p.1 = some k.erase ∧ ∀ call lf args s, p.2 call lf args s = runK k call lf args s) {tab : Tr SFun} (ht : tab = Tr.ofPairs l .leaf) : StagedOK tab A := by
  intro f g hg
  subst ht
  rcases Tr.get_ofPairs l _ hg with h' | h'
  · exact h _ h'
  · simp [Tr.get_leaf] at h'

theorem ofPairs_none {α : Type} {k : Nat} : ∀ (l : List (Nat × α)) (t : Tr α), (Tr.ofPairs l t).get k = none → (∀ p ∈ l, p.1 ≠ k) ∧ t.get k = none := by
  intro l
  induction l with
  | nil => intro t h; exact ⟨(fun p hp => by cases hp), h⟩
  | cons p l ih =>
    obtain ⟨j, b⟩ := p
    intro t h
    obtain ⟨h1, h2⟩ := ih _ h
    rw [Tr.get_set] at h2
    split at h2
    · cases h2
    · rename_i hne
      exact ⟨fun p hp => by
        rcases List.mem_cons.1 hp with rfl | hp
        · exact hne
        · exact h1 p hp, h2⟩

theorem get_mem {α : Type} {k : Nat} : ∀ (l : List (Nat × α)) (t : Tr α), (∀ p ∈ l, p.1 ≠ k) → (Tr.ofPairs l t).get k = t.get k := by
  intro l
  induction l with
  | nil => intro t _; rfl
  | cons p l ih =>
    obtain ⟨j, b⟩ := p
    intro t h
    simp only [Tr.ofPairs]
    rw [ih _ (fun q hq => h q (by simp [hq])), Tr.get_set, if_neg (h (j, b) (by simp))]

theorem none_of_lists {l : List (Nat × XFunc)} {l' : List (Nat × SFun)} (hk : l.map (·.1) = l'.map (·.1)) {tab : Tr SFun} (ht : tab = Tr.ofPairs l' .leaf) : ∀ f, tab.get f = none → plainA (fun f => (Tr.ofPairs l .leaf).get f) f = none := by
  intro f hf
  subst ht
  obtain ⟨h1, _⟩ := ofPairs_none l' _ hf
  have h2 : ∀ p ∈ l, p.1 ≠ f := by
    intro p hp
    have : p.1 ∈ l'.map (·.1) := by rw [← hk]; exact List.mem_map.2 ⟨p, hp, rfl⟩
    obtain ⟨q, hq, he⟩ := List.mem_map.1 this
    rw [← he]
    exact h1 q hq
  simp only [plainA, get_mem l _ h2, Tr.get_leaf, Option.map_none]

/-- From a run's three parts to the interpreter's answer. -/
theorem callA_of_cuts {A : AProg} {S : CallF} {n : Nat} {f : FuncId} {fn : AFunc} (hx : A f = some fn) {call : CallF} (hle : LeC call (callA A S n)) {F : Nat} {args : List Value} {σ σ1 σ2 : Sto} {T1 T2 : Tr Value} (k k' : Nat)
    (h1 : execX F call n (pfxN k fn.code) (Tr.ofList args 0 .leaf) σ = some (.normal, T1, σ1))
    (h2 : execX F call n (pfxN k' (sfxN k fn.code)) T1 σ1 = some (.normal, T2, σ2))
    (h3 : finX F fn.results (execX F call n (sfxN k' (sfxN k fn.code)) T2 σ2) = true) :
    ∃ σ', callA A S (n + 1) f args σ = some (.bool true, σ') := by
  rw [← execX_cut k' _ h2, ← execX_cut k _ h1] at h3
  have hrel : Rel F [] (Tr.ofList args 0 .leaf) (Tr.ofList args 0 .leaf) := by
    intro s v hs
    unfold getX at hs
    split at hs
    · exact hs
    · cases hs
  unfold finX at h3
  split at h3
  · cases h3
  · rename_i ex T3 σ3 hne hex
    split at h3
    · rename_i b hb
      subst h3
      obtain ⟨t3, h4, h5⟩ := execX_sound hle fn.code hrel hex
      refine ⟨σ3, ?_⟩
      simp only [callA, hx, runFunc, h4]
      cases ex with
      | exit id => exact (hne id rfl).elim
      | normal => simp only [resultX_sound h5 hb]
      | ret => simp only [resultX_sound h5 hb]
    · cases h3
  · cases h3

end Go.AM
