/- A call over some of the objects alone; a store that is told less of. -/
import Derived.Test.YtjilfolpkkhfmaaDoorAM26
namespace Go.AM

/-- A store that tells less. -/
def Less (σ' σ : Sto) : Prop := (∀ b o, σ'.objs.get b = some o → σ.objs.get b = some o) ∧ σ.next ≤ σ'.next

theorem Sim.less {ρ : Ren} {σ σ' : Sto} {w : World} (h : Sim ρ σ w) (hl : Less σ' σ) : Sim ρ σ' w :=
  ⟨fun b o hb => h.live b o (hl.1 b o hb), fun b b' o o' l l' h1 h2 => h.inj b b' o o' l l' (hl.1 _ _ h1) (hl.1 _ _ h2), fun b l hb => Nat.lt_of_lt_of_le (h.dom b l hb) hl.2⟩

theorem Ev.less {ρ ρ' : Ren} {σ σ' σ2 : Sto} {w w' : World} (h : Ev ρ σ w ρ' σ' w') (hl : Less σ2 σ') : Ev ρ σ w ρ' σ2 w' :=
  ⟨h.sub, h.os, h.tape, h.output, h.size, h.pres, fun k hk => h.foot k (by obtain ⟨b, o, l, h1, h2⟩ := hk; exact ⟨b, o, l, hl.1 b o h1, h2⟩), Nat.le_trans h.next hl.2, h.new,
    fun k hk => h.all k (by obtain ⟨b, o, l, h1, h2⟩ := hk; exact ⟨b, o, l, hl.1 b o h1, h2⟩)⟩

/-- Some objects of a trie, over others. -/
def over (t : Tr AObj) : List Nat → Tr AObj → Tr AObj
  | [], acc => acc
  | i :: ids, acc => match t.get i with
    | some o => (over t ids acc).set i o
    | none => over t ids acc

theorem over_get (t acc : Tr AObj) (b : Nat) : ∀ ids : List Nat, (over t ids acc).get b = if b ∈ ids ∧ (t.get b).isSome = true then t.get b else acc.get b := by
  intro ids
  induction ids with
  | nil => simp [over]
  | cons i ids ih =>
    simp only [over]
    cases h : t.get i with
    | none =>
      simp only [ih, List.mem_cons]
      by_cases e : b = i
      · subst e; simp [h]
      · simp [e]
    | some o =>
      simp only [Tr.get_set, ih, List.mem_cons]
      by_cases e : i = b
      · subst e; simp [h]
      · simp [e, Ne.symm e]

def plainIn (t : Tr AObj) (ids : List Nat) : Bool := ids.all fun i => match t.get i with | some o => !o.isRo | none => false

theorem plainIn_get {t : Tr AObj} {ids : List Nat} (h : plainIn t ids = true) {b : Nat} (hb : b ∈ ids) : ∃ o, t.get b = some o ∧ o.isRo = false := by
  have := List.all_eq_true.1 h b hb
  split at this
  · rename_i o ho; exact ⟨o, ho, by simpa using this⟩
  · cases this

/-- A call that is given some objects alone. -/
def frameC (c : CallF) (ids : List Nat) : CallF := fun f args σ =>
  match plainIn σ.objs ids with
  | false => none
  | true => match c f args ⟨σ.next, over σ.objs ids .leaf⟩ with
    | none => none
    | some (v, s') => match plainIn s'.objs ids with
      | false => none
      | true => some (v, ⟨s'.next, over s'.objs ids σ.objs⟩)

theorem frame_ok {P : Program} {c : CallF} (hc : CallsOK P c) {ids : List Nat} {f : FuncId} {args : List Value} {σ : Sto} {v : Value} {σ' : Sto} (h : frameC c ids f args σ = some (v, σ')) :
    ∀ (ρ : Ren) (w : World) (cargs : Array Value), Sim ρ σ w → GR P ρ → VRl ρ args cargs.toList →
    callable P f = true ∧ Calls P f cargs w fun e w' => ∃ cv ρ', e = .returned cv ∧ VR ρ' v cv ∧ Sim ρ' σ' w' ∧ Ev ρ σ w ρ' σ' w' := by
  intro ρ w cargs hs hG hargs
  unfold frameC at h
  split at h
  · cases h
  · rename_i hp
    split at h
    · cases h
    · rename_i v1 s1 hr
      split at h
      · cases h
      · rename_i hp1
        cases h
        have g0 : ∀ b, (over σ.objs ids .leaf).get b = if b ∈ ids then σ.objs.get b else none := by
          intro b
          rw [over_get]
          by_cases hb : b ∈ ids
          · obtain ⟨o, ho, _⟩ := plainIn_get hp hb
            simp [hb, ho]
          · simp [hb, Tr.get_leaf]
        have g1 : ∀ b, (over s1.objs ids σ.objs).get b = if b ∈ ids then s1.objs.get b else σ.objs.get b := by
          intro b
          rw [over_get]
          by_cases hb : b ∈ ids
          · obtain ⟨o, ho, _⟩ := plainIn_get hp1 hb
            simp [hb, ho]
          · simp [hb]
        have hs0 : Sim ρ ⟨σ.next, over σ.objs ids .leaf⟩ w := hs.less ⟨(fun b o hb => by
          rw [g0] at hb
          split at hb
          · exact hb
          · cases hb), Nat.le_refl _⟩
        obtain ⟨hcal, hcalls⟩ := hc f args _ v s1 hr ρ w cargs hs0 hG hargs
        refine ⟨hcal, hcalls.mono ?_⟩
        rintro e w' ⟨cv, ρ', rfl, hv, hs', he⟩
        refine ⟨cv, ρ', rfl, hv, ?_, ?_⟩
        · refine ⟨fun b o hb => ?_, fun b b' o o' l l' hb hb' hl hl' hblk hro => ?_, fun b l hb => hs'.dom b l hb⟩
          · rw [g1] at hb
            split at hb
            · exact hs'.live b o hb
            · rename_i hni
              obtain ⟨l, obj, h1, h2, h3⟩ := hs.live b o hb
              refine ⟨l, obj, he.sub b l h1, ?_, h3.mono he.sub⟩
              rw [he.pres l.blk (Array.getElem?_eq_some_iff.1 h2).1, h2]
              rintro ⟨b1, o1, l1, k1, k2, k3, k4⟩
              rw [g0] at k1
              split at k1
              · rename_i hin
                have := hs.inj b1 b o1 o l1 l k1 hb k2 h1 k3 k4
                subst this
                exact hni hin
              · cases k1
          · rw [g1] at hb hb'
            have old : ∀ x ox, σ.objs.get x = some ox → ∀ lx, ρ' x = some lx → ρ x = some lx := by
              intro x ox hx lx hlx
              obtain ⟨l0, _, h1, _⟩ := hs.live x ox hx
              have := he.sub x l0 h1
              rw [this] at hlx
              cases hlx
              exact h1
            split at hb
            · rename_i hin
              obtain ⟨o0, k1, k2⟩ := plainIn_get hp hin
              split at hb'
              · exact hs'.inj b b' o o' l l' hb hb' hl hl' hblk hro
              · exact hs.inj b b' o0 o' l l' k1 hb' (old _ _ k1 _ hl) (old _ _ hb' _ hl') hblk k2
            · split at hb'
              · rename_i hin
                obtain ⟨o0, k1, k2⟩ := plainIn_get hp hin
                exact hs.inj b b' o o0 l l' hb k1 (old _ _ hb _ hl) (old _ _ k1 _ hl') hblk hro
              · exact hs.inj b b' o o' l l' hb hb' (old _ _ hb _ hl) (old _ _ hb' _ hl') hblk hro
        · have old : ∀ x ox, σ.objs.get x = some ox → ∀ lx, ρ' x = some lx → ρ x = some lx := by
            intro x ox hx lx hlx
            obtain ⟨l0, _, h1, _⟩ := hs.live x ox hx
            have := he.sub x l0 h1
            rw [this] at hlx
            cases hlx
            exact h1
          refine ⟨he.sub, he.os, he.tape, he.output, he.size, fun k hk hf => he.pres k hk (fun hf' => hf ?_), fun k hk => ?_, he.next, he.new, fun k hk => ?_⟩
          · obtain ⟨b, o, l, h1, h2⟩ := hf'
            rw [g0] at h1
            split at h1
            · exact ⟨b, o, l, h1, h2⟩
            · cases h1
          · obtain ⟨b, o, l, h1, h2, h3, h4⟩ := hk
            rw [g1] at h1
            split at h1
            · rename_i hin
              obtain ⟨o0, k1, k2⟩ := plainIn_get hp hin
              exact .inl ⟨b, o0, l, k1, old _ _ k1 _ h2, h3, k2⟩
            · exact .inl ⟨b, o, l, h1, old _ _ h1 _ h2, h3, h4⟩
          · obtain ⟨b, o, l, h1, h2, h3⟩ := hk
            rw [g1] at h1
            split at h1
            · rename_i hin
              obtain ⟨o0, k1, k2⟩ := plainIn_get hp hin
              exact .inl ⟨b, o0, l, k1, old _ _ k1 _ h2, h3⟩
            · exact .inl ⟨b, o, l, h1, old _ _ h1 _ h2, h3⟩

end Go.AM
