/- What only computes: the whole class. -/
import Derived.Test.YtjilfolpkkhfmaaDoorAM4
namespace Go.AM

theorem opt_bind {α β : Type} {x : Option α} {f : α → Option β} {b : β} : (x >>= f) = some b ↔ ∃ a, x = some a ∧ f a = some b := by
  simp [Option.bind_eq_some_iff]

theorem fill_sound {ρ : Ren} (place : Nat → Option (Nat × Nat)) : ∀ (ps : List (Nat × Nat × Value)) (ks : List Nat) (ps' : List (Nat × Value)) (cs cs' : List Value) (r : List Value),
    ps.length = ks.length → ps'.map (·.1) = ks → (∀ (i k o s : Nat) (v : Value), ks[i]? = some k → ps[i]? = some (o, s, v) → place k = some (o, s)) →
    (∀ (i o s : Nat) (v : Value) (k : Nat) (u : Value), ps[i]? = some (o, s, v) → ps'[i]? = some (k, u) → VR ρ v u) → VRl ρ cs cs' → fillA cs ps = some r →
    ∃ r', Instr.fill place cs'.toArray ps' = some r' ∧ VRl ρ r r'.toList := by
  intro ps
  induction ps with
  | nil =>
    intro ks ps' cs cs' r h1 h2 _ _ hv hr
    cases ks with
    | nil =>
      cases ps' with
      | nil => simp only [fillA, Option.some.injEq] at hr; subst hr; exact ⟨_, rfl, by simpa using hv⟩
      | cons _ _ => simp at h2
    | cons _ _ => simp at h1
  | cons p ps ih =>
    intro ks ps' cs cs' r h1 h2 h3 h4 hv hr
    obtain ⟨o, s, v⟩ := p
    cases ks with
    | nil => simp at h1
    | cons k ks =>
      cases ps' with
      | nil => simp at h2
      | cons q ps' =>
        obtain ⟨k', u⟩ := q
        simp only [List.map_cons, List.cons.injEq] at h2
        obtain ⟨rfl, h2⟩ := h2
        have hp := h3 0 k' o s v rfl rfl
        have hvu := h4 0 o s v k' u rfl rfl
        simp only [fillA] at hr
        split at hr
        · cases hr
        · rename_i hc
          simp only [Bool.or_eq_true, decide_eq_true_eq, not_or, ne_eq, Decidable.not_not, gt_iff_lt, Nat.not_lt] at hc
          have hcells := hvu.cells
          have hsz : u.cells.size = v.cells.size := by have := hcells.1; simpa using this.symm
          unfold Instr.fill
          rw [hp]
          simp only []
          rw [if_neg (by simp only [List.size_toArray, Bool.or_eq_true, decide_eq_true_eq, not_or, ne_eq, Decidable.not_not, gt_iff_lt, Nat.not_lt]; rw [hsz, ← hv.1]; exact hc)]
          have key : ∀ (l : List (Value × Nat)) (l' : List (Value × Nat)) (a a' : List Value), l.length = l'.length → (∀ (i : Nat) (x x' : Value × Nat), l[i]? = some x → l'[i]? = some x' → VR ρ x.1 x'.1 ∧ x.2 = x'.2) → VRl ρ a a' →
              VRl ρ (l.foldl (fun cs (p : Value × Nat) => cs.set (o + p.2) p.1) a) (l'.foldl (fun cs (p : Value × Nat) => cs.setIfInBounds (o + p.2) p.1) a'.toArray).toList := by
            intro l
            induction l with
            | nil => intro l' a a' hl _ ha; cases l' with
              | nil => simpa using ha
              | cons _ _ => simp at hl
            | cons x l ih' =>
              intro l' a a' hl hx ha
              cases l' with
              | nil => simp at hl
              | cons x' l' =>
                simp only [List.foldl_cons]
                have h0 := hx 0 x x' rfl rfl
                have := ih' l' (a.set (o + x.2) x.1) (a'.set (o + x'.2) x'.1) (by simpa using hl) (fun i y y' h h' => hx (i + 1) y y' (by simpa using h) (by simpa using h')) (by
                  refine ⟨by simp [ha.1], fun i hi => ?_⟩
                  simp only [List.length_set] at hi
                  have := ha.2 i hi
                  simp only [List.getD_eq_getElem?_getD, List.getElem?_set] at this ⊢
                  rw [h0.2]
                  by_cases e : o + x'.2 = i
                  · rw [if_pos e, if_pos e, if_pos (by omega), if_pos (by rw [← ha.1]; omega)]; simpa using h0.1
                  · rw [if_neg e, if_neg e]; exact this)
                simpa using this
          have hz := key v.cells.toList.zipIdx u.cells.toList.zipIdx cs cs' (by simp [hsz]) (fun i x x' h h' => by
            simp only [List.getElem?_zipIdx, Option.map_eq_some_iff] at h h'
            obtain ⟨y, hy, rfl⟩ := h
            obtain ⟨y', hy', rfl⟩ := h'
            refine ⟨?_, rfl⟩
            obtain ⟨y2, h5, h6⟩ := hcells.get hy
            rw [hy'] at h5; cases h5; exact h6) hv
          obtain ⟨r', h5, h6⟩ := ih ks ps' _ _ r (by simpa using h1) h2 (fun i k o s v h h' => h3 (i + 1) k o s v (by simpa using h) (by simpa using h')) (fun i o s v k u h h' => h4 (i + 1) o s v k u (by simpa using h) (by simpa using h')) hz hr
          refine ⟨r', ?_, h6⟩
          rw [← h5]
          congr 1
          rw [← Array.foldl_toList]
          simp [Array.toList_zipIdx]

theorem extracted {t : Tr Value} {x : Operand} {i : Nat} {v : Value} (h : runPure t (.extract x i) = some v) : ∃ vs, ev t x = some (.tuple vs) ∧ vs[i]? = some v := by
  simp only [runPure, opt_bind] at h
  obtain ⟨u, h1, h2⟩ := h
  split at h2
  · exact ⟨_, h1, h2⟩
  · cases h2

end Go.AM
