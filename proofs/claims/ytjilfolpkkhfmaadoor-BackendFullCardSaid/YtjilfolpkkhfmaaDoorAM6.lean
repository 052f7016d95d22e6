/- What only computes: the whole class, operation by operation. -/
import Derived.Test.YtjilfolpkkhfmaaDoorAM5
import Derived.Laws.Tables
namespace Go.AM

theorem evParts_sound {P : Program} {ρ : Ren} {t : Tr Value} {a : Act} (hl : LR ρ t a.tmps) (hG : GR P ρ) : ∀ (ps : List (Nat × Nat × Operand)) (vs : List (Nat × Nat × Value)), (∀ p ∈ ps, opdOK P.globals.size p.2.2 = true) → evParts t ps = some vs →
    vs.length = ps.length ∧ ∀ (i o s : Nat) (v : Value), vs[i]? = some (o, s, v) → ∃ x, ps[i]? = some (o, s, x) ∧ VR ρ v (a.eval x) := by
  intro ps
  induction ps with
  | nil => intro vs _ h; simp only [evParts, Option.some.injEq] at h; subst h; exact ⟨rfl, fun i o s v h => by simp at h⟩
  | cons p ps ih =>
    intro vs hx h
    obtain ⟨o, s, x⟩ := p
    simp only [evParts, opt_bind] at h
    obtain ⟨v, h1, us, h2, h3⟩ := h
    cases h3
    obtain ⟨h4, h5⟩ := ih us (fun y hy => hx y (by simp [hy])) h2
    refine ⟨by simp [h4], fun i o' s' v' hi => ?_⟩
    cases i with
    | zero => simp at hi; obtain ⟨rfl, rfl, rfl⟩ := hi; exact ⟨x, rfl, ev_sound hl hG (hx (o, s, x) (by simp)) h1⟩
    | succ i => simpa using h5 i o' s' v' (by simpa using hi)

theorem mapM_some {α β : Type} (f : α → Option β) : ∀ (l : List α) (r : List β), l.mapM f = some r → r.length = l.length ∧ ∀ (i : Nat) (y : β), r[i]? = some y → ∃ x, l[i]? = some x ∧ f x = some y := by
  intro l
  induction l with
  | nil => intro r h; simp at h; subst h; exact ⟨rfl, fun i y h => by simp at h⟩
  | cons a l ih =>
    intro r h
    simp only [List.mapM_cons, opt_bind] at h
    obtain ⟨b, h1, r', h2, h3⟩ := h
    cases h3
    obtain ⟨h4, h5⟩ := ih r' h2
    refine ⟨by simp [h4], fun i y hi => ?_⟩
    cases i with
    | zero => simp at hi; subst hi; exact ⟨a, rfl, h1⟩
    | succ i => simpa using h5 i y (by simpa using hi)

theorem mapM_mono {α β : Type} (f g : α → Option β) (h : ∀ x y, f x = some y → g x = some y) : ∀ (l : List α) (r : List β), l.mapM f = some r → l.mapM g = some r := by
  intro l
  induction l with
  | nil => intro r h; simpa using h
  | cons a l ih =>
    intro r hr
    simp only [List.mapM_cons, opt_bind] at hr ⊢
    obtain ⟨b, h1, r', h2, h3⟩ := hr
    exact ⟨b, h _ _ h1, r', ih r' h2, h3⟩

theorem zeroCs_inv {i : ATy} {z : List Value} (h : zeroCs i = some z) : ∃ v, i.zero = some v ∧ z = v.cells.toList := by
  unfold zeroCs at h
  cases hz : i.zero with
  | none => simp [hz] at h
  | some v => simp [hz] at h; exact ⟨v, rfl, h.symm⟩

/-- A type's zero value holds no address. -/
def ZeroOK (tab : Tab) : Prop := ∀ t i v, tab.get t = some i → i.zero = some v → closedV v = true

theorem VRl.zero {ρ : Ren} {v : Value} (h : closedV v = true) : VRl ρ v.cells.toList v.cells.toList := (VR.closed (ρ := ρ) h).cells

theorem build_sound {P : Program} {tab : Tab} {mrows : String → List (TypeId × FuncId)} (hT : TabOK P tab) (hZ : ZeroOK tab) {ρ : Ren} {t : Tr Value} {a : Act} {w : World} (hl : LR ρ t a.tmps) (hG : GR P ρ)
    {ty : TypeId} {ps : Array (Nat × Operand)} (hok : ∀ x ∈ (Op.build ty ps).operands.toList, opdOK P.globals.size x = true) {aop : AOp} (hc : compileOp P tab mrows (.build ty ps) = some aop) {v : Value} (hr : runPure t aop = some v) :
    ∃ cv, (Instr.build ty (ps.map fun (i, x) => (i, a.eval x))).run P w = .ok cv w ∧ VR ρ v cv := by
  have hok' : ∀ p ∈ ps.toList, opdOK P.globals.size p.2 = true := fun p hp => hok p.2 (by simp [Op.operands]; exact ⟨p.1, by simpa using hp⟩)
  simp only [compileOp, opt_bind] at hc
  obtain ⟨i, hi, z, hz, hc⟩ := hc
  obtain ⟨zv, hz1, rfl⟩ := zeroCs_inv hz
  obtain ⟨inf, hinf, hs, hb, hzz, _⟩ := hT.info _ _ hi
  have hd := hT.desc _ _ hi
  have hzc : VRl ρ zv.cells.toList zv.cells.toList := VRl.zero (hZ _ _ _ hi hz1)
  -- both kinds come to a fill
  have key : ∀ (place : Nat → Option (Nat × Nat)) (parts : List (Nat × Nat × Operand)),
      aop = .build zv.cells.toList parts → parts.length = ps.toList.length → (∀ (j o s : Nat) (x : Operand), parts[j]? = some (o, s, x) → ∃ k, ps.toList[j]? = some (k, x) ∧ place k = some (o, s)) →
      ∃ r', Instr.fill place zv.cells (ps.map fun (i, x) => (i, a.eval x)).toList = some r' ∧ VR ρ v (.agg r') := by
    intro place parts ha hlen hp
    subst ha
    simp only [runPure, opt_bind] at hr
    obtain ⟨vs, h1, cs, h2, h3⟩ := hr
    cases h3
    obtain ⟨h4, h5⟩ := evParts_sound hl hG parts vs (fun p hp' => by
      obtain ⟨j, hj⟩ := List.getElem?_of_mem hp'
      obtain ⟨o, s, x⟩ := p
      obtain ⟨k, hk, _⟩ := hp j o s x hj
      exact hok' (k, x) (List.mem_of_getElem? hk)) h1
    obtain ⟨r', h6, h7⟩ := fill_sound (ρ := ρ) place vs (ps.toList.map (·.1)) (ps.map fun (i, x) => (i, a.eval x)).toList zv.cells.toList zv.cells.toList cs
      (by simp [h4, hlen]) (by simp [Function.comp_def])
      (fun j k o s u hk hv => by
        obtain ⟨x, hx, _⟩ := h5 j o s u hv
        obtain ⟨k', hk', hpl⟩ := hp j o s x hx
        simp only [List.getElem?_map, hk', Option.map_some, Option.some.injEq] at hk
        subst hk; exact hpl)
      (fun j o s u k c hv hk => by
        obtain ⟨x, hx, hvr⟩ := h5 j o s u hv
        obtain ⟨k', hk', _⟩ := hp j o s x hx
        simp only [Array.toList_map, List.getElem?_map, hk', Option.map_some, Option.some.injEq, Prod.mk.injEq] at hk
        rw [← hk.2]; exact hvr) hzc h2
    refine ⟨r', by simpa using h6, ?_⟩
    have := VR.agg_of h7
    simpa using this
  split at hc
  · rename_i fs hfs
    simp only [opt_bind] at hc
    obtain ⟨places, hpl, parts, hparts, hc⟩ := hc
    cases hc
    obtain ⟨h1, h2⟩ := mapM_some _ _ _ hparts
    obtain ⟨r', h3, h4⟩ := key (places.toArray[·]?) parts rfl (by simp [h1]) (fun j o s x hj => by
      obtain ⟨p, hp1, hp2⟩ := h2 j _ hj
      cases hq : places[p.1]? with
      | none => simp [hq] at hp2
      | some q =>
        simp only [hq, Option.map_some, Option.some.injEq, Prod.mk.injEq] at hp2
        obtain ⟨rfl, rfl, rfl⟩ := hp2
        exact ⟨p.1, hp1, by simpa using hq⟩)
    refine ⟨_, run_build w ty _ r' ?_, h4⟩
    unfold Program.built
    rw [hinf, hd, hfs]
    simp only [hzz, hz1]
    have := mapM_mono (fun f : Field => (tab.get f.type).map fun j => (f.offset, j.size)) (fun f : Field => (P.info? f.type).map fun i => (f.offset, i.size)) (fun f y hy => by
      cases hg : tab.get f.type with
      | none => simp [hg] at hy
      | some j =>
        obtain ⟨inf', hi', hs', _⟩ := hT.info _ _ hg
        simp only [hg, Option.map_some] at hy
        rw [hi', Option.map_some, hs']; exact hy) _ _ hpl
    rw [this]
    exact h3
  · rename_i n e hfs
    simp only [opt_bind] at hc
    obtain ⟨j, hj, hc⟩ := hc
    cases hc
    obtain ⟨inf', hi', hs', _⟩ := hT.info _ _ hj
    obtain ⟨r', h3, h4⟩ := key (fun k => some (k * j.size, j.size)) _ rfl (by simp) (fun m o s x hm => by
      simp only [List.getElem?_map, Option.map_eq_some_iff] at hm
      obtain ⟨p, hp1, hp2⟩ := hm
      simp only [Prod.mk.injEq] at hp2
      obtain ⟨rfl, rfl, rfl⟩ := hp2
      exact ⟨p.1, hp1, rfl⟩)
    refine ⟨_, run_build w ty _ r' ?_, h4⟩
    unfold Program.built
    rw [hinf, hd, hfs]
    simp only [hzz, hz1, hi', hs']
    exact h3
  · cases hc

theorem part_sound {P : Program} {tab : Tab} (hT : TabOK P tab) {ρ : Ren} {w : World} {ty : TypeId} {n : Option Nat} (hn : aggN tab ty = some n) {cs : Array Value} {off : Nat} {v : Value}
    (h1 : ∀ m, n = some m → VR ρ v (.agg (cs.extract off (off + m)))) (h2 : n = none → ∃ u, cs[off]? = some u ∧ VR ρ v u) : ∃ cv, (part ty cs off).run P w = .ok cv w ∧ VR ρ v cv := by
  simp only [aggN, opt_bind] at hn
  obtain ⟨i, hi, hn⟩ := hn
  obtain ⟨inf, hinf, hs, _⟩ := hT.info _ _ hi
  simp only [Option.pure_def, Option.some.injEq] at hn
  by_cases ha : isAggT i.desc = true
  · rw [if_pos ha] at hn
    refine ⟨_, ?_, h1 _ hn.symm⟩
    simp [part, run_isAgg (hT.desc _ _ hi), ha, run_sizeOf hinf, hs]
  · rw [if_neg ha] at hn
    obtain ⟨u, h3, h4⟩ := h2 hn.symm
    refine ⟨u, ?_, h4⟩
    simp [part, run_isAgg (hT.desc _ _ hi), ha, h3]

theorem add_slice {ρ : Ren} {b o n : Nat} {l : Loc} (_h : ρ b = some l) : (⟨b, o, none⟩ : Addr).add n = ⟨b, o + n, none⟩ ∧ (⟨l.blk, l.base + o, none⟩ : Addr).add n = ⟨l.blk, l.base + (o + n), none⟩ := by
  rw [addr_add, addr_add, Nat.add_assoc]; exact ⟨rfl, rfl⟩

theorem slK_sound {ρ : Ren} {a c : Option Addr} {len cap size : Nat} {lo hi mx : Option Value} {v : Value} (h : slK a len cap lo hi mx size = some v) (ha : (a = none ∧ c = none) ∨ ∃ b o l, a = some ⟨b, o, none⟩ ∧ ρ b = some l ∧ c = some ⟨l.blk, l.base + o, none⟩)
    (hcap : cap < CAPX) : ∃ l k m, bnds len cap lo hi mx = some (l, k, m) ∧ VR ρ v (.slice (if m = l then c else c.map (·.add (l * size))) (k - l) (m - l)) := by
  unfold slK at h
  split at h
  · rename_i l k m hb
    cases h
    refine ⟨l, k, m, hb, ?_⟩
    have hm : m ≤ cap := by
      obtain ⟨l', k', m', e, h1, _⟩ := bnds_inv hb
      cases e
      unfold bndO at h1
      split at h1
      · unfold bnd at h1; split at h1
        · split at h1
          · rename_i hc; cases h1; omega
          · cases h1
        · cases h1
      · cases h1; omega
    rcases ha with ⟨rfl, rfl⟩ | ⟨b, o, lc, rfl, hl, rfl⟩
    · simp only [Option.map_none, ite_self]; exact .nilslice _ _
    · by_cases e : m = l
      · rw [if_pos e, if_pos e]; exact .slice b o _ _ lc hl (by omega)
      · rw [if_neg e, if_neg e]
        simp only [Option.map_some, addr_add]
        rw [Nat.add_assoc]
        exact .slice b (o + l * size) _ _ lc hl (by omega)
  · cases h

end Go.AM
