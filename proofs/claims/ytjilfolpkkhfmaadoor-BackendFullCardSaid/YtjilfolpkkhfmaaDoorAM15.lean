/- Operations in the order of the text. -/
import Derived.Test.YtjilfolpkkhfmaaDoorAM14
namespace Go.AM

/-- What a program and its tables must be. -/
structure Ctx (P : Program) (tab : Tab) (mrows : String → List (TypeId × FuncId)) : Prop where
  hT : TabOK P tab
  hZ : ZeroOK tab
  hR : RowsOK P mrows
  hD : 20 ≤ P.depth
  hM : P.follows .mixedOrders = true

theorem op_sound {P : Program} {tab : Tab} {mrows : String → List (TypeId × FuncId)} (C : Ctx P tab mrows) {call : CallF} (hcall : CallsOK P call) {ρ : Ren} {σ σ' : Sto} {t : Tr Value} {a : Act} {w : World} (hl : LR ρ t a.tmps) (hG : GR P ρ) (hs : Sim ρ σ w)
    {o : Oper} (hok : ∀ x ∈ o.op.operands.toList, opdOK P.globals.size x = true) {aop : AOp} (hc : compileOp P tab mrows o.op = some aop) {v : Value} (hr : runOp call aop t σ = some (v, σ')) :
    EffC P ρ σ w (execOp a.eval o) v σ' := by
  unfold runOp at hr
  split at hr
  · rename_i hcls
    split at hr
    · rename_i u hu
      cases hr
      obtain ⟨cv, h1, h2⟩ := pure_sound C.hT C.hZ C.hD (w := w) hl hG hok hc hcls hu
      exact .inl ⟨cv, w, ρ, h1, h2, hs, Ev.refl _ _ _⟩
    · cases hr
  · rename_i hcls
    split at hr
    · rename_i u hu
      cases hr
      obtain ⟨cv, h1, h2⟩ := heap_sound C.hT C.hZ hl hG hs hok hc hcls hu
      exact .inl ⟨cv, w, ρ, h1, h2, hs, Ev.refl _ _ _⟩
    · cases hr
  · exact eff_sound C.hT C.hZ C.hR hcall hl hG hs hok hc hr
  · split at hr
    · rename_i obj f hm
      cases hr
      obtain ⟨cobj, tot, cv, h1, h2⟩ := alloc_sound C.hT C.hZ (w := w) hl hG hok hc hm
      obtain ⟨h3, h4⟩ := hs.new (o := obj) (obj := cobj) (l := ⟨w.heap.size, 0, tot⟩) rfl (h2 _ σ.next (Sub.extend _ (hs.fresh (Nat.le_refl _))) (extend_self _ _ _)).1
      exact .inl ⟨cv, _, _, .inl h1, (h2 _ σ.next h4.sub (extend_self _ _ _)).2, h3, h4⟩
    · cases hr

theorem compileOper_inv {P : Program} {tab : Tab} {mrows : String → List (TypeId × FuncId)} {N : Nat} {ops : Array Oper} {o : Oper} {ao : AOper} (h : compileOper P tab mrows N ops o = some ao) :
    compileOp P tab mrows o.op = some ao.op ∧ (∀ x ∈ o.op.operands.toList, opdOK P.globals.size x = true) ∧ (∀ d, o.dst = some d → d < N) ∧ ao.dst = o.dst ∧
    ((o.guard = none ∧ ao.guard = none) ∨ ∃ j b oj d, o.guard = some (j, b) ∧ ops[j]? = some oj ∧ oj.dst = some d ∧ ao.guard = some (d, b)) := by
  unfold compileOper at h
  split at h
  · cases h
  · rename_i op h1
    split at h
    · rename_i hc
      simp only [Bool.and_eq_true] at hc
      have h2' : ∀ x ∈ o.op.operands.toList, opdOK P.globals.size x = true := List.all_eq_true.1 hc.1
      have h3' : ∀ d, o.dst = some d → d < N := by
        intro d hd
        have := hc.2
        rw [hd] at this
        simpa [dstOK] using this
      split at h
      · rename_i hg
        cases h
        exact ⟨h1, h2', h3', rfl, .inl ⟨hg, rfl⟩⟩
      · rename_i j b hg
        split at h
        · cases h
        · rename_i oj h4
          split at h
          · cases h
          · rename_i d h5
            cases h
            exact ⟨h1, h2', h3', rfl, .inr ⟨j, b, oj, d, hg, h4, h5, rfl⟩⟩
    · cases h

theorem wanted_sound {P : Program} {tab : Tab} {mrows : String → List (TypeId × FuncId)} {N : Nat} {ops : Array Oper} {o : Oper} {ao : AOper} (h : compileOper P tab mrows N ops o = some ao) {ρ : Ren} {t : Tr Value} {tmps : Array Value} (hl : LR ρ t tmps) {b : Bool} (hw : AM.wanted t ao.guard = some b) :
    Region.wanted o (yielded ops tmps) = b := by
  obtain ⟨_, _, _, _, hg⟩ := compileOper_inv h
  rcases hg with ⟨h1, h2⟩ | ⟨j, want, oj, d, h1, h2, h3, h4⟩
  · rw [h2] at hw
    simp only [AM.wanted, Option.some.injEq] at hw
    subst hw
    simp [Region.wanted, h1]
  · rw [h4] at hw
    simp only [AM.wanted] at hw
    simp only [Region.wanted, h1, yielded, h2, Option.bind_some, h3]
    split at hw
    · rename_i x hx
      cases hw
      have hv := hl d _ hx
      rw [Array.getD_eq_getD_getElem?] at hv
      cases hq : tmps[d]? with
      | none => rw [hq] at hv; cases hv
      | some y =>
        rw [hq] at hv
        simp only [Option.getD_some] at hv
        cases hv
        cases x <;> cases want <;> rfl
    · rename_i hx
      cases hw
      have hv := hl d _ hx
      rw [Array.getD_eq_getD_getElem?] at hv
      cases hq : tmps[d]? with
      | none => cases want <;> rfl
      | some y =>
        rw [hq] at hv
        simp only [Option.getD_some] at hv
        obtain ⟨q, rfl, _⟩ := hv.tuple_inv
        cases want <;> rfl
    · cases hw

theorem oper_sound {P : Program} {tab : Tab} {mrows : String → List (TypeId × FuncId)} (C : Ctx P tab mrows) {call : CallF} (hcall : CallsOK P call) {N : Nat} {ops : Array Oper} {o : Oper} {ao : AOper} (hc : compileOper P tab mrows N ops o = some ao)
    {t t' : Tr Value} {σ σ' : Sto} (hr : runOper call ao t σ = some (t', σ')) {ρ : Ren} {a : Act} {w : World} (hs : Sim ρ σ w) (hG : GR P ρ) (hl : LR ρ t a.tmps) (hN : N ≤ a.tmps.size)
    {next : Act → World → Prop} {Q : Exit → Act → World → Prop} (K : ∀ ρ' a' w', Sim ρ' σ' w' → LR ρ' t' a'.tmps → Ev ρ σ w ρ' σ' w' → a'.defers = a.defers → a'.tmps.size = a.tmps.size → next a' w') :
    if Region.wanted o (yielded ops a.tmps) then o.wp P a w next Q ∨ (o.asks P a w ∧ LetsOut Q) else next (a.put o.dst undef) w := by
  obtain ⟨h1, h2, h3, h4, _⟩ := compileOper_inv hc
  unfold runOper at hr
  have hd : ∀ s, o.dst = some s → s < a.tmps.size := fun s hs => Nat.lt_of_lt_of_le (h3 s hs) hN
  split at hr
  · rename_i hw
    rw [wanted_sound hc hl hw]
    simp only [if_true]
    split at hr
    · rename_i v σ1 hop
      cases hr
      left
      rcases op_sound C hcall hl hG hs h2 h1 hop with ⟨cv, w', ρ', hv, hvr, hs', he⟩ | ⟨f, cargs, hrun, hcalls⟩
      · have hput : ∀ c, VR ρ' v c → next (a.put o.dst c) w' := fun c hc => K ρ' _ w' hs' (by rw [h4]; exact LR.put (hl.mono he.sub) hc hd) he (put_defers _ _ _) (put_size _ _ _)
        rcases hv with hrun | ⟨hrun, rfl⟩
        · simp only [Oper.wp, hrun, Oper.upon_value]; exact hput cv hvr
        · simp only [Oper.wp, hrun, Oper.upon_skip]; exact hput _ hvr
      · simp only [Oper.wp, hrun, Oper.upon_enter]
        refine hcalls.mono ?_
        rintro e w'' ⟨cv, ρ', rfl, hvr, hs', he⟩
        exact K ρ' _ w'' hs' (by rw [h4]; exact LR.put (hl.mono he.sub) hvr hd) he (put_defers _ _ _) (put_size _ _ _)
    · cases hr
  · rename_i hw
    rw [wanted_sound hc hl hw]
    simp only [Bool.false_eq_true, if_false]
    cases hr
    exact K ρ _ w hs (by rw [h4]; exact LR.put hl VR.undef hd) (Ev.refl _ _ _) (put_defers _ _ _) (put_size _ _ _)
  · cases hr

theorem ops_sound {P : Program} {tab : Tab} {mrows : String → List (TypeId × FuncId)} (C : Ctx P tab mrows) {call : CallF} (hcall : CallsOK P call) {N : Nat} {ops : Array Oper} : ∀ (is : List Nat) (l : List AOper), is.length = l.length →
    (∀ (k i : Nat) (ao : AOper), is[k]? = some i → l[k]? = some ao → ∃ o, ops[i]? = some o ∧ compileOper P tab mrows N ops o = some ao) →
    ∀ {t t' : Tr Value} {σ σ' : Sto}, runOps call l t σ = some (t', σ') → ∀ {ρ : Ren} {a : Act} {w : World}, Sim ρ σ w → GR P ρ → LR ρ t a.tmps → N ≤ a.tmps.size →
    ∀ {Q : Exit → Act → World → Prop}, (∀ ρ' a' w', Sim ρ' σ' w' → LR ρ' t' a'.tmps → Ev ρ σ w ρ' σ' w' → a'.defers = a.defers → a'.tmps.size = a.tmps.size → Q .normal a' w') → wpOps P ops Q is a w := by
  intro is
  induction is with
  | nil =>
    intro l hlen _ t t' σ σ' hr ρ a w hs hG hl hN Q K
    cases l with
    | nil =>
      simp only [runOps, Option.some.injEq, Prod.mk.injEq] at hr
      obtain ⟨rfl, rfl⟩ := hr
      exact K ρ a w hs hl (Ev.refl _ _ _) rfl rfl
    | cons _ _ => simp at hlen
  | cons i is ih =>
    intro l hlen hcomp t t' σ σ' hr ρ a w hs hG hl hN Q K
    cases l with
    | nil => simp at hlen
    | cons ao l =>
      obtain ⟨o, ho, hc⟩ := hcomp 0 i ao rfl rfl
      simp only [runOps] at hr
      split at hr
      · rename_i t1 σ1 h1
        simp only [wpOps, ho]
        exact oper_sound C hcall hc h1 hs hG hl hN (fun ρ' a' w' hs' hl' he hd hsz =>
          ih l (by simpa using hlen) (fun k i ao h h' => hcomp (k + 1) i ao (by simpa using h) (by simpa using h')) hr hs' (hG.mono he.sub) hl' (by omega) (fun ρ'' a'' w'' hs'' hl'' he' hd' hsz' =>
            K ρ'' a'' w'' hs'' hl'' (he.trans he') (hd'.trans hd) (by omega)))
      · cases hr

/-- A region in the order of the text. -/
theorem region_sound {P : Program} {tab : Tab} {mrows : String → List (TypeId × FuncId)} (C : Ctx P tab mrows) {call : CallF} (hcall : CallsOK P call) {N id : Nat} {ops : Array Oper} {l : List AOper} (hc : ops.toList.mapM (compileOper P tab mrows N ops) = some l)
    {t t' : Tr Value} {σ σ' : Sto} (hr : runOps call l t σ = some (t', σ')) {ρ : Ren} {a : Act} {w : World} (hs : Sim ρ σ w) (hG : GR P ρ) (hl : LR ρ t a.tmps) (hN : N ≤ a.tmps.size)
    {Q : Exit → Act → World → Prop} (K : ∀ ρ' a' w', Sim ρ' σ' w' → LR ρ' t' a'.tmps → Ev ρ σ w ρ' σ' w' → a'.defers = a.defers → a'.tmps.size = a.tmps.size → Q .normal a' w') :
    (Code.region id ops false).wp P Q a w := by
  obtain ⟨h1, h2⟩ := mapM_some _ _ _ hc
  refine wp_region (ops_sound C hcall (List.range ops.size) l (by simp [h1]) ?_ hr hs hG hl hN K)
  intro k i ao hk hao
  obtain ⟨o, ho1, ho2⟩ := h2 k ao hao
  have hlt : k < ops.size := by simpa using (List.getElem?_eq_some_iff.1 ho1).1
  rw [List.getElem?_range hlt] at hk
  cases hk
  exact ⟨o, by simpa using ho1, ho2⟩

end Go.AM
