/- Effects: the theorem for the class; calls. -/
import Derived.Test.YtjilfolpkkhfmaaDoorAM13
namespace Go.AM

/-- What is known of a callee. -/
def CallsOK (P : Program) (call : CallF) : Prop :=
  ∀ f args σ v σ', call f args σ = some (v, σ') → ∀ (ρ : Ren) (w : World) (cargs : Array Value), Sim ρ σ w → GR P ρ → VRl ρ args cargs.toList →
    callable P f = true ∧ Calls P f cargs w fun e w' => ∃ cv ρ', e = .returned cv ∧ VR ρ' v cv ∧ Sim ρ' σ' w' ∧ Ev ρ σ w ρ' σ' w'

/-- What an operation comes to, calls among them. -/
def EffC (P : Program) (ρ : Ren) (σ : Sto) (w : World) (s : Sem Next) (v : Value) (σ' : Sto) : Prop :=
  Eff P ρ σ w s v σ' ∨ ∃ f cargs, s.run P w = .ok (.enter f cargs) w ∧ Calls P f cargs w fun e w' => ∃ cv ρ', e = .returned cv ∧ VR ρ' v cv ∧ Sim ρ' σ' w' ∧ Ev ρ σ w ρ' σ' w'

theorem run_callFunc {P : Program} {w : World} {f : FuncId} {args : Array Value} (h : callable P f = true) : (callFunc f args).run P w = .ok (.enter f args) w := by
  unfold callable at h
  split at h
  · rename_i fn hf
    simp only [Bool.and_eq_true, bne_iff_ne, ne_eq] at h
    obtain ⟨h1, h2⟩ := h
    have h1' : fn.body ≠ none := by intro hb; simp [hb] at h1
    simp [callFunc, hf, h1', h2]
  · cases h

theorem methodRow_sound {P : Program} {w : World} {name : String} {ty : TypeId} {f : FuncId} (h : methodRow P name ty = some f) (v : Value) (n : Nat) :
    (Go.method (n + 1) ty v name).run P w = .ok (f, v) w := by
  unfold methodRow at h
  split at h
  · cases h
  · rename_i i hi
    split at h
    · cases h
    · rename_i m hm
      split at h
      · rename_i hp
        split at h
        · cases h
        · rename_i f' pr hf
          split at h
          · cases h
          · rename_i d hd
            split at h
            · rename_i hpr
              cases h
              have hpath : m.path.toList = [] := by simpa using hp
              simp only [Go.method, Sem.run_bind, run_typeInfo hi, Result.andThen_ok, hm, hpath, follow, Sem.run_pure, hf]
              have hrec : ∀ nm, (receiverAt ty (.val v) pr nm).run P w = .ok v w := by
                intro nm
                simp only [receiverAt, Sem.run_bind, run_underlying hd, Result.andThen_ok]
                subst hpr
                cases d <;> simp [Place.get, isPtrT]
              simp [hrec]
            · cases h
      · cases h

theorem methodRows_mem {P : Program} {name : String} {ty : TypeId} {f : FuncId} (h : (ty, f) ∈ methodRows P name) : methodRow P name ty = some f := by
  unfold methodRows at h
  rw [List.mem_filterMap] at h
  obtain ⟨t, _, h⟩ := h
  simp only [Option.map_eq_some_iff, Prod.mk.injEq] at h
  obtain ⟨f', h1, rfl, rfl⟩ := h
  exact h1

/-- The same for a table of the rows. -/
def RowsOK (P : Program) (mrows : String → List (TypeId × FuncId)) : Prop := ∀ name ty f, (ty, f) ∈ mrows name → methodRow P name ty = some f

theorem eff_sound {P : Program} {tab : Tab} {mrows : String → List (TypeId × FuncId)} (hT : TabOK P tab) (hZ : ZeroOK tab) (hR : RowsOK P mrows) {call : CallF} (hcall : CallsOK P call) {ρ : Ren} {σ σ' : Sto} {t : Tr Value} {a : Act} {w : World} (hl : LR ρ t a.tmps) (hG : GR P ρ) (hs : Sim ρ σ w)
    {o : Oper} (hok : ∀ x ∈ o.op.operands.toList, opdOK P.globals.size x = true) {aop : AOp} (hc : compileOp P tab mrows o.op = some aop) {v : Value} (hr : runEff call t σ aop = some (v, σ')) :
    EffC P ρ σ w (execOp a.eval o) v σ' := by
  have E : ∀ x, x ∈ o.op.operands.toList → ∀ v, ev t x = some v → VR ρ v (a.eval x) := fun x hx v h => ev_sound hl hG (hok x hx) h
  obtain ⟨dst, op, type, pos, after, guard⟩ := o
  simp only at hok hc E
  cases op with
  | store ty x u =>
    simp only [compileOp, opt_bind] at hc
    obtain ⟨i, hi, hc⟩ := hc
    cases hc
    simp only [runEff] at hr
    split at hr
    · rename_i xv uv h1 h2
      exact .inl (storeV_sound hT hs hi (E x (by simp [Op.operands]) xv h1) (E u (by simp [Op.operands]) uv h2) hr).eff
    · cases hr
  | insert ty m k u =>
    simp only [compileOp, opt_bind] at hc
    obtain ⟨i, hi, hc⟩ := hc
    have hd := hT.desc _ _ hi
    split at hc
    · rename_i kt e hde
      simp only [opt_bind] at hc
      obtain ⟨ks, hks, hc⟩ := hc
      cases hc
      rw [hde] at hd
      simp only [runEff] at hr
      split at hr
      · rename_i mv kv uv h1 h2 h3
        exact .inl (mapUpdateV_sound hT hs hd hks (E m (by simp [Op.operands]) mv h1) (E k (by simp [Op.operands]) kv h2) (E u (by simp [Op.operands]) uv h3) hr).eff
      · cases hr
    · cases hc
  | mapUpdate ty m k u =>
    simp only [compileOp, opt_bind] at hc
    obtain ⟨i, hi, hc⟩ := hc
    have hd := hT.desc _ _ hi
    split at hc
    · rename_i kt e hde
      simp only [opt_bind] at hc
      obtain ⟨ks, hks, hc⟩ := hc
      cases hc
      rw [hde] at hd
      simp only [runEff] at hr
      split at hr
      · rename_i mv kv uv h1 h2 h3
        exact .inl (mapUpdateV_sound hT hs hd hks (E m (by simp [Op.operands]) mv h1) (E k (by simp [Op.operands]) kv h2) (E u (by simp [Op.operands]) uv h3) hr).eff
      · cases hr
    · cases hc
  | mapEntry ty m k =>
    simp only [compileOp, opt_bind] at hc
    obtain ⟨i, hi, hc⟩ := hc
    have hd := hT.desc _ _ hi
    split at hc
    · rename_i kt e hde
      simp only [opt_bind] at hc
      obtain ⟨j, hj, z, hz, ks, hks, hc⟩ := hc
      cases hc
      rw [hde] at hd
      simp only [runEff] at hr
      split at hr
      · rename_i mv kv h1 h2
        exact .inl (mapEntryV_sound hT hZ hs hd hks hj hz (E m (by simp [Op.operands]) mv h1) (E k (by simp [Op.operands]) kv h2) hr).eff
      · cases hr
    · cases hc
  | entryStore ty m s u =>
    cases hc
    simp only [runEff] at hr
    split at hr
    · rename_i mv kv uv h1 h2 h3
      exact .inl (entryStoreV_sound hs (E m (by simp [Op.operands]) mv h1) (E s (by simp [Op.operands]) kv h2) (E u (by simp [Op.operands]) uv h3) hr).eff
    · cases hr
  | range ty x =>
    simp only [compileOp, opt_bind] at hc
    obtain ⟨i, hi, hc⟩ := hc
    have hd := hT.desc _ _ hi
    have fin : ∀ str, aop = .range str x → ((str = true ∧ P.underlying ty = some .string) ∨ (∃ k e, str = false ∧ P.underlying ty = some (.map k e))) → EffC P ρ σ w (execOp a.eval ⟨dst, .range ty x, type, pos, after, guard⟩) v σ' := by
      intro str ha hst
      subst ha
      simp only [runEff] at hr
      split at hr
      · rename_i xv h1
        exact .inl (rangeV_sound hs (E x (by simp [Op.operands]) xv h1) hst hr).eff
      · cases hr
    split at hc
    · rename_i hde; rw [hde] at hd; exact fin true (by simpa using hc.symm) (.inl ⟨rfl, hd⟩)
    · rename_i k e hde; rw [hde] at hd; exact fin false (by simpa using hc.symm) (.inr ⟨k, e, rfl, hd⟩)
    · cases hc
  | next x b =>
    cases b <;> cases hc <;> simp only [runEff] at hr <;> split at hr
    · rename_i xv h1; exact .inl (nextMV_sound hs (E x (by simp [Op.operands]) xv h1) hr).eff
    · cases hr
    · rename_i xv h1; exact .inl (nextV_sound hs (E x (by simp [Op.operands]) xv h1) hr).eff
    · cases hr
  | convert s d x =>
    simp only [compileOp, opt_bind] at hc
    obtain ⟨i, hi, j, hj, hc⟩ := hc
    have hds := hT.desc _ _ hi
    have hdd := hT.desc _ _ hj
    split at hc <;> (first | (cases hc; done) | (cases hc; simp [runEff] at hr; done) | skip)
    · rename_i e h1 h2
      simp only [opt_bind] at hc
      obtain ⟨m, hm, hc⟩ := hc
      have hdm := hT.desc _ _ hm
      split at hc
      · rename_i hmd
        cases hc
        rw [h1] at hds; rw [h2] at hdd; rw [hmd] at hdm
        simp only [runEff] at hr
        split at hr
        · rename_i u h3
          have hu := E x (by simp [Op.operands]) u h3
          cases u <;> simp only [s2bV] at hr <;> try (cases hr; done)
          rename_i str
          have hconv : (convert s d (a.eval x)).run P w = (Conv.stringToBytes e str).run P w := by
            generalize a.eval x = cx at hu
            cases hu
            simp [convert, run_underlying hds, run_underlying hdd, run_underlying hdm]
          obtain ⟨cv, w', ρ', h4, h5⟩ := s2bV_sound (P := P) (e := e) hs (v := v) (σ' := σ') (s := str) hr
          exact .inl (EffV.eff ⟨cv, w', ρ', by rw [hconv]; exact h4, h5⟩)
        · cases hr
      · cases hc
    · simp only [opt_bind] at hc
      obtain ⟨m, hm, hc⟩ := hc
      split at hc <;> cases hc
      simp [runEff] at hr
  | call c =>
    obtain ⟨callee, args, argTypes⟩ := c
    cases callee with
    | value f =>
      have hargs : ∀ x ∈ args.toList, opdOK P.globals.size x = true := fun x hx => hok x (by simp [Op.operands, Call.operands]; right; simpa using hx)
      have enter : ∀ (g : FuncId) (first vs captured : List Value) (first' captured' : Array Value), callable P g = true → a.eval f = .func (.func g) first' captured' →
          (execOp a.eval ⟨dst, .call ⟨.value f, args, argTypes⟩, type, pos, after, guard⟩).run P w = .ok (.enter g (first' ++ args.map a.eval ++ captured')) w := by
        intro g first vs captured first' captured' hcb hf
        simp [execOp, resolve, hf, Deferred.ofValue, invoke, run_callFunc hcb]
      have dyn : ∀ f0 : Operand, f0 = f → (aop = .callV f args.toList) → EffC P ρ σ w (execOp a.eval ⟨dst, .call ⟨.value f, args, argTypes⟩, type, pos, after, guard⟩) v σ' := by
        intro f0 hf0 ha
        subst ha
        simp only [runEff] at hr
        split at hr
        · rename_i fv vs h1 h2
          have hf := ev_sound hl hG (hok f (by simp [Op.operands, Call.operands])) h1
          have hv := evs_sound hl hG args.toList vs hargs h2
          unfold callVV at hr
          split at hr
          · rename_i g first captured
            generalize hfe : a.eval f = fe at hf
            cases hf with
            | func fn p q p' q' h3 h4 h5 h6 =>
              have e1 : VRl ρ first.toList p'.toList := ⟨by simpa using h3, fun i hi => by simpa [Array.getD_eq_getD_getElem?, List.getD_eq_getElem?_getD] using h5 i (by simpa using hi)⟩
              have e2 : VRl ρ captured.toList q'.toList := ⟨by simpa using h4, fun i hi => by simpa [Array.getD_eq_getD_getElem?, List.getD_eq_getElem?_getD] using h6 i (by simpa using hi)⟩
              obtain ⟨h7, h8⟩ := hcall g _ σ v σ' hr ρ w (p' ++ args.map a.eval ++ q') hs hG (by
                have := VRl.append (VRl.append e1 hv) e2
                simpa using this)
              exact .inr ⟨g, _, enter g [] [] [] p' q' h7 hfe, h8⟩
          · cases hr
        · cases hr
      cases f with
      | func g =>
        simp only [compileOp] at hc
        split at hc
        · rename_i hcb
          cases hc
          simp only [runEff] at hr
          split at hr
          · rename_i vs h2
            have hv := evs_sound hl hG args.toList vs hargs h2
            obtain ⟨h7, h8⟩ := hcall g _ σ v σ' hr ρ w (args.map a.eval) hs hG (by simpa using hv)
            refine .inr ⟨g, _, ?_, h8⟩
            have := enter g [] [] [] #[] #[] h7 rfl
            simpa using this
          · cases hr
        · cases hc
      | tmp s => exact dyn _ rfl (by simpa [compileOp] using hc.symm)
      | const u => exact dyn _ rfl (by simpa [compileOp] using hc.symm)
      | global g => exact dyn _ rfl (by simpa [compileOp] using hc.symm)
    | invoke r m =>
      have hargs : ∀ x ∈ args.toList, opdOK P.globals.size x = true := fun x hx => hok x (by simp [Op.operands, Call.operands]; right; simpa using hx)
      cases hc
      simp only [runEff] at hr
      split at hr
      · rename_i rv vs h1 h2
        have hrv := ev_sound hl hG (hok r (by simp [Op.operands, Call.operands])) h1
        have hv := evs_sound hl hG args.toList vs hargs h2
        unfold invokeV at hr
        split at hr
        · rename_i ty u
          split at hr
          · rename_i q g hfind
            have hmem := List.mem_of_find?_eq_some hfind
            have hq := List.find?_some hfind
            simp only [beq_iff_eq] at hq
            subst hq
            have hrow := hR m _ g hmem
            generalize hre : a.eval r = re at hrv
            cases hrv with
            | iface _ _ u' hu =>
              obtain ⟨h7, h8⟩ := hcall g _ σ v σ' hr ρ w (#[u'] ++ args.map a.eval) hs hG (by simpa using VRl.cons hu hv)
              refine .inr ⟨g, _, ?_, h8⟩
              have hmeth := methodRow_sound (P := P) (w := w) hrow u' (P.types.size + Made.depth - 1)
              have hdep : P.types.size + Made.depth - 1 + 1 = P.types.size + Made.depth := by
                have : 0 < Made.depth := by decide
                omega
              rw [hdep] at hmeth
              have hext : (Array.map a.eval args).extract 0 args.size = Array.map a.eval args := by
                apply Array.ext'
                simp [List.take_of_length_le]
              have h0 : (#[Value.iface q u'] ++ Array.map a.eval args)[0]? = some (.iface q u') := by simp [Array.getElem?_append]
              simp only [execOp, resolve, hre, Sem.run_bind, Sem.run_pure, Result.andThen_ok, invoke, h0]
              have hext2 : (#[Value.iface q u'] ++ Array.map a.eval args).extract 1 (#[Value.iface q u'] ++ Array.map a.eval args).size = Array.map a.eval args := by
                apply Array.ext'
                simp [List.take_of_length_le]
              rw [hext2]
              simp [callMethod, hmeth, run_callFunc h7]
          · cases hr
        · cases hr
      · cases hr
    | builtin b =>
      have hargs : ∀ x ∈ args.toList, opdOK P.globals.size x = true := fun x hx => hok x (by simpa [Op.operands, Call.operands] using hx)
      simp only [compileOp, opt_bind] at hc
      obtain ⟨ty, hty, i, hi, hc⟩ := hc
      have hd := hT.desc _ _ hi
      have run : ∀ (s : Sem Value), (∀ cs, builtin b argTypes type cs (args.map a.eval) = (do pure (.value (← s)))) → EffV P ρ σ w s v σ' →
          EffC P ρ σ w (execOp a.eval ⟨dst, .call ⟨.builtin b, args, argTypes⟩, type, pos, after, guard⟩) v σ' := by
        intro s h1 h2
        obtain ⟨cv, w', ρ', h3, h4⟩ := h2
        refine .inl ⟨cv, w', ρ', .inl ?_, h4⟩
        simp only [execOp, resolve, Sem.run_bind, Sem.run_pure, Result.andThen_ok, invoke, h1, h3]
      cases b <;> simp only [compileBuiltin] at hc <;> (first | (cases hc; done) | (cases hc; simp [runEff] at hr; done) | skip)
      case len => (repeat' split at hc) <;> cases hc <;> simp [runEff] at hr
      case append =>
        split at hc
        · rename_i s x hx
          split at hc
          · cases hc
          · rename_i u hu
            split at hc
            · cases hc
            · rename_i iu hiu
              split at hc
              · rename_i e hde
                split at hc
                · cases hc
                · rename_i j hj
                  split at hc
                  · cases hc
                  · rename_i z hz
                    obtain ⟨zv, hz1, hz2⟩ := zeroCs_inv hz
                    split at hc
                    · cases hc
                    · rename_i hzl
                      rw [hde] at hd
                      have hzl' : zv.cells.size = j.size := by
                        rw [hz2] at hzl; simpa using hzl
                      have fin : (∀ k, iu.desc ≠ .int k) → aop = .append s x j.size j.bytes → EffC P ρ σ w (execOp a.eval ⟨dst, .call ⟨.builtin .append, args, argTypes⟩, type, pos, after, guard⟩) v σ' := by
                        intro hni ha
                        subst ha
                        simp only [runEff] at hr
                        split at hr
                        · rename_i sv xv h1 h2
                          have hs1 := ev_sound hl hG (hargs s (by rw [hx]; simp)) h1
                          have hs2 := ev_sound hl hG (hargs x (by rw [hx]; simp)) h2
                          have hma : args.map a.eval = #[a.eval s, a.eval x] := by apply Array.ext'; simp [hx]
                          exact run (Builtin.append_ argTypes type (args.map a.eval)) (fun cs => rfl) (by rw [hma]; exact runAppend_sound hT hs hty hu hd (hT.desc _ _ hiu) hni hj hz1 hzl' hs1 hs2 hr)
                        · cases hr
                      split at hc
                      · rename_i hiud; exact fin (by rw [hiud]; simp) (by simpa using hc.symm)
                      · rename_i hiud; exact fin (by rw [hiud]; simp) (by simpa using hc.symm)
                      · cases hc
              · cases hc
        · cases hc
      case copy =>
        split at hc
        · rename_i d s hx
          split at hc
          · rename_i e hde
            split at hc
            · rename_i j hj
              cases hc
              rw [hde] at hd
              simp only [runEff] at hr
              split at hr
              · rename_i dv sv h1 h2
                have hs1 := ev_sound hl hG (hargs d (by rw [hx]; simp)) h1
                have hs2 := ev_sound hl hG (hargs s (by rw [hx]; simp)) h2
                have hma : args.map a.eval = #[a.eval d, a.eval s] := by apply Array.ext'; simp [hx]
                exact run (Builtin.copy_ argTypes type (args.map a.eval)) (fun cs => rfl) (by rw [hma]; exact copyV_sound hT hs hty hd hj hs1 hs2 hr)
              · cases hr
            · cases hc
          · cases hc
        · cases hc
      case clear =>
        split at hc
        · rename_i x hx
          split at hc
          · rename_i e hde
            split at hc
            · rename_i j hj
              split at hc
              · rename_i z hz
                cases hc
                rw [hde] at hd
                simp only [runEff] at hr
                split at hr
                · rename_i xv h1
                  have hs1 := ev_sound hl hG (hargs x (by rw [hx]; simp)) h1
                  have hma : args.map a.eval = #[a.eval x] := by apply Array.ext'; simp [hx]
                  exact run (Builtin.clear_ argTypes type (args.map a.eval)) (fun cs => rfl) (by rw [hma]; exact clearV_sound hT hZ hs hty hd hj hz hs1 hr)
                · cases hr
              · cases hc
            · cases hc
          · cases hc
        · cases hc
      case delete =>
        split at hc
        · rename_i m k hx
          split at hc
          · rename_i kt e hde
            split at hc
            · rename_i ks hks
              cases hc
              rw [hde] at hd
              simp only [runEff] at hr
              split at hr
              · rename_i mv kv h1 h2
                have hs1 := ev_sound hl hG (hargs m (by rw [hx]; simp)) h1
                have hs2 := ev_sound hl hG (hargs k (by rw [hx]; simp)) h2
                have hma : args.map a.eval = #[a.eval m, a.eval k] := by apply Array.ext'; simp [hx]
                exact run (Builtin.delete_ argTypes type (args.map a.eval)) (fun cs => rfl) (by rw [hma]; exact deleteV_sound hT hs hty hd hks hs1 hs2 hr)
              · cases hr
            · cases hc
          · cases hc
        · cases hc
  | load ty x => simp only [compileOp, opt_bind] at hc; obtain ⟨_, _, hc⟩ := hc; cases hc; simp [runEff] at hr
  | lookup ty m k ok =>
    simp only [compileOp, opt_bind] at hc
    obtain ⟨_, _, hc⟩ := hc
    split at hc
    · simp only [opt_bind] at hc; obtain ⟨_, _, _, _, _, _, hc⟩ := hc; cases hc; simp [runEff] at hr
    · cases hc
  | entry x => cases hc; simp [runEff] at hr
  | binOp op ty x y ty2 =>
    simp only [compileOp, opt_bind] at hc
    obtain ⟨i, hi, hc⟩ := hc
    split at hc <;> (first | (cases hc; done) | (cases hc; simp [runEff] at hr; done) | skip)
    all_goals (split at hc <;> (first | (cases hc; done) | (cases hc; simp [runEff] at hr; done) | skip))
    all_goals (simp only [opt_bind] at hc; obtain ⟨_, _, hc⟩ := hc)
    all_goals (try split at hc) <;> cases hc <;> simp [runEff] at hr
  | move x => cases hc; simp [runEff] at hr
  | assign x => cases hc; simp [runEff] at hr
  | pick c x y => cases hc; simp [runEff] at hr
  | nilCheck x => cases hc; simp [runEff] at hr
  | unOp op ty x => cases hc; simp [runEff] at hr
  | makeFunc fn p q => cases hc; simp [runEff] at hr
  | extract x n => cases hc; simp [runEff] at hr
  | build ty ps =>
    simp only [compileOp, opt_bind] at hc
    obtain ⟨_, _, _, _, hc⟩ := hc
    split at hc
    · simp only [opt_bind] at hc; obtain ⟨_, _, _, _, hc⟩ := hc; cases hc; simp [runEff] at hr
    · simp only [opt_bind] at hc; obtain ⟨_, _, hc⟩ := hc; cases hc; simp [runEff] at hr
    · cases hc
  | makeInterface ty x => simp only [compileOp, opt_bind] at hc; obtain ⟨_, _, hc⟩ := hc; split at hc <;> cases hc; simp [runEff] at hr
  | slice ty x lo hi mx =>
    simp only [compileOp, opt_bind] at hc
    obtain ⟨_, _, hc⟩ := hc
    split at hc
    · simp only [opt_bind] at hc; obtain ⟨_, _, hc⟩ := hc; cases hc; simp [runEff] at hr
    · simp only [opt_bind] at hc; obtain ⟨_, _, hc⟩ := hc; cases hc; simp [runEff] at hr
    · split at hc <;> cases hc; simp [runEff] at hr
    · cases hc
  | fieldAddr ty x f =>
    simp only [compileOp, opt_bind] at hc
    obtain ⟨_, _, hc⟩ := hc
    split at hc
    · simp only [opt_bind] at hc; obtain ⟨_, _, _, _, hc⟩ := hc; split at hc <;> cases hc; simp [runEff] at hr
    · cases hc
  | field ty x f =>
    simp only [compileOp, opt_bind] at hc
    obtain ⟨_, _, hc⟩ := hc
    split at hc
    · simp only [opt_bind] at hc; obtain ⟨_, _, _, _, hc⟩ := hc; cases hc; simp [runEff] at hr
    · cases hc
  | indexAddr ty x f =>
    simp only [compileOp, opt_bind] at hc
    obtain ⟨_, _, hc⟩ := hc
    split at hc
    · simp only [opt_bind] at hc; obtain ⟨_, _, hc⟩ := hc; cases hc; simp [runEff] at hr
    · simp only [opt_bind] at hc; obtain ⟨_, _, hc⟩ := hc; cases hc; simp [runEff] at hr
    · cases hc
  | index ty x f =>
    simp only [compileOp, opt_bind] at hc
    obtain ⟨_, _, hc⟩ := hc
    split at hc
    · simp only [opt_bind] at hc; obtain ⟨_, _, _, _, hc⟩ := hc; cases hc; simp [runEff] at hr
    · cases hc; simp [runEff] at hr
    · cases hc
  | alloc ty => simp only [compileOp, opt_bind] at hc; obtain ⟨_, _, _, _, hc⟩ := hc; cases hc; simp [runEff] at hr
  | box ty x => cases hc; simp [runEff] at hr
  | buildSlice ty n ps =>
    simp only [compileOp, opt_bind] at hc
    obtain ⟨_, _, hc⟩ := hc
    split at hc
    · simp only [opt_bind] at hc; obtain ⟨_, _, _, _, hc⟩ := hc; split at hc <;> cases hc; simp [runEff] at hr
    · cases hc
  | makeSlice ty l c =>
    simp only [compileOp, opt_bind] at hc
    obtain ⟨_, _, hc⟩ := hc
    split at hc
    · simp only [opt_bind] at hc; obtain ⟨_, _, _, _, hc⟩ := hc; split at hc <;> cases hc; simp [runEff] at hr
    · cases hc
  | makeMap ty r => cases r <;> cases hc; simp [runEff] at hr
  | _ => cases hc

end Go.AM
