/- Control, and calls. -/
import Derived.Test.YtjilfolpkkhfmaaDoorAM19
import Derived.Scope
namespace Go.AM

def toExit : AExit → Exit
  | .normal => .normal
  | .exit id => .exit id
  | .ret => .ret

/-- A loop, at the beginning of a round. -/
def LoopAt (P : Program) (c : Code) (Q : Exit → Act → World → Prop) (a : Act) (w : World) : Prop :=
  ∀ (b : Frame) (k : List Item) (cs : List Frame), ∃ e a' w', Q e a' w' ∧ Arrives P (lone (b.at a (.code c :: .inLoop c :: k)) cs w) b k cs e a' w'

theorem LoopAt.round {P : Program} {c : Code} {Q : Exit → Act → World → Prop} {a : Act} {w : World} (h : c.wp P (Exit.then (LoopAt P c Q) Q) a w) : LoopAt P c Q a w := by
  intro b k cs
  obtain ⟨e, a₁, w₁, hq, harr⟩ := h b (.inLoop c :: k) cs
  cases e with
  | normal =>
    obtain ⟨e₂, a₂, w₂, hq₂, harr₂⟩ := hq b k cs
    exact ⟨e₂, a₂, w₂, hq₂, .of_steps (Go.Steps.trans harr (.one step_inLoop)) harr₂⟩
  | exit id => exact ⟨_, a₁, w₁, hq, .pass (x := .inLoop c) rfl (fun _ _ => .inl (by simp)) harr⟩
  | goto l => exact ⟨_, a₁, w₁, hq, .pass (x := .inLoop c) rfl (fun _ _ => .inl (by simp)) harr⟩
  | ret => exact ⟨_, a₁, w₁, hq, .pass (x := .inLoop c) rfl (fun _ _ => .inl (by simp)) harr⟩
  | panic ch => exact ⟨_, a₁, w₁, hq, .pass (x := .inLoop c) rfl (fun _ _ => .inl (by simp)) harr⟩
  | outgrown => exact ⟨_, a₁, w₁, hq, .pass (x := .inLoop c) rfl (fun _ _ => .inl (by simp)) harr⟩

theorem LoopAt.loop {P : Program} {c : Code} {Q : Exit → Act → World → Prop} {a : Act} {w : World} (h : LoopAt P c Q a w) : (Code.loop c).wp P Q a w := by
  intro b k cs
  obtain ⟨e, a', w', hq, harr⟩ := h b k cs
  exact ⟨e, a', w', hq, .of_steps (.one step_loop) harr⟩

/-- What code comes to where the interpreter comes to an end. -/
def Sound (P : Program) (call : CallF) (N : Nat) (lf : Nat) (c : Code) (ac : ACode) : Prop :=
  ∀ {t t' : Tr Value} {σ σ' : Sto} {ex : AExit}, exec call lf ac t σ = some (ex, t', σ') → ∀ {ρ : Ren} {a : Act} {w : World}, Sim ρ σ w → GR P ρ → LR ρ t a.tmps → N ≤ a.tmps.size →
    ∀ {Q : Exit → Act → World → Prop}, (∀ ρ' a' w', Sim ρ' σ' w' → LR ρ' t' a'.tmps → Ev ρ σ w ρ' σ' w' → a'.defers = a.defers → a'.tmps.size = a.tmps.size → Q (toExit ex) a' w') → c.wp P Q a w

theorem loop_sound {P : Program} {call : CallF} {N lf : Nat} {c : Code} {ac : ACode} (hc : Sound P call N lf c ac) : ∀ (n : Nat) {t t' : Tr Value} {σ σ' : Sto} {ex : AExit}, iter (exec call lf ac) n t σ = some (ex, t', σ') → ∀ {ρ : Ren} {a : Act} {w : World}, Sim ρ σ w → GR P ρ → LR ρ t a.tmps → N ≤ a.tmps.size →
    ∀ {Q : Exit → Act → World → Prop}, (∀ ρ' a' w', Sim ρ' σ' w' → LR ρ' t' a'.tmps → Ev ρ σ w ρ' σ' w' → a'.defers = a.defers → a'.tmps.size = a.tmps.size → Q (toExit ex) a' w') → LoopAt P c Q a w := by
  intro n
  induction n with
  | zero => intro t t' σ σ' ex h; simp [iter] at h
  | succ n ih =>
    intro t t' σ σ' ex h ρ a w hs hG hl hN Q K
    simp only [iter] at h
    split at h
    · rename_i t1 σ1 h1
      refine .round (hc h1 hs hG hl hN (fun ρ' a' w' hs' hl' he hd hsz => ?_))
      exact ih h hs' (hG.mono he.sub) hl' (by omega) (fun ρ'' a'' w'' hs'' hl'' he' hd' hsz' => K ρ'' a'' w'' hs'' hl'' (he.trans he') (hd'.trans hd) (by omega))
    · rename_i hne
      refine .round (hc h hs hG hl hN (fun ρ' a' w' hs' hl' he hd hsz => ?_))
      cases ex with
      | normal => exact (hne t' σ' h).elim
      | exit id => exact K ρ' a' w' hs' hl' he hd hsz
      | ret => exact K ρ' a' w' hs' hl' he hd hsz

theorem exec_sound {P : Program} {tab : Tab} {mrows : String → List (TypeId × FuncId)} (C : Ctx P tab mrows) {call : CallF} (hcall : CallsOK P call) {N lf : Nat} : ∀ (c : Code) (ac : ACode), compile P tab mrows N c = some ac → Sound P call N lf c ac := by
  intro c
  induction c with
  | skip =>
    intro ac hc t t' σ σ' ex h ρ a w hs hG hl hN Q K
    cases hc; cases h
    exact wp_skip (K ρ a w hs hl (Ev.refl _ _ _) rfl rfl)
  | region id ops d =>
    intro ac hc t t' σ σ' ex h ρ a w hs hG hl hN Q K
    simp only [compile, compileRegion] at hc
    split at hc
    · cases hc
    · rename_i l hl'
      split at hc
      · rename_i hd
        subst hd
        have hd := hc
        unfold compileDraw at hc
        simp only at hc
        split at hc
        · split at hc
          · cases hc
            simp only [exec] at h
            split at h
            · rename_i hr
              cases h
              exact draw_sound C hcall hl' hd hr hs hG hl hN K
            · cases h
          · cases hc
        · cases hc
      · rename_i hd
        simp only [Bool.not_eq_true] at hd
        subst hd
        cases hc
        simp only [exec] at h
        split at h
        · rename_i hr
          cases h
          exact region_sound C hcall hl' hr hs hG hl hN K
        · cases h
  | seq x y ihx ihy =>
    intro ac hc t t' σ σ' ex h ρ a w hs hG hl hN Q K
    simp only [compile, Option.bind_eq_bind, Option.bind_eq_some_iff, Option.pure_def, Option.some.injEq] at hc
    obtain ⟨ax, hx, ay, hy, rfl⟩ := hc
    simp only [exec] at h
    split at h
    · rename_i t1 σ1 h1
      refine wp_seq (ihx ax hx h1 hs hG hl hN (fun ρ' a' w' hs' hl' he hd hsz => ?_))
      exact ihy ay hy h hs' (hG.mono he.sub) hl' (by omega) (fun ρ'' a'' w'' hs'' hl'' he' hd' hsz' => K ρ'' a'' w'' hs'' hl'' (he.trans he') (hd'.trans hd) (by omega))
    · rename_i hne
      refine wp_seq (ihx ax hx h hs hG hl hN (fun ρ' a' w' hs' hl' he hd hsz => ?_))
      cases ex with
      | normal => exact (hne t' σ' h).elim
      | exit id => exact K ρ' a' w' hs' hl' he hd hsz
      | ret => exact K ρ' a' w' hs' hl' he hd hsz
  | cond c x y ihx ihy =>
    intro ac hc t t' σ σ' ex h ρ a w hs hG hl hN Q K
    simp only [compile, Option.bind_eq_bind, Option.bind_eq_some_iff, Option.pure_def, Option.some.injEq] at hc
    obtain ⟨ax, hx, ay, hy, rfl⟩ := hc
    have hev : ∀ b, ev t c = some (.bool b) → a.eval c = .bool b := by
      intro b hb
      cases c with
      | tmp s =>
        have := hl s _ hb
        generalize hg : a.tmps.getD s undef = u at this
        cases this
        exact hg
      | const v => simp only [ev, Option.some.injEq] at hb; subst hb; rfl
      | global g => simp [ev] at hb
      | func f => simp [ev] at hb
    simp only [exec] at h
    split at h
    · rename_i hb; exact wp_cond (hev _ hb) (ihx ax hx h hs hG hl hN K)
    · rename_i hb; exact wp_cond (hev _ hb) (ihy ay hy h hs hG hl hN K)
    · cases h
  | block id c ih =>
    intro ac hc t t' σ σ' ex h ρ a w hs hG hl hN Q K
    simp only [compile, Option.bind_eq_bind, Option.bind_eq_some_iff, Option.pure_def, Option.some.injEq] at hc
    obtain ⟨ac', hc', rfl⟩ := hc
    simp only [exec] at h
    split at h
    · rename_i i t1 σ1 h1
      refine wp_block (ih ac' hc' h1 hs hG hl hN (fun ρ' a' w' hs' hl' he hd hsz => ?_))
      simp only [toExit, Exit.inBlock]
      split at h
      · rename_i e; cases h; rw [if_pos e]; exact K ρ' a' w' hs' hl' he hd hsz
      · rename_i e; cases h; rw [if_neg e]; exact K ρ' a' w' hs' hl' he hd hsz
    · rename_i hne
      refine wp_block (ih ac' hc' h hs hG hl hN (fun ρ' a' w' hs' hl' he hd hsz => ?_))
      cases ex with
      | normal => exact K ρ' a' w' hs' hl' he hd hsz
      | exit id => exact (hne id t' σ' h).elim
      | ret => exact K ρ' a' w' hs' hl' he hd hsz
  | loop c ih =>
    intro ac hc t t' σ σ' ex h ρ a w hs hG hl hN Q K
    simp only [compile, Option.bind_eq_bind, Option.bind_eq_some_iff, Option.pure_def, Option.some.injEq] at hc
    obtain ⟨ac', hc', rfl⟩ := hc
    simp only [exec] at h
    exact (loop_sound (ih ac' hc') _ h hs hG hl hN K).loop
  | rangeFunc f ps x y ihx ihy => intro ac hc; simp [compile] at hc
  | exit id =>
    intro ac hc t t' σ σ' ex h ρ a w hs hG hl hN Q K
    cases hc; cases h
    exact wp_exit (K ρ a w hs hl (Ev.refl _ _ _) rfl rfl)
  | scope c ih =>
    intro ac hc t t' σ σ' ex h ρ a w hs hG hl hN Q K
    refine wp_scope_straight (ih ac hc h hs hG hl hN (fun ρ' a' w' hs' hl' he hd hsz => ?_))
    have := K ρ' a' w' hs' hl' he hd hsz
    cases ex <;> exact this
  | label l =>
    intro ac hc t t' σ σ' ex h ρ a w hs hG hl hN Q K
    cases hc; cases h
    exact wp_label (K ρ a w hs hl (Ev.refl _ _ _) rfl rfl)
  | goto l => intro ac hc; simp [compile] at hc
  | ret =>
    intro ac hc t t' σ σ' ex h ρ a w hs hG hl hN Q K
    cases hc; cases h
    exact wp_ret (K ρ a w hs hl (Ev.refl _ _ _) rfl rfl)
  | refuse why => intro ac hc; simp [compile] at hc

/- results -/
def resSem (tmps : Array Value) : ResultVar → Sem Value
  | .tmp t => pure (tmps.getD t undef)
  | .cell a ty => do loadVar ty (← asAddr (tmps.getD a undef))

theorem res1_sound {P : Program} {tab : Tab} (hT : TabOK P tab) {ρ : Ren} {σ : Sto} {t : Tr Value} {tmps : Array Value} {w : World} (hs : Sim ρ σ w) (hl : LR ρ t tmps) {r : ResultVar} {ar : ARes} (hc : compileRes tab r = some ar) {v : Value} (h : res1 t σ ar = some v) :
    ∃ cv, (resSem tmps r).run P w = .ok cv w ∧ VR ρ v cv := by
  cases r with
  | tmp s =>
    cases hc
    exact ⟨_, by simp [resSem], hl s v h⟩
  | cell s ty =>
    simp only [compileRes] at hc
    split at hc
    · rename_i n hn
      cases hc
      simp only [res1] at h
      split at h
      · rename_i b o hb
        obtain ⟨k, o', cv, h1, h2, h3⟩ := loadV_sound hT hs hn (hl s _ hb) (by simp only [loadV]; exact h)
        exact ⟨cv, by simp only [resSem, h1]; simp [asAddr, h2], h3⟩
      · cases h
    · cases hc

theorem ress_sound {P : Program} {tab : Tab} (hT : TabOK P tab) {ρ : Ren} {σ : Sto} {t : Tr Value} {tmps : Array Value} {w : World} (hs : Sim ρ σ w) (hl : LR ρ t tmps) : ∀ (rs : List ResultVar) (ars : List ARes), rs.mapM (compileRes tab) = some ars → ∀ (vs : List Value), ress t σ ars = some vs →
    ∃ cvs, (rs.mapM (resSem tmps)).run P w = .ok cvs w ∧ VRl ρ vs cvs := by
  intro rs
  induction rs with
  | nil => intro ars hc vs h; simp at hc; subst hc; cases h; exact ⟨[], by simp, VRl.nil⟩
  | cons r rs ih =>
    intro ars hc vs h
    simp only [List.mapM_cons, Option.bind_eq_bind, Option.bind_eq_some_iff, Option.pure_def, Option.some.injEq] at hc
    obtain ⟨ar, h1, ars', h2, rfl⟩ := hc
    simp only [ress] at h
    split at h
    · rename_i v vs' h3 h4
      cases h
      obtain ⟨cv, h5, h6⟩ := res1_sound hT hs hl h1 h3
      obtain ⟨cvs, h7, h8⟩ := ih ars' h2 vs' h4
      refine ⟨cv :: cvs, ?_, VRl.cons h6 h8⟩
      rw [List.mapM_cons]
      simp only [Sem.run_bind]
      rw [h5]
      simp only [Result.andThen_ok, h7, Sem.run_pure]
    · cases h

theorem result_sound {P : Program} {tab : Tab} (hT : TabOK P tab) {ρ : Ren} {σ : Sto} {t : Tr Value} {tmps : Array Value} {w : World} (hs : Sim ρ σ w) (hl : LR ρ t tmps) {fn : Func} {ars : List ARes} (hc : fn.results.toList.mapM (compileRes tab) = some ars) {v : Value} (h : result t σ ars = some v) :
    ∃ cv, (results fn tmps).run P w = .ok cv w ∧ VR ρ v cv := by
  have key : ∀ vs, ress t σ ars = some vs → ∃ cvs : List Value, (results fn tmps).run P w = .ok (if h : cvs.length = 1 then cvs[0] else .tuple cvs.toArray) w ∧ VRl ρ vs cvs := by
    intro vs hvs
    obtain ⟨cvs, h1, h2⟩ := ress_sound hT hs hl _ _ hc vs hvs
    refine ⟨cvs, ?_, h2⟩
    have e : results fn tmps = (do let vs ← fn.results.mapM (resSem tmps); pure (if h : vs.size = 1 then vs[0] else .tuple vs)) := rfl
    rw [e, Array.mapM_eq_mapM_toList]
    simp [h1]
  unfold result at h
  split at h
  · rename_i u hu
    cases h
    obtain ⟨cvs, h1, h2⟩ := key _ hu
    obtain ⟨c, b, rfl, h3, h4⟩ := h2.cons_inv
    obtain rfl := h4.nil_inv
    exact ⟨c, by simpa using h1, h3⟩
  · rename_i vs hne hvs
    cases h
    obtain ⟨cvs, h1, h2⟩ := key _ hvs
    have : cvs.length ≠ 1 := by
      rw [← h2.1]
      intro hl
      match vs, hl with
      | [u], _ => exact hne u rfl
    rw [dif_neg this] at h1
    exact ⟨_, h1, VR.tuple_of h2⟩
  · cases h

/-- What the compiled functions must be. -/
def AOK (P : Program) (tab : Tab) (mrows : String → List (TypeId × FuncId)) (A : AProg) : Prop :=
  ∀ f fn, A f = some fn → callable P f = true ∧ ∃ func, P.funcs[f]? = some func ∧ compileFunc P tab mrows func = some fn

theorem callA_sound {P : Program} {tab : Tab} {mrows : String → List (TypeId × FuncId)} (C : Ctx P tab mrows) {A : AProg} (hA : AOK P tab mrows A) {S : CallF} (hS : CallsOK P S) : ∀ n, CallsOK P (callA A S n) := by
  intro n
  induction n with
  | zero => exact hS
  | succ n ih =>
    intro f args σ v σ' h ρ w cargs hs hG hargs
    simp only [callA] at h
    split at h
    · rename_i fn hf
      obtain ⟨hcall, func, hfunc, hcomp⟩ := hA f fn hf
      refine ⟨hcall, ?_⟩
      simp only [compileFunc, Option.bind_eq_bind, Option.bind_eq_some_iff, Option.pure_def, Option.some.injEq] at hcomp
      obtain ⟨c, hbody, code, hcode, rs, hrs, rfl⟩ := hcomp
      simp only [runFunc] at h
      have hl : LR ρ (Tr.ofList args 0 .leaf) (cargs ++ Array.replicate (func.ntmps - cargs.size) undef) := by
        intro d u hu
        rw [Tr.get_ofList] at hu
        split at hu
        · rename_i hd
          have hlt : d < args.length := by omega
          have hlt' : d < cargs.size := by have := hargs.1; simp at this; omega
          have h2 := hargs.2 d hlt
          rw [List.getD_eq_getElem?_getD, show args[d]? = some u by simpa using hu] at h2
          simpa [Array.getD_eq_getD_getElem?, List.getD_eq_getElem?_getD, Array.getElem?_append, hlt'] using h2
        · cases hu
      have hN : func.ntmps ≤ (cargs ++ Array.replicate (func.ntmps - cargs.size) undef).size := by simp; omega
      split at h
      · cases h
      · rename_i ex t1 σ1 hne hex
        split at h
        · rename_i u hu
          cases h
          refine calls_of_wp hfunc hbody (exec_sound C ih c code hcode hex hs hG hl hN (fun ρ' a' w' hs' hl' he hd hsz => ?_))
          obtain ⟨cv, h1, h2⟩ := result_sound C.hT hs' hl' hrs hu
          cases ex with
          | exit id => exact (hne id rfl).elim
          | normal => exact ⟨hd, cv, h1, cv, ρ', rfl, h2, hs', he⟩
          | ret => exact ⟨hd, cv, h1, cv, ρ', rfl, h2, hs', he⟩
        · cases h
      · cases h
    · exact hS f args σ v σ' h ρ w cargs hs hG hargs

/-- No summaries. -/
def noSum : CallF := fun _ _ _ => none
theorem noSum_ok (P : Program) : CallsOK P noSum := fun f args σ v σ' h => by cases h

end Go.AM
