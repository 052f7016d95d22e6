/- Loops whose operations leave a choice open: the model's code by its compiled form; the next entry of a map, whichever it is. -/
import Derived.Test.YtjilfolpkkhfmaaDoorAM32
namespace Go.AM

/-- What code comes to, by the interpreter's three ends. -/
def WW (P : Program) (c : Code) (a : Act) (w : World) (R : AExit → Act → World → Prop) : Prop :=
  ∀ Q : Exit → Act → World → Prop, (∀ ex a' w', R ex a' w' → Q (toExit ex) a' w') → c.wp P Q a w

theorem WW.mono {P : Program} {c : Code} {a : Act} {w : World} {R R' : AExit → Act → World → Prop} (h : WW P c a w R) (hr : ∀ ex a' w', R ex a' w' → R' ex a' w') : WW P c a w R' :=
  fun Q K => h Q (fun ex a' w' h1 => K ex a' w' (hr ex a' w' h1))

theorem WW.scope {P : Program} {c : Code} {a : Act} {w : World} {R : AExit → Act → World → Prop} (h : WW P c a w R) : WW P (.scope c) a w R := by
  intro Q K
  refine wp_scope_straight (h _ (fun ex a' w' hr => ?_))
  have := K ex a' w' hr
  cases ex <;> exact this

/-- How a run of the interpreter's ends. -/
def Ends (ρ : Ren) (σ : Sto) (a : Act) (w : World) (ex : AExit) (t' : Tr Value) (σ' : Sto) : AExit → Act → World → Prop := fun e a' w' =>
  e = ex ∧ ∃ ρ', Sim ρ' σ' w' ∧ LR ρ' t' a'.tmps ∧ Ev ρ σ w ρ' σ' w' ∧ a'.defers = a.defers ∧ a'.tmps.size = a.tmps.size

section
variable {P : Program} {tab : Tab} {mrows : String → List (TypeId × FuncId)} {N : Nat}

theorem ww_exec (C : Ctx P tab mrows) {call : CallF} (hcall : CallsOK P call) {lf : Nat} {c : Code} {ac : ACode} (hc : compile P tab mrows N c = some ac) {t t' : Tr Value} {σ σ' : Sto} {ex : AExit} (h : exec call lf ac t σ = some (ex, t', σ'))
    {ρ : Ren} {a : Act} {w : World} (hs : Sim ρ σ w) (hG : GR P ρ) (hl : LR ρ t a.tmps) (hN : N ≤ a.tmps.size) : WW P c a w (Ends ρ σ a w ex t' σ') :=
  fun _ K => exec_sound C hcall c ac hc h hs hG hl hN (fun ρ' a' w' h1 h2 h3 h4 h5 => K ex a' w' ⟨rfl, ρ', h1, h2, h3, h4, h5⟩)

theorem region_shape {ops : Array Oper} {d : Bool} {ac : ACode} (h : compileRegion P tab mrows N ops d = some ac) : (∃ l, ac = .ops l ∧ d = false ∧ ops.toList.mapM (compileOper P tab mrows N ops) = some l) ∨ ∃ n l, ac = .draw n l := by
  unfold compileRegion at h
  split at h
  · cases h
  · rename_i l hl
    split at h
    · unfold compileDraw at h
      simp only at h
      split at h
      · split at h
        · cases h; exact .inr ⟨_, _, rfl⟩
        · cases h
      · cases h
    · rename_i hd
      cases h
      exact .inl ⟨l, rfl, by simpa using hd, hl⟩

theorem inv_seq {A B : ACode} : ∀ {c : Code}, compile P tab mrows N c = some (.seq A B) → ∃ x y, compile P tab mrows N x = some A ∧ compile P tab mrows N y = some B ∧
    ∀ (a : Act) (w : World) (R : AExit → Act → World → Prop), WW P x a w (fun e a' w' => (e = .normal ∧ WW P y a' w' R) ∨ (e ≠ .normal ∧ R e a' w')) → WW P c a w R := by
  intro c
  induction c with
  | seq x y =>
    intro h
    simp only [compile, Option.bind_eq_bind, Option.bind_eq_some_iff, Option.pure_def, Option.some.injEq] at h
    obtain ⟨ax, hx, ay, hy, h⟩ := h
    cases h
    refine ⟨x, y, hx, hy, fun a w R hW Q K => wp_seq (hW _ (fun ex a' w' hr => ?_))⟩
    rcases hr with ⟨rfl, hr⟩ | ⟨hne, hr⟩
    · exact hr Q K
    · have := K ex a' w' hr
      cases ex with
      | normal => exact (hne rfl).elim
      | exit id => exact this
      | ret => exact this
  | scope c ih =>
    intro h
    obtain ⟨x, y, hx, hy, k⟩ := ih h
    exact ⟨x, y, hx, hy, fun a w R hW => (k a w R hW).scope⟩
  | region id ops d =>
    intro h
    rcases region_shape h with ⟨l, h1, _⟩ | ⟨n, l, h1⟩ <;> cases h1
  | cond c x y => intro h; simp [compile, Option.bind_eq_some_iff] at h
  | block id c => intro h; simp [compile, Option.bind_eq_some_iff] at h
  | loop c => intro h; simp [compile, Option.bind_eq_some_iff] at h
  | _ => intro h; simp [compile] at h

theorem inv_block {id : Nat} {B : ACode} : ∀ {c : Code}, compile P tab mrows N c = some (.block id B) → ∃ x, compile P tab mrows N x = some B ∧
    ∀ (a : Act) (w : World) (R : AExit → Act → World → Prop), WW P x a w (fun e a' w' => (e = .exit id ∧ R .normal a' w') ∨ (e ≠ .exit id ∧ R e a' w')) → WW P c a w R := by
  intro c
  induction c with
  | block i x =>
    intro h
    simp only [compile, Option.bind_eq_bind, Option.bind_eq_some_iff, Option.pure_def, Option.some.injEq] at h
    obtain ⟨ax, hx, h⟩ := h
    cases h
    refine ⟨x, hx, fun a w R hW Q K => wp_block (hW _ (fun ex a' w' hr => ?_))⟩
    rcases hr with ⟨rfl, hr⟩ | ⟨hne, hr⟩
    · have := K .normal a' w' hr
      simpa [toExit, Exit.inBlock] using this
    · have := K ex a' w' hr
      cases ex with
      | normal => exact this
      | exit j => simp only [toExit, Exit.inBlock]; rw [if_neg (fun e => hne (by rw [e]))]; exact this
      | ret => exact this
  | scope c ih =>
    intro h
    obtain ⟨x, hx, k⟩ := ih h
    exact ⟨x, hx, fun a w R hW => (k a w R hW).scope⟩
  | region id ops d =>
    intro h
    rcases region_shape h with ⟨l, h1, _⟩ | ⟨n, l, h1⟩ <;> cases h1
  | cond c x y => intro h; simp [compile, Option.bind_eq_some_iff] at h
  | seq c d => intro h; simp [compile, Option.bind_eq_some_iff] at h
  | loop c => intro h; simp [compile, Option.bind_eq_some_iff] at h
  | _ => intro h; simp [compile] at h

theorem inv_loop {B : ACode} : ∀ {c : Code}, compile P tab mrows N c = some (.loop B) → ∃ x, compile P tab mrows N x = some B ∧
    ∀ (a : Act) (w : World) (R : AExit → Act → World → Prop), (∀ Q : Exit → Act → World → Prop, (∀ ex a' w', R ex a' w' → Q (toExit ex) a' w') → LoopAt P x Q a w) → WW P c a w R := by
  intro c
  induction c with
  | loop x =>
    intro h
    simp only [compile, Option.bind_eq_bind, Option.bind_eq_some_iff, Option.pure_def, Option.some.injEq] at h
    obtain ⟨ax, hx, h⟩ := h
    cases h
    exact ⟨x, hx, fun a w R hW Q K => (hW Q K).loop⟩
  | scope c ih =>
    intro h
    obtain ⟨x, hx, k⟩ := ih h
    exact ⟨x, hx, fun a w R hW => (k a w R hW).scope⟩
  | region id ops d =>
    intro h
    rcases region_shape h with ⟨l, h1, _⟩ | ⟨n, l, h1⟩ <;> cases h1
  | cond c x y => intro h; simp [compile, Option.bind_eq_some_iff] at h
  | seq c d => intro h; simp [compile, Option.bind_eq_some_iff] at h
  | block id c => intro h; simp [compile, Option.bind_eq_some_iff] at h
  | _ => intro h; simp [compile] at h

theorem inv_ops {l : List AOper} : ∀ {c : Code}, compile P tab mrows N c = some (.ops l) → ∃ ops : Array Oper, ops.toList.mapM (compileOper P tab mrows N ops) = some l ∧
    ∀ (a : Act) (w : World) (R : AExit → Act → World → Prop), (∀ Q : Exit → Act → World → Prop, (∀ ex a' w', R ex a' w' → Q (toExit ex) a' w') → wpOps P ops Q (List.range ops.size) a w) → WW P c a w R := by
  intro c
  induction c with
  | region id ops d =>
    intro h
    rcases region_shape h with ⟨l', h1, h2, h3⟩ | ⟨n, l, h1⟩
    · cases h1
      subst h2
      exact ⟨ops, h3, fun a w R hW Q K => wp_region (hW Q K)⟩
    · cases h1
  | scope c ih =>
    intro h
    obtain ⟨x, hx, k⟩ := ih h
    exact ⟨x, hx, fun a w R hW => (k a w R hW).scope⟩
  | cond c x y => intro h; simp [compile, Option.bind_eq_some_iff] at h
  | seq c d => intro h; simp [compile, Option.bind_eq_some_iff] at h
  | block id c => intro h; simp [compile, Option.bind_eq_some_iff] at h
  | loop c => intro h; simp [compile, Option.bind_eq_some_iff] at h
  | _ => intro h; simp [compile] at h

/-- A loop that has a measure. -/
theorem loop_measure {x : Code} {R : AExit → Act → World → Prop} (I : Nat → Act → World → Prop)
    (step : ∀ m a w, I m a w → WW P x a w (fun e a' w' => (e = .normal ∧ ∃ m', m' < m ∧ I m' a' w') ∨ (e ≠ .normal ∧ R e a' w')))
    {Q : Exit → Act → World → Prop} (K : ∀ ex a' w', R ex a' w' → Q (toExit ex) a' w') : ∀ (n m : Nat), m < n → ∀ (a : Act) (w : World), I m a w → LoopAt P x Q a w := by
  intro n
  induction n with
  | zero => intro m h; omega
  | succ n ih =>
    intro m hm a w hI
    refine .round (step m a w hI _ (fun ex a' w' hr => ?_))
    rcases hr with ⟨rfl, m', h1, h2⟩ | ⟨hne, hr⟩
    · exact ih m' (by omega) a' w' h2
    · have := K ex a' w' hr
      cases ex with
      | normal => exact (hne rfl).elim
      | exit id => exact this
      | ret => exact this

/-- One operation without a guard, by its effect. -/
theorem oper_eff {ops : Array Oper} {o : Oper} {ao : AOper} (hc : compileOper P tab mrows N ops o = some ao) (hg : ao.guard = none) {t : Tr Value} {σ σ' : Sto} {v : Value} {ρ : Ren} {a : Act} {w : World} (hl : LR ρ t a.tmps) (hN : N ≤ a.tmps.size)
    (he : Eff P ρ σ w (execOp a.eval o) v σ')
    {next : Act → World → Prop} {Q : Exit → Act → World → Prop} (K : ∀ ρ' a' w', Sim ρ' σ' w' → LR ρ' (put t ao.dst v) a'.tmps → Ev ρ σ w ρ' σ' w' → a'.defers = a.defers → a'.tmps.size = a.tmps.size → next a' w') :
    if Region.wanted o (yielded ops a.tmps) then o.wp P a w next Q ∨ (o.asks P a w ∧ LetsOut Q) else next (a.put o.dst undef) w := by
  obtain ⟨h1, h2, h3, h4, _⟩ := compileOper_inv hc
  have hd : ∀ s, o.dst = some s → s < a.tmps.size := fun s hs => Nat.lt_of_lt_of_le (h3 s hs) hN
  rw [wanted_sound hc hl (b := true) (by rw [hg]; rfl)]
  simp only [if_true]
  left
  obtain ⟨cv, w', ρ', hv, hvr, hs', he⟩ := he
  have hput : ∀ c, VR ρ' v c → next (a.put o.dst c) w' := fun c hc => K ρ' _ w' hs' (by rw [h4]; exact LR.put (hl.mono he.sub) hc hd) he (put_defers _ _ _) (put_size _ _ _)
  rcases hv with hrun | ⟨hrun, rfl⟩
  · simp only [Oper.wp, hrun, Oper.upon_value]; exact hput cv hvr
  · simp only [Oper.wp, hrun, Oper.upon_skip]; exact hput _ hvr
end

/-- The next entry of a map: one of those that are left, whichever it is. -/
theorem next_any {P : Program} {ρ : Ren} {σ : Sto} {w : World} (hs : Sim ρ σ w) {ty : TypeId} {N m since last clock : Nat} {seen : List Nat} {es : List MapEntry} {x' : Value} (hx : VR ρ (.pointer (some ⟨N, 0, none⟩)) x')
    (hobj : σ.objs.get N = some (.miter (some m) since seen last)) (hmo : σ.objs.get m = some (.map es clock)) (hlast : ∀ e ∈ es, e.born < last) (hleft : ∀ e ∈ es, seen.contains e.born = false) (hborn : ∀ e ∈ es, e.born < since) (hne : es ≠ []) :
    ∃ (i : Nat) (e : MapEntry), es[i]? = some e ∧ EffV P ρ σ w (Instr.next x' false ty) (.tuple #[.bool true, e.key, e.val]) (setObj σ N (.miter (some m) since (seen ++ [e.born]) clock)) := by
  cases hx with
  | ptr _ _ l hl =>
  obtain ⟨l1, obj, h1, h2, h3⟩ := hs.live N _ hobj
  obtain rfl : l = l1 := Option.some.inj (hl.symm.trans h1)
  cases obj <;> simp only [OR] at h3
  rename_i m' since' seen' st'
  obtain ⟨hb0, hm, rfl, rfl, rfl⟩ := h3
  obtain ⟨lm, hlm, hm'⟩ := map_inv hm
  simp only [Value.map.injEq] at hm'
  subst hm'
  obtain ⟨es', h5, h6⟩ := hs.mapObj hmo hlm
  have hg : (Go.getObj l.blk).run P w = .ok (.mapIter (some lm.blk) since seen.toArray last) w := by simp [Go.getObj, Sem.run, h2]
  -- what is left is all
  have hall : es.filter (fun e => !seen.contains e.born) = es := List.filter_eq_self.2 (fun e he => by rw [hleft e he]; rfl)
  have bornAll : ∀ (q : Nat → Bool), (∀ e ∈ es, q e.born = true) → ∀ e' ∈ es'.toList, q e'.born = true := by
    intro q hq e' he'
    obtain ⟨i, hi⟩ := List.mem_iff_getElem?.1 he'
    have hlt : i < es.length := by rw [h6.1]; exact (List.getElem?_eq_some_iff.1 hi).1
    obtain ⟨e2, k1, k2⟩ := h6.2 i es[i] (by simp [hlt])
    rw [hi] at k1
    cases k1
    rw [← k2.2.2]
    exact hq _ (List.getElem_mem _)
  have hfil : (es'.filter fun e => !seen.toArray.contains e.born) = es' := by
    rw [Array.filter_eq_self]
    intro e he
    have := bornAll (fun b => !seen.contains b) (fun e he => by rw [hleft e he]; rfl) e (by simpa using he)
    simpa using this
  have hold : (es'.filter (·.born < since)) = es' := by
    rw [Array.filter_eq_self]
    intro e he
    exact bornAll (fun b => decide (b < since)) (fun e he => by simpa using hborn e he) e (by simpa using he)
  have hnew : (es'.filter (·.born ≥ since)) = #[] := by
    rw [Array.filter_eq_empty_iff]
    intro e he
    have := bornAll (fun b => decide (b < since)) (fun e he => by simpa using hborn e he) e (by simpa using he)
    simp only [decide_eq_true_eq] at this ⊢
    omega
  have hn : 0 < es'.size := by
    have h7 : es.length = es'.toList.length := h6.1
    have h8 : 0 < es.length := List.length_pos_iff.2 hne
    have h9 : es'.toList.length = es'.size := by simp
    omega
  have hcond : (!seen.toArray.isEmpty && !es'.isEmpty && es'.all (fun e => decide (e.born ≥ last))) = false := by
    have : es'.all (fun e => decide (e.born ≥ last)) = false := by
      rw [Array.all_eq_false]
      refine ⟨0, hn, ?_⟩
      have := bornAll (fun b => decide (b < last)) (fun e he => by simpa using hlast e he) es'[0] (by simp)
      simp only [decide_eq_true_eq] at this ⊢
      omega
    rw [this, Bool.and_false]
  have hemp : (es'.filter (·.born < since)).isEmpty = false := by
    rw [hold]
    simp only [Array.isEmpty_eq_false_iff]
    intro e; rw [e] at hn; simp at hn
  let q := Question.mapNext (es'.map some).size
  have run : ∀ (j : Nat) (w1 : World), (choose q).run P w = .ok j w1 → (Instr.next (.pointer (some ⟨l.blk, l.base + 0, none⟩)) false ty).run P w = (match (es'.map some)[j]? with
      | some (some e) => do
        Go.setObj l.blk (.mapIter (some lm.blk) since (seen.toArray.push e.born) clock)
        pure (.tuple #[.bool true, e.key, e.val])
      | some none => pure (.tuple #[.bool false])
      | none => stuck "Next: no such candidate" : Sem Value).run P w1 := by
    intro j w1 hj
    have hcand : (if (es'.filter (·.born < since)).isEmpty then #[none] else #[]) ++ ((es'.filter (·.born < since)) ++ (es'.filter (·.born ≥ since))).map some = es'.map some := by
      rw [hemp, hold, hnew]; simp
    simp only [Instr.next, hb0, Nat.add_zero, Sem.run_bind, hg, Result.andThen_ok, run_getObj_map h5, hcond, Bool.false_eq_true, if_false]
    rw [hfil, hcand]
    simp only [show (choose (Question.mapNext (es'.map some).size)).run P w = .ok j w1 from hj, Result.andThen_ok]
    split <;> simp_all
  have pick : ∀ (j : Nat) (w1 : World), (choose q).run P w = .ok j w1 → j < es'.size → Sim ρ σ w1 → (∀ ρ' σ' w', Ev ρ σ w1 ρ' σ' w' → Ev ρ σ w ρ' σ' w') → w1.heap = w.heap →
      ∃ (i : Nat) (e : MapEntry), es[i]? = some e ∧ EffV P ρ σ w (Instr.next (.pointer (some ⟨l.blk, l.base + 0, none⟩)) false ty) (.tuple #[.bool true, e.key, e.val]) (setObj σ N (.miter (some m) since (seen ++ [e.born]) clock)) := by
    intro j w1 hj hjs hs1 hev hh
    have hlt : j < es.length := by rw [h6.1, Array.length_toList]; exact hjs
    obtain ⟨e', k1, k2⟩ := h6.2 j es[j] (by simp [hlt])
    have k3 : (es'.map some)[j]? = some (some e') := by simpa using k1
    obtain ⟨w', h10, h11, h12⟩ := hs1.setObj (P := P) (o' := .miter (some m) since (seen ++ [es[j].born]) clock) (obj' := .mapIter (some lm.blk) since (seen.toArray.push e'.born) clock) hobj rfl rfl hl (by rw [hh]; exact h2) (by simp)
      ⟨hb0, hm, rfl, by rw [k2.2.2]; simp, rfl⟩
    refine ⟨j, es[j], by simp [hlt], _, w', ρ, ?_, VR.tuple_of (.cons (.bool true) (.cons k2.1 (.cons k2.2.1 .nil))), h11, hev _ _ _ h12⟩
    rw [run j w1 hj, k3]
    show (do Go.setObj l.blk (.mapIter (some lm.blk) since (seen.toArray.push e'.born) clock); pure (.tuple #[.bool true, e'.key, e'.val]) : Sem Value).run P w1 = _
    rw [Sem.run_bind, h10]
    rfl
  by_cases hf : q.forced = true
  · exact pick 0 w (by rw [run_choose, if_pos hf]) hn hs (fun _ _ _ h => h) rfl
  · refine pick (q.cut (w.tape w.drawn q)) w.drew (by rw [run_choose, if_neg hf]; rfl) ?_ hs.drew (fun _ _ _ h => h.drewl) rfl
    have : q.cut (w.tape w.drawn q) = (w.tape w.drawn q) % (es'.map some).size := rfl
    rw [this]
    have h8 : (es'.map some).size = es'.size := by simp
    rw [h8]
    exact Nat.mod_lt _ hn

end Go.AM
