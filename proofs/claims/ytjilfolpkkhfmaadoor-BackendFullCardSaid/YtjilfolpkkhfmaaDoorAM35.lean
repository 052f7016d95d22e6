/- The loop over a map's entries, whole, and the call that bears it: in whichever order the entries come. -/
import Derived.Test.YtjilfolpkkhfmaaDoorAM34
namespace Go.AM.Drop

/-- Many frees, each over the frames' objects alone. -/
def iterF (c : CallF) (free : FuncId) (args : List Value) (ids : List Nat) : Nat → Sto → Option Sto
  | 0, fs => some fs
  | n + 1, fs => match plainIn fs.objs ids with
    | false => none
    | true => match c free args ⟨fs.next + 1, over fs.objs ids .leaf⟩ with
      | none => none
      | some (_, s') => match plainIn s'.objs ids && Nat.ble (fs.next + 1) s'.next with
        | false => none
        | true => iterF c free args ids n s'

/-- The store at the loop's beginning. -/
def dsto (σ0 fs : Sto) (ids : List Nat) (r N clock : Nat) (es : List MapEntry) (seen : List Nat) : Sto :=
  ⟨fs.next, ((over fs.objs ids σ0.objs).set r (.map es clock)).set N (.miter (some r) clock seen clock)⟩
/-- And at its end. -/
def dend (σ0 fs : Sto) (ids : List Nat) (r clock : Nat) : Sto := ⟨fs.next, (over fs.objs ids σ0.objs).set r (.map [] clock)⟩

theorem over_congr {t t' acc : Tr AObj} {ids : List Nat} (h : ∀ i ∈ ids, t.get i = t'.get i) : over t ids acc = over t' ids acc := by
  induction ids with
  | nil => rfl
  | cons i ids ih =>
    simp only [over]
    rw [h i (by simp), ih (fun j hj => h j (by simp [hj]))]

theorem over_in {t acc : Tr AObj} {ids : List Nat} (hp : plainIn t ids = true) (b : Nat) : (over t ids acc).get b = if b ∈ ids then t.get b else acc.get b := by
  rw [over_get]
  by_cases hb : b ∈ ids
  · obtain ⟨o, ho, _⟩ := plainIn_get hp hb
    simp [hb, ho]
  · simp [hb]

/-- Only the frees are called. -/
def freeC (c : CallF) (free : FuncId) (ids : List Nat) : CallF := fun f args σ => if f = free then frameC c ids f args σ else none
theorem freeC_ok {P : Program} {c : CallF} (hc : CallsOK P c) (free : FuncId) (ids : List Nat) : CallsOK P (freeC c free ids) := by
  intro f args σ v σ' h
  unfold freeC at h
  split at h
  · exact frame_ok hc h
  · cases h

theorem plain_congr {t t' : Tr AObj} {ids : List Nat} (h : ∀ i ∈ ids, t.get i = t'.get i) : plainIn t ids = plainIn t' ids := by
  unfold plainIn
  rw [Bool.eq_iff_iff, List.all_eq_true, List.all_eq_true]
  constructor
  · intro k i hi; have := k i hi; rw [h i hi] at this; exact this
  · intro k i hi; have := k i hi; rw [← h i hi] at this; exact this

theorem load_some {σ : Sto} {b o : Nat} {v : Value} (h : σ.load b o = some v) : ∃ ob, σ.objs.get b = some ob := by
  unfold Sto.load at h
  cases hb : σ.objs.get b with
  | none => rw [hb] at h; cases h
  | some ob => exact ⟨ob, rfl⟩

theorem erase_ne {α β : Type} (f : α → β) : ∀ (l : List α) (i : Nat) (e : α), (l.map f).Nodup → l[i]? = some e → ∀ x ∈ l.eraseIdx i, f x ≠ f e := by
  intro l
  induction l with
  | nil => intro i e _ h; simp at h
  | cons a l ih =>
    intro i e hn h x hx
    obtain ⟨h1, h2⟩ := List.nodup_cons.1 hn
    cases i with
    | zero =>
      simp at h; subst h
      simp at hx
      intro he
      exact h1 (List.mem_map.2 ⟨x, hx, he⟩)
    | succ i =>
      have h' : l[i]? = some e := by simpa using h
      simp only [List.eraseIdx_cons_succ, List.mem_cons] at hx
      rcases hx with rfl | hx
      · intro he
        exact h1 (List.mem_map.2 ⟨e, List.mem_of_getElem? h', he.symm⟩)
      · exact ih i e h2 h' x hx

theorem nn_bind {α : Type} {o : Option α} {f : α → Option AOp} {y : AOp} (hf : ∀ a, f a ≠ some y) : o.bind f ≠ some y := by
  cases o with
  | none => intro h; cases h
  | some a => exact hf a

theorem nextM_inv {P : Program} {tab : Tab} {mrows : String → List (TypeId × FuncId)} {op : Op} {x : Operand} (h : compileOp P tab mrows op = some (.nextM x)) : op = .next x false := by
  cases op with
  | next y b => cases b <;> simp only [compileOp, Option.some.injEq] at h <;> cases h; rfl
  | _ =>
    exfalso
    revert h
    show compileOp P tab mrows _ ≠ some (.nextM x)
    unfold compileOp
    simp only [Option.bind_eq_bind, Option.pure_def, compileBuiltin]
    repeat' first
      | (intro h; cases h; done)
      | (rename_i heq; cases heq; done)
      | (refine nn_bind (fun _ => ?_))
      | split

section
variable {P : Program} {tab : Tab} {mrows : String → List (TypeId × FuncId)} {M : Nat}

/-- The first operation by its effect, the others by the interpreter. -/
theorem ops_first (C : Ctx P tab mrows) {call : CallF} (hcall : CallsOK P call) {ops : Array Oper} {ao : AOper} {l : List AOper} (hc : ops.toList.mapM (compileOper P tab mrows M ops) = some (ao :: l)) (hg : ao.guard = none)
    {t t' : Tr Value} {σ σ1 σ' : Sto} {v : Value} {ρ : Ren} {a : Act} {w : World} (hG : GR P ρ) (hl : LR ρ t a.tmps) (hN : M ≤ a.tmps.size)
    (he : ∀ o, compileOper P tab mrows M ops o = some ao → Eff P ρ σ w (execOp a.eval o) v σ1) (hr : runOps call l (put t ao.dst v) σ1 = some (t', σ'))
    {Q : Exit → Act → World → Prop} (K : ∀ ρ' a' w', Sim ρ' σ' w' → LR ρ' t' a'.tmps → Ev ρ σ w ρ' σ' w' → a'.defers = a.defers → a'.tmps.size = a.tmps.size → Q .normal a' w') :
    wpOps P ops Q (List.range ops.size) a w := by
  obtain ⟨h1, h2⟩ := mapM_some _ _ _ hc
  have hsz : ops.size = l.length + 1 := by simpa using h1.symm
  obtain ⟨o, ho1, ho2⟩ := h2 0 ao rfl
  have ho : ops[0]? = some o := by simpa using ho1
  rw [hsz, List.range_succ_eq_map]
  simp only [wpOps, ho]
  refine oper_eff ho2 hg hl hN (he o ho2) ?_
  intro ρ' a' w' hs' hl' he' hd hs
  refine ops_sound (N := M) C hcall _ l (by simp) ?_ hr hs' (hG.mono he'.sub) hl' (by omega) (fun ρ'' a'' w'' hs'' hl'' he'' hd' hsz' => K ρ'' a'' w'' hs'' hl'' (he'.trans he'') (hd'.trans hd) (by omega))
  intro k i ao' hk hao'
  obtain ⟨o', k1, k2⟩ := h2 (k + 1) ao' (by simpa using hao')
  have hlt : k < l.length := (List.getElem?_eq_some_iff.1 hao').1
  simp only [List.getElem?_map, List.getElem?_range hlt, Option.map_some, Option.some.injEq] at hk
  subst hk
  exact ⟨o', by simpa using k1, k2⟩

/-- What the loop keeps. -/
structure Keep (c : CallF) (free : FuncId) (σ0 σs : Sto) (ρs : Ren) (ws : World) (as : Act) (B N r Fr clock : Nat) (owv fr : Value) (ids : List Nat) (fsEnd : Sto) (m : Nat) (a : Act) (w : World)
    (ρ : Ren) (es : List MapEntry) (seen : List Nat) (fs : Sto) (T : Tr Value) : Prop where
  len : es.length = m
  sim : Sim ρ (dsto σ0 fs ids r N clock es seen) w
  lr : LR ρ T a.tmps
  t0 : T.get 0 = some (ptr B)
  t10 : T.get 10 = some (ptr N)
  ev : Ev ρs σs ws ρ (dsto σ0 fs ids r N clock es seen) w
  defers : a.defers = as.defers
  size : a.tmps.size = as.tmps.size
  iter : iterF c free [ptr Fr, fr, owv] ids m fs = some fsEnd
  good : ∀ x ∈ es, Good fr x
  keys : (es.map (·.key)).Nodup
  borns : (es.map (·.born)).Nodup
  old : ∀ x ∈ es, x.born < clock
  fresh : ∀ x ∈ es, seen.contains x.born = false
  plain : plainIn fs.objs ids = true
  next : N < fs.next

theorem eraseIdx_sub {α : Type} (l : List α) (i : Nat) : (l.eraseIdx i).Sublist l := List.eraseIdx_sublist l i

theorem drop_loop (C : Ctx P tab mrows) {c : CallF} (hcc : CallsOK P c) {free : FuncId} {x : Code} (hx : compile P tab mrows M x = some (loopC free)) {σ0 σs : Sto} {ρs : Ren} {ws : World} {as : Act} {B N r Fr clock : Nat} {owv fr : Value} {ids : List Nat} {fsEnd : Sto}
    (hB7 : σ0.load B 7 = some (.map (some r))) (hB4 : σ0.load B 4 = some (ptr Fr)) (hB5 : σ0.load B 5 = some owv) (hBi : B ∉ ids) (hri : r ∉ ids) (hNi : N ∉ ids) (hBr : B ≠ r) (hBN : B ≠ N) (hrN : r ≠ N)
    (hold : ∀ b o, σ0.objs.get b = some o → b < N) (hrlt : r < N) (hidlt : ∀ j ∈ ids, j < N) (hs : GR P ρs) (hM : M ≤ as.tmps.size) {Q : Exit → Act → World → Prop}
    (K : ∀ ρ' a' w', Sim ρ' (dend σ0 fsEnd ids r clock) w' → Ev ρs σs ws ρ' (dend σ0 fsEnd ids r clock) w' → a'.defers = as.defers → Q (.exit 0) a' w') :
    ∀ (m : Nat) (a : Act) (w : World), (∃ ρ es seen fs T, Keep c free σ0 σs ρs ws as B N r Fr clock owv fr ids fsEnd m a w ρ es seen fs T) → LoopAt P x Q a w := by
  intro m a w hI
  refine loop_measure (R := fun e a' w' => e = .exit 0 ∧ ∃ ρ', Sim ρ' (dend σ0 fsEnd ids r clock) w' ∧ Ev ρs σs ws ρ' (dend σ0 fsEnd ids r clock) w' ∧ a'.defers = as.defers)
    (fun m a w => ∃ ρ es seen fs T, Keep c free σ0 σs ρs ws as B N r Fr clock owv fr ids fsEnd m a w ρ es seen fs T) ?_ ?_ (m + 1) m (by omega) a w hI
  · -- one round
    rintro m a w ⟨ρ, es, seen, fs, T, k⟩
    have gd : ∀ b, (dsto σ0 fs ids r N clock es seen).objs.get b = if N = b then some (.miter (some r) clock seen clock) else if r = b then some (.map es clock) else if b ∈ ids then fs.objs.get b else σ0.objs.get b := by
      intro b
      simp only [dsto, Tr.get_set, over_in k.plain]
    have gN := gd N
    rw [if_pos rfl] at gN
    have gr := gd r
    rw [if_neg (Ne.symm hrN), if_pos rfl] at gr
    have gB : (dsto σ0 fs ids r N clock es seen).objs.get B = σ0.objs.get B := by
      rw [gd, if_neg (Ne.symm hBN), if_neg (Ne.symm hBr), if_neg hBi]
    have hG : GR P ρ := hs.mono k.ev.sub
    have hM' : M ≤ a.tmps.size := by rw [k.size]; exact hM
    cases es with
    | nil =>
      -- nothing is left
      have hrun : exec (freeC c free ids) 0 (loopC free) T (dsto σ0 fs ids r N clock [] seen) = some (.exit 0, (T.set 11 (.tuple #[.bool false])).set 12 (.bool false), dsto σ0 fs ids r N clock [] seen) := by
        have h1 : runOps (freeC c free ids) (l2a :: l2b) T (dsto σ0 fs ids r N clock [] seen) = some ((T.set 11 (.tuple #[.bool false])).set 12 (.bool false), dsto σ0 fs ids r N clock [] seen) := by
          have hn : nextMV (dsto σ0 fs ids r N clock [] seen) (ptr N) = some (.tuple #[.bool false], dsto σ0 fs ids r N clock [] seen) := by
            simp [nextMV, ptr, gN, gr]
          simp [l2a, l2b, runOps, runOper, wanted, runOp, AOp.cls, runEff, ev, k.t10, hn, put, runPure, Tr.get_set]
        simp only [loopC, restC, exec, h1, ev, Tr.get_set, if_true]
      refine (ww_exec C (freeC_ok hcc free ids) hx hrun k.sim hG k.lr hM').mono ?_
      rintro e a' w' ⟨rfl, ρ', h1, _, h3, h4, h5⟩
      refine .inr ⟨by simp, rfl, ρ', ?_⟩
      have hm : m = 0 := by have := k.len; simpa using this.symm
      subst hm
      have hfs : fs = fsEnd := by have := k.iter; simp only [iterF, Option.some.injEq] at this; exact this
      subst hfs
      have hless : Less (dend σ0 fs ids r clock) (dsto σ0 fs ids r N clock [] seen) := by
        refine ⟨fun b o hb => ?_, Nat.le_refl _⟩
        simp only [dend, Tr.get_set, over_in k.plain] at hb
        rw [gd]
        by_cases hbN : N = b
        · subst hbN
          rw [if_neg hrN, if_neg hNi] at hb
          have := hold _ _ hb
          omega
        · rw [if_neg hbN]; exact hb
      exact ⟨h1.less hless, (k.ev.trans h3).less hless, h4.trans k.defers⟩
    | cons e0 es0 =>
      -- one of those that are left
      obtain ⟨c1, c2, hc1, hc2, seqR⟩ := inv_seq hx
      obtain ⟨ops, hops, opsR⟩ := inv_ops hc1
      have hne : e0 :: es0 ≠ [] := by simp
      generalize hes : e0 :: es0 = es at k gd gN gr gB hne
      refine seqR a w _ (opsR a w _ (fun Q' K' => ?_))
      -- which one
      have hx10 : VR ρ (ptr N) (a.eval (.tmp 10)) := k.lr 10 _ k.t10
      have pick : ∃ (i : Nat) (e : MapEntry), es[i]? = some e ∧ ∀ ty, EffV P ρ (dsto σ0 fs ids r N clock es seen) w (Instr.next (a.eval (.tmp 10)) false ty) (.tuple #[.bool true, e.key, e.val]) (setObj (dsto σ0 fs ids r N clock es seen) N (.miter (some r) clock (seen ++ [e.born]) clock)) := by
        obtain ⟨i, e, h1, h2⟩ := next_any (P := P) (ty := 0) k.sim hx10 gN gr k.old k.fresh k.old hne
        exact ⟨i, e, h1, fun ty => h2⟩
      obtain ⟨i, e, hie, heff⟩ := pick
      have hm : e ∈ es := List.mem_of_getElem? hie
      let σ1 := setObj (dsto σ0 fs ids r N clock es seen) N (.miter (some r) clock (seen ++ [e.born]) clock)
      let T1 := (T.set 11 (.tuple #[.bool true, e.key, e.val])).set 12 (.bool true)
      have g1 : ∀ b, σ1.objs.get b = if N = b then some (.miter (some r) clock (seen ++ [e.born]) clock) else (dsto σ0 fs ids r N clock es seen).objs.get b := by
        intro b
        show ((dsto σ0 fs ids r N clock es seen).objs.set N _).get b = _
        rw [Tr.get_set]
      refine ops_first C (freeC_ok hcc free ids) (v := .tuple #[.bool true, e.key, e.val]) (σ := dsto σ0 fs ids r N clock es seen) (t := T) (t' := T1) (σ1 := σ1) (σ' := σ1) hops rfl hG k.lr hM' (fun o ho => ?_) ?_ ?_
      · obtain ⟨h1, _⟩ := compileOper_inv ho
        obtain ⟨dst, op, type, pos, after, guard⟩ := o
        have hop : op = .next (.tmp 10) false := by
          revert h1
          simp only [l2a]
          intro h1
          exact nextM_inv h1
        subst hop
        exact (heff _).eff
      · simp [l2a, l2b, runOps, runOper, wanted, runOp, AOp.cls, put, runPure, ev, Tr.get_set, T1]
      · intro ρ1 a1 w1 hs1 hl1 he1 hd1 hz1
        refine K' .normal a1 w1 (.inl ⟨rfl, ?_⟩)
        -- the round's rest
        have hNs : (dsto σ0 fs ids r N clock es seen).next = fs.next := rfl
        obtain ⟨n, rfl⟩ : ∃ n, m = n + 1 := by
          have := k.len
          rw [← hes] at this
          exact ⟨es0.length, by simpa using this.symm⟩
        -- the free
        have hit := k.iter
        simp only [iterF, k.plain] at hit
        cases hfree : c free [ptr Fr, fr, owv] ⟨fs.next + 1, over fs.objs ids .leaf⟩ with
        | none => rw [hfree] at hit; cases hit
        | some vs =>
        obtain ⟨v, s'⟩ := vs
        rw [hfree] at hit
        simp only at hit
        cases hpp : plainIn s'.objs ids && Nat.ble (fs.next + 1) s'.next with
        | false => rw [hpp] at hit; cases hit
        | true =>
        rw [hpp] at hit
        simp only at hit
        rw [Bool.and_eq_true] at hpp
        obtain ⟨hp', hsn⟩ := hpp
        have hsnext : fs.next + 1 ≤ s'.next := Nat.le_of_ble_eq_true hsn
        have hNlt := k.next
        let es' := es.eraseIdx i
        have hBlt : B < N := by
          obtain ⟨ob, hob⟩ := load_some hB7
          exact hold B ob hob
        obtain ⟨T', σ5, hex, h0, h10, hless⟩ := rest_run (call := freeC c free ids) (lf := 0) (free := free) (T := T1) (σ := σ1) (B := B) (N := N) (r := r) (Fr := Fr) (since := clock) (clock := clock) (i := i) (owv := owv) (fr := fr) (seen := seen) (es := es) (e := e)
          (Q := fun σ5 => Less (dsto σ0 s' ids r N clock es' (seen ++ [e.born])) σ5)
          (by simp [T1, Tr.get_set, k.t0]) (by simp [T1, Tr.get_set, k.t10]) (by simp [T1, Tr.get_set])
          (by rw [g1, if_pos rfl]) (by rw [g1, if_neg (Ne.symm hrN)]; exact gr)
          (by rw [load_congr (σ := σ0) (by rw [g1, if_neg (Ne.symm hBN), gB])]; exact hB7) (by rw [load_congr (σ := σ0) (by rw [g1, if_neg (Ne.symm hBN), gB])]; exact hB4) (by rw [load_congr (σ := σ0) (by rw [g1, if_neg (Ne.symm hBN), gB])]; exact hB5)
          k.good k.keys k.borns hie hBr (by show B ≠ fs.next; omega) (by show r ≠ fs.next; omega)
          (by
            intro σ4 hn4 h4 h4r
            have hj : ∀ j ∈ ids, σ4.objs.get j = fs.objs.get j := by
              intro j hj
              have h1 : j < N := hidlt j hj
              have h2 : j ≠ r := fun e => hri (e ▸ hj)
              have h3 : N ≠ j := fun e => hNi (e ▸ hj)
              rw [h4 j h2 (by show j ≠ fs.next; omega), g1, if_neg h3, gd, if_neg h3, if_neg (Ne.symm h2), if_pos hj]
            have hp4 : plainIn σ4.objs ids = true := by rw [plain_congr hj]; exact k.plain
            refine ⟨v, ⟨s'.next, over s'.objs ids σ4.objs⟩, ?_, ?_, Nat.le_refl _⟩
            · simp only [freeC, if_true, frameC, hp4]
              rw [over_congr hj, show σ4.next = fs.next + 1 from hn4, hfree]
              simp only [hp']
            · intro b o hb
              simp only [dsto, Tr.get_set, over_in hp'] at hb
              simp only [over_in hp']
              by_cases hbi : b ∈ ids
              · have h2 : r ≠ b := fun e => hri (e ▸ hbi)
                have h3 : N ≠ b := fun e => hNi (e ▸ hbi)
                rw [if_neg h3, if_neg h2, if_pos hbi] at hb
                rw [if_pos hbi]; exact hb
              · rw [if_neg hbi]
                by_cases hbN : N = b
                · subst hbN
                  rw [if_pos rfl] at hb
                  rw [h4 N (Ne.symm hrN) (by show N ≠ fs.next; omega), g1, if_pos rfl]
                  exact hb
                · rw [if_neg hbN] at hb
                  by_cases hbr : r = b
                  · subst hbr
                    rw [if_pos rfl] at hb
                    rw [h4r]; exact hb
                  · rw [if_neg hbr, if_neg hbi] at hb
                    have h5 := hold b o hb
                    rw [h4 b (Ne.symm hbr) (by show b ≠ fs.next; omega), g1, if_neg hbN, gd, if_neg hbN, if_neg hbr, if_neg hbi]
                    exact hb)
        refine (ww_exec C (freeC_ok hcc free ids) hc2 hex hs1 (hG.mono he1.sub) hl1 (by omega)).mono ?_
        rintro e2 a2 w2 ⟨rfl, ρ2, q1, q2, q3, q4, q5⟩
        refine .inl ⟨rfl, n, by omega, ρ2, es', seen ++ [e.born], s', T', ?_⟩
        have hsub : es'.Sublist es := List.eraseIdx_sublist _ _
        have hil : i < es.length := (List.getElem?_eq_some_iff.1 hie).1
        refine ⟨?_, q1.less hless, q2, h0, h10, (k.ev.trans (he1.trans q3)).less hless, q4.trans (hd1.trans k.defers), q5.trans (hz1.trans k.size), hit, fun x hx => k.good x (hsub.subset hx), k.keys.sublist (hsub.map _), k.borns.sublist (hsub.map _),
          fun x hx => k.old x (hsub.subset hx), fun x hx => ?_, hp', by omega⟩
        · show (es.eraseIdx i).length = n
          rw [List.length_eraseIdx_of_lt hil, k.len]; rfl
        · rw [List.contains_eq_mem, decide_eq_false_iff_not, List.mem_append, List.mem_singleton]
          have h6 := k.fresh x (hsub.subset hx)
          rw [List.contains_eq_mem, decide_eq_false_iff_not] at h6
          rintro (h7 | h7)
          · exact h6 h7
          · exact erase_ne (·.born) es i e k.borns hie x hx h7
  · rintro ex a' w' ⟨rfl, ρ', h1, h2, h3⟩
    exact K ρ' a' w' h1 h2 h3
end
end Go.AM.Drop
