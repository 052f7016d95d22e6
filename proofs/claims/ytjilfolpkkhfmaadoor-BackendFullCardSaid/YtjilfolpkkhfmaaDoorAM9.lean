/- What reads memory: the theorem for the class. -/
import Derived.Test.YtjilfolpkkhfmaaDoorAM8
namespace Go.AM

theorem loadV_sound {P : Program} {tab : Tab} (hT : TabOK P tab) {ρ : Ren} {σ : Sto} {w : World} (hs : Sim ρ σ w) {ty : TypeId} {n : Option Nat} (hn : aggN tab ty = some n) {u c v : Value} (hu : VR ρ u c) (h : loadV σ n u = some v) :
    ∃ k o cv, c = .pointer (some ⟨k, o, none⟩) ∧ (loadVar ty ⟨k, o, none⟩).run P w = .ok cv w ∧ VR ρ v cv := by
  unfold loadV at h
  split at h
  · rename_i b o
    cases hu with
    | ptr _ _ l hl =>
    refine ⟨l.blk, l.base + o, ?_⟩
    simp only [aggN, opt_bind] at hn
    obtain ⟨i, hi, hn⟩ := hn
    obtain ⟨inf, hinf, hsz, _⟩ := hT.info _ _ hi
    simp only [Option.pure_def, Option.some.injEq] at hn
    by_cases ha : isAggT i.desc = true
    · rw [if_pos ha] at hn
      subst hn
      simp only at h
      split at h
      · rename_i vs h1
        cases h
        obtain ⟨cvs, h3, h4⟩ := hs.run_loads (P := P) h1 hl
        exact ⟨_, rfl, by simp [loadVar, run_isAgg (hT.desc _ _ hi), ha, run_sizeOf hinf, hsz, h4], VR.agg_of h3⟩
      · cases h
    · rw [if_neg ha] at hn
      subst hn
      obtain ⟨cv, h1, h2⟩ := hs.load h hl
      exact ⟨cv, rfl, by simp [loadVar, run_isAgg (hT.desc _ _ hi), ha, h1], h2⟩
  · cases h

theorem ptr_inv {ρ : Ren} {b o : Nat} {c : Value} (h : VR ρ (.pointer (some ⟨b, o, none⟩)) c) : ∃ l, ρ b = some l ∧ c = .pointer (some ⟨l.blk, l.base + o, none⟩) := by
  cases h with
  | ptr _ _ l hl => exact ⟨l, hl, rfl⟩

theorem map_inv {ρ : Ren} {r : Nat} {c : Value} (h : VR ρ (.map (some r)) c) : ∃ l, ρ r = some l ∧ c = .map (some l.blk) := by
  cases h with
  | map _ l hl => exact ⟨l, hl, rfl⟩

theorem Sim.mapObj {ρ : Ren} {σ : Sto} {w : World} (hs : Sim ρ σ w) {r : Nat} {es : List MapEntry} {clock : Nat} (h : σ.objs.get r = some (.map es clock)) {l : Loc} (hl : ρ r = some l) :
    ∃ es', w.heap[l.blk]? = some (.map es' clock) ∧ ERl ρ es es'.toList := by
  obtain ⟨l', obj, h1, h2, h3⟩ := hs.live r _ h
  obtain rfl : l = l' := Option.some.inj (hl.symm.trans h1)
  cases obj <;> simp only [OR] at h3
  obtain ⟨rfl, h4⟩ := h3
  exact ⟨_, h2, h4⟩

theorem run_getObj_map {P : Program} {w : World} {r : Nat} {es : Array MapEntry} {clock : Nat} (h : w.heap[r]? = some (.map es clock)) : (getObj r).run P w = .ok (.map es clock) w := by
  simp [getObj, Sem.run, h]

theorem zero_run {P : Program} {tab : Tab} (hT : TabOK P tab) (hZ : ZeroOK tab) {ρ : Ren} {w : World} {t : TypeId} {j : ATy} {z : Value} (hj : tab.get t = some j) (hz : j.zero = some z) : (zeroValue t).run P w = .ok z w ∧ VR ρ z z := by
  obtain ⟨inf, hinf, _, _, hzz, _⟩ := hT.info _ _ hj
  exact ⟨run_zeroValue hinf (hzz.trans hz), VR.closed (hZ _ _ _ hj hz)⟩

theorem Val.same {P : Program} {s s' : Sem Next} {w w' : World} {v : Value} (h : s = s') (h' : Val P s' w v w') : Val P s w v w' := by rw [h]; exact h'

/-- What a map's name tells. -/
theorem mapEs_sound {P : Program} {ρ : Ren} {σ : Sto} {w : World} (hs : Sim ρ σ w) {m c : Value} (hm : VR ρ m c) {es : List MapEntry} (h : mapEs σ m = some es) :
    (c = .map none ∧ es = []) ∨ ∃ r es' clock, c = .map (some r) ∧ (Go.getObj r).run P w = .ok (.map es' clock) w ∧ ERl ρ es es'.toList := by
  unfold mapEs at h
  split at h
  · cases h; cases hm; exact .inl ⟨rfl, rfl⟩
  · cases hm with
    | map r l hl =>
      split at h
      · rename_i es0 clock hobj
        cases h
        obtain ⟨es', h6, h7⟩ := hs.mapObj hobj hl
        exact .inr ⟨l.blk, es', clock, rfl, run_getObj_map h6, h7⟩
      · cases h
  · cases h

theorem ERl.nil {ρ : Ren} : ERl ρ [] [] := ⟨rfl, fun i e h => by simp at h⟩

theorem foundR_none (es : List MapEntry) : foundR es 0 none = none := rfl
theorem foundR_some {es : List MapEntry} {n : Nat} {e e' : MapEntry} (h : es[n]? = some e') : foundR es 0 (some (n, e)) = some (n, e'.val) := by simp [foundR, h]

theorem lookup_sound {P : Program} {tab : Tab} (hT : TabOK P tab) (hZ : ZeroOK tab) {ρ : Ren} {σ : Sto} {w : World} (hs : Sim ρ σ w) {ty kt e : TypeId} (hd : P.underlying ty = some (.map kt e)) {j : ATy} {z : Value} (hj : tab.get e = some j) (hz : j.zero = some z)
    {ks : Bool × List LK} (hks : keyT P tab kt = some ks) {m k m' k' v : Value} (hm : VR ρ m m') (hk : VR ρ k k') {ok : Bool} (h : lookupV σ ks z ok m k = some v) :
    ∃ cv, (Instr.lookup ty m' k' ok).run P w = .ok cv w ∧ VR ρ v cv := by
  unfold lookupV at h
  split at h
  · cases h
  · rename_i es hes
    obtain ⟨hz1, hz2⟩ := zero_run hT hZ (ρ := ρ) (w := w) hj hz
    have fin : ∀ (es' : Array MapEntry), ERl ρ es es'.toList →
        (∀ f : Array MapEntry → Sem Value, (do
          let es ← match m' with
            | .map none => pure #[]
            | .map (some r) => do
              let .map es _ ← getObj r | stuck "Lookup: map expected"
              pure es
            | _ => stuck "Lookup: map expected"
          f es : Sem Value).run P w = (f es').run P w) → ∃ cv, (Instr.lookup ty m' k' ok).run P w = .ok cv w ∧ VR ρ v cv := by
      intro es' he hf
      have hr : ∀ r, find ks k es = some r → (Instr.lookup ty m' k' ok).run P w = (do
          let (v, b) ← match foundR es'.toList 0 r with
            | some (_, v) => pure (v, true)
            | none => do pure (z, false)
          pure (if ok then .tuple #[v, .bool b] else v) : Sem Value).run P w := by
        intro r hr
        obtain ⟨h6, _, h7, _⟩ := find_sound hT (w := w) hks hk hr he
        have := hf (fun es => do
          Instr.checkKey es.isEmpty 10000 kt k'
          let (v, b) ← match ← Instr.findKey kt k' es.toList with
            | some (_, v) => pure (v, true)
            | none => do pure (← zeroValue e, false)
          pure (if ok then .tuple #[v, .bool b] else v))
        unfold Instr.lookup
        rw [Sem.run_bind, run_underlying hd, Result.andThen_ok]
        refine this.trans ?_
        simp only [Sem.run_bind, h6, Result.andThen_ok, h7]
        cases foundR es'.toList 0 r with
        | none => simp [hz1]
        | some x => rfl
      split at h
      · cases h
      · rename_i hr0
        cases h
        refine ⟨_, by rw [hr _ hr0, foundR_none]; rfl, ?_⟩
        cases ok
        · exact hz2
        · exact VR.tuple_of (.cons hz2 (.cons (.bool _) .nil))
      · rename_i n e0 hr0
        cases h
        obtain ⟨_, _, _, h8⟩ := find_sound hT (w := w) hks hk hr0 he
        obtain ⟨_, e', h9, h10, _⟩ := h8 n e0 rfl
        refine ⟨_, by rw [hr _ hr0, foundR_some h9]; rfl, ?_⟩
        cases ok
        · exact h10.2.1
        · exact VR.tuple_of (.cons h10.2.1 (.cons (.bool _) .nil))
    rcases mapEs_sound (P := P) hs hm hes with ⟨rfl, rfl⟩ | ⟨r, es', clock, rfl, h1, h2⟩
    · exact fin #[] ERl.nil (fun f => by simp)
    · exact fin es' h2 (fun f => by simp [h1])

theorem find_index {α : Type} {p : α → Bool} : ∀ {l : List α} {a : α}, l.find? p = some a → ∃ (i : Nat), l[i]? = some a ∧ p a = true ∧ ∀ (k : Nat), k < i → ∀ x, l[k]? = some x → p x = false := by
  intro l
  induction l with
  | nil => intro a h; simp at h
  | cons b l ih =>
    intro a h
    rw [List.find?_cons] at h
    split at h
    · rename_i hb; cases h; exact ⟨0, rfl, hb, fun k hk => by omega⟩
    · rename_i hb
      obtain ⟨i, h1, h2, h3⟩ := ih h
      refine ⟨i + 1, by simpa using h1, h2, fun k hk x hx => ?_⟩
      cases k with
      | zero => simp at hx; subst hx; simpa using hb
      | succ k => exact h3 k (by omega) x (by simpa using hx)

theorem find_of_index {α : Type} {p : α → Bool} : ∀ {l : List α} {a : α} {i : Nat}, l[i]? = some a → p a = true → (∀ (k : Nat), k < i → ∀ x, l[k]? = some x → p x = false) → l.find? p = some a := by
  intro l
  induction l with
  | nil => intro a i h; simp at h
  | cons b l ih =>
    intro a i h hp hk
    cases i with
    | zero => simp at h; subst h; rw [List.find?_cons, hp]
    | succ i =>
      rw [List.find?_cons, hk 0 (by omega) b rfl]
      exact ih (by simpa using h) hp (fun k hk' x hx => hk (k + 1) (by omega) x (by simpa using hx))

theorem entry_sound {P : Program} {ρ : Ren} {σ : Sto} {w : World} (hs : Sim ρ σ w) {x c v : Value} (hx : VR ρ x c) (h : entryV σ x = some v) : ∃ cv, (Instr.entry c).run P w = .ok cv w ∧ VR ρ v cv := by
  unfold entryV at h
  split at h
  · rename_i b
    cases hx with
    | ptr _ _ l hl =>
    split at h
    · rename_i m since seen stepped hobj
      split at h
      · cases h
      · rename_i stamp hst
        split at h
        · rename_i es clock hm
          split at h
          · rename_i hc
            split at h
            · rename_i e he
              cases h
              obtain ⟨l1, obj, h1, h2, h3⟩ := hs.live b _ hobj
              obtain rfl : l = l1 := Option.some.inj (hl.symm.trans h1)
              cases obj <;> simp only [OR] at h3
              rename_i m' since' seen' st'
              obtain ⟨hb0, h4, rfl, rfl, rfl⟩ := h3
              subst hc
              obtain ⟨lm, hlm, hm'⟩ := map_inv h4
              simp only [Value.map.injEq] at hm'
              subst hm'
              obtain ⟨es', h5, h6⟩ := hs.mapObj hm hlm
              -- the entry with the stamp
              obtain ⟨i, hi1, hi2, hi3⟩ := find_index he
              obtain ⟨e', h7, h8⟩ := h6.2 i e hi1
              have hfind : es'.find? (·.born == stamp) = some e' := by
                rw [← Array.find?_toList]
                refine find_of_index h7 (by rw [← h8.2.2]; exact hi2) (fun k hk e'' he'' => ?_)
                have hlt : k < es.length := by rw [h6.1]; exact (List.getElem?_eq_some_iff.1 he'').1
                obtain ⟨x, hx1, hx2⟩ := h6.2 k es[k] (by simp [hlt])
                rw [he''] at hx1; cases hx1
                rw [← hx2.2.2]
                exact hi3 k hk es[k] (by simp [hlt])
              refine ⟨.tuple #[e'.key, e'.val], ?_, VR.tuple_of (.cons h8.1 (.cons h8.2.1 .nil))⟩
              have hg : (Go.getObj l.blk).run P w = .ok (.mapIter (some lm.blk) since seen.toArray clock) w := by simp [Go.getObj, Sem.run, h2]
              have hbk : seen.toArray.back? = some stamp := by simpa [Array.back?] using (by rw [← hst, List.getLast?_eq_getElem?] : seen[seen.length - 1]? = some stamp)
              simp [Instr.entry, hb0, hg, hbk, run_getObj_map h5, hfind]
            · cases h
          · cases h
        · cases h
    · cases h
  · cases h

theorem bytesOfV_sound {ρ : Ren} {P : Program} {w : World} : ∀ (l l' : List Value) (bs : List UInt8) (s : ByteArray), bytesOfV l = some bs → VRl ρ l l' →
    ((forIn l' s fun c (s : ByteArray) => do
      let .int .u8 n := c | stuck "bytesToString: byte expected"
      pure (ForInStep.yield (s.push (UInt8.ofNat n.toNat)))) : Sem ByteArray).run P w = .ok ⟨s.data ++ bs.toArray⟩ w := by
  intro l
  induction l with
  | nil => intro l' bs s h hv; obtain rfl := hv.nil_inv; simp only [bytesOfV, Option.some.injEq] at h; subst h; simp
  | cons x l ih =>
    intro l' bs s h hv
    obtain ⟨c, l2, rfl, hx, hl⟩ := hv.cons_inv
    unfold bytesOfV at h
    split at h
    · rename_i e; cases e
    · rename_i n l0 e
      cases e
      simp only [opt_bind] at h
      obtain ⟨r, h1, h2⟩ := h
      cases h2
      cases hx
      rw [List.forIn_cons]
      simp only [Sem.run_bind, Sem.run_pure, Result.andThen_ok]
      rw [ih l2 r _ h1 hl]
      congr 2
      simp [ByteArray.push]
    · cases h

theorem b2s_sound {P : Program} {ρ : Ren} {σ : Sto} {w : World} (hs : Sim ρ σ w) {x c v : Value} (hx : VR ρ x c) (h : b2sV σ x = some v) : (Conv.bytesToString c).run P w = .ok v w ∧ VR ρ v v := by
  unfold b2sV at h
  split at h
  · cases h; cases hx; exact ⟨by simp [Conv.bytesToString], .string _⟩
  · rename_i b o len cap
    split at h
    · cases h
    · rename_i vs hvs
      split at h
      · cases h
      · rename_i bs hbs
        cases h
        have key : ∀ (l : Loc), ρ b = some l → ∀ cc, (Conv.bytesToString (.slice (some ⟨l.blk, l.base + o, none⟩) len cc)).run P w = .ok (.string ⟨bs.toArray⟩) w := by
          intro l hl cc
          obtain ⟨cvs, h1, h2⟩ := hs.run_loads (P := P) hvs hl
          have h3 := bytesOfV_sound (P := P) (w := w) vs cvs bs ByteArray.empty hbs h1
          simp only [Conv.bytesToString, Sem.run_bind, h2, Result.andThen_ok]
          rw [← Array.forIn_toList]
          refine (congrArg (fun r => Result.andThen r _) h3).trans ?_
          simp only [Result.andThen_ok, Sem.run_pure]
          congr 3
          simp
        refine ⟨?_, .string _⟩
        cases hx with
        | slice _ _ _ _ l hl _ => exact key l hl _
        | sliceX _ _ _ _ _ l hl _ _ => exact key l hl _
  · cases h

theorem heap_sound {P : Program} {tab : Tab} {mrows : String → List (TypeId × FuncId)} (hT : TabOK P tab) (hZ : ZeroOK tab) {ρ : Ren} {σ : Sto} {t : Tr Value} {a : Act} {w : World} (hl : LR ρ t a.tmps) (hG : GR P ρ) (hs : Sim ρ σ w)
    {o : Oper} (hok : ∀ x ∈ o.op.operands.toList, opdOK P.globals.size x = true) {aop : AOp} (hc : compileOp P tab mrows o.op = some aop) (hcls : aop.cls = .heap) {v : Value} (hr : runHeap t σ aop = some v) :
    ∃ cv, Val P (execOp a.eval o) w cv w ∧ VR ρ v cv := by
  have E : ∀ x, x ∈ o.op.operands.toList → ∀ v, ev t x = some v → VR ρ v (a.eval x) := fun x hx v h => ev_sound hl hG (hok x hx) h
  obtain ⟨dst, op, type, pos, after, guard⟩ := o
  simp only at hok hc E
  cases op with
  | load ty x =>
    simp only [compileOp, opt_bind] at hc
    obtain ⟨n, hn, hc⟩ := hc
    cases hc
    simp only [runHeap] at hr
    split at hr
    · rename_i u h1
      obtain ⟨k, o, cv, h2, h3, h4⟩ := loadV_sound (P := P) hT hs hn (E x (by simp [Op.operands]) u h1) hr
      exact ⟨cv, .inl (by simp [execOp, h2, Instr.loadAt, Instr.sureAddr, h3]), h4⟩
    · cases hr
  | lookup ty m k ok =>
    simp only [compileOp, opt_bind] at hc
    obtain ⟨i, hi, hc⟩ := hc
    have hd := hT.desc _ _ hi
    split at hc
    · rename_i kt e hde
      simp only [opt_bind] at hc
      obtain ⟨j, hj, z, hz, ks, hks, hc⟩ := hc
      cases hc
      rw [hde] at hd
      simp only [runHeap] at hr
      split at hr
      · rename_i mv kv h1 h2
        obtain ⟨cv, h3, h4⟩ := lookup_sound hT hZ hs hd hj hz hks (E m (by simp [Op.operands]) mv h1) (E k (by simp [Op.operands]) kv h2) hr
        exact ⟨cv, .inl (by simp [execOp, h3]), h4⟩
      · cases hr
    · cases hc
  | entry x =>
    cases hc
    simp only [runHeap] at hr
    split at hr
    · rename_i u h1
      obtain ⟨cv, h3, h4⟩ := entry_sound (P := P) hs (E x (by simp [Op.operands]) u h1) hr
      exact ⟨cv, .inl (by simp [execOp, h3]), h4⟩
    · cases hr
  | convert s d x =>
    simp only [compileOp, opt_bind] at hc
    obtain ⟨i, hi, j, hj, hc⟩ := hc
    have hds := hT.desc _ _ hi
    have hdd := hT.desc _ _ hj
    split at hc <;> (first | (cases hc; done) | (cases hc; simp [AOp.cls] at hcls; done) | skip)
    · simp only [opt_bind] at hc
      obtain ⟨m, hm, hc⟩ := hc
      split at hc <;> cases hc
      simp [AOp.cls] at hcls
    · rename_i e h1 h2
      simp only [opt_bind] at hc
      obtain ⟨m, hm, hc⟩ := hc
      have hdm := hT.desc _ _ hm
      split at hc
      · rename_i hmd
        cases hc
        rw [h1] at hds; rw [h2] at hdd; rw [hmd] at hdm
        simp only [runHeap] at hr
        split at hr
        · rename_i u h3
          obtain ⟨h4, h5⟩ := b2s_sound (P := P) hs (E x (by simp [Op.operands]) u h3) hr
          refine ⟨v, .inl ?_, h5⟩
          have hc2 : (convert s d (a.eval x)).run P w = .ok v w := by
            have hsl : ∃ p q r, a.eval x = .slice p q r := by
              have hu := E x (by simp [Op.operands]) u h3
              generalize a.eval x = cx at hu
              unfold b2sV at hr
              split at hr
              · cases hu; exact ⟨_, _, _, rfl⟩
              · cases hu <;> exact ⟨_, _, _, rfl⟩
              · cases hr
            obtain ⟨p, q, r, hx⟩ := hsl
            rw [hx] at h4 ⊢
            simp only [convert, Sem.run_bind, run_underlying hds, run_underlying hdd, Result.andThen_ok]
            simp [run_underlying hdm, h4]
          simp [execOp, hc2]
        · cases hr
      · cases hc
  | call c =>
    obtain ⟨callee, args, argTypes⟩ := c
    have hargs : ∀ x ∈ args.toList, opdOK P.globals.size x = true := fun x hx => hok x (by simp [Op.operands, Call.operands]; right; simpa using hx)
    cases callee with
    | value f =>
      cases f with
      | func f => simp only [compileOp] at hc; split at hc <;> cases hc; simp [AOp.cls] at hcls
      | _ => cases hc; simp [AOp.cls] at hcls
    | invoke r m => cases hc; simp [AOp.cls] at hcls
    | builtin b =>
      simp only [compileOp, opt_bind] at hc
      obtain ⟨ty, hty, i, hi, hc⟩ := hc
      have hd := hT.desc _ _ hi
      cases b <;> simp only [compileBuiltin] at hc <;> try (cases hc; done)
      case len =>
        split at hc
        · rename_i x hx
          have hxm : x ∈ args.toList := by rw [hx]; simp
          have hargs' : args.map a.eval = #[a.eval x] := by
            apply Array.ext'; simp [hx]
          split at hc <;> (first | (cases hc; done) | (cases hc; simp [AOp.cls] at hcls; done) | skip)
          · rename_i kt e hde
            cases hc
            rw [hde] at hd
            simp only [runHeap] at hr
            split at hr
            · rename_i u h1
              split at hr
              · rename_i es hes
                cases hr
                have hrun : (Builtin.len_ argTypes type #[a.eval x]).run P w = .ok (goInt es.length) w := by
                  rcases mapEs_sound (P := P) hs (ev_sound hl hG (hargs x hxm) h1) hes with ⟨h2, rfl⟩ | ⟨r, es', clock, h2, h3, h4⟩
                  · simp [Builtin.len_, hty, run_underlying hd, h2]
                  · have := h4.1
                    simp [Builtin.len_, hty, run_underlying hd, h2, h3, this]
                refine ⟨_, .inl ?_, .int _ _⟩
                simp only [execOp, resolve, Sem.run_bind, Sem.run_pure, Result.andThen_ok, invoke, builtin, hargs', hrun]
                rfl
              · cases hr
            · cases hr
          · split at hc
            · split at hc <;> cases hc
              simp [AOp.cls] at hcls
            · cases hc
        · cases hc
      all_goals ((repeat' split at hc) <;> cases hc <;> simp [AOp.cls] at hcls)
  | binOp op ty x y ty2 =>
    simp only [compileOp, opt_bind] at hc
    obtain ⟨i, hi, hc⟩ := hc
    split at hc <;> (first | (cases hc; done) | (cases hc; simp [AOp.cls] at hcls; done) | skip)
    all_goals (split at hc <;> ((first | (cases hc; done) | (cases hc; simp [AOp.cls] at hcls; done) | skip)))
    all_goals (simp only [opt_bind] at hc; obtain ⟨_, _, hc⟩ := hc)
    all_goals (try split at hc) <;> cases hc <;> simp [AOp.cls] at hcls
  | move x => cases hc; simp [AOp.cls] at hcls
  | assign x => cases hc; simp [AOp.cls] at hcls
  | pick c x y => cases hc; simp [AOp.cls] at hcls
  | nilCheck x => cases hc; simp [AOp.cls] at hcls
  | unOp op ty x => cases hc; simp [AOp.cls] at hcls
  | makeFunc fn p q => cases hc; simp [AOp.cls] at hcls
  | extract x n => cases hc; simp [AOp.cls] at hcls
  | box ty x => cases hc; simp [AOp.cls] at hcls
  | entryStore ty m k v => cases hc; simp [AOp.cls] at hcls
  | range ty x =>
    simp only [compileOp, opt_bind] at hc
    obtain ⟨_, _, hc⟩ := hc
    split at hc <;> cases hc <;> simp [AOp.cls] at hcls
  | next x b => cases b <;> cases hc <;> simp [AOp.cls] at hcls
  | makeMap ty r => cases r <;> cases hc; simp [AOp.cls] at hcls
  | build ty ps =>
    simp only [compileOp, opt_bind] at hc
    obtain ⟨_, _, _, _, hc⟩ := hc
    split at hc
    · simp only [opt_bind] at hc; obtain ⟨_, _, _, _, hc⟩ := hc; cases hc; simp [AOp.cls] at hcls
    · simp only [opt_bind] at hc; obtain ⟨_, _, hc⟩ := hc; cases hc; simp [AOp.cls] at hcls
    · cases hc
  | alloc ty => simp only [compileOp, opt_bind] at hc; obtain ⟨_, _, _, _, hc⟩ := hc; cases hc; simp [AOp.cls] at hcls
  | store ty x v => simp only [compileOp, opt_bind] at hc; obtain ⟨_, _, hc⟩ := hc; cases hc; simp [AOp.cls] at hcls
  | makeInterface ty x => simp only [compileOp, opt_bind] at hc; obtain ⟨_, _, hc⟩ := hc; split at hc <;> cases hc; simp [AOp.cls] at hcls
  | slice ty x lo hi mx =>
    simp only [compileOp, opt_bind] at hc
    obtain ⟨_, _, hc⟩ := hc
    split at hc
    · simp only [opt_bind] at hc; obtain ⟨_, _, hc⟩ := hc; cases hc; simp [AOp.cls] at hcls
    · simp only [opt_bind] at hc; obtain ⟨_, _, hc⟩ := hc; cases hc; simp [AOp.cls] at hcls
    · split at hc <;> cases hc; simp [AOp.cls] at hcls
    · cases hc
  | fieldAddr ty x f =>
    simp only [compileOp, opt_bind] at hc
    obtain ⟨_, _, hc⟩ := hc
    split at hc
    · simp only [opt_bind] at hc; obtain ⟨_, _, _, _, hc⟩ := hc; split at hc <;> cases hc; simp [AOp.cls] at hcls
    · cases hc
  | field ty x f =>
    simp only [compileOp, opt_bind] at hc
    obtain ⟨_, _, hc⟩ := hc
    split at hc
    · simp only [opt_bind] at hc; obtain ⟨_, _, _, _, hc⟩ := hc; cases hc; simp [AOp.cls] at hcls
    · cases hc
  | indexAddr ty x f =>
    simp only [compileOp, opt_bind] at hc
    obtain ⟨_, _, hc⟩ := hc
    split at hc
    · simp only [opt_bind] at hc; obtain ⟨_, _, hc⟩ := hc; cases hc; simp [AOp.cls] at hcls
    · simp only [opt_bind] at hc; obtain ⟨_, _, hc⟩ := hc; cases hc; simp [AOp.cls] at hcls
    · cases hc
  | index ty x f =>
    simp only [compileOp, opt_bind] at hc
    obtain ⟨_, _, hc⟩ := hc
    split at hc
    · simp only [opt_bind] at hc; obtain ⟨_, _, _, _, hc⟩ := hc; cases hc; simp [AOp.cls] at hcls
    · cases hc; simp [AOp.cls] at hcls
    · cases hc
  | buildSlice ty n ps =>
    simp only [compileOp, opt_bind] at hc
    obtain ⟨_, _, hc⟩ := hc
    split at hc
    · simp only [opt_bind] at hc; obtain ⟨_, _, _, _, hc⟩ := hc; split at hc <;> cases hc; simp [AOp.cls] at hcls
    · cases hc
  | makeSlice ty l c =>
    simp only [compileOp, opt_bind] at hc
    obtain ⟨_, _, hc⟩ := hc
    split at hc
    · simp only [opt_bind] at hc; obtain ⟨_, _, _, _, hc⟩ := hc; split at hc <;> cases hc; simp [AOp.cls] at hcls
    · cases hc
  | insert ty m k v =>
    simp only [compileOp, opt_bind] at hc
    obtain ⟨_, _, hc⟩ := hc
    split at hc
    · simp only [opt_bind] at hc; obtain ⟨_, _, hc⟩ := hc; cases hc; simp [AOp.cls] at hcls
    · cases hc
  | mapUpdate ty m k v =>
    simp only [compileOp, opt_bind] at hc
    obtain ⟨_, _, hc⟩ := hc
    split at hc
    · simp only [opt_bind] at hc; obtain ⟨_, _, hc⟩ := hc; cases hc; simp [AOp.cls] at hcls
    · cases hc
  | mapEntry ty m k =>
    simp only [compileOp, opt_bind] at hc
    obtain ⟨_, _, hc⟩ := hc
    split at hc
    · simp only [opt_bind] at hc; obtain ⟨_, _, _, _, _, _, hc⟩ := hc; cases hc; simp [AOp.cls] at hcls
    · cases hc
  | _ => cases hc

end Go.AM
