/- A loop over a map's entries, of which each is taken out, and a frame is freed: its code, one round. -/
import Derived.Test.YtjilfolpkkhfmaaDoorAM33
namespace Go.AM.Drop

theorem ro_pure {call : CallF} {op : AOp} {t : Tr Value} {σ : Sto} {v : Value} {d : Nat} {l : List AOper} (hc : op.cls = .pure) (h : runPure t op = some v) : runOps call (⟨some d, op, none⟩ :: l) t σ = runOps call l (t.set d v) σ := by
  simp [runOps, runOper, wanted, runOp, hc, h, put]
theorem ro_heap {call : CallF} {op : AOp} {t : Tr Value} {σ : Sto} {v : Value} {d : Nat} {l : List AOper} (hc : op.cls = .heap) (h : runHeap t σ op = some v) : runOps call (⟨some d, op, none⟩ :: l) t σ = runOps call l (t.set d v) σ := by
  simp [runOps, runOper, wanted, runOp, hc, h, put]
theorem ro_eff {call : CallF} {op : AOp} {t : Tr Value} {σ σ' : Sto} {v : Value} {l : List AOper} (hc : op.cls = .eff) (h : runEff call t σ op = some (v, σ')) : runOps call (⟨none, op, none⟩ :: l) t σ = runOps call l t σ' := by
  simp [runOps, runOper, wanted, runOp, hc, h, put]

theorem rs_pure {call : CallF} {base i d j again : Nat} {sl : List Nat} {op : AOp} {u l : List DStep} {t : Tr Value} {σ : Sto} {v : Value} (hc : op.cls = .pure) (h : runPure (small t sl) op = some v) :
    runSteps call base u (⟨i, sl, ⟨some d, op, none⟩, j, again⟩ :: l) t σ = runSteps call base (⟨i, sl, ⟨some d, op, none⟩, j, again⟩ :: u) l (t.set d v) σ := by
  simp [runSteps, runStep, one, wanted, runOp, hc, h, put]
theorem rs_heap {call : CallF} {base i d j again : Nat} {sl : List Nat} {op : AOp} {u l : List DStep} {t : Tr Value} {σ : Sto} {v : Value} (hc : op.cls = .heap) (h : runHeap (small t sl) σ op = some v) :
    runSteps call base u (⟨i, sl, ⟨some d, op, none⟩, j, again⟩ :: l) t σ = runSteps call base (⟨i, sl, ⟨some d, op, none⟩, j, again⟩ :: u) l (t.set d v) σ := by
  simp [runSteps, runStep, one, wanted, runOp, hc, h, put]
theorem rechecks0 {call : CallF} {t : Tr Value} {σ : Sto} (u : List DStep) : rechecks call t σ 0 u = true := by
  unfold rechecks
  rw [List.all_eq_true]
  intro y _
  simp
theorem rs_eff {call : CallF} {base i d j : Nat} {sl : List Nat} {op : AOp} {u l : List DStep} {t : Tr Value} {σ σ' : Sto} {v : Value} (hc : op.cls = .eff) (h : runEff call (small t sl) σ op = some (v, σ')) :
    runSteps call base u (⟨i, sl, ⟨some d, op, none⟩, j, 0⟩ :: l) t σ = runSteps call base (⟨i, sl, ⟨some d, op, none⟩, j, 0⟩ :: u) l (t.set d v) σ' := by
  simp [runSteps, runStep, one, wanted, runOp, hc, h, put, rechecks0]

def i0 : Value := .int .i64 0
def z4 : List Value := [i0, .slice none 0 0, i0, .bool false]
def l0 : List AOper := [⟨some 4, .mv (.tmp 0), none⟩, ⟨some 5, .eqv .ptr false (.tmp 4) (.const (.pointer none)), none⟩]
def l1 : List AOper := [⟨some 6, .mv (.tmp 0), none⟩, ⟨some 7, .nilCheck (.tmp 6), none⟩, ⟨some 8, .addOff (.tmp 7) 7, none⟩, ⟨some 9, .load (.tmp 8) none, none⟩, ⟨some 10, .range false (.tmp 9), none⟩]
def l2a : AOper := ⟨some 11, .nextM (.tmp 10), none⟩
def l2b : List AOper := [⟨some 12, .extract (.tmp 11) 0, none⟩]
def l3 : List AOper := [⟨some 13, .entry (.tmp 10), none⟩, ⟨some 14, .extract (.tmp 13) 0, none⟩, ⟨some 15, .extract (.tmp 13) 1, none⟩, ⟨some 3, .alloc z4, none⟩, ⟨some 2, .mv (.tmp 14), none⟩, ⟨none, .store (.tmp 3) (.tmp 15) 4, none⟩]
def l4 : List AOper := [⟨some 16, .mv (.tmp 0), none⟩, ⟨some 17, .nilCheck (.tmp 16), none⟩, ⟨some 18, .addOff (.tmp 17) 7, none⟩, ⟨some 19, .load (.tmp 18) none, none⟩, ⟨some 20, .mv (.tmp 2), none⟩, ⟨none, .delete (false, [.i]) (.tmp 19) (.tmp 20), none⟩]
def d5 (free : FuncId) : List DStep := [⟨0, [0], ⟨some 21, .mv (.tmp 0), none⟩, 0, 552⟩, ⟨1, [21], ⟨some 22, .nilCheck (.tmp 21), none⟩, 0, 552⟩, ⟨2, [22], ⟨some 23, .addOff (.tmp 22) 4, none⟩, 0, 552⟩, ⟨3, [23], ⟨some 24, .load (.tmp 23) none, none⟩, 0, 552⟩,
  ⟨4, [3], ⟨some 25, .addOff (.tmp 3) 2, none⟩, 0, 552⟩, ⟨5, [25], ⟨some 26, .load (.tmp 25) none, none⟩, 0, 552⟩, ⟨6, [0], ⟨some 27, .mv (.tmp 0), none⟩, 0, 552⟩, ⟨7, [27], ⟨some 28, .nilCheck (.tmp 27), none⟩, 0, 552⟩, ⟨8, [28], ⟨some 29, .addOff (.tmp 28) 5, none⟩, 0, 552⟩,
  ⟨9, [29], ⟨some 30, .load (.tmp 29) none, none⟩, 0, 552⟩, ⟨10, [24, 26, 30], ⟨some 31, .call free [.tmp 24, .tmp 26, .tmp 30], none⟩, 0, 0⟩]
def restC (free : FuncId) : ACode := .seq (.cond (.tmp 12) .skip (.exit 0)) (.block 1 (.seq (.ops l3) (.seq (.ops l4) (.draw 0 (d5 free)))))
def loopC (free : FuncId) : ACode := .seq (.ops (l2a :: l2b)) (restC free)
def dropC (free : FuncId) : ACode := .seq (.seq (.ops l0) (.cond (.tmp 5) .ret .skip)) (.seq (.ops l1) (.block 0 (.loop (loopC free))))

def ptr (b : Nat) : Value := .pointer (some ⟨b, 0, none⟩)

theorem load_congr {σ σ' : Sto} {b o : Nat} (h : σ'.objs.get b = σ.objs.get b) : σ'.load b o = σ.load b o := by simp only [Sto.load, h]

/-- An entry as it is looked for. -/
structure Good (fr : Value) (e : MapEntry) : Prop where
  key : ∃ k, e.key = .int .i64 k
  val : ∃ a b d, e.val = .agg #[a, b, fr, d] ∧ Sto.isAggV a = false ∧ Sto.isAggV b = false ∧ Sto.isAggV d = false
  fr : Sto.isAggV fr = false

theorem findE_at {fr : Value} : ∀ (es : List MapEntry) (i0 i : Nat) (e : MapEntry), (∀ x ∈ es, Good fr x) → (es.map (·.key)).Nodup → es[i]? = some e → findE [.i] e.key es i0 = some (some (i0 + i, e)) := by
  intro es
  induction es with
  | nil => intro i0 i e _ _ h; simp at h
  | cons x es ih =>
    intro i0 i e hg hn h
    obtain ⟨k, hk⟩ := (hg x (by simp)).key
    have hmem : e ∈ x :: es := List.mem_of_getElem? h
    obtain ⟨k', hk'⟩ := (hg e hmem).key
    cases i with
    | zero =>
      simp at h; subst h
      simp only [findE, hk, eqFlat, eqLK]
      simp
    | succ i =>
      have h' : es[i]? = some e := by simpa using h
      have hne : x.key ≠ e.key := by
        intro hh
        exact (List.nodup_cons.1 hn).1 (List.mem_map.2 ⟨e, List.mem_of_getElem? h', hh.symm⟩)
      have hkk : k' ≠ k := by
        intro hh; apply hne; rw [hk, hk', hh]
      have := ih (i0 + 1) i e (fun y hy => hg y (by simp [hy])) (List.nodup_cons.1 hn).2 h'
      simp only [findE, hk, hk', eqFlat, eqLK, if_true]
      rw [show (k' == k) = false by simpa using hkk]
      simp only
      rw [← hk', this]
      congr 3; omega

theorem find_born : ∀ (es : List MapEntry) (i : Nat) (e : MapEntry), (es.map (·.born)).Nodup → es[i]? = some e → es.find? (·.born == e.born) = some e := by
  intro es
  induction es with
  | nil => intro i e _ h; simp at h
  | cons x es ih =>
    intro i e hn h
    cases i with
    | zero => simp at h; subst h; simp
    | succ i =>
      have h' : es[i]? = some e := by simpa using h
      have hne : x.born ≠ e.born := by
        intro hh
        exact (List.nodup_cons.1 hn).1 (List.mem_map.2 ⟨e, List.mem_of_getElem? h', hh.symm⟩)
      rw [List.find?_cons]
      rw [show (x.born == e.born) = false by simpa using hne]
      exact ih i e (List.nodup_cons.1 hn).2 h'

theorem store1 {σ : Sto} {b n off : Nat} {z : List Value} {c : Tr Value} {v : Value} (h : σ.objs.get b = some (.cells n z c .fixed)) (ho : off < n) (hv : Sto.isAggV v = false) :
    σ.store b off v = some ⟨σ.next, σ.objs.set b (.cells n z (c.set off v) .fixed)⟩ := by
  simp [Sto.store, h, ho, hv]

theorem stores4 {σ : Sto} {n : Nat} {a b c d : Value} {t : Tr Value} (h : σ.objs.get n = some (.cells 4 z4 t .fixed)) (ha : Sto.isAggV a = false) (hb : Sto.isAggV b = false) (hc : Sto.isAggV c = false) (hd : Sto.isAggV d = false) :
    ∃ σ', σ.stores n 0 [a, b, c, d] = some σ' ∧ σ'.next = σ.next ∧ ∀ x, σ'.objs.get x = if n = x then some (.cells 4 z4 ((((t.set 0 a).set 1 b).set 2 c).set 3 d) .fixed) else σ.objs.get x := by
  simp only [Sto.stores, Option.bind_eq_bind]
  rw [store1 h (by decide) ha, Option.bind_some]
  rw [store1 (by rw [Tr.get_set, if_pos rfl]) (by decide) hb, Option.bind_some]
  rw [store1 (by rw [Tr.get_set, if_pos rfl]) (by decide) hc, Option.bind_some]
  rw [store1 (by rw [Tr.get_set, if_pos rfl]) (by decide) hd, Option.bind_some]
  refine ⟨_, rfl, rfl, fun x => ?_⟩
  simp only [Tr.get_set]
  split <;> rfl

/-- One round behind 'next', by the interpreter. -/
theorem rest_run {call : CallF} {lf : Nat} {free : FuncId} {T : Tr Value} {σ : Sto} {B N r Fr since clock i : Nat} {owv fr : Value} {seen : List Nat} {es : List MapEntry} {e : MapEntry} {Q : Sto → Prop}
    (t0 : T.get 0 = some (ptr B)) (t10 : T.get 10 = some (ptr N)) (t12 : T.get 12 = some (.bool true))
    (hN : σ.objs.get N = some (.miter (some r) since (seen ++ [e.born]) clock)) (hr : σ.objs.get r = some (.map es clock))
    (hB7 : σ.load B 7 = some (.map (some r))) (hB4 : σ.load B 4 = some (ptr Fr)) (hB5 : σ.load B 5 = some owv)
    (hgood : ∀ x ∈ es, Good fr x) (hkeys : (es.map (·.key)).Nodup) (hborns : (es.map (·.born)).Nodup) (he : es[i]? = some e)
    (hBr : B ≠ r) (hBn : B ≠ σ.next) (hrn : r ≠ σ.next)
    (hcall : ∀ (σ4 : Sto), σ4.next = σ.next + 1 → (∀ b, b ≠ r → b ≠ σ.next → σ4.objs.get b = σ.objs.get b) → σ4.objs.get r = some (.map (es.eraseIdx i) clock) → ∃ v σ5, call free [ptr Fr, fr, owv] σ4 = some (v, σ5) ∧ Q σ5) :
    ∃ T' σ5, exec call lf (restC free) T σ = some (.normal, T', σ5) ∧ T'.get 0 = some (ptr B) ∧ T'.get 10 = some (ptr N) ∧ Q σ5 := by
  obtain ⟨k, hk⟩ := (hgood e (List.mem_of_getElem? he)).key
  obtain ⟨a, b, d, hval, ha, hb, hd⟩ := (hgood e (List.mem_of_getElem? he)).val
  have hfr := (hgood e (List.mem_of_getElem? he)).fr
  -- the entry
  obtain ⟨σ3, s1, s2, s3⟩ := stores4 (σ := ⟨σ.next + 1, σ.objs.set σ.next (.cells 4 z4 .leaf .fixed)⟩) (n := σ.next) (t := .leaf) (by rw [Tr.get_set, if_pos rfl]) ha hb hfr hd
  have g3 : ∀ x, x ≠ σ.next → σ3.objs.get x = σ.objs.get x := by
    intro x hx
    rw [s3, if_neg (fun e => hx e.symm)]
    simp only [Tr.get_set]
    rw [if_neg (fun e => hx e.symm)]
  let T3 : Tr Value := (((((T.set 13 (.tuple #[e.key, e.val])).set 14 e.key).set 15 e.val).set 3 (ptr σ.next)).set 2 e.key)
  have e3 : runOps call l3 T σ = some (T3, σ3) := by
    unfold l3
    rw [ro_heap (v := .tuple #[e.key, e.val]) rfl (by
      simp only [runHeap, ev, t10, ptr, entryV, hN, List.getLast?_append, List.getLast?_singleton, Option.some_or, hr, if_true]
      rw [find_born es i e hborns he])]
    rw [ro_pure (v := e.key) rfl (by simp [runPure, ev, Tr.get_set])]
    rw [ro_pure (v := e.val) rfl (by simp [runPure, ev, Tr.get_set])]
    have al : ∀ (l : List AOper) (t : Tr Value), runOps call (⟨some 3, .alloc z4, none⟩ :: l) t σ = runOps call l (t.set 3 (ptr σ.next)) ⟨σ.next + 1, σ.objs.set σ.next (.cells 4 z4 .leaf .fixed)⟩ := by
      intro l t
      simp [runOps, runOper, wanted, runOp, AOp.cls, runAlloc, put, ptr, z4]
    rw [al]
    rw [ro_pure (v := e.key) rfl (by simp [runPure, ev, Tr.get_set])]
    rw [ro_eff (v := undef) (σ' := σ3) rfl (by
      simp only [runEff, ev, Tr.get_set]
      simp only [hval, ptr]
      simp [storeV, Value.cells, s1])]
    rfl
  -- it is taken out
  have hr3 : σ3.objs.get r = some (.map es clock) := by rw [g3 r hrn]; exact hr
  have l3B : ∀ o, σ3.load B o = σ.load B o := fun o => load_congr (g3 B hBn)
  let σ4 : Sto := setObj σ3 r (.map (es.eraseIdx i) clock)
  let T4 : Tr Value := ((((T3.set 16 (ptr B)).set 17 (ptr B)).set 18 (.pointer (some ⟨B, 7, none⟩))).set 19 (.map (some r))).set 20 e.key
  have hT30 : T3.get 0 = some (ptr B) := by simp [T3, Tr.get_set, t0]
  have e4 : runOps call l4 T3 σ3 = some (T4, σ4) := by
    unfold l4
    rw [ro_pure (v := ptr B) rfl (by simp [runPure, ev, hT30])]
    rw [ro_pure (v := ptr B) rfl (by simp [runPure, ev, Tr.get_set, ptr])]
    rw [ro_pure (v := .pointer (some ⟨B, 7, none⟩)) rfl (by simp [runPure, ev, Tr.get_set, ptr, addOff])]
    rw [ro_heap (v := .map (some r)) rfl (by simp [runHeap, ev, Tr.get_set, loadV, l3B, hB7])]
    rw [ro_pure (v := e.key) rfl (by simp [runPure, ev, Tr.get_set, T3])]
    rw [ro_eff (v := .tuple #[]) (σ' := σ4) rfl (by
      have hf : find (false, [.i]) e.key es = some (some (i, e)) := by
        unfold find
        have h1 := findE_at es 0 i e hgood hkeys he
        rw [Nat.zero_add] at h1
        rw [if_pos (by simp [hk, isAggB, eqFlat, eqLK]), h1]
      simp [runEff, ev, Tr.get_set, deleteV, hr3, hf, σ4])]
    rfl
  have g4 : ∀ x, x ≠ r → x ≠ σ.next → σ4.objs.get x = σ.objs.get x := by
    intro x h1 h2
    show (σ3.objs.set r _).get x = _
    rw [Tr.get_set, if_neg (fun e => h1 e.symm), g3 x h2]
  have g4r : σ4.objs.get r = some (.map (es.eraseIdx i) clock) := by
    show (σ3.objs.set r _).get r = _
    rw [Tr.get_set, if_pos rfl]
  obtain ⟨v, σ5, hc, hQ⟩ := hcall σ4 s2 g4 g4r
  have l4B : ∀ o, σ4.load B o = σ.load B o := fun o => load_congr (g4 B hBr hBn)
  have l4x : σ4.load σ.next 2 = some fr := by
    have : σ4.objs.get σ.next = some (.cells 4 z4 ((((Tr.leaf.set 0 a).set 1 b).set 2 fr).set 3 d) .fixed) := by
      show (σ3.objs.set r _).get σ.next = _
      rw [Tr.get_set, if_neg hrn, s3, if_pos rfl]
    simp [Sto.load, this, cellOf, Tr.get_set]
  have hT40 : T4.get 0 = some (ptr B) := by simp [T4, T3, Tr.get_set, t0]
  have hT43 : T4.get 3 = some (ptr σ.next) := by simp [T4, T3, Tr.get_set]
  let T5 : Tr Value := ((((((((((T4.set 21 (ptr B)).set 22 (ptr B)).set 23 (.pointer (some ⟨B, 4, none⟩))).set 24 (ptr Fr)).set 25 (.pointer (some ⟨σ.next, 2, none⟩))).set 26 fr).set 27 (ptr B)).set 28 (ptr B)).set 29 (.pointer (some ⟨B, 5, none⟩))).set 30 owv).set 31 v
  have e5 : runSteps call σ4.next [] (d5 free) T4 σ4 = some (T5, σ5) := by
    unfold d5
    rw [rs_pure (v := ptr B) rfl (by simp [runPure, ev, small_get, hT40])]
    rw [rs_pure (v := ptr B) rfl (by simp [runPure, ev, small_get, Tr.get_set, ptr])]
    rw [rs_pure (v := .pointer (some ⟨B, 4, none⟩)) rfl (by simp [runPure, ev, small_get, Tr.get_set, ptr, addOff])]
    rw [rs_heap (v := ptr Fr) rfl (by simp [runHeap, ev, small_get, Tr.get_set, loadV, l4B, hB4])]
    rw [rs_pure (v := .pointer (some ⟨σ.next, 2, none⟩)) rfl (by simp [runPure, ev, small_get, Tr.get_set, hT43, ptr, addOff])]
    rw [rs_heap (v := fr) rfl (by simp [runHeap, ev, small_get, Tr.get_set, loadV, l4x])]
    rw [rs_pure (v := ptr B) rfl (by simp [runPure, ev, small_get, Tr.get_set, hT40])]
    rw [rs_pure (v := ptr B) rfl (by simp [runPure, ev, small_get, Tr.get_set, ptr])]
    rw [rs_pure (v := .pointer (some ⟨B, 5, none⟩)) rfl (by simp [runPure, ev, small_get, Tr.get_set, ptr, addOff])]
    rw [rs_heap (v := owv) rfl (by simp [runHeap, ev, small_get, Tr.get_set, loadV, l4B, hB5])]
    rw [rs_eff (v := v) (σ' := σ5) rfl (by simp [runEff, ev, evs, small_get, Tr.get_set, hc])]
    rfl
  refine ⟨T5, σ5, ?_, by simp [T5, Tr.get_set, hT40], by simp [T5, T4, T3, Tr.get_set, t10], hQ⟩
  have hnx : ({ σ4 with next := σ4.next + 0 } : Sto) = σ4 := rfl
  simp only [restC, exec, ev, t12, e3, e4, hnx, e5]

end Go.AM.Drop
