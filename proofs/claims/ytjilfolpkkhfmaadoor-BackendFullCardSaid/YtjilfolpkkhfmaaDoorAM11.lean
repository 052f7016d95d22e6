/- What writes memory: maps, stores, iterators. -/
import Derived.Test.YtjilfolpkkhfmaaDoorAM10
namespace Go.AM

/-- What an operation with an effect comes to. -/
def Eff (P : Program) (ρ : Ren) (σ : Sto) (w : World) (s : Sem Next) (v : Value) (σ' : Sto) : Prop :=
  ∃ cv w' ρ', Val P s w cv w' ∧ VR ρ' v cv ∧ Sim ρ' σ' w' ∧ Ev ρ σ w ρ' σ' w'

/-- The same for a computation of a value. -/
def EffV (P : Program) (ρ : Ren) (σ : Sto) (w : World) (s : Sem Value) (v : Value) (σ' : Sto) : Prop :=
  ∃ cv w' ρ', s.run P w = .ok cv w' ∧ VR ρ' v cv ∧ Sim ρ' σ' w' ∧ Ev ρ σ w ρ' σ' w'
def EffU (P : Program) (ρ : Ren) (σ : Sto) (w : World) (s : Sem Unit) (v : Value) (σ' : Sto) : Prop :=
  v = undef ∧ ∃ w' ρ', s.run P w = .ok () w' ∧ Sim ρ' σ' w' ∧ Ev ρ σ w ρ' σ' w'

theorem EffV.eff {P : Program} {ρ : Ren} {σ σ' : Sto} {w : World} {s : Sem Value} {v : Value} (h : EffV P ρ σ w s v σ') : Eff P ρ σ w (do pure (.value (← s))) v σ' := by
  obtain ⟨cv, w', ρ', h1, h2⟩ := h
  exact ⟨cv, w', ρ', Val.of h1, h2⟩
theorem EffU.eff {P : Program} {ρ : Ren} {σ σ' : Sto} {w : World} {s : Sem Unit} {v : Value} (h : EffU P ρ σ w s v σ') : Eff P ρ σ w (do s; pure .skip) v σ' := by
  obtain ⟨rfl, w', ρ', h1, h2, h3⟩ := h
  exact ⟨undef, w', ρ', Val.ofU h1, VR.undef, h2, h3⟩

theorem storeV_sound {P : Program} {tab : Tab} (hT : TabOK P tab) {ρ : Ren} {σ σ' : Sto} {w : World} (hs : Sim ρ σ w) {ty : TypeId} {i : ATy} (hi : tab.get ty = some i) {a a' u u' v : Value} (ha : VR ρ a a') (hu : VR ρ u u') (h : storeV σ i.size a u = some (v, σ')) :
    EffU P ρ σ w (Instr.storeAt ty a' u') v σ' := by
  unfold storeV at h
  split at h
  · rename_i b o
    cases ha with
    | ptr _ _ l hl =>
    split at h
    · rename_i hsz
      split at h
      · rename_i σ1 h1
        cases h
        obtain ⟨w', h2, h3, h4⟩ := Sim.stores (P := P) hl u.cells.toList u'.cells.toList o 0 o σ σ' w (by omega) hs h1 hu.cells
        obtain ⟨inf, hinf, his, _⟩ := hT.info _ _ hi
        refine ⟨rfl, w', ρ, ?_, h3, h4⟩
        have hsz' : u'.cells.size = inf.size := by rw [his, ← hsz]; have := hu.cells.1; simpa using this.symm
        simp [Instr.storeAt, Instr.sureAddr, storeVar, run_sizeOf hinf, hsz', h2]
      · cases h
    · cases h
  · cases h

theorem run_setObj {P : Program} {w : World} {r : Nat} {o o' : Obj} (h : w.heap[r]? = some o) (ho : ∀ c e f, o ≠ .cells c e f) : (Go.setObj r o').run P w = .ok () { w with heap := w.heap.setIfInBounds r o' } := by
  cases o with
  | cells c e f => exact (ho _ _ _ rfl).elim
  | _ => simp only [Go.setObj, Sem.run, h]

theorem Sim.setObj {ρ : Ren} {σ : Sto} {w : World} {P : Program} (hs : Sim ρ σ w) {b : Nat} {o o' : AObj} (hb : σ.objs.get b = some o) (hro : o.isRo = false) (hro' : o'.isRo = false) {l : Loc} (hl : ρ b = some l) {obj obj' : Obj} (hobj : w.heap[l.blk]? = some obj) (hc : ∀ c e f, obj ≠ .cells c e f)
    (hor : OR ρ l o' obj') : ∃ w', (Go.setObj l.blk obj').run P w = .ok () w' ∧ Sim ρ (AM.setObj σ b o') w' ∧ Ev ρ σ w ρ (AM.setObj σ b o') w' := by
  refine ⟨_, run_setObj hobj hc, ?_⟩
  exact hs.write hb hro hro' hl (fun j => by
    have hlt : l.blk < w.heap.size := (Array.getElem?_eq_some_iff.1 hobj).1
    simp only [Array.getElem?_setIfInBounds]
    by_cases e : l.blk = j
    · rw [if_pos e, if_pos e, if_pos hlt]
    · rw [if_neg e, if_neg e]) hor rfl rfl rfl

theorem ERl.modify {ρ : Ren} {es es' : List MapEntry} {i : Nat} {f f' : MapEntry → MapEntry} (h : ERl ρ es es') (hf : ∀ e e', es[i]? = some e → es'[i]? = some e' → ER ρ e e' → ER ρ (f e) (f' e')) : ERl ρ (es.modify i f) (es'.modify i f') := by
  refine ⟨by simp [h.1], fun j e hj => ?_⟩
  simp only [List.getElem?_modify] at hj ⊢
  cases hx : es[j]? with
  | none => simp [hx] at hj
  | some x =>
    obtain ⟨x', h1, h2⟩ := h.2 j x hx
    simp only [hx, h1] at hj ⊢
    by_cases e' : i = j
    · subst e'
      simp only [if_true, Option.map_eq_map, Option.map_some, Option.some.injEq] at hj ⊢
      exact ⟨_, rfl, by rw [← hj]; exact hf x x' hx h1 h2⟩
    · simp only [if_neg e', Option.map_eq_map, Option.map_some, Option.some.injEq] at hj ⊢
      exact ⟨_, rfl, by rw [← hj]; exact h2⟩

theorem ERl.push {ρ : Ren} {es es' : List MapEntry} {e e' : MapEntry} (h : ERl ρ es es') (he : ER ρ e e') : ERl ρ (es ++ [e]) (es' ++ [e']) := by
  refine ⟨by simp [h.1], fun j x hj => ?_⟩
  by_cases hl : j < es.length
  · rw [List.getElem?_append_left hl] at hj
    rw [List.getElem?_append_left (by rw [← h.1]; exact hl)]
    exact h.2 j x hj
  · rw [List.getElem?_append_right (by omega)] at hj
    rw [List.getElem?_append_right (by rw [← h.1]; omega), ← h.1]
    have : j - es.length = 0 := by
      have := (List.getElem?_eq_some_iff.1 hj).1
      simp at this; omega
    rw [this] at hj ⊢
    simp at hj ⊢
    subst hj; exact he

theorem ERl.eraseIdx {ρ : Ren} {es es' : List MapEntry} {i : Nat} (h : ERl ρ es es') : ERl ρ (es.eraseIdx i) (es'.eraseIdx i) := by
  refine ⟨by simp [List.length_eraseIdx, h.1], fun j x hj => ?_⟩
  rw [List.getElem?_eraseIdx] at hj ⊢
  split at hj
  · rename_i hl; rw [if_pos hl]; exact h.2 j x hj
  · rename_i hl; rw [if_neg hl]; exact h.2 (j + 1) x hj

/-- A map's block, and what is known of it. -/
theorem Sim.mapAt {ρ : Ren} {σ : Sto} {w : World} (hs : Sim ρ σ w) {r : Nat} {es : List MapEntry} {clock : Nat} (h : σ.objs.get r = some (.map es clock)) {c : Value} (hm : VR ρ (.map (some r)) c) :
    ∃ l es', ρ r = some l ∧ c = .map (some l.blk) ∧ w.heap[l.blk]? = some (.map es' clock) ∧ ERl ρ es es'.toList := by
  cases hm with
  | map _ l hl =>
    obtain ⟨es', h1, h2⟩ := hs.mapObj h hl
    exact ⟨l, es', hl, rfl, h1, h2⟩

theorem keyStays {P : Program} {w : World} {old new : Value} (h : Instr.sameBits 10000 old new = true) : (Instr.keyThatStays old new).run P w = .ok new w := by
  simp [Instr.keyThatStays, h]

theorem mapUpdateV_sound {P : Program} {tab : Tab} (hT : TabOK P tab) {ρ : Ren} {σ σ' : Sto} {w : World} (hs : Sim ρ σ w) {ty kt e : TypeId} (hd : P.underlying ty = some (.map kt e)) {ks : Bool × List LK} (hks : keyT P tab kt = some ks)
    {m m' k k' u u' v : Value} (hm : VR ρ m m') (hk : VR ρ k k') (hu : VR ρ u u') (h : mapUpdateV σ ks m k u = some (v, σ')) : EffU P ρ σ w (Instr.mapUpdate ty m' k' u') v σ' := by
  unfold mapUpdateV at h
  split at h
  · rename_i r
    split at h
    · rename_i es clock hobj
      obtain ⟨l, es', hl, rfl, hb, he⟩ := hs.mapAt hobj hm
      split at h
      · cases h
      · rename_i n e0 hf
        cases h
        obtain ⟨h1, rfl, h3, h4⟩ := find_sound hT (w := w) hks hk hf he
        obtain ⟨h5, e', h6, h7, h8, h9⟩ := h4 n e0 rfl
        have h6' : es'[n]? = some e' := by simpa using h6
        obtain ⟨w', h10, h11, h12⟩ := hs.setObj (P := P) (o' := .map (es.modify n fun e => { e with key := k', val := u }) clock) (obj' := .map (es'.modify n fun e => { e with key := k', val := u' }) clock) hobj rfl rfl hl hb (by simp)
          ⟨rfl, by
            have := ERl.modify (f := fun e : MapEntry => { e with key := k', val := u }) (f' := fun e : MapEntry => { e with key := k', val := u' }) (i := n) he (fun x x' _ _ hx => ⟨hk, hu, hx.2.2⟩)
            simpa using this⟩
        refine ⟨rfl, w', ρ, ?_, h11, h12⟩
        have h3' : (Instr.findKey kt k' es'.toList).run P w = .ok (some (n, e'.val)) w := by rw [h3, foundR_some h6]
        simp only [Instr.mapUpdate, Sem.run_bind, run_underlying hd, Result.andThen_ok, run_getObj_map hb, h1, h3']
        simp only [h6', Option.map_some, Option.getD_some, h8, keyStays h9, Result.andThen_ok, h10]
      · rename_i hf
        cases h
        obtain ⟨h1, rfl, h3, h4⟩ := find_sound hT (w := w) hks hk hf he
        obtain ⟨w', h10, h11, h12⟩ := hs.setObj (P := P) (o' := .map (es ++ [{ key := k', val := u, born := clock }]) (clock + 1)) (obj' := .map (es'.push { key := k', val := u', born := clock }) (clock + 1)) hobj rfl rfl hl hb (by simp)
          ⟨rfl, by
            have := he.push (e := { key := k', val := u, born := clock }) (e' := { key := k', val := u', born := clock }) ⟨hk, hu, rfl⟩
            simpa using this⟩
        refine ⟨rfl, w', ρ, ?_, h11, h12⟩
        rw [foundR_none] at h3
        simp only [Instr.mapUpdate, Sem.run_bind, run_underlying hd, Result.andThen_ok, run_getObj_map hb, h1, h3, h10]
    · cases h
  · cases h

theorem mapEntryV_sound {P : Program} {tab : Tab} (hT : TabOK P tab) (hZ : ZeroOK tab) {ρ : Ren} {σ σ' : Sto} {w : World} (hs : Sim ρ σ w) {ty kt e : TypeId} (hd : P.underlying ty = some (.map kt e)) {ks : Bool × List LK} (hks : keyT P tab kt = some ks)
    {j : ATy} {z : Value} (hj : tab.get e = some j) (hz : j.zero = some z) {m m' k k' v : Value} (hm : VR ρ m m') (hk : VR ρ k k') (h : mapEntryV σ ks z m k = some (v, σ')) : EffV P ρ σ w (Instr.mapEntry ty m' k') v σ' := by
  obtain ⟨hz1, hz2⟩ := zero_run hT hZ (ρ := ρ) (w := w) hj hz
  unfold mapEntryV at h
  split at h
  · rename_i r
    split at h
    · rename_i es clock hobj
      obtain ⟨l, es', hl, rfl, hb, he⟩ := hs.mapAt hobj hm
      split at h
      · cases h
      · rename_i n e0 hf
        cases h
        obtain ⟨h1, rfl, h3, h4⟩ := find_sound hT (w := w) hks hk hf he
        obtain ⟨h5, e', h6, h7, h8, h9⟩ := h4 n e0 rfl
        have h6' : es'[n]? = some e' := by simpa using h6
        obtain ⟨w', h10, h11, h12⟩ := hs.setObj (P := P) (o' := .map (es.modify n fun e => { e with key := k' }) clock) (obj' := .map (es'.modify n fun e => { e with key := k' }) clock) hobj rfl rfl hl hb (by simp)
          ⟨rfl, by
            have := ERl.modify (f := fun e : MapEntry => { e with key := k' }) (f' := fun e : MapEntry => { e with key := k' }) (i := n) he (fun x x' _ _ hx => ⟨hk, hx.2.1, hx.2.2⟩)
            simpa using this⟩
        have h3' : (Instr.findKey kt k' es'.toList).run P w = .ok (some (n, e'.val)) w := by rw [h3, foundR_some h6]
        refine ⟨.tuple #[e'.val, goInt e'.born], w', ρ, ?_, ?_, h11, h12⟩
        · simp only [Instr.mapEntry, Sem.run_bind, run_underlying hd, Result.andThen_ok, run_getObj_map hb, h1, h3']
          simp only [h6', Option.map_some, Option.getD_some, h8, keyStays h9, Result.andThen_ok, h10, Sem.run_pure]
        · rw [h7.2.2]; exact VR.tuple_of (.cons h7.2.1 (.cons (.int _ _) .nil))
      · rename_i hf
        cases h
        obtain ⟨h1, rfl, h3, h4⟩ := find_sound hT (w := w) hks hk hf he
        obtain ⟨w', h10, h11, h12⟩ := hs.setObj (P := P) (o' := .map (es ++ [{ key := k', val := z, born := clock }]) (clock + 1)) (obj' := .map (es'.push { key := k', val := z, born := clock }) (clock + 1)) hobj rfl rfl hl hb (by simp)
          ⟨rfl, by
            have := he.push (e := { key := k', val := z, born := clock }) (e' := { key := k', val := z, born := clock }) ⟨hk, hz2, rfl⟩
            simpa using this⟩
        rw [foundR_none] at h3
        refine ⟨.tuple #[z, goInt clock], w', ρ, ?_, VR.tuple_of (.cons hz2 (.cons (.int _ _) .nil)), h11, h12⟩
        simp only [Instr.mapEntry, Sem.run_bind, run_underlying hd, Result.andThen_ok, run_getObj_map hb, h1, h3, hz1, h10, Sem.run_pure]
    · cases h
  · cases h

theorem findIdx_sound {ρ : Ren} {s : Int} : ∀ {es es' : List MapEntry}, ERl ρ es es' → es'.findIdx? (fun e => (e.born : Int) == s) = es.findIdx? (fun e => (e.born : Int) == s) := by
  intro es
  induction es with
  | nil => intro es' h; have : es' = [] := List.eq_nil_of_length_eq_zero (by rw [← h.1]; rfl); subst this; rfl
  | cons e es ih =>
    intro es' h
    cases es' with
    | nil => simp [ERl] at h
    | cons e' es' =>
      obtain ⟨x, h1, h2⟩ := h.2 0 e rfl
      simp at h1; subst h1
      have h3 : ERl ρ es es' := ⟨by simpa using h.1, fun i x hx => by simpa using h.2 (i + 1) x (by simpa using hx)⟩
      rw [List.findIdx?_cons, List.findIdx?_cons, ih h3, h2.2.2]

theorem entryStoreV_sound {P : Program} {ρ : Ren} {σ σ' : Sto} {w : World} (hs : Sim ρ σ w) {ty : TypeId} {m m' s s' u u' v : Value} (hm : VR ρ m m') (hs' : VR ρ s s') (hu : VR ρ u u') (h : entryStoreV σ m s u = some (v, σ')) : EffU P ρ σ w (Instr.entryStore ty m' s' u') v σ' := by
  unfold entryStoreV at h
  split at h
  · rename_i r
    split at h
    · rename_i kk n
      cases hs'
      split at h
      · rename_i es clock hobj
        obtain ⟨l, es', hl, rfl, hb, he⟩ := hs.mapAt hobj hm
        split at h
        · rename_i i hi
          cases h
          obtain ⟨w', h10, h11, h12⟩ := hs.setObj (P := P) (o' := .map (es.modify i fun e => { e with val := u }) clock) (obj' := .map (es'.modify i fun e => { e with val := u' }) clock) hobj rfl rfl hl hb (by simp)
            ⟨rfl, by
              have := ERl.modify (f := fun e : MapEntry => { e with val := u }) (f' := fun e : MapEntry => { e with val := u' }) (i := i) he (fun x x' _ _ hx => ⟨hx.1, hu, hx.2.2⟩)
              simpa using this⟩
          refine ⟨rfl, w', ρ, ?_, h11, h12⟩
          have hidx : es'.findIdx? (fun e => (e.born : Int) == n) = some i := by
            have h1 := List.findIdx?_toArray (p := fun e : MapEntry => (e.born : Int) == n) es'.toList
            rw [findIdx_sound he, hi] at h1
            simpa using h1
          simp only [Instr.entryStore, Sem.run_bind, run_getObj_map hb, Result.andThen_ok, asInt, asIntOf, Sem.run_pure, hidx, h10]
        · cases h
      · cases h
    · cases h
  · cases h

theorem deleteV_sound {P : Program} {tab : Tab} (hT : TabOK P tab) {ρ : Ren} {σ σ' : Sto} {w : World} (hs : Sim ρ σ w) {argTypes : Array TypeId} {type : TypeId} {ty kt e : TypeId} (hty : argTypes[0]? = some ty) (hd : P.underlying ty = some (.map kt e)) {ks : Bool × List LK} (hks : keyT P tab kt = some ks)
    {m m' k k' v : Value} (hm : VR ρ m m') (hk : VR ρ k k') (h : deleteV σ ks m k = some (v, σ')) : EffV P ρ σ w (Builtin.delete_ argTypes type #[m', k']) v σ' := by
  unfold deleteV at h
  split at h
  · rename_i r
    split at h
    · rename_i es clock hobj
      obtain ⟨l, es', hl, rfl, hb, he⟩ := hs.mapAt hobj hm
      split at h
      · cases h
      · rename_i n e0 hf
        cases h
        obtain ⟨h1, rfl, h3, h4⟩ := find_sound hT (w := w) hks hk hf he
        obtain ⟨h5, e', h6, h7, h8, h9⟩ := h4 n e0 rfl
        have hlt : n < es'.size := by have := (List.getElem?_eq_some_iff.1 h6).1; simpa using this
        obtain ⟨w', h10, h11, h12⟩ := hs.setObj (P := P) (o' := .map (es.eraseIdx n) clock) (obj' := .map (es'.eraseIdxIfInBounds n) clock) hobj rfl rfl hl hb (by simp)
          ⟨rfl, by
            have : (es'.eraseIdxIfInBounds n).toList = es'.toList.eraseIdx n := by simp [Array.eraseIdxIfInBounds, hlt]
            rw [this]; exact he.eraseIdx⟩
        have h3' : (Instr.findKey kt k' es'.toList).run P w = .ok (some (n, e'.val)) w := by rw [h3, foundR_some h6]
        refine ⟨.tuple #[], w', ρ, ?_, VR.undef, h11, h12⟩
        simp [Builtin.delete_, hty, run_underlying hd, run_getObj_map hb, h1, h3', h10]
      · rename_i hf
        cases h
        obtain ⟨h1, rfl, h3, h4⟩ := find_sound hT (w := w) hks hk hf he
        obtain ⟨w', h10, h11, h12⟩ := hs.setObj (P := P) (o' := .map es clock) (obj' := .map es' clock) hobj rfl rfl hl hb (by simp) ⟨rfl, he⟩
        rw [foundR_none] at h3
        refine ⟨.tuple #[], w', ρ, ?_, VR.undef, h11, h12⟩
        simp [Builtin.delete_, hty, run_underlying hd, run_getObj_map hb, h1, h3, h10]
    · cases h
  · cases h

theorem Sim.newObj {ρ : Ren} {σ : Sto} {w : World} (hs : Sim ρ σ w) {o : AObj} {obj : Obj} {tot : Nat} (hor : ∀ ρ' : Ren, Sub ρ ρ' → OR ρ' ⟨w.heap.size, 0, tot⟩ o obj) :
    ∃ ρ', ρ' σ.next = some ⟨w.heap.size, 0, tot⟩ ∧ Sub ρ ρ' ∧ Sim ρ' (AM.newObj σ o) (w.alloc obj) ∧ Ev ρ σ w ρ' (AM.newObj σ o) (w.alloc obj) := by
  obtain ⟨h1, h2⟩ := hs.new (o := o) (obj := obj) (l := ⟨w.heap.size, 0, tot⟩) rfl (hor _ (Sub.extend _ (hs.fresh (Nat.le_refl _))))
  exact ⟨_, extend_self _ _ _, h2.sub, h1, h2⟩

theorem rangeV_sound {P : Program} {ρ : Ren} {σ σ' : Sto} {w : World} (hs : Sim ρ σ w) {ty : TypeId} {x x' v : Value} (hx : VR ρ x x') {str : Bool} (hd : (str = true ∧ P.underlying ty = some .string) ∨ (∃ k e, str = false ∧ P.underlying ty = some (.map k e))) (h : rangeV σ str x = some (v, σ')) :
    EffV P ρ σ w (Instr.range ty x') v σ' := by
  have fin : ∀ (o : AObj) (it : Obj), (∀ ρ' : Ren, Sub ρ ρ' → OR ρ' ⟨w.heap.size, 0, 0⟩ o it) → v = .pointer (some ⟨σ.next, 0, none⟩) → σ' = AM.newObj σ o → (Instr.range ty x').run P w = .ok (.pointer (some ⟨w.heap.size, 0, none⟩)) (w.alloc it) → EffV P ρ σ w (Instr.range ty x') v σ' := by
    intro o it h1 h2 h3 h4
    subst h2; subst h3
    obtain ⟨ρ', h5, h6, h7, h8⟩ := hs.newObj h1
    refine ⟨_, _, ρ', h4, ?_, h7, h8⟩
    have := VR.ptr (ρ := ρ') σ.next 0 _ h5
    simpa using this
  unfold rangeV at h
  split at h
  · rename_i s
    cases h; cases hx
    rcases hd with ⟨_, hd⟩ | ⟨_, _, hd, _⟩
    · exact fin (.siter s 0) (.stringIter s 0) (fun _ _ => ⟨rfl, rfl, rfl⟩) rfl rfl (by simp [Instr.range, run_underlying hd])
    · cases hd
  · cases h; cases hx
    rcases hd with ⟨hd, _⟩ | ⟨_, _, _, hd⟩
    · cases hd
    · exact fin (.miter none 0 [] 0) (.mapIter none 0 #[] 0) (fun _ _ => ⟨rfl, .nilmap, rfl, rfl, rfl⟩) rfl rfl (by simp [Instr.range, run_underlying hd])
  · rename_i m
    split at h
    · rename_i es clock hobj
      cases h
      obtain ⟨l, es', hl, rfl, hb, he⟩ := hs.mapAt hobj hx
      rcases hd with ⟨hd, _⟩ | ⟨_, _, _, hd⟩
      · cases hd
      · exact fin (.miter (some m) clock [] clock) (.mapIter (some l.blk) clock #[] clock) (fun ρ' hs' => ⟨rfl, .map m l (hs' _ _ hl), rfl, rfl, rfl⟩) rfl rfl (by simp [Instr.range, run_underlying hd, run_getObj_map hb])
    · cases h
  · cases h

theorem s2bV_dummy : True := trivial

end Go.AM
