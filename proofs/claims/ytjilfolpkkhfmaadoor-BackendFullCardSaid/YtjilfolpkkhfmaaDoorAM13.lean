/- append. -/
import Derived.Test.YtjilfolpkkhfmaaDoorAM12
namespace Go.AM

/-- Cells stored one behind the other in a block. -/
theorem run_storeCells_raw {P : Program} {k : Nat} {el : TypeId} {fz : Nat × Nat} (o : Nat) : ∀ (vs : List Value) (i : Nat) (cs : Array Value) (w : World), w.heap[k]? = some (.cells cs el fz) → o + i + vs.length ≤ cs.size →
    (∀ p, p < cs.size → ¬ (fz.1 ≤ p ∧ p < fz.2)) → (∀ v ∈ vs, Sto.isAggV v = false) →
    ∃ w' cs', (storeCells ⟨k, o, none⟩ vs i).run P w = .ok () w' ∧ (∀ j, w'.heap[j]? = if k = j then some (.cells cs' el fz) else w.heap[j]?) ∧ w'.os = w.os ∧ w'.tape = w.tape ∧ w'.output = w.output ∧ cs'.size = cs.size ∧
      ∀ p, cs'.getD p undef = if o + i ≤ p ∧ p < o + i + vs.length then vs.getD (p - (o + i)) undef else cs.getD p undef := by
  intro vs
  induction vs with
  | nil =>
    intro i cs w hh _ _ _
    refine ⟨w, cs, rfl, fun j => ?_, rfl, rfl, rfl, rfl, fun p => ?_⟩
    · split
      · rename_i e; subst e; exact hh
      · rfl
    · rw [if_neg (by simp only [List.length_nil]; omega)]
  | cons v vs ih =>
    intro i cs w hh hlen hfz hagg
    simp only [List.length_cons] at hlen
    have hlt : o + i < cs.size := by omega
    have hcell : w.cell? ⟨k, o + i, none⟩ = some cs[o + i] := by simp [World.cell?, hh, hlt]
    have hst : (Go.store ⟨k, o + i, none⟩ v).run P w = .ok () (w.setCell ⟨k, o + i, none⟩ v) := by
      rw [run_store P w _ v _ (isAggV_one (hagg v (by simp))), hcell]
      simp only []
      rw [frozen_false hh (hfz _ hlt)]
      rfl
    have hh1 : ∀ j, (w.setCell ⟨k, o + i, none⟩ v).heap[j]? = if k = j then some (.cells (cs.setIfInBounds (o + i) v) el fz) else w.heap[j]? := by
      intro j
      rw [heap_setCell]
      by_cases e : k = j
      · subst e; rw [if_pos rfl, if_pos rfl, hh]; rfl
      · rw [if_neg e, if_neg e]
    obtain ⟨w', cs', h1, h2, h3, h4, h5, h6, h7⟩ := ih (i + 1) (cs.setIfInBounds (o + i) v) (w.setCell ⟨k, o + i, none⟩ v) (by rw [hh1, if_pos rfl]) (by simp; omega) (by simpa using hfz) (fun u hu => hagg u (by simp [hu]))
    refine ⟨w', cs', ?_, fun j => ?_, h3, h4, h5, by simpa using h6, fun p => ?_⟩
    · simp only [storeCells, Sem.run_bind, addr_add, hst, Result.andThen_ok, h1]
    · rw [h2]
      by_cases e : k = j
      · rw [if_pos e, if_pos e]
      · rw [if_neg e, if_neg e, hh1, if_neg e]
    · rw [h7]
      by_cases e : p = o + i
      · subst e
        rw [if_neg (by omega), if_pos (by simp)]
        simp [Array.getD_eq_getD_getElem?, hlt]
      · by_cases e2 : o + (i + 1) ≤ p ∧ p < o + (i + 1) + vs.length
        · rw [if_pos e2, if_pos (by simp; omega)]
          rw [show p - (o + i) = (p - (o + (i + 1))) + 1 by omega]
          simp
        · rw [if_neg e2, if_neg (by simp; omega)]
          rw [Array.getD_eq_getD_getElem?, Array.getElem?_setIfInBounds, if_neg (by omega), ← Array.getD_eq_getD_getElem?]

/-- An object is forgotten. -/
theorem Sim.forget {ρ : Ren} {σ : Sto} {w : World} (hs : Sim ρ σ w) (b : Nat) : Sim ρ { σ with objs := σ.objs.upd b none } w ∧ Ev ρ σ w ρ { σ with objs := σ.objs.upd b none } w := by
  have hget : ∀ j o, (σ.objs.upd b none).get j = some o → σ.objs.get j = some o := by
    intro j o h
    rw [Tr.get_upd] at h
    split at h
    · cases h
    · exact h
  refine ⟨⟨fun j o h => hs.live j o (hget _ _ h), fun b1 b2 o1 o2 l1 l2 h1 h2 => hs.inj b1 b2 o1 o2 l1 l2 (hget _ _ h1) (hget _ _ h2), hs.dom⟩, ⟨Sub.refl _, rfl, rfl, rfl, Nat.le_refl _, fun _ _ _ => rfl, ?_, Nat.le_refl _, fun _ _ h => .inl h, ?_⟩⟩
  · rintro k ⟨j, o, l, h1, h2⟩
    exact .inl ⟨j, o, l, hget _ _ h1, h2⟩
  · rintro k ⟨j, o, l, h1, h2⟩
    exact .inl ⟨j, o, l, hget _ _ h1, h2⟩

/-- A block goes on under a new number, changed. -/
theorem Sim.move {ρ : Ren} {σ : Sto} {w w' : World} (hs : Sim ρ σ w) {b : Nat} {o o' : AObj} (hb : σ.objs.get b = some o) (hro : o.isRo = false) {l l' : Loc} (hl : ρ b = some l) (hl' : l'.blk = l.blk) {obj' : Obj}
    (hh : ∀ j, w'.heap[j]? = if l.blk = j then some obj' else w.heap[j]?) (hor : ∀ ρ', Sub ρ ρ' → OR ρ' l' o' obj') (hos : w'.os = w.os) (ht : w'.tape = w.tape) (ho : w'.output = w.output) :
    Sim (extend ρ σ.next l') { next := σ.next + 1, objs := (σ.objs.set σ.next o').upd b none } w' ∧ Ev ρ σ w (extend ρ σ.next l') { next := σ.next + 1, objs := (σ.objs.set σ.next o').upd b none } w' := by
  have hfr := hs.fresh (Nat.le_refl σ.next)
  have hsub := Sub.extend l' hfr
  have hbn : b ≠ σ.next := by have := hs.dom b l hl; omega
  have hget : ∀ j x, ((σ.objs.set σ.next o').upd b none).get j = some x → (j = σ.next ∧ x = o') ∨ (j ≠ b ∧ j ≠ σ.next ∧ σ.objs.get j = some x) := by
    intro j x h
    rw [Tr.get_upd] at h
    split at h
    · cases h
    · rename_i hne
      rw [Tr.get_set] at h
      split at h
      · rename_i e; cases h; exact .inl ⟨e.symm, rfl⟩
      · rename_i e; exact .inr ⟨fun h => hne h.symm, fun h => e h.symm, h⟩
  have hlt : l.blk < w.heap.size := by
    obtain ⟨l2, obj, h1, h2, _⟩ := hs.live b o hb
    obtain rfl : l = l2 := Option.some.inj (hl.symm.trans h1)
    exact (Array.getElem?_eq_some_iff.1 h2).1
  have hsz : w'.heap.size = w.heap.size := by
    apply Nat.le_antisymm
    · apply Nat.le_of_not_lt; intro hc
      have := hh w.heap.size
      rw [if_neg (by omega)] at this
      simp [hc] at this
    · apply Nat.le_of_not_lt; intro hc
      have := hh w'.heap.size
      by_cases e : l.blk = w'.heap.size
      · rw [if_pos e] at this; simp at this
      · rw [if_neg e] at this; simp [hc] at this
  have hold : ∀ j x, j ≠ b → j ≠ σ.next → σ.objs.get j = some x → ∃ lj obj, ρ j = some lj ∧ extend ρ σ.next l' j = some lj ∧ lj.blk ≠ l.blk ∧ w.heap[lj.blk]? = some obj ∧ OR ρ lj x obj := by
    intro j x hj hjn hx
    obtain ⟨lj, obj, h1, h2, h3⟩ := hs.live j x hx
    exact ⟨lj, obj, h1, hsub _ _ h1, fun e => hj (hs.inj b j o x l lj hb hx hl h1 e.symm hro).symm, h2, h3⟩
  refine ⟨⟨?_, ?_, ?_⟩, ⟨hsub, hos, ht, ho, by omega, ?_, ?_, by simp, fun j lj h => by
    unfold extend at h
    split at h
    · right; omega
    · exact .inl h, ?_⟩⟩
  · intro j x hx
    rcases hget j x hx with ⟨rfl, rfl⟩ | ⟨h1, h2, h3⟩
    · exact ⟨l', obj', extend_self _ _ _, by rw [hh, if_pos hl'.symm], hor _ hsub⟩
    · obtain ⟨lj, obj, _, h5, h6, h7, h8⟩ := hold j x h1 h2 h3
      exact ⟨lj, obj, h5, by rw [hh, if_neg (fun e => h6 e.symm)]; exact h7, h8.mono hsub⟩
  · intro b1 b2 o1 o2 l1 l2 h1 h2 h3 h4 h5 h6
    rcases hget b1 o1 h1 with ⟨rfl, rfl⟩ | ⟨h7, h8, h9⟩
    · rcases hget b2 o2 h2 with ⟨rfl, rfl⟩ | ⟨h10, h11, h12⟩
      · rfl
      · obtain ⟨lj, _, _, h13, h14, _⟩ := hold b2 o2 h10 h11 h12
        rw [extend_self] at h3; cases h3
        rw [h4] at h13; cases h13
        exact (h14 (by rw [← h5, hl'])).elim
    · obtain ⟨lj, _, h12', h13, h14, _⟩ := hold b1 o1 h7 h8 h9
      rw [h3] at h13; cases h13
      rcases hget b2 o2 h2 with ⟨rfl, rfl⟩ | ⟨h10, h11, h12⟩
      · rw [extend_self] at h4; cases h4
        exact (h14 (by rw [h5, hl'])).elim
      · obtain ⟨lk, _, h15, h16, _⟩ := hold b2 o2 h10 h11 h12
        rw [h4] at h16; cases h16
        exact hs.inj b1 b2 o1 o2 l1 l2 h9 h12 h12' h15 h5 h6
  · intro j lj h
    unfold extend at h
    split at h
    · simp; omega
    · have := hs.dom j lj h; simp; omega
  · intro k hk hf
    rw [hh, if_neg]
    intro e
    exact hf ⟨b, o, l, hb, hl, e, hro⟩
  · rintro k ⟨j, x, lj, h1, h2, h3, h4⟩
    rcases hget j x h1 with ⟨rfl, rfl⟩ | ⟨h7, h8, h9⟩
    · rw [extend_self] at h2; cases h2
      exact .inl ⟨b, o, l, hb, hl, by rw [← h3, hl'], hro⟩
    · obtain ⟨lk, _, h15, h16, _⟩ := hold j x h7 h8 h9
      rw [h2] at h16; cases h16
      exact .inl ⟨j, x, lj, h9, h15, h3, h4⟩
  · rintro k ⟨j, x, lj, h1, h2, h3⟩
    rcases hget j x h1 with ⟨rfl, rfl⟩ | ⟨h7, h8, h9⟩
    · rw [extend_self] at h2; cases h2
      exact .inl ⟨b, o, l, hb, hl, by rw [← h3, hl']⟩
    · obtain ⟨lk, _, h15, h16, _⟩ := hold j x h7 h8 h9
      rw [h2] at h16; cases h16
      exact .inl ⟨j, x, lj, h9, h15, h3⟩

theorem growBy_le (n : Nat) : ∀ (r c : Nat), c ≤ n + (n + 768) / 4 → Builtin.growBy n r c ≤ n + (n + 768) / 4 := by
  intro r
  induction r with
  | zero => intro c h; exact h
  | succ r ih =>
    intro c h
    simp only [Builtin.growBy]
    split
    · exact h
    · exact ih _ (by omega)

theorem nextslicecap_le {need cap : Nat} (h : cap < need) : Builtin.nextslicecap need cap ≤ 2 * need := by
  unfold Builtin.nextslicecap
  split
  · omega
  · split
    · omega
    · have := growBy_le need 4 cap (by omega)
      omega

/-- What an append comes to where there is room. -/
theorem run_append_room {P : Program} {w w' : World} {argTypes : Array TypeId} {type : TypeId} {ty u e : TypeId} {du : TypeDesc} (hty : argTypes[0]? = some ty) (hu : argTypes[1]? = some u) (hd : P.underlying ty = some (.slice e)) (hdu : P.underlying u = some du) (hnu : ∀ k, du ≠ .int k)
    {inf : TypeInfo} (hinf : P.info? e = some inf) {base : Option Addr} {sLen cap n : Nat} {x : Value} (hn : (Builtin.lenOf x).run P w = .ok n w) {new : List Value}
    (hnew : (Builtin.firstCells inf.size n x).run P w = .ok new.toArray w) (hroom : sLen + n ≤ cap)
    (hst : ((match base with | some a => storeCells (a.add (sLen * inf.size)) new | none => pure ()) : Sem Unit).run P w = .ok () w') :
    (Builtin.append_ argTypes type #[.slice base sLen cap, x]).run P w = .ok (.slice base (sLen + n) cap) w' := by
  have hz : (match du with | .int _ => true | _ => false) = false := by cases du <;> first | rfl | exact (hnu _ rfl).elim
  cases base with
  | none =>
    simp only at hst
    have hw : w = w' := by simpa using hst
    subst hw
    simp [Builtin.append_, hty, hu, run_underlying hd, run_underlying hdu, run_sizeOf hinf, hn, hroom, hnew]
  | some a =>
    simp only at hst
    simp [Builtin.append_, hty, hu, run_underlying hd, run_underlying hdu, run_sizeOf hinf, hn, hroom, hnew, hst]

/-- What an append that grows comes to. -/
theorem run_append_grow {P : Program} {w : World} {argTypes : Array TypeId} {type : TypeId} {ty u e : TypeId} {du : TypeDesc} (hty : argTypes[0]? = some ty) (hu : argTypes[1]? = some u) (hd : P.underlying ty = some (.slice e)) (hdu : P.underlying u = some du) (hnu : ∀ k, du ≠ .int k)
    {inf : TypeInfo} (hinf : P.info? e = some inf) {z : Value} (hz0 : inf.zero = some z) {base : Option Addr} {sLen cap n : Nat} {x : Value} (hn : (Builtin.lenOf x).run P w = .ok n w) {old new : List Value}
    (hold : (Builtin.firstCells inf.size sLen (.slice base sLen cap)).run P w.drew = .ok old.toArray w.drew) (hnew : (Builtin.firstCells inf.size n x).run P w.drew = .ok new.toArray w.drew)
    (hgrow : cap < sLen + n) (hb : (sLen + n) * inf.bytes ≤ 2 ^ 46) (hb0 : inf.bytes ≠ 0) (hmax : sLen + n < 2 ^ 62) :
    ∃ c, sLen + n ≤ c ∧ c < 2 ^ 63 ∧ (Builtin.append_ argTypes type #[.slice base sLen cap, x]).run P w =
      .ok (.slice (some ⟨w.heap.size, 0, none⟩) (sLen + n) c) (w.drew.alloc (.cells (old.toArray ++ new.toArray ++ Builtin.zeroCells z.cells (c - (sLen + n))) e (0, 0))) := by
  have hz : (match du with | .int _ => true | _ => false) = false := by cases du <;> first | rfl | exact (hnu _ rfl).elim
  refine ⟨(Question.appendCap (sLen + n) cap e).cut (w.tape w.drawn (.appendCap (sLen + n) cap e)), ?_, ?_, ?_⟩
  · simp only [Question.cut]; omega
  · simp only [Question.cut]
    have := Nat.mod_lt (w.tape w.drawn (.appendCap (sLen + n) cap e)) (show 0 < 2 ^ 63 - (sLen + n) by omega)
    omega
  · have h1 : ¬ sLen + n ≤ cap := by omega
    have h2 : ¬ (((sLen + n : Nat) : Int) > IntKind.i64.max ∧ (False ∨ inf.bytes = 0)) := by simp [hb0]
    have h3 : ¬ (Builtin.nextslicecap (sLen + n) cap * inf.bytes > 2 ^ 48) := by
      have h4 := nextslicecap_le hgrow
      have h5 : Builtin.nextslicecap (sLen + n) cap * inf.bytes ≤ 2 * (sLen + n) * inf.bytes := Nat.mul_le_mul_right _ h4
      rw [Nat.mul_assoc] at h5
      omega
    have hf : (Question.appendCap (sLen + n) cap e).forced = false := rfl
    have hzr : (zeroValue e).run P w.drew = .ok z w.drew := run_zeroValue hinf hz0
    simp [Builtin.append_, hty, hu, run_underlying hd, run_underlying hdu, run_sizeOf hinf, hn, h1, hb0, run_typeInfo hinf, h3, hf, hold, hnew, hzr, newRow]
    have e1 : (old ++ new).toArray = old.toArray ++ new.toArray := by simp
    rw [e1, Array.append_assoc]

theorem OR_grown {ρ : Ren} {k : Nat} {cs' : Array Value} {el : TypeId} {fz : Nat × Nat} {base : Nat} {m : Nat} {z : List Value} {t : Tr Value} (hbase : base + m ≤ cs'.size) (hcell : ∀ i v, i < m → cellOf z t i = some v → VR ρ v (cs'.getD (base + i) undef))
    (hfz : ∀ o, o < cs'.size → ¬ (fz.1 ≤ o ∧ o < fz.2)) : OR ρ ⟨k, base, cs'.size⟩ (.cells m z t .grow) (.cells cs' el fz) :=
  ⟨rfl, hbase, hcell, fun _ => hfz, fun h => by cases h⟩

theorem cellOf_list {cs : List Value} {i : Nat} {v : Value} (hi : i < cs.length) (hv : cellOf [] (Tr.ofList cs 0 .leaf) i = some v) : cs[i]? = some v := by
  unfold cellOf at hv
  rw [Tr.get_ofList] at hv
  simp only [Nat.zero_le, true_and, Nat.zero_add, hi, if_true, Nat.sub_zero] at hv
  split at hv
  · rename_i u hu; rw [← hv]; exact hu
  · rename_i hu; simp [hi] at hu

theorem VRl.getD {ρ : Ren} {cs cs' : List Value} (h : VRl ρ cs cs') {i : Nat} {v : Value} (hi : cs[i]? = some v) : VR ρ v (cs'.getD i undef) := by
  have hl : i < cs.length := (List.getElem?_eq_some_iff.1 hi).1
  have := h.2 i hl
  simpa [List.getD_eq_getElem?_getD, hi] using this

theorem loads_get {σ : Sto} {b : Nat} : ∀ {n o : Nat} {vs : List Value}, σ.loads b o n = some vs → ∀ {i : Nat}, i < n → ∀ {v : Value}, σ.load b (o + i) = some v → vs[i]? = some v := by
  intro n
  induction n with
  | zero => intro o vs _ i hi; omega
  | succ n ih =>
    intro o vs h i hi v hv
    simp only [Sto.loads, opt_bind] at h
    obtain ⟨u, h1, us, h2, h3⟩ := h
    cases h3
    cases i with
    | zero => rw [Nat.add_zero, h1] at hv; simpa using hv
    | succ i => simpa using ih h2 (by omega) (by rw [show o + 1 + i = o + (i + 1) by omega]; exact hv)

theorem runAppend_sound {P : Program} {tab : Tab} (hT : TabOK P tab) {ρ : Ren} {σ σ' : Sto} {w : World} (hs : Sim ρ σ w) {argTypes : Array TypeId} {type : TypeId} {ty u e : TypeId} {du : TypeDesc} (hty : argTypes[0]? = some ty) (hu : argTypes[1]? = some u) (hd : P.underlying ty = some (.slice e)) (hdu : P.underlying u = some du) (hnu : ∀ k, du ≠ .int k)
    {j : ATy} (hj : tab.get e = some j) {z : Value} (hz : j.zero = some z) (hzl : z.cells.size = j.size) {s s' x x' v : Value} (hsv : VR ρ s s') (hxv : VR ρ x x') (h : runAppend σ j.size j.bytes s x = some (v, σ')) :
    EffV P ρ σ w (Builtin.append_ argTypes type #[s', x']) v σ' := by
  obtain ⟨inf, hinf, hsz, hby, hzz, _⟩ := hT.info _ _ hj
  have hz0 : inf.zero = some z := hzz.trans hz
  unfold runAppend at h
  split at h
  · cases h
  · rename_i n hn
    split at h
    · cases h
    · rename_i new hnew
      have hlen : ∀ w, (Builtin.lenOf x').run P w = .ok n w := fun w => lenV_sound hxv hn
      obtain ⟨new', hnv, hnr⟩ := elemsOf_sound (P := P) hs hxv hnew
      obtain ⟨new2, hnv2, hnr2⟩ := elemsOf_sound (P := P) hs.drew hxv hnew
      split at h
      · rename_i base sLen cap
        split at h
        · cases h
        · rename_i hc
          simp only [not_or, gt_iff_lt, Nat.not_lt, ge_iff_le, Nat.not_le] at hc
          obtain ⟨hc1, hc2, hc3, hc4, hc5, hc6⟩ := hc
          simp only [ne_eq, Decidable.not_not] at hc6
          have hagg : ∀ y ∈ new, Sto.isAggV y = false := by
            intro y hy
            cases hq : Sto.isAggV y with
            | false => rfl
            | true => exact (hc5 (List.any_eq_true.2 ⟨y, hy, hq⟩)).elim
          -- growth, in the model
          have grow : ∀ (cbase : Option Addr) (ccap : Nat) (old old' : List Value), s' = .slice cbase sLen ccap → ccap < sLen + n → VRl ρ old old' → old.length = sLen * j.size →
              (Builtin.firstCells inf.size sLen s').run P w.drew = .ok old'.toArray w.drew →
              ∀ (m' : Nat) (zz' : List Value) (t' : Tr Value), m' = (sLen + n) * j.size → (∀ i v, i < m' → cellOf zz' t' i = some v → (old ++ new)[i]? = some v) →
              EffV P ρ σ w (Builtin.append_ argTypes type #[s', x']) (.slice (some ⟨σ.next, 0, none⟩) (sLen + n) (CAPX + j.size)) { next := σ.next + 1, objs := σ.objs.set σ.next (.cells m' zz' t' .grow) } := by
            intro cbase ccap old old' hs' hgrow hov hol hold m' zz' t' hm' hcell
            subst hs'
            rw [← hsz] at hnr2
            obtain ⟨c, hc7, hc8, hrun⟩ := run_append_grow (P := P) (w := w) (type := type) hty hu hd hdu hnu hinf hz0 (hlen w) hold hnr2 hgrow (by rw [hby]; exact hc1) (by rw [hby]; exact hc4) hc2
            have hol' : old'.length = sLen * j.size := by rw [← hov.1, hol]
            have hnl' : new2.length = n * j.size := by rw [← hnv2.1, hc6]
            have hzc : (Builtin.zeroCells z.cells (c - (sLen + n))).size = (c - (sLen + n)) * j.size := by simp [Builtin.zeroCells, hzl]
            have htot : (old'.toArray ++ new2.toArray ++ Builtin.zeroCells z.cells (c - (sLen + n))).size = c * j.size := by
              simp only [Array.size_append, List.size_toArray, hol', hnl', hzc]
              rw [← Nat.add_mul, ← Nat.add_mul]
              congr 1; omega
            have hor : ∀ ρ' : Ren, Sub ρ ρ' → OR ρ' ⟨w.drew.heap.size, 0, c * j.size⟩ (.cells m' zz' t' .grow) (.cells (old'.toArray ++ new2.toArray ++ Builtin.zeroCells z.cells (c - (sLen + n))) e (0, 0)) := by
              intro ρ' hsub
              rw [← htot]
              refine OR_grown ?_ ?_ (fun o _ h => by omega)
              · rw [htot, hm']
                have := Nat.mul_le_mul_right j.size hc7
                omega
              · intro i v hi hv
                have h1 := hcell i v hi hv
                have h2 := (VRl.append hov hnv2).getD h1
                have hlt : i < (old' ++ new2).length := by rw [← (VRl.append hov hnv2).1]; exact (List.getElem?_eq_some_iff.1 h1).1
                have : (old'.toArray ++ new2.toArray ++ Builtin.zeroCells z.cells (c - (sLen + n))).getD (0 + i) undef = (old' ++ new2).getD i undef := by
                  rw [Nat.zero_add, Array.getD_eq_getD_getElem?, Array.getElem?_append_left (by simpa using hlt), List.getD_eq_getElem?_getD]
                  simp
                rw [this]; exact h2.mono hsub
            obtain ⟨ρ', h5, h6, h7, h8⟩ := hs.drew.newObj hor
            refine ⟨_, _, ρ', hrun, ?_, h7, h8.drewl⟩
            have := VR.sliceX (ρ := ρ') σ.next 0 (sLen + n) c j.size _ h5 (by simp) hc7
            simpa using this
          split at h
          · split at h
            · cases h
            · rename_i hbc
              simp only [not_or, ne_eq, Decidable.not_not] at hbc
              obtain ⟨rfl, rfl⟩ := hbc
              cases hsv
              split at h
              · rename_i hn0
                cases h
                subst hn0
                have hnl : new' = [] := List.eq_nil_of_length_eq_zero (by rw [← hnv.1, hc6]; simp)
                subst hnl
                rw [← hsz] at hnr
                exact ⟨_, w, ρ, run_append_room (P := P) (type := type) hty hu hd hdu hnu hinf (hlen w) hnr (by omega) (by simp), .nilslice _ _, hs, Ev.refl _ _ _⟩
              · rename_i hn0
                cases h
                exact grow none 0 [] [] rfl (by omega) .nil (by simp) (by simp [Builtin.firstCells]) _ _ _ (by rw [hc6]; simp) (fun i v hi hv => by simpa using cellOf_list hi hv)
          · rename_i b o
            split at h
            · rename_i hcap
              cases hsv with
              | sliceX _ _ _ _ _ lc hl hx hnc => omega
              | slice _ _ _ _ lc hl _ =>
                split at h
                · rename_i hroom
                  split at h
                  · rename_i σ1 h1
                    cases h
                    obtain ⟨w', h2, h3, h4⟩ := Sim.stores (P := P) hl new new' (o + sLen * j.size) 0 (o + sLen * j.size) σ σ' w (by omega) hs h1 hnv
                    rw [← hsz] at hnr
                    refine ⟨_, w', ρ, run_append_room (P := P) (type := type) hty hu hd hdu hnu hinf (hlen w) hnr hroom ?_, .slice b o _ _ lc hl hcap, h3, h4⟩
                    simp only [addr_add, hsz]
                    rw [Nat.add_assoc]; exact h2
                  · cases h
                · rename_i hroom
                  split at h
                  · rename_i old hold
                    cases h
                    obtain ⟨old', ho1, ho2⟩ := hs.drew.run_loads (P := P) hold hl
                    have hol : old.length = sLen * j.size := by
                      obtain ⟨q, hq1, hq2, _⟩ := hs.loads hl _ _ _ hold
                      rw [hq1.1, hq2]
                    exact grow _ _ old old' rfl (by omega) ho1 hol (by simp [Builtin.firstCells, hsz, ho2]) _ _ _ (by rw [List.length_append, hol, hc6, Nat.add_mul]) (fun i v hi hv => cellOf_list hi hv)
                  · cases h
            · rename_i hcap
              split at h
              · rename_i hcx
                split at h
                · rename_i m zz t hobj
                  cases hsv with
                  | slice _ _ _ _ lc hl hcc => omega
                  | sliceX _ _ _ c sz lc hl hx hnc =>
                    obtain rfl : sz = j.size := by omega
                    obtain ⟨cs, el, fz, hh, hcs, hbm, hcv, hfz0, _⟩ := hs.block hobj hl
                    have hfz := hfz0 (by simp)
                    have hjpos : 0 < j.size := Nat.pos_of_ne_zero hc3
                    split at h
                    · rename_i hlog
                      have hroom : sLen + n ≤ c := by
                        have : (sLen + n) * j.size ≤ c * j.size := by omega
                        exact Nat.le_of_mul_le_mul_right this hjpos
                      split at h
                      · rename_i σ1 h1
                        cases h
                        obtain ⟨w', h2, h3, h4⟩ := Sim.stores (P := P) hl new new' (o + sLen * j.size) 0 (o + sLen * j.size) σ σ' w (by omega) hs h1 hnv
                        rw [← hsz] at hnr
                        refine ⟨_, w', ρ, run_append_room (P := P) (type := type) hty hu hd hdu hnu hinf (hlen w) hnr hroom ?_, .sliceX b o _ _ _ lc hl hx hroom, h3, h4⟩
                        simp only [addr_add, hsz]
                        rw [Nat.add_assoc]; exact h2
                      · cases h
                    · rename_i hlog
                      split at h
                      · cases h
                      · rename_i old hold
                        have hol : old.length = sLen * j.size := by
                          obtain ⟨q, hq1, hq2, _⟩ := hs.loads hl _ _ _ hold
                          rw [hq1.1, hq2]
                        -- the two forms of the block that goes on
                        have both : ∀ (oo : AObj), σ' = { next := σ.next + 1, objs := (σ.objs.set σ.next oo).upd b none } → v = .slice (some ⟨σ.next, 0, none⟩) (sLen + n) (CAPX + j.size) →
                            (∃ m' zz' t', oo = .cells m' zz' t' .grow ∧ m' = (sLen + n) * j.size ∧ ∀ i v, i < m' → cellOf zz' t' i = some v → (old ++ new)[i]? = some v) →
                            EffV P ρ σ w (Builtin.append_ argTypes type #[.slice (some ⟨lc.blk, lc.base + o, none⟩) sLen c, x']) v σ' := by
                          intro oo hσ hv hoo
                          subst hσ; subst hv
                          obtain ⟨m', zz', t', rfl, hm', hcell⟩ := hoo
                          by_cases hroom : sLen + n ≤ c
                          · -- in place
                            obtain ⟨old', ho1, ho2, ho3⟩ := hs.loads hl _ _ _ hold
                            have hle : lc.base + o + sLen * j.size + 0 + new'.length ≤ cs.size := by
                              rw [← hnv.1, hc6, hcs, ← hx]
                              have : (sLen + n) * j.size ≤ c * j.size := Nat.mul_le_mul_right _ hroom
                              rw [Nat.add_mul] at this
                              omega
                            obtain ⟨w', cs', h1, h2, h3, h4, h5, h6, h7⟩ := run_storeCells_raw (P := P) (lc.base + o + sLen * j.size) new' 0 cs w hh hle (by rw [hcs]; exact hfz) (by
                              intro y hy
                              obtain ⟨q, hq⟩ := List.getElem?_of_mem hy
                              have hql : q < new.length := by rw [hnv.1]; exact (List.getElem?_eq_some_iff.1 hq).1
                              have := hnv.2 q hql
                              simp only [List.getD_eq_getElem?_getD, hq, Option.getD_some, List.getElem?_eq_getElem hql] at this
                              rw [this.isAgg]; exact hagg _ (List.getElem_mem hql))
                            have hmove := hs.move (w' := w') (o' := .cells m' zz' t' .grow) (l' := ⟨lc.blk, lc.base + o, lc.tot⟩) (obj' := .cells cs' el fz) hobj rfl hl rfl h2 (fun ρ' hsub => by
                              have hbase : lc.base + o + m' ≤ cs'.size := by
                                rw [h6, hcs, ← hx, hm']
                                have : (sLen + n) * j.size ≤ c * j.size := Nat.mul_le_mul_right _ hroom
                                omega
                              have htt : lc.tot = cs'.size := by rw [h6, hcs]
                              rw [htt]
                              refine OR_grown hbase ?_ (by rw [h6, hcs]; exact hfz)
                              intro i v hi hv
                              have h8 := hcell i v hi hv
                              rw [h7]
                              by_cases hlt : i < old.length
                              · rw [List.getElem?_append_left hlt] at h8
                                rw [if_neg (by rw [hol] at hlt; omega)]
                                obtain ⟨q, hq1, hq2⟩ := ho1.get h8
                                have := ho3 i q hq1
                                have hcell2 : cs.getD (lc.base + o + i) undef = q := by
                                  simp only [World.cell?, hh] at this
                                  simp at this
                                  rw [Array.getD_eq_getD_getElem?, this]; rfl
                                rw [hcell2]; exact hq2.mono hsub
                              · rw [List.getElem?_append_right (by omega)] at h8
                                rw [hm', Nat.add_mul] at hi
                                have hnl := hnv.1
                                rw [if_pos (by rw [hol] at hlt; omega)]
                                rw [show lc.base + o + i - (lc.base + o + sLen * j.size + 0) = i - old.length by omega]
                                exact (hnv.getD h8).mono hsub) h3 h4 h5
                            rw [← hsz] at hnr
                            refine ⟨_, w', _, run_append_room (P := P) (type := type) hty hu hd hdu hnu hinf (hlen w) hnr hroom ?_, ?_, hmove.1, hmove.2⟩
                            · simp only [addr_add, hsz]; exact h1
                            · have := VR.sliceX (ρ := extend ρ σ.next ⟨lc.blk, lc.base + o, lc.tot⟩) σ.next 0 (sLen + n) c j.size _ (extend_self _ _ _) (by simpa using hx) hroom
                              simpa using this
                          · -- grown
                            obtain ⟨old', ho1, ho2⟩ := hs.drew.run_loads (P := P) hold hl
                            obtain ⟨cv, w', ρ', h1, h2, h3, h4⟩ := grow _ c old old' rfl (by omega) ho1 hol (by simp [Builtin.firstCells, hsz, ho2]) m' zz' t' hm' hcell
                            obtain ⟨h5, h6⟩ := h3.forget b
                            exact ⟨cv, w', ρ', h1, h2, h5, h4.trans h6⟩
                        split at h
                        · rename_i hwhole
                          obtain ⟨ho, hm⟩ := hwhole
                          cases h
                          rw [hcx] at *
                          refine both _ rfl rfl ⟨_, _, _, rfl, rfl, fun i v hi hv => ?_⟩
                          unfold cellOf at hv
                          rw [Tr.get_ofList] at hv
                          by_cases hlt : i < sLen * j.size
                          · rw [if_neg (by omega)] at hv
                            rw [List.getElem?_append_left (by rw [hol]; exact hlt)]
                            exact loads_get hold hlt (by
                              unfold Sto.load
                              rw [hobj]
                              simp only []
                              rw [if_pos (by omega)]
                              rw [ho, Nat.zero_add]
                              exact hv)
                          · rw [if_pos (by rw [hc6, ← Nat.add_mul]; omega)] at hv
                            rw [List.getElem?_append_right (by omega), hol]
                            have hlt2 : i - sLen * j.size < new.length := by rw [hc6]; rw [Nat.add_mul] at hi; omega
                            rw [List.getElem?_eq_getElem hlt2] at hv ⊢
                            simpa using hv
                        · cases h
                          rw [hcx] at *
                          exact both _ rfl rfl ⟨_, _, _, rfl, by rw [List.length_append, hol, hc6, Nat.add_mul], fun i v hi hv => cellOf_list hi hv⟩
                · cases h
              · cases h
          · cases h
      · cases h

end Go.AM
