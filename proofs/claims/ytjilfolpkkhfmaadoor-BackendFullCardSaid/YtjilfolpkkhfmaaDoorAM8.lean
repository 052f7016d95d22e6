/- Keys of maps, and what reads memory. -/
import Derived.Test.YtjilfolpkkhfmaaDoorAM7
namespace Go.AM

theorem run_load_cell {P : Program} {w : World} {a : Addr} {v : Value} (h : w.cell? a = some v) : (load a).run P w = .ok v w := by simp [h]

theorem bytes_eq_of_toList {a b : ByteArray} (h : (a.toList == b.toList) = true) : a = b := by
  have h1 : a.toList = b.toList := eq_of_beq h
  rw [ByteArray.toList_eq, ByteArray.toList_eq] at h1
  cases a; cases b
  simp only [ByteArray.mk.injEq]
  exact Array.ext' h1

theorem bytes_beq_self (a : ByteArray) : (a == a) = true := by rw [beq_toListBytes]; exact BEq.rfl

theorem eqLK_true {k : LK} {a c : Value} (h : eqLK k a c = some true) : a = c := by
  cases k <;> cases a <;> simp [eqLK] at h <;> cases c <;> simp [] at h
  · rw [h]
  · rw [h.1, h.2]
  · rename_i x y; rw [bytes_eq_of_toList (a := x) (b := y) (by simpa using h)]

theorem eqLKs_true : ∀ (ks : List LK) (xs ys : List Value), eqLKs ks xs ys = some true → xs = ys := by
  intro ks
  induction ks with
  | nil => intro xs ys h; cases xs <;> cases ys <;> simp [eqLKs] at h; rfl
  | cons k ks ih =>
    intro xs ys h
    cases xs with
    | nil => simp [eqLKs] at h
    | cons x xs =>
      cases ys with
      | nil => simp [eqLKs] at h
      | cons y ys =>
        simp only [eqLKs] at h
        split at h
        · rename_i b1 b2 e1 e2
          simp only [Option.some.injEq, Bool.and_eq_true] at h
          rw [h.1] at e1; rw [h.2] at e2
          rw [eqLK_true e1, ih _ _ e2]
        · cases h

theorem eqFlat_true {ks : List LK} {a c : Value} (h : eqFlat ks a c = some true) : a = c := by
  cases a <;> cases c <;> simp only [eqFlat] at h <;> first
    | (split at h
       · exact eqLK_true h
       · cases h)
    | (rw [Array.ext' (eqLKs_true _ _ _ h)])

theorem sameBits_self {ks : List LK} {a : Value} {n : Nat} (hn : 1 < n) (h : eqFlat ks a a = some true) : Instr.sameBits n a a = true := by
  obtain ⟨n, rfl⟩ : ∃ m, n = m + 1 + 1 := ⟨n - 2, by omega⟩
  have prim : ∀ (k : LK) (x : Value) (m : Nat), eqLK k x x = some true → Instr.sameBits m x x = true := by
    intro k x m hx
    cases k <;> cases x <;> simp [eqLK] at hx <;> cases m <;> simp [Instr.sameBits, bytes_beq_self]
  cases a <;> simp only [eqFlat] at h <;> first
    | (split at h
       · exact prim _ _ _ h
       · cases h)
    | (rename_i xs
       simp only [Instr.sameBits, BEq.rfl, Bool.true_and, List.all_eq_true]
       have key : ∀ (l : List Value) (ks : List LK), eqLKs ks l l = some true → ∀ p ∈ l.zip l, Instr.sameBits (n + 1) p.1 p.2 = true := by
         intro l
         induction l with
         | nil => intro ks h p hp; simp at hp
         | cons x l ih =>
           intro ks h p hp
           cases ks with
           | nil => simp [eqLKs] at h
           | cons k ks =>
             simp only [eqLKs] at h
             split at h
             · rename_i b1 b2 e1 e2
               simp only [Option.some.injEq, Bool.and_eq_true] at h
               rw [h.1] at e1; rw [h.2] at e2
               simp only [List.zip_cons_cons, List.mem_cons] at hp
               cases hp with
               | inl hp => subst hp; exact prim _ _ _ e1
               | inr hp => exact ih _ e2 p hp
             · cases h
       intro p hp
       exact key _ _ h p hp)

theorem sameNow_flat {kd : TypeDesc} {ks : List LK} {a c : Value} {b b' : Bool} (h : eqFlat ks a c = some b) (h' : Instr.sameNow kd a c = some b') : b' = b := by
  cases kd <;> cases a <;> simp [Instr.sameNow] at h' <;> cases c <;> simp [] at h' <;> simp only [eqFlat] at h <;> split at h <;>
    first
    | (cases h; done)
    | (rename_i k; cases k <;> simp [eqLK] at h
       all_goals first
         | (rw [← h, ← h']; done)
         | (rw [← h.2, ← h'.2]; done)
         | (rw [← h, ← h', beq_toListBytes]; done))

/-- What the model's search comes to. -/
def foundR (es' : List MapEntry) (j : Nat) (r : Option (Nat × MapEntry)) : Option (Nat × Value) :=
  r.map fun x => (x.1, ((es'[x.1 - j]?).map (·.val)).getD undef)

theorem findE_sound {P : Program} {tab : Tab} (hT : TabOK P tab) {ρ : Ren} {w : World} {kt : TypeId} {ks : List LK} (hks : leafs P tab 20 kt = some ks) {k k' : Value} (hk : VR ρ k k') (hka : ∀ i, tab.get kt = some i → isAggT i.desc = isAggB k) :
    ∀ (es es' : List MapEntry) (j : Nat) (r : Option (Nat × MapEntry)), findE ks k es j = some r → ERl ρ es es' →
      (Instr.findAsking kt k' es' j).run P w = .ok (foundR es' j r) w ∧
      (∀ kd q, Instr.findNow kd k' es' j = some q → q = foundR es' j r) ∧
      (∀ n e, r = some (n, e) → j ≤ n ∧ es[n - j]? = some e ∧ k' = k ∧ ∃ e', es'[n - j]? = some e' ∧ ER ρ e e' ∧ e'.key = k' ∧ Instr.sameBits 10000 k' k' = true) := by
  intro es
  induction es with
  | nil =>
    intro es' j r h he
    simp only [findE, Option.some.injEq] at h; subst h
    have : es' = [] := List.eq_nil_of_length_eq_zero (by rw [← he.1]; rfl)
    subst this
    refine ⟨rfl, ?_, fun n e h => by cases h⟩
    intro kd q hq
    simpa [Instr.findNow, foundR] using hq.symm
  | cons e es ih =>
    intro es' j r h he
    obtain ⟨e', es2, rfl⟩ : ∃ e' es2, es' = e' :: es2 := by
      cases es' with
      | nil => simp [ERl] at he
      | cons e' es2 => exact ⟨e', es2, rfl⟩
    have he0 : ER ρ e e' := by
      obtain ⟨x, h1, h2⟩ := he.2 0 e rfl
      simp at h1; subst h1; exact h2
    have he2 : ERl ρ es es2 := ⟨by simpa using he.1, fun i x hx => by simpa using he.2 (i + 1) x (by simpa using hx)⟩
    simp only [findE] at h
    split at h
    · rename_i hq
      cases h
      obtain ⟨hk1, hk2⟩ := eqFlat_same hq hk he0.1
      have hrun := equalIn_flat hT 20 kt ks hks 10000 (by omega) w k e.key true hq hka
      have hke := eqFlat_true hq
      refine ⟨?_, ?_, ?_⟩
      · simp only [Instr.findAsking, Sem.run_bind, Op.equal, Op.maxDepth]
        rw [hk1, hk2, hrun]
        simp [foundR]
      · intro kd q hq2
        simp only [Instr.findNow] at hq2
        split at hq2
        · simp only [Option.some.injEq] at hq2; subst hq2; simp [foundR]
        · rename_i hs
          rw [hk1, hk2] at hs
          have := sameNow_flat hq hs
          cases this
        · cases hq2
      · intro n x hx
        simp only [Option.some.injEq, Prod.mk.injEq] at hx
        obtain ⟨rfl, rfl⟩ := hx
        refine ⟨Nat.le_refl _, by simp, hk1, e', by simp, he0, by rw [hk1, hk2, hke], ?_⟩
        rw [hk1]
        rw [← hke] at hq
        exact sameBits_self (by omega) hq
    · rename_i hq
      obtain ⟨hk1, hk2⟩ := eqFlat_same hq hk he0.1
      have hrun := equalIn_flat hT 20 kt ks hks 10000 (by omega) w k e.key false hq hka
      obtain ⟨h1, h2, h3⟩ := ih es2 (j + 1) r h he2
      have hfound : foundR (e' :: es2) j r = foundR es2 (j + 1) r := by
        cases r with
        | none => rfl
        | some x =>
          obtain ⟨n, y⟩ := x
          have := (h3 n y rfl).1
          simp only [foundR, Option.map_some]
          rw [show n - j = (n - (j + 1)) + 1 by omega]
          simp
      refine ⟨?_, ?_, ?_⟩
      · simp only [Instr.findAsking, Sem.run_bind, Op.equal, Op.maxDepth]
        rw [hk1, hk2, hrun, hfound]
        simp only [Result.andThen_ok, Bool.false_eq_true, if_false]
        rw [← hk1]; exact h1
      · intro kd q hq2
        simp only [Instr.findNow] at hq2
        split at hq2
        · rename_i hs
          rw [hk1, hk2] at hs
          have := sameNow_flat hq hs
          cases this
        · rw [hfound]; exact h2 kd q hq2
        · cases hq2
      · intro n x hx
        obtain ⟨h4, h5, h6, x', h7, h8⟩ := h3 n x hx
        refine ⟨by omega, ?_, h6, x', ?_, h8⟩
        · rw [show n - j = (n - (j + 1)) + 1 by omega]; simpa using h5
        · rw [show n - j = (n - (j + 1)) + 1 by omega]; simpa using h7
    · cases h

theorem findKey_sound0 {P : Program} {tab : Tab} (hT : TabOK P tab) {ρ : Ren} {w : World} {kt : TypeId} {ks : List LK} (hks : leafs P tab 20 kt = some ks) {k k' : Value} (hk : VR ρ k k') (hka : ∀ i, tab.get kt = some i → isAggT i.desc = isAggB k)
    {es es' : List MapEntry} {r : Option (Nat × MapEntry)} (h : findE ks k es 0 = some r) (he : ERl ρ es es') :
    (Instr.findKey kt k' es').run P w = .ok (foundR es' 0 r) w ∧
    (∀ n e, r = some (n, e) → es[n]? = some e ∧ k' = k ∧ ∃ e', es'[n]? = some e' ∧ ER ρ e e' ∧ e'.key = k' ∧ Instr.sameBits 10000 k' k' = true) := by
  obtain ⟨h1, h2, h3⟩ := findE_sound hT (w := w) hks hk hka es es' 0 r h he
  obtain ⟨i, hi, _⟩ := leafs_size hks
  refine ⟨?_, fun n e hne => by simpa using (h3 n e hne).2⟩
  simp only [Instr.findKey, Sem.run_bind, run_underlying (hT.desc _ _ hi), Result.andThen_ok]
  cases hn : Instr.findNow i.desc k' es' 0 with
  | none => exact h1
  | some q => rw [h2 _ _ hn]; rfl

theorem partV_agg {P : Program} {tab : Tab} {d : Nat} {t : TypeId} {ks : List LK} {j : ATy} (hj : tab.get t = some j) (h : leafs P tab d t = some ks) {xs ys : List Value} {b : Bool} (hb : eqLKs ks xs ys = some b) :
    isAggT j.desc = isAggB (partV (isAggT j.desc) xs) := by
  unfold partV
  cases ha : isAggT j.desc
  · simp only [Bool.false_eq_true, if_false]
    have hl1 := leafs_single h hj ha
    obtain ⟨x, rfl⟩ : ∃ x, xs = [x] := List.length_eq_one_iff.1 (by rw [(eqLKs_length _ _ _ _ hb).1, hl1])
    obtain ⟨y, rfl⟩ : ∃ y, ys = [y] := List.length_eq_one_iff.1 (by rw [(eqLKs_length _ _ _ _ hb).2, hl1])
    obtain ⟨kk, rfl⟩ : ∃ kk, ks = [kk] := List.length_eq_one_iff.1 hl1
    simp only [eqLKs] at hb
    simp only [List.getD_cons_zero]
    cases kk <;> cases x <;> simp [eqLK, isAggB] at hb ⊢
  · simp [isAggB]

theorem checkKey_flat {P : Program} {tab : Tab} (hT : TabOK P tab) (emp : Bool) : ∀ (d : Nat) (t : TypeId) (ks : List LK), leafs P tab d t = some ks → ∀ (D : Nat), d ≤ D → ∀ (w : World) (x : Value) (b : Bool), eqFlat ks x x = some b →
    (∀ i, tab.get t = some i → isAggT i.desc = isAggB x) → (Instr.checkKey emp D t x).run P w = .ok () w := by
  intro d
  induction d with
  | zero => intro t ks h; simp [leafs] at h
  | succ d ih =>
    intro t ks h D hD w x b hb hx
    obtain ⟨D, rfl⟩ : ∃ n, D = n + 1 := ⟨D - 1, by omega⟩
    have hDd : d ≤ D := by omega
    obtain ⟨i, hi, hlen⟩ := leafs_size h
    have hd := hT.desc _ _ hi
    have hxa := hx i hi
    simp only [leafs, hi] at h
    cases hdd : i.desc <;> simp only [hdd] at h hd hxa <;> try (simp at h; done)
    case struct fs =>
      cases x <;> simp only [isAggT, isAggB] at hxa <;> try (cases hxa; done)
      rename_i xs
      simp only [Instr.checkKey, Sem.run_bind, run_underlying hd, Result.andThen_ok]
      rw [← Array.forIn_toList]
      simp only [eqFlat] at hb
      split at h
      · rename_i ks' hks
        split at h <;> cases h
        split at hks
        · cases hks
        · have key : ∀ (l : List Field) (off : Nat) (r : List LK), leafsF (leafs P tab d) l off = some r → ∀ (b : Bool), eqLKs r (xs.toList.drop off) (xs.toList.drop off) = some b → off + r.length = xs.size →
              ((forIn l PUnit.unit fun f __s =>
                if f.name ≠ "_" then do
                  let __do_lift ← part f.type xs f.offset
                  Instr.checkKey emp D f.type __do_lift
                  pure (ForInStep.yield PUnit.unit)
                else pure (ForInStep.yield PUnit.unit)) : Sem PUnit).run P w = .ok PUnit.unit w := by
            intro l
            induction l with
            | nil => intro off r hr b hb h1; simp
            | cons f l ihl =>
              intro off r hr b hb h1
              simp only [leafsF] at hr
              split at hr
              · cases hr
              · rename_i hne
                simp only [not_or, Decidable.not_not] at hne
                obtain ⟨hname, hoff⟩ := hne
                split at hr
                · cases hr
                · rename_i k1 hk1
                  split at hr
                  · cases hr
                  · rename_i k2 hk2
                    cases hr
                    obtain ⟨b1, b2, h3, h4, h5⟩ := eqLKs_append k1 k2 _ _ b hb
                    obtain ⟨j, hj, hjl⟩ := leafs_size hk1
                    rw [List.drop_drop] at h4
                    simp only [List.length_append] at h1
                    have hrest := ihl (off + k1.length) k2 hk2 b2 h4 (by omega)
                    have p1 := run_part hT (w := w) hj (xs := xs) (off := off) (n := k1.length) hjl (by omega) (fun ha => leafs_single hk1 hj ha)
                    have heq := eqFlat_part hj hk1 h3
                    have hrun := ih f.type k1 hk1 D hDd w _ b1 heq (fun i' hi' => by
                      rw [hj] at hi'; cases hi'
                      exact partV_agg hj hk1 h3)
                    subst hoff
                    rw [List.forIn_cons]
                    simp only [hname, ne_eq, not_false_eq_true, if_true, Sem.run_bind, p1, Result.andThen_ok, hrun, Sem.run_pure]
                    exact hrest
          obtain ⟨hl1, _⟩ := eqLKs_length _ _ _ _ hb
          rw [key fs.toList 0 ks hks b (by simpa using hb) (by simpa using hl1.symm)]
          simp
      · cases h
    case array n e =>
      cases x <;> simp only [isAggT, isAggB] at hxa <;> try (cases hxa; done)
      rename_i xs
      simp only [Instr.checkKey, Sem.run_bind, run_underlying hd, Result.andThen_ok]
      simp only [eqFlat] at hb
      split at h
      · rename_i ks' hks
        split at h <;> cases h
        split at hks
        · rename_i ke hke
          cases hks
          obtain ⟨j, hj, hjl⟩ := leafs_size hke
          obtain ⟨inf, hinf, hs, _⟩ := hT.info _ _ hj
          have key : ∀ (m k : Nat), k + m = n → ∀ (b : Bool), eqLKs (List.replicate m ke).flatten (xs.toList.drop (k * ke.length)) (xs.toList.drop (k * ke.length)) = some b →
              ((forIn (List.range' k m) PUnit.unit fun i __s => do
                let __do_lift ← sizeOf e
                let __do_lift ← part e xs (i * __do_lift)
                Instr.checkKey emp D e __do_lift
                pure (ForInStep.yield PUnit.unit)) : Sem PUnit).run P w = .ok PUnit.unit w := by
            intro m
            induction m with
            | zero => intro k hk b hb; simp
            | succ m ihm =>
              intro k hk b hb
              rw [List.replicate_succ, List.flatten_cons] at hb
              obtain ⟨b1, b2, h3, h4, h5⟩ := eqLKs_append ke _ _ _ b hb
              rw [List.drop_drop, show k * ke.length + ke.length = (k + 1) * ke.length by rw [Nat.add_mul, Nat.one_mul]] at h4
              have hrest := ihm (k + 1) (by omega) b2 h4
              have hsz1 := (eqLKs_length _ _ _ _ hb).1
              simp only [List.length_append, List.length_drop, Array.length_toList] at hsz1
              have hle1 : k * ke.length + ke.length ≤ xs.size := by
                by_cases h0 : ke.length = 0
                · simp [h0]
                · omega
              have p1 := run_part hT (w := w) hj (xs := xs) (off := k * ke.length) (n := ke.length) hjl hle1 (fun ha => leafs_single hke hj ha)
              have heq := eqFlat_part hj hke h3
              have hrun := ih e ke hke D hDd w _ b1 heq (fun i' hi' => by
                rw [hj] at hi'; cases hi'
                exact partV_agg hj hke h3)
              rw [List.range'_succ, List.forIn_cons]
              simp only [Sem.run_bind, run_sizeOf hinf, Result.andThen_ok, hs, ← hjl, p1, hrun, Sem.run_pure]
              exact hrest
          rw [Std.Legacy.Range.forIn_eq_forIn_range']
          simp only [Std.Legacy.Range.size, Nat.sub_zero, Nat.add_sub_cancel, Nat.div_one]
          rw [key n 0 (by omega) b (by simpa using hb)]
          simp
        · cases hks
      · cases h
    all_goals
      cases x <;> simp only [isAggT, isAggB] at hxa <;> try (cases hxa; done)
      all_goals simp [Instr.checkKey, run_underlying hd]

/-- The search for a key, and what the model asks of it. -/
theorem find_sound {P : Program} {tab : Tab} (hT : TabOK P tab) {ρ : Ren} {w : World} {kt : TypeId} {ks : Bool × List LK} (hks : keyT P tab kt = some ks) {k k' : Value} (hk : VR ρ k k')
    {es es' : List MapEntry} {r : Option (Nat × MapEntry)} (h : find ks k es = some r) (he : ERl ρ es es') :
    (∀ emp, (Instr.checkKey emp 10000 kt k').run P w = .ok () w) ∧ k' = k ∧ (Instr.findKey kt k' es').run P w = .ok (foundR es' 0 r) w ∧
    (∀ n e, r = some (n, e) → es[n]? = some e ∧ ∃ e', es'[n]? = some e' ∧ ER ρ e e' ∧ e'.key = k' ∧ Instr.sameBits 10000 k' k' = true) := by
  unfold keyT at hks
  split at hks
  · cases hks
  · rename_i i hi
    split at hks
    · cases hks
    · rename_i ls hls
      cases hks
      unfold find at h
      split at h
      · rename_i hc
        obtain ⟨h1, h2⟩ := hc
        simp only at h1 h2 h
        obtain ⟨b, hb⟩ := Option.isSome_iff_exists.1 h2
        have hka : ∀ i', tab.get kt = some i' → isAggT i'.desc = isAggB k := fun i' hi' => by rw [hi] at hi'; cases hi'; exact h1.symm
        have hkk : k' = k := (eqFlat_same hb hk hk).1
        obtain ⟨h3, h4⟩ := findKey_sound0 hT (w := w) hls hk hka h he
        refine ⟨fun emp => ?_, hkk, h3, fun n e hne => ?_⟩
        · rw [hkk]; exact checkKey_flat hT emp 20 kt ls hls 10000 (by omega) w k b hb hka
        · obtain ⟨h5, _, h6⟩ := h4 n e hne
          exact ⟨h5, h6⟩
      · cases h

end Go.AM
