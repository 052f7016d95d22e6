/- Equality of plain values, and keys of maps. -/
import Derived.Test.YtjilfolpkkhfmaaDoorAM6
import Derived.Laws.StructEq
namespace Go.AM

theorem eqLKs_append : ∀ (k1 k2 : List LK) (xs ys : List Value) (b : Bool), eqLKs (k1 ++ k2) xs ys = some b →
    ∃ b1 b2, eqLKs k1 (xs.take k1.length) (ys.take k1.length) = some b1 ∧ eqLKs k2 (xs.drop k1.length) (ys.drop k1.length) = some b2 ∧ b = (b1 && b2) := by
  intro k1
  induction k1 with
  | nil => intro k2 xs ys b h; exact ⟨true, b, rfl, by simpa using h, by simp⟩
  | cons k k1 ih =>
    intro k2 xs ys b h
    cases xs with
    | nil => simp [eqLKs] at h
    | cons x xs =>
      cases ys with
      | nil => simp [eqLKs] at h
      | cons y ys =>
        simp only [List.cons_append, eqLKs] at h
        cases h1 : eqLK k x y with
        | none => simp [h1] at h
        | some b0 =>
          cases h2 : eqLKs (k1 ++ k2) xs ys with
          | none => simp [h1, h2] at h
          | some b' =>
            simp only [h1, h2, Option.some.injEq] at h
            obtain ⟨b1, b2, h3, h4, h5⟩ := ih k2 xs ys b' h2
            refine ⟨b0 && b1, b2, ?_, by simpa using h4, ?_⟩
            · simp [eqLKs, h1, h3]
            · rw [← h, h5, Bool.and_assoc]

theorem eqLKs_length : ∀ (ks : List LK) (xs ys : List Value) (b : Bool), eqLKs ks xs ys = some b → xs.length = ks.length ∧ ys.length = ks.length := by
  intro ks
  induction ks with
  | nil => intro xs ys b h; cases xs <;> cases ys <;> simp_all [eqLKs]
  | cons k ks ih =>
    intro xs ys b h
    cases xs with
    | nil => simp [eqLKs] at h
    | cons x xs =>
      cases ys with
      | nil => simp [eqLKs] at h
      | cons y ys =>
        simp only [eqLKs] at h
        cases h1 : eqLK k x y with
        | none => simp [h1] at h
        | some b0 =>
          cases h2 : eqLKs ks xs ys with
          | none => simp [h1, h2] at h
          | some b' => have := ih xs ys b' h2; simp [this.1, this.2]

/-- The value of a type among the cells of an aggregate. -/
def partV (agg : Bool) (xs : List Value) : Value := if agg then .agg xs.toArray else xs.getD 0 undef

theorem eqFlat_part {P : Program} {tab : Tab} {d : Nat} {t : TypeId} {ks : List LK} {i : ATy} (hi : tab.get t = some i) (h : leafs P tab d t = some ks) {xs ys : List Value} {b : Bool} (hb : eqLKs ks xs ys = some b) :
    eqFlat ks (partV (isAggT i.desc) xs) (partV (isAggT i.desc) ys) = some b := by
  cases d with
  | zero => simp [leafs] at h
  | succ d =>
    simp only [leafs, hi] at h
    unfold partV
    cases hd : i.desc <;> simp only [hd] at h <;> simp only [isAggT, if_true, Bool.false_eq_true, if_false] <;> try (simp at h; done)
    all_goals first
      | (simp only [eqFlat]; exact hb)
      | (split at h <;> cases h
         have hl := eqLKs_length _ _ _ _ hb
         obtain ⟨x, rfl⟩ : ∃ x, xs = [x] := List.length_eq_one_iff.1 hl.1
         obtain ⟨y, rfl⟩ : ∃ y, ys = [y] := List.length_eq_one_iff.1 hl.2
         simp only [List.getD_cons_zero]
         simp only [eqLKs] at hb
         split at hb
         · rename_i b0 b1 h1 h2
           simp only [Option.some.injEq] at h2 hb
           subst h2; subst hb
           simp only [Bool.and_true]
           cases x <;> simp [eqLK] at h1 <;> cases y <;> simp [] at h1 <;> simp [eqFlat, eqLK, h1]
         · cases hb)

theorem leafs_size {P : Program} {tab : Tab} {d : Nat} {t : TypeId} {ks : List LK} (h : leafs P tab d t = some ks) : ∃ i, tab.get t = some i ∧ ks.length = i.size := by
  cases d with
  | zero => simp [leafs] at h
  | succ d =>
    simp only [leafs] at h
    split at h
    · cases h
    · rename_i i hi
      refine ⟨i, hi, ?_⟩
      split at h
      · split at h
        · rename_i hl; cases h; exact hl
        · cases h
      · cases h

/-- A part of an aggregate, read. -/
theorem run_part {P : Program} {tab : Tab} (hT : TabOK P tab) {w : World} {t : TypeId} {i : ATy} (hi : tab.get t = some i) {xs : Array Value} {off : Nat} {n : Nat} (hn : n = i.size) (hlen : off + n ≤ xs.size) (h1 : isAggT i.desc = false → n = 1) :
    (part t xs off).run P w = .ok (partV (isAggT i.desc) ((xs.toList.drop off).take n)) w := by
  obtain ⟨inf, hinf, hs, _⟩ := hT.info _ _ hi
  cases ha : isAggT i.desc with
  | true =>
    simp only [part, Sem.run_bind, run_isAgg (hT.desc _ _ hi), ha, Result.andThen_ok, if_true, run_sizeOf hinf, partV, Sem.run_pure, hs, ← hn]
    congr 2
    apply Array.ext'
    simp [Array.toList_extract, List.extract_eq_take_drop]
  | false =>
    have h1 := h1 ha
    subst h1
    have : off < xs.size := by omega
    simp only [part, Sem.run_bind, run_isAgg (hT.desc _ _ hi), ha, Result.andThen_ok, Bool.false_eq_true, if_false, partV]
    have hx : xs[off]? = some xs[off] := by simp [this]
    rw [hx]
    simp only [Sem.run_pure]
    congr 1
    rw [List.getD_eq_getElem?_getD, List.getElem?_take, if_pos (by omega), List.getElem?_drop]
    simp [this]

theorem leafs_single {P : Program} {tab : Tab} {d : Nat} {t : TypeId} {ks : List LK} {i : ATy} (h : leafs P tab d t = some ks) (hi : tab.get t = some i) (ha : isAggT i.desc = false) : ks.length = 1 := by
  cases d with
  | zero => simp [leafs] at h
  | succ d =>
    simp only [leafs, hi] at h
    cases hd : i.desc <;> simp only [hd, isAggT] at ha h <;> try (simp at h; done)
    all_goals first
      | (cases ha; done)
      | (split at h <;> cases h; rfl)

theorem equalIn_flat {P : Program} {tab : Tab} (hT : TabOK P tab) : ∀ (d : Nat) (t : TypeId) (ks : List LK), leafs P tab d t = some ks → ∀ (D : Nat), d ≤ D → ∀ (w : World) (x y : Value) (b : Bool), eqFlat ks x y = some b →
    (∀ i, tab.get t = some i → isAggT i.desc = isAggB x) → (Op.equalIn D t x y).run P w = .ok b w := by
  intro d
  induction d with
  | zero => intro t ks h; simp [leafs] at h
  | succ d ih =>
    intro t ks h D hD w x y b hb hx
    obtain ⟨D, rfl⟩ : ∃ n, D = n + 1 := ⟨D - 1, by omega⟩
    have hDd : d ≤ D := by omega
    obtain ⟨i, hi, hlen⟩ := leafs_size h
    have hd := hT.desc _ _ hi
    have hxa := hx i hi
    have h0 := h
    simp only [leafs, hi] at h
    cases hdd : i.desc <;> simp only [hdd] at h hd hxa <;> try (simp at h; done)
    case bool =>
      split at h <;> cases h
      cases x <;> simp only [isAggT, isAggB] at hxa <;> try (cases hxa; done)
      all_goals (cases y <;> simp [eqFlat, eqLK] at hb)
      subst hb
      exact run_equalIn_bool' w D t _ _ hd
    case int k =>
      split at h <;> cases h
      cases x <;> simp only [isAggT, isAggB] at hxa <;> try (cases hxa; done)
      all_goals (cases y <;> simp [eqFlat, eqLK] at hb)
      obtain ⟨rfl, rfl⟩ := hb
      exact run_equalIn_int w D t _ k _ _ hd
    case string =>
      split at h <;> cases h
      cases x <;> simp only [isAggT, isAggB] at hxa <;> try (cases hxa; done)
      all_goals (cases y <;> simp [eqFlat, eqLK] at hb)
      subst hb
      exact run_equalIn_string w D t _ _ hd
    case struct fs =>
      cases x <;> simp only [isAggT, isAggB] at hxa <;> try (cases hxa; done)
      rename_i xs
      cases y <;> simp only [eqFlat] at hb <;> try (split at hb <;> (first | cases hb | (simp [eqLK] at hb)); done)
      rename_i ys
      split at h
      · rename_i ks' hks
        split at h <;> cases h
        split at hks
        · cases hks
        · rename_i hst
          rw [run_equalIn_struct w D t xs ys (by simp [Program.fieldsOf, hd]) (by simpa using hst)]
          have hfs : P.fieldsOf t = fs := by simp [Program.fieldsOf, hd]
          rw [hfs]
          -- the fields from a place on
          have key : ∀ (l : List Field) (off : Nat) (r : List LK), leafsF (leafs P tab d) l off = some r → ∀ (b : Bool), eqLKs r (xs.toList.drop off) (ys.toList.drop off) = some b → off + r.length = xs.size → off + r.length = ys.size →
              (Op.eqFields D xs ys l).run P w = .ok b w := by
            intro l
            induction l with
            | nil =>
              intro off r hr b hb h1 h2
              simp only [leafsF, Option.some.injEq] at hr
              subst hr
              have e1 : xs.toList.drop off = [] := by apply List.drop_eq_nil_of_le; simp at h1 ⊢; omega
              have e2 : ys.toList.drop off = [] := by apply List.drop_eq_nil_of_le; simp at h2 ⊢; omega
              rw [e1, e2] at hb
              simp only [eqLKs, Option.some.injEq] at hb
              subst hb
              simp [Op.eqFields]
            | cons f l ihl =>
              intro off r hr b hb h1 h2
              simp only [leafsF] at hr
              split at hr
              · cases hr
              · rename_i hne
                simp only [not_or, Decidable.not_not] at hne
                obtain ⟨hname, hoff⟩ := hne
                split at hr
                · cases hr
                · rename_i k1 hk1
                  split at hr
                  · cases hr
                  · rename_i k2 hk2
                    cases hr
                    obtain ⟨b1, b2, h3, h4, h5⟩ := eqLKs_append k1 k2 _ _ b hb
                    obtain ⟨j, hj, hjl⟩ := leafs_size hk1
                    rw [List.drop_drop] at h4
                    rw [List.drop_drop] at h4
                    have hrest := ihl (off + k1.length) k2 hk2 b2 h4 (by simp at h1; omega) (by simp at h2; omega)
                    simp only [List.length_append] at h1 h2
                    have p1 := run_part hT (w := w) hj (xs := xs) (off := off) (n := k1.length) hjl (by omega) (fun ha => leafs_single hk1 hj ha)
                    have p2 := run_part hT (w := w) hj (xs := ys) (off := off) (n := k1.length) hjl (by omega) (fun ha => leafs_single hk1 hj ha)
                    have heq := eqFlat_part hj hk1 h3
                    have hrun := ih f.type k1 hk1 D hDd w _ _ b1 heq (fun i' hi' => by
                      rw [hj] at hi'; cases hi'
                      unfold partV
                      cases ha : isAggT j.desc
                      · simp only [Bool.false_eq_true, if_false]
                        cases hh : List.take k1.length (List.drop off xs.toList) with
                        | nil => simp [undef, isAggB]
                        | cons x l =>
                          simp only [List.getD_cons_zero]
                          have hl1 := leafs_single hk1 hj ha
                          rw [hh] at h3
                          cases k1 with
                          | nil => simp at hl1
                          | cons k k1 =>
                            cases hy : List.take (k :: k1).length (List.drop off ys.toList) with
                            | nil => rw [hy] at h3; simp [eqLKs] at h3
                            | cons y l' =>
                              rw [hy] at h3
                              simp only [eqLKs] at h3
                              cases k <;> cases x <;> simp [eqLK, isAggB] at h3 ⊢
                      · simp [isAggB])
                    subst hoff
                    simp only [Op.eqFields, hname, ne_eq, not_false_eq_true, if_true, Sem.run_bind, p1, p2, Result.andThen_ok, hrun, Sem.run_ite, Sem.run_pure, hrest]
                    cases b1
                    · simp [h5]
                    · simp [h5]
          obtain ⟨hl1, hl2⟩ := eqLKs_length _ _ _ _ hb
          exact key fs.toList 0 ks hks b (by simpa using hb) (by simpa using hl1.symm) (by simpa using hl2.symm)
      · cases h
    case array n e =>
      cases x <;> simp only [isAggT, isAggB] at hxa <;> try (cases hxa; done)
      rename_i xs
      cases y <;> simp only [eqFlat] at hb <;> try (split at hb <;> (first | cases hb | (simp [eqLK] at hb)); done)
      rename_i ys
      split at h
      · rename_i ks' hks
        split at h <;> cases h
        split at hks
        · rename_i ke hke
          cases hks
          obtain ⟨j, hj, hjl⟩ := leafs_size hke
          obtain ⟨inf, hinf, hs, _⟩ := hT.info _ _ hj
          simp only [Op.equalIn, Sem.run_bind, run_underlying hd, Result.andThen_ok, run_sizeOf hinf]
          obtain ⟨hl1, hl2⟩ := eqLKs_length _ _ _ _ hb
          have key : ∀ (m k : Nat), k + m = n → ∀ (b : Bool), eqLKs (List.replicate m ke).flatten (xs.toList.drop (k * ke.length)) (ys.toList.drop (k * ke.length)) = some b →
              ((forIn (List.range' k m) ((none, ()) : Option Bool × Unit) fun (i : Nat) (_ : Option Bool × Unit) => do
                let a ← part e xs (i * inf.size)
                let c ← part e ys (i * inf.size)
                let r ← Op.equalIn D e a c
                if (!r) = true then pure (ForInStep.done (some false, ())) else pure (ForInStep.yield (none, ()))) : Sem (Option Bool × Unit)).run P w = .ok (if b then (none, ()) else (some false, ())) w := by
            intro m
            induction m with
            | zero =>
              intro k hk b hb
              have hll := eqLKs_length _ _ _ _ hb
              simp only [List.replicate_zero, List.flatten_nil, List.length_nil] at hb hll
              have e1 := List.eq_nil_of_length_eq_zero hll.1
              have e2 := List.eq_nil_of_length_eq_zero hll.2
              rw [e1, e2] at hb
              simp only [eqLKs, Option.some.injEq] at hb
              subst hb
              simp
            | succ m ihm =>
              intro k hk b hb
              rw [List.replicate_succ, List.flatten_cons] at hb
              obtain ⟨b1, b2, h3, h4, h5⟩ := eqLKs_append ke _ _ _ b hb
              rw [List.drop_drop, List.drop_drop, show k * ke.length + ke.length = (k + 1) * ke.length by rw [Nat.add_mul, Nat.one_mul]] at h4
              have hrest := ihm (k + 1) (by omega) b2 h4
              have hsz1 := (eqLKs_length _ _ _ _ hb).1
              have hsz2 := (eqLKs_length _ _ _ _ hb).2
              simp only [List.length_append, List.length_drop, Array.length_toList] at hsz1 hsz2
              have hle1 : k * ke.length + ke.length ≤ xs.size := by
                by_cases h0 : ke.length = 0
                · simp [h0]
                · omega
              have hle2 : k * ke.length + ke.length ≤ ys.size := by
                by_cases h0 : ke.length = 0
                · simp [h0]
                · omega
              have p1 := run_part hT (w := w) hj (xs := xs) (off := k * ke.length) (n := ke.length) hjl hle1 (fun ha => leafs_single hke hj ha)
              have p2 := run_part hT (w := w) hj (xs := ys) (off := k * ke.length) (n := ke.length) hjl hle2 (fun ha => leafs_single hke hj ha)
              have heq := eqFlat_part hj hke h3
              have hrun := ih e ke hke D hDd w _ _ b1 heq (fun i' hi' => by
                rw [hj] at hi'; cases hi'
                unfold partV
                cases ha : isAggT j.desc
                · simp only [Bool.false_eq_true, if_false]
                  have hl1 := leafs_single hke hj ha
                  obtain ⟨x, hx⟩ : ∃ x, List.take ke.length (List.drop (k * ke.length) xs.toList) = [x] := List.length_eq_one_iff.1 (by rw [(eqLKs_length _ _ _ _ h3).1, hl1])
                  obtain ⟨y, hy⟩ : ∃ y, List.take ke.length (List.drop (k * ke.length) ys.toList) = [y] := List.length_eq_one_iff.1 (by rw [(eqLKs_length _ _ _ _ h3).2, hl1])
                  obtain ⟨kk, rfl⟩ : ∃ kk, ke = [kk] := List.length_eq_one_iff.1 hl1
                  rw [hx, hy] at h3
                  rw [hx]
                  simp only [eqLKs] at h3
                  simp only [List.getD_cons_zero]
                  cases kk <;> cases x <;> simp [eqLK, isAggB] at h3 ⊢
                · simp [isAggB])
              rw [List.range'_succ, List.forIn_cons]
              rw [hs, ← hjl] at hrest ⊢
              simp only [Sem.run_bind, p1, p2, Result.andThen_ok, hrun, Sem.run_ite, Sem.run_pure]
              cases b1
              · simp [h5]
              · simp only [Bool.not_true, Bool.false_eq_true, if_false, Result.andThen_ok] at hrest ⊢
                rw [hrest, h5]; simp
          have h6 := key n 0 (by omega) b (by simpa using hb)
          rw [Std.Legacy.Range.forIn_eq_forIn_range']
          simp only [Std.Legacy.Range.size, Nat.sub_zero, Nat.add_sub_cancel, Nat.div_one]
          rw [h6]
          cases b <;> simp
        · cases hks
      · cases h

theorem eqLK_same {ρ : Ren} {k : LK} {a c a' c' : Value} {b : Bool} (h : eqLK k a c = some b) (h1 : VR ρ a a') (h2 : VR ρ c c') : a' = a ∧ c' = c := by
  cases k <;> cases a <;> simp [eqLK] at h <;> cases c <;> simp [] at h <;> cases h1 <;> cases h2 <;> exact ⟨rfl, rfl⟩

theorem eqLKs_same {ρ : Ren} : ∀ (ks : List LK) (xs ys xs' ys' : List Value) (b : Bool), eqLKs ks xs ys = some b → VRl ρ xs xs' → VRl ρ ys ys' → xs' = xs ∧ ys' = ys := by
  intro ks
  induction ks with
  | nil =>
    intro xs ys xs' ys' b h h1 h2
    cases xs <;> cases ys <;> simp [eqLKs] at h
    exact ⟨h1.nil_inv, h2.nil_inv⟩
  | cons k ks ih =>
    intro xs ys xs' ys' b h h1 h2
    cases xs with
    | nil => simp [eqLKs] at h
    | cons x xs =>
      cases ys with
      | nil => simp [eqLKs] at h
      | cons y ys =>
        obtain ⟨x', xs2, rfl, hx, hxs⟩ := h1.cons_inv
        obtain ⟨y', ys2, rfl, hy, hys⟩ := h2.cons_inv
        simp only [eqLKs] at h
        split at h
        · rename_i b1 b2 e1 e2
          obtain ⟨rfl, rfl⟩ := eqLK_same e1 hx hy
          obtain ⟨rfl, rfl⟩ := ih _ _ _ _ _ e2 hxs hys
          exact ⟨rfl, rfl⟩
        · cases h

theorem eqFlat_same {ρ : Ren} {ks : List LK} {a c a' c' : Value} {b : Bool} (h : eqFlat ks a c = some b) (h1 : VR ρ a a') (h2 : VR ρ c c') : a' = a ∧ c' = c := by
  cases a <;> cases c <;> simp only [eqFlat] at h <;> first
    | (split at h
       · exact eqLK_same h h1 h2
       · cases h)
    | (obtain ⟨xs, rfl, hx⟩ := h1.agg_inv
       obtain ⟨ys, rfl, hy⟩ := h2.agg_inv
       obtain ⟨e1, e2⟩ := eqLKs_same _ _ _ _ _ _ h hx hy
       exact ⟨by rw [Array.ext' e1], by rw [Array.ext' e2]⟩)

theorem eqGuardType_flat {P : Program} {tab : Tab} (hT : TabOK P tab) : ∀ (d : Nat) (t : TypeId) (ks : List LK), leafs P tab d t = some ks → ∀ (D : Nat), d ≤ D → P.eqGuardType D t = false := by
  intro d
  induction d with
  | zero => intro t ks h; simp [leafs] at h
  | succ d ih =>
    intro t ks h D hD
    obtain ⟨D, rfl⟩ : ∃ n, D = n + 1 := ⟨D - 1, by omega⟩
    obtain ⟨i, hi, _⟩ := leafs_size h
    have hd := hT.desc _ _ hi
    simp only [leafs, hi] at h
    cases hdd : i.desc <;> simp only [hdd] at h hd <;> simp only [Program.eqGuardType, hd] <;> try (simp at h; done)
    case struct fs =>
      split at h
      · rename_i ks' hks
        split at hks
        · cases hks
        · have key : ∀ (l : List Field) (off : Nat) (r : List LK), leafsF (leafs P tab d) l off = some r → ∀ f ∈ l, P.eqGuardType D f.type = false := by
            intro l
            induction l with
            | nil => intro off r _ f hf; simp at hf
            | cons g l ihl =>
              intro off r hr f hf
              simp only [leafsF] at hr
              split at hr
              · cases hr
              · split at hr
                · cases hr
                · rename_i k1 hk1
                  split at hr
                  · cases hr
                  · rename_i k2 hk2
                    cases hf with
                    | head => exact ih _ _ hk1 D (by omega)
                    | tail _ hf => exact ihl _ _ hk2 f hf
          rw [Array.any_eq_false]
          intro k hk
          have := key fs.toList 0 _ hks fs[k] (by simp)
          simp [this]
      · cases h
    case array n e =>
      split at h
      · rename_i ks' hks
        split at hks
        · rename_i ke hke
          exact ih _ _ hke D (by omega)
        · cases hks
      · cases h

end Go.AM
