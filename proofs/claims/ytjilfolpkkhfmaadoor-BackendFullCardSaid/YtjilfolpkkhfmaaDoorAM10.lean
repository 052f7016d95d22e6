/- What makes a block. -/
import Derived.Test.YtjilfolpkkhfmaaDoorAM9
namespace Go.AM

/-- What a new block comes to. -/
def Made (P : Program) (ρ : Ren) (w : World) (s : Sem Next) (obj : AObj) (f : Nat → Value) : Prop :=
  ∃ cobj tot cv, s.run P w = .ok (.value cv) (w.alloc cobj) ∧ ∀ ρ' id, Sub ρ ρ' → ρ' id = some ⟨w.heap.size, 0, tot⟩ → OR ρ' ⟨w.heap.size, 0, tot⟩ obj cobj ∧ VR ρ' (f id) cv

theorem OR_cells {ρ : Ren} {k : Nat} {cs : List Value} {cs' : Array Value} {el : TypeId} {e : Ext} (h : VRl ρ cs cs'.toList) : OR ρ ⟨k, 0, cs'.size⟩ (.cells cs.length [] (Tr.ofList cs 0 .leaf) e) (.cells cs' el (0, 0)) := by
  have hl : cs.length = cs'.size := by simpa using h.1
  refine ⟨rfl, by simp [hl], ?_, fun _ o _ hc => by omega, fun _ => by simp [hl]⟩
  intro i v hi hv
  unfold cellOf at hv
  rw [Tr.get_ofList] at hv
  simp only [Nat.zero_le, true_and, Nat.zero_add, hi, if_true, Nat.sub_zero] at hv
  have hx : cs[i]? = some v := by
    split at hv
    · rename_i u hu; rw [← hv]; exact hu
    · rename_i hu; simp [hi] at hu
  have := h.2 i hi
  simp only [List.getD_eq_getElem?_getD, hx, Option.getD_some] at this
  simpa [Array.getD_eq_getD_getElem?] using this

theorem OR_zero {ρ : Ren} {k n m : Nat} {z : List Value} {cs' : Array Value} {el : TypeId} {e : Ext} (h : VRl ρ (zeroRow z n) cs'.toList) (hz : n * z.length = m) : OR ρ ⟨k, 0, cs'.size⟩ (.cells m z .leaf e) (.cells cs' el (0, 0)) := by
  subst hz
  have hl : n * z.length = cs'.size := by have := h.1; simpa [zeroRow] using this
  refine ⟨rfl, by simp [hl], ?_, fun _ o _ hc => by omega, fun _ => by simp [hl]⟩
  intro i v hi hv
  unfold cellOf at hv
  simp only [Tr.get_leaf] at hv
  have := h.2 i (by simpa [zeroRow] using hi)
  simp only [zeroRow, List.getD_eq_getElem?_getD, List.getElem?_map, List.getElem?_range hi, Option.map_some, Option.getD_some, hv] at this
  simpa [Array.getD_eq_getD_getElem?] using this

theorem zeroRow_closed {ρ : Ren} {z : List Value} {n : Nat} (h : VRl ρ z z) : VRl ρ (zeroRow z n) (zeroRow z n) := by
  refine ⟨rfl, fun i hi => ?_⟩
  simp only [zeroRow, List.length_map, List.length_range] at hi
  have hz : 0 < z.length := by
    apply Nat.pos_of_ne_zero; intro h0; simp [h0] at hi
  have := h.2 (i % z.length) (Nat.mod_lt _ hz)
  simpa [zeroRow, List.getD_eq_getElem?_getD, List.getElem?_map, List.getElem?_range hi] using this

theorem zeroRow_eq (z : Array Value) (n : Nat) : (Array.range (n * z.size)).map (fun i => z[i % z.size]!) = (zeroRow z.toList n).toArray := by
  apply Array.ext'
  simp only [zeroRow, Array.toList_map, Array.toList_range, Array.length_toList, List.map_inj_left]
  intro i hi
  simp only [List.mem_range] at hi
  have hz : 0 < z.size := by
    apply Nat.pos_of_ne_zero; intro h0; simp [h0] at hi
  have := Nat.mod_lt i hz
  simp [List.getD_eq_getElem?_getD, this]

theorem alloc_sound {P : Program} {tab : Tab} {mrows : String → List (TypeId × FuncId)} (hT : TabOK P tab) (hZ : ZeroOK tab) {ρ : Ren} {t : Tr Value} {a : Act} {w : World} (hl : LR ρ t a.tmps) (hG : GR P ρ)
    {o : Oper} (hok : ∀ x ∈ o.op.operands.toList, opdOK P.globals.size x = true) {aop : AOp} (hc : compileOp P tab mrows o.op = some aop) {obj : AObj} {f : Nat → Value} (hr : runAlloc t aop = some (obj, f)) :
    Made P ρ w (execOp a.eval o) obj f := by
  have E : ∀ x, x ∈ o.op.operands.toList → ∀ v, ev t x = some v → VR ρ v (a.eval x) := fun x hx v h => ev_sound hl hG (hok x hx) h
  obtain ⟨dst, op, type, pos, after, guard⟩ := o
  simp only at hok hc E
  cases op with
  | alloc ty =>
    simp only [compileOp, opt_bind] at hc
    obtain ⟨i, hi, z, hz, hc⟩ := hc
    cases hc
    obtain ⟨zv, hz1, rfl⟩ := zeroCs_inv hz
    obtain ⟨hrun, hvr⟩ := zero_run hT hZ (ρ := ρ) (w := w) hi hz1
    simp only [runAlloc, Option.some.injEq, Prod.mk.injEq] at hr
    obtain ⟨rfl, rfl⟩ := hr
    refine ⟨.cells zv.cells ty, zv.cells.size, .pointer (some ⟨w.heap.size, 0, none⟩), ?_, fun ρ' id hs hid => ⟨?_, ?_⟩⟩
    · simp [execOp, Instr.alloc, hrun, newVar, newRow]
    · refine OR_zero (n := 1) ?_ (by simp)
      have h1 : VRl ρ' (zeroRow zv.cells.toList 1) (zeroRow zv.cells.toList 1) := zeroRow_closed (hvr.cells.mono hs)
      have h2 : zeroRow zv.cells.toList 1 = zv.cells.toList := by
        simp only [zeroRow, Nat.one_mul]
        apply List.ext_getElem?
        intro k
        by_cases hk : k < zv.cells.toList.length
        · simp only [List.getElem?_map, List.getElem?_range hk, Option.map_some, Nat.mod_eq_of_lt hk, List.getD_eq_getElem?_getD, List.getElem?_eq_getElem hk, Option.getD_some]
        · rw [List.getElem?_eq_none (by simpa using hk), List.getElem?_eq_none (by simpa using hk)]
      rw [h2] at h1 ⊢; exact h1
    · have := VR.ptr (ρ := ρ') id 0 _ hid
      simpa using this
  | box ty x =>
    cases hc
    simp only [runAlloc, opt_bind] at hr
    obtain ⟨v, h1, h2⟩ := hr
    cases h2
    have hv := (E x (by simp [Op.operands]) v h1).cells
    refine ⟨.cells (a.eval x).cells ty, (a.eval x).cells.size, .pointer (some ⟨w.heap.size, 0, none⟩), ?_, fun ρ' id hs hid => ⟨?_, ?_⟩⟩
    · simp [execOp, Instr.box, newVar, newRow]
    · exact OR_cells (hv.mono hs)
    · have := VR.ptr (ρ := ρ') id 0 _ hid
      simpa using this
  | buildSlice ty n ps =>
    simp only [compileOp, opt_bind] at hc
    obtain ⟨i, hi, hc⟩ := hc
    have hd := hT.desc _ _ hi
    split at hc
    · rename_i e hde
      simp only [opt_bind] at hc
      obtain ⟨j, hj, z, hz, hc⟩ := hc
      obtain ⟨inf, hinf, hs, _⟩ := hT.info _ _ hj
      split at hc
      · cases hc
      · rename_i hne
        simp only [Bool.or_eq_true, decide_eq_true_eq, bne_iff_ne, ne_eq, not_or, Decidable.not_not, gt_iff_lt, Nat.not_lt] at hne
        obtain ⟨⟨hmax, hzl⟩, hnn⟩ := hne
        cases hc
        obtain ⟨zv, hz1, rfl⟩ := zeroCs_inv hz
        obtain ⟨hrun, hvr⟩ := zero_run hT hZ (ρ := ρ) (w := w) hj hz1
        rw [hde] at hd
        simp only [runAlloc, opt_bind] at hr
        obtain ⟨vs, h1, cs, h2, h3⟩ := hr
        split at h3
        · rename_i hlen
          cases h3
          have hok' : ∀ p ∈ ps.toList, opdOK P.globals.size p.2 = true := fun p hp => hok p.2 (by simp [Op.operands]; exact ⟨p.1, by simpa using hp⟩)
          obtain ⟨h4, h5⟩ := evParts_sound hl hG _ vs (fun p hp => by
            simp only [List.mem_map] at hp
            obtain ⟨q, ⟨q', hq', rfl⟩, rfl⟩ := hp
            exact hok' q' hq') h1
          obtain ⟨r', h6, h7⟩ := fill_sound (ρ := ρ) (fun k => some (k * inf.size, inf.size)) vs (ps.toList.map (·.1)) (ps.map fun (i, x) => (i, a.eval x)).toList (zeroRow zv.cells.toList n) (zeroRow zv.cells.toList n) cs
            (by simp [h4]) (by simp [Function.comp_def])
            (fun m k o s u hk hv => by
              obtain ⟨x, hx, _⟩ := h5 m o s u hv
              simp only [List.map_map, List.getElem?_map, Option.map_eq_some_iff] at hx hk
              obtain ⟨q, hq, hq2⟩ := hx
              obtain ⟨q', hq', rfl⟩ := hk
              rw [hq] at hq'; cases hq'
              simp only [Function.comp, Prod.mk.injEq] at hq2
              obtain ⟨rfl, rfl, _⟩ := hq2
              simp [hs])
            (fun m o s u k c hv hk => by
              obtain ⟨x, hx, hvr⟩ := h5 m o s u hv
              simp only [List.map_map, List.getElem?_map, Option.map_eq_some_iff, Array.toList_map] at hx hk
              obtain ⟨q, hq, hq2⟩ := hx
              obtain ⟨q', hq', hq3⟩ := hk
              rw [hq] at hq'; cases hq'
              simp only [Function.comp, Prod.mk.injEq] at hq2 hq3
              obtain ⟨_, _, rfl⟩ := hq2
              obtain ⟨_, rfl⟩ := hq3
              exact hvr) (zeroRow_closed hvr.cells) h2
          have hcl : cs.length = r'.size := by simpa using h7.1
          refine ⟨.cells r' e, r'.size, .slice (some ⟨w.heap.size, 0, none⟩) n n, ?_, fun ρ' id hs' hid => ⟨?_, ?_⟩⟩
          · have hfill : Instr.fill (fun i => some (i * inf.size, inf.size)) ((Array.range (n * inf.size)).map (fun i => zv.cells[i % zv.cells.size]!)) (ps.map fun (i, x) => (i, a.eval x)).toList = some r' := by
              rw [← h6]; congr 1
              have hzs : inf.size = zv.cells.size := by rw [hs]; simpa using hzl.symm
              rw [hzs]; exact zeroRow_eq _ _
            simp only [execOp, Instr.buildSlice, Sem.run_bind, run_underlying hd, Result.andThen_ok, run_sizeOf hinf]
            rw [if_neg (by rw [hs]; omega)]
            by_cases h0 : n * inf.size = 0
            · rw [h0] at hfill
              simp only [h0, if_true, Sem.run_bind, Sem.run_pure, Result.andThen_ok]
              have hm : ∀ g g' : Nat → Value, (Array.range 0).map g = (Array.range 0).map g' := fun g g' => by simp
              rw [hm _ (fun i => zv.cells[i % zv.cells.size]!), hfill]
              simp [newRow]
            · simp only [h0, if_false, Sem.run_bind, hrun, Sem.run_pure, Result.andThen_ok]
              rw [hfill]
              simp [newRow]
          · exact OR_cells (h7.mono hs')
          · have := VR.slice (ρ := ρ') id 0 n n _ hid (by unfold CAPX; omega)
            simpa using this
        · cases h3
    · cases hc
  | makeSlice ty l c =>
    simp only [compileOp, opt_bind] at hc
    obtain ⟨i, hi, hc⟩ := hc
    have hd := hT.desc _ _ hi
    split at hc
    · rename_i e hde
      simp only [opt_bind] at hc
      obtain ⟨j, hj, z, hz, hc⟩ := hc
      obtain ⟨inf, hinf, hs, hb, _⟩ := hT.info _ _ hj
      split at hc
      · cases hc
      · rename_i hne
        have hzl : z.length = j.size := by simpa using hne
        cases hc
        obtain ⟨zv, hz1, rfl⟩ := zeroCs_inv hz
        obtain ⟨hrun, hvr⟩ := zero_run hT hZ (ρ := ρ) (w := w) hj hz1
        rw [hde] at hd
        simp only [runAlloc, opt_bind] at hr
        obtain ⟨lv, h1, cv, h2, ln, h3, cn, h4, h5⟩ := hr
        have el := E l (by simp [Op.operands]) lv h1
        have ec := E c (by simp [Op.operands]) cv h2
        split at h5
        · rename_i hcond
          obtain ⟨hlc, hbytes, hmax⟩ := hcond
          cases h5
          have nat : ∀ (v : Value) (m : Nat), asNat v = some m → ∃ k, v = .int k (m : Int) := by
            intro v m h
            unfold asNat at h
            split at h
            · rename_i k q
              split at h
              · cases h; exact ⟨k, by rw [Int.toNat_of_nonneg (by assumption)]⟩
              · cases h
            · cases h
          obtain ⟨k1, rfl⟩ := nat lv ln h3
          obtain ⟨k2, rfl⟩ := nat cv cn h4
          generalize hel : a.eval l = al at el
          generalize hec : a.eval c = ac at ec
          cases el; cases ec
          have w1 : IntKind.i64.wrap (ln : Int) = ln := by simp [IntKind.wrap, IntKind.bits, IntKind.signed]; omega
          have w2 : IntKind.i64.wrap (cn : Int) = cn := by simp [IntKind.wrap, IntKind.bits, IntKind.signed]; omega
          have hzs : inf.size = zv.cells.size := by rw [hs]; simpa using hzl.symm
          have hrow : ((Array.range (cn * inf.size)).map (fun i => zv.cells[i % zv.cells.size]!)) = (zeroRow zv.cells.toList cn).toArray := by
            rw [hzs]; exact zeroRow_eq _ _
          refine ⟨.cells (zeroRow zv.cells.toList cn).toArray e, (zeroRow zv.cells.toList cn).toArray.size, .slice (some ⟨w.heap.size, 0, none⟩) ln cn, ?_, fun ρ' id hs' hid => ⟨?_, ?_⟩⟩
          · simp only [execOp, Instr.makeSlice, hel, hec, Sem.run_bind, run_underlying hd, Result.andThen_ok, asInt, asIntOf, Sem.run_pure, run_typeInfo hinf, w1, w2]
            rw [if_neg]
            · simp only [Sem.run_bind, run_askRoom, Result.andThen_ok, Int.toNat_natCast, run_sizeOf hinf]
              by_cases h0 : cn * inf.size = 0
              · rw [h0] at hrow
                simp only [h0, if_true, Sem.run_bind, Sem.run_pure, Result.andThen_ok]
                have hm : ∀ g g' : Nat → Value, (Array.range 0).map g = (Array.range 0).map g' := fun g g' => by simp
                rw [hm _ (fun i => zv.cells[i % zv.cells.size]!), hrow]
                simp [newRow]
              · simp only [h0, if_false, Sem.run_bind, hrun, Sem.run_pure, Result.andThen_ok]
                rw [hrow]
                simp [newRow]
            · have hb' : (inf.bytes : Int) * (cn : Int) ≤ 2 ^ 48 := by
                have : inf.bytes * cn ≤ 2 ^ 48 := by rw [hb, Nat.mul_comm]; exact hbytes
                exact_mod_cast this
              simp only [Bool.or_eq_true, decide_eq_true_eq, not_or, Int.not_lt, gt_iff_lt]
              refine ⟨⟨⟨by omega, by omega⟩, by omega⟩, by omega⟩
          · exact OR_zero (n := cn) ((zeroRow_closed hvr.cells).mono hs') rfl
          · have := VR.slice (ρ := ρ') id 0 ln cn _ hid (by unfold CAPX; omega)
            simpa using this
        · cases h5
    · cases hc
  | makeMap ty r =>
    cases r <;> cases hc
    simp only [runAlloc, Option.some.injEq, Prod.mk.injEq] at hr
    obtain ⟨rfl, rfl⟩ := hr
    refine ⟨.map #[] 0, 0, .map (some w.heap.size), ?_, fun ρ' id hs hid => ⟨⟨rfl, rfl, fun i e h => by simp at h⟩, ?_⟩⟩
    · simp [execOp, Instr.makeMap]
    · exact .map id _ hid
  | load ty x => simp only [compileOp, opt_bind] at hc; obtain ⟨_, _, hc⟩ := hc; cases hc; simp [runAlloc] at hr
  | lookup ty m k ok =>
    simp only [compileOp, opt_bind] at hc
    obtain ⟨_, _, hc⟩ := hc
    split at hc
    · simp only [opt_bind] at hc; obtain ⟨_, _, _, _, _, _, hc⟩ := hc; cases hc; simp [runAlloc] at hr
    · cases hc
  | entry x => cases hc; simp [runAlloc] at hr
  | convert s d x =>
    simp only [compileOp, opt_bind] at hc
    obtain ⟨_, _, _, _, hc⟩ := hc
    split at hc <;> (first | (cases hc; done) | (cases hc; simp [runAlloc] at hr; done) | skip)
    all_goals (simp only [opt_bind] at hc; obtain ⟨_, _, hc⟩ := hc; split at hc <;> cases hc; simp [runAlloc] at hr)
  | call c =>
    obtain ⟨callee, args, argTypes⟩ := c
    cases callee with
    | value f =>
      cases f with
      | func f => simp only [compileOp] at hc; split at hc <;> cases hc; simp [runAlloc] at hr
      | _ => cases hc; simp [runAlloc] at hr
    | invoke r m => cases hc; simp [runAlloc] at hr
    | builtin b =>
      simp only [compileOp, opt_bind] at hc
      obtain ⟨_, _, _, _, hc⟩ := hc
      cases b <;> simp only [compileBuiltin] at hc <;> (first | (cases hc; done) | (cases hc; simp [runAlloc] at hr; done) | ((repeat' split at hc) <;> cases hc <;> simp [runAlloc] at hr))
  | binOp op ty x y ty2 =>
    simp only [compileOp, opt_bind] at hc
    obtain ⟨i, hi, hc⟩ := hc
    split at hc <;> (first | (cases hc; done) | (cases hc; simp [runAlloc] at hr; done) | skip)
    all_goals (split at hc <;> (first | (cases hc; done) | (cases hc; simp [runAlloc] at hr; done) | skip))
    all_goals (simp only [opt_bind] at hc; obtain ⟨_, _, hc⟩ := hc)
    all_goals (try split at hc) <;> cases hc <;> simp [runAlloc] at hr
  | move x => cases hc; simp [runAlloc] at hr
  | assign x => cases hc; simp [runAlloc] at hr
  | pick c x y => cases hc; simp [runAlloc] at hr
  | nilCheck x => cases hc; simp [runAlloc] at hr
  | unOp op ty x => cases hc; simp [runAlloc] at hr
  | makeFunc fn p q => cases hc; simp [runAlloc] at hr
  | extract x n => cases hc; simp [runAlloc] at hr
  | entryStore ty m k v => cases hc; simp [runAlloc] at hr
  | range ty x =>
    simp only [compileOp, opt_bind] at hc
    obtain ⟨_, _, hc⟩ := hc
    split at hc <;> cases hc <;> simp [runAlloc] at hr
  | next x b => cases b <;> cases hc <;> simp [runAlloc] at hr
  | build ty ps =>
    simp only [compileOp, opt_bind] at hc
    obtain ⟨_, _, _, _, hc⟩ := hc
    split at hc
    · simp only [opt_bind] at hc; obtain ⟨_, _, _, _, hc⟩ := hc; cases hc; simp [runAlloc] at hr
    · simp only [opt_bind] at hc; obtain ⟨_, _, hc⟩ := hc; cases hc; simp [runAlloc] at hr
    · cases hc
  | store ty x v => simp only [compileOp, opt_bind] at hc; obtain ⟨_, _, hc⟩ := hc; cases hc; simp [runAlloc] at hr
  | makeInterface ty x => simp only [compileOp, opt_bind] at hc; obtain ⟨_, _, hc⟩ := hc; split at hc <;> cases hc; simp [runAlloc] at hr
  | slice ty x lo hi mx =>
    simp only [compileOp, opt_bind] at hc
    obtain ⟨_, _, hc⟩ := hc
    split at hc
    · simp only [opt_bind] at hc; obtain ⟨_, _, hc⟩ := hc; cases hc; simp [runAlloc] at hr
    · simp only [opt_bind] at hc; obtain ⟨_, _, hc⟩ := hc; cases hc; simp [runAlloc] at hr
    · split at hc <;> cases hc; simp [runAlloc] at hr
    · cases hc
  | fieldAddr ty x f =>
    simp only [compileOp, opt_bind] at hc
    obtain ⟨_, _, hc⟩ := hc
    split at hc
    · simp only [opt_bind] at hc; obtain ⟨_, _, _, _, hc⟩ := hc; split at hc <;> cases hc; simp [runAlloc] at hr
    · cases hc
  | field ty x f =>
    simp only [compileOp, opt_bind] at hc
    obtain ⟨_, _, hc⟩ := hc
    split at hc
    · simp only [opt_bind] at hc; obtain ⟨_, _, _, _, hc⟩ := hc; cases hc; simp [runAlloc] at hr
    · cases hc
  | indexAddr ty x f =>
    simp only [compileOp, opt_bind] at hc
    obtain ⟨_, _, hc⟩ := hc
    split at hc
    · simp only [opt_bind] at hc; obtain ⟨_, _, hc⟩ := hc; cases hc; simp [runAlloc] at hr
    · simp only [opt_bind] at hc; obtain ⟨_, _, hc⟩ := hc; cases hc; simp [runAlloc] at hr
    · cases hc
  | index ty x f =>
    simp only [compileOp, opt_bind] at hc
    obtain ⟨_, _, hc⟩ := hc
    split at hc
    · simp only [opt_bind] at hc; obtain ⟨_, _, _, _, hc⟩ := hc; cases hc; simp [runAlloc] at hr
    · cases hc; simp [runAlloc] at hr
    · cases hc
  | insert ty m k v =>
    simp only [compileOp, opt_bind] at hc
    obtain ⟨_, _, hc⟩ := hc
    split at hc
    · simp only [opt_bind] at hc; obtain ⟨_, _, hc⟩ := hc; cases hc; simp [runAlloc] at hr
    · cases hc
  | mapUpdate ty m k v =>
    simp only [compileOp, opt_bind] at hc
    obtain ⟨_, _, hc⟩ := hc
    split at hc
    · simp only [opt_bind] at hc; obtain ⟨_, _, hc⟩ := hc; cases hc; simp [runAlloc] at hr
    · cases hc
  | mapEntry ty m k =>
    simp only [compileOp, opt_bind] at hc
    obtain ⟨_, _, hc⟩ := hc
    split at hc
    · simp only [opt_bind] at hc; obtain ⟨_, _, _, _, _, _, hc⟩ := hc; cases hc; simp [runAlloc] at hr
    · cases hc
  | _ => cases hc

end Go.AM
