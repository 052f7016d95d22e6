/- Regions whose order is open: joined. -/
import Derived.Test.YtjilfolpkkhfmaaDoorAM18
namespace Go.AM

section
variable {G : Reg} {tab : Tab} {mrows : String → List (TypeId × FuncId)}

theorem draw_any (C : Ctx G.P tab mrows) (hcall : CallsOK G.P G.call) (S : Steps G.ops G.n G.steps) (hrun : runSteps G.call G.base [] G.steps G.t0 G.σ0 = some (G.tf, G.σf))
    (hcomp : ∀ x ∈ G.steps, ∃ o, G.ops[x.i]? = some o ∧ compileOper G.P tab mrows G.N G.ops o = some x.o) (hbase : G.σs.next ≤ G.base) (hN : G.N ≤ G.a0.tmps.size) {Q : Exit → Act → World → Prop}
    (K : ∀ ρ' a' w', Sim ρ' G.σf w' → LR ρ' G.tf a'.tmps → Ev G.ρ0 G.σs G.w0 ρ' G.σf w' → a'.defers = G.a0.defers → a'.tmps.size = G.a0.tmps.size → Q .normal a' w') :
    ∀ (fuel : Nat) {listed : Array Bool} {ρ : Ren} {a : Act} {w : World} {s1 s2 : List DStep} {t1 : Tr Value} {σ : Sto}, Inv G s1 s2 t1 σ listed ρ a w → unl G.ops.size listed ≤ fuel → wpAny G.P .any G.ops Q fuel listed a w := by
  have fin : ∀ {listed : Array Bool} {ρ : Ren} {a : Act} {w : World} {s1 s2 : List DStep} {t1 : Tr Value} {σ : Sto}, Inv G s1 s2 t1 σ listed ρ a w → Region.ready .any G.ops listed = [] → Q .normal a w := by
    intro listed ρ a w s1 s2 t1 σ I hr
    obtain ⟨h1, h2, h3⟩ := I.last S (I.all_listed S hr)
    exact K ρ a w h1 h2 h3 I.defers I.tsize
  intro fuel
  induction fuel with
  | zero =>
    intro listed ρ a w s1 s2 t1 σ I hu
    have hr : Region.ready .any G.ops listed = [] := by
      cases hr : Region.ready .any G.ops listed with
      | nil => rfl
      | cons i l =>
        have hi : i ∈ Region.ready .any G.ops listed := by rw [hr]; simp
        obtain ⟨h1, o, ho, _⟩ := mem_ready.1 hi
        rw [unl_zero (by omega) (Array.getElem?_eq_some_iff.1 ho).1] at h1
        cases h1
    exact ⟨hr, fin I hr⟩
  | succ fuel ih =>
    intro listed ρ a w s1 s2 t1 σ I hu
    refine ⟨fin I, ?_⟩
    intro i hi
    obtain ⟨hgl, o, ho, _⟩ := mem_ready.1 hi
    have hin := (Array.getElem?_eq_some_iff.1 ho).1
    have hul := unl_lt hin hgl (ready_unlisted hi).2
    obtain ⟨x, hxm, rfl⟩ := S.all i hin
    obtain ⟨o', ho', hc⟩ := hcomp x hxm
    rw [ho] at ho'; cases ho'
    obtain ⟨hop, hopd, hdN, hdd, hguard⟩ := compileOper_inv hc
    have hdn : ∀ d, x.o.dst = some d → d < a.tmps.size := fun d hd => by
      rw [hdd] at hd
      exact Nat.lt_of_lt_of_le (hdN d hd) (by rw [I.tsize]; exact hN)
    unfold wpOp
    simp only [ho]
    obtain ⟨p, q, e⟩ := List.append_of_mem hxm
    obtain ⟨tv, σv, hv1, hv2⟩ := runSteps_split (e ▸ hrun)
    simp only [List.append_nil] at hv2
    obtain ⟨tv2, σv2, hv3, hv4⟩ := runSteps_cons hv2
    have hl := I.locals S hrun e hv1 hi
    cases hcl : x.o.op.cls with
    | pure =>
      unfold runStep at hv3
      rw [hcl] at hv3
      simp only at hv3
      split at hv3
      · rename_i v σ' hone
        cases hv3
        refine one_sound C hcall hc (one_pure (σ1 := σ) hcl hone) I.sim I.gr hl (fun ρ' c w' hvc hs' he => ?_)
        rw [← hdd]
        refine ih (I.step S hxm hi I.st I.run1 I.run2 (fun y hy _ => .inr hy) (fun y hy => ⟨hy, fun hyc hyx => by rw [hyx, hcl] at hyc; cases hyc⟩) (by rw [hcl]; simp) (v := v) ?_ hdn hvc hs' he) (by omega)
        intro d hd
        rw [dst_final (S := S) e hv4 hd, put_get, if_pos hd]
      · cases hv3
    | heap =>
      obtain ⟨s1', s2', t1', σ', I', v, hone, hdst⟩ := I.heap S hxm hcl hi
      have hl' := I'.locals S hrun e hv1 hi
      have hsm : small tv x.sl = small G.tf x.sl := small_congr _ (fun s hs => by
        exact (runSteps_get _ _ _ _ _ _ s hv2 ((late_slots (S := S) e hcl).1 s hs)).symm)
      rw [hsm] at hl'
      refine one_sound C hcall hc hone I'.sim I'.gr hl' (fun ρ' c w' hvc hs' he => ?_)
      rw [← hdd]
      exact ih (I'.step S hxm hi I'.st I'.run1 I'.run2 (fun y hy _ => .inr hy) (fun y hy => ⟨hy, fun hyc hyx => by rw [hyx, hcl] at hyc; cases hyc⟩) (by rw [hcl]; simp) hdst hdn hvc hs' he) (by omega)
    | eff =>
      have hx2 : x ∈ s2 := by
        have hm := hxm
        rw [I.st, List.mem_append] at hm
        refine hm.resolve_left (fun h => ?_)
        have := I.done x h (.inl hcl)
        rw [(ready_unlisted hi).1] at this; cases this
      obtain ⟨p2, q2, e2⟩ := List.append_of_mem hx2
      have e3 : G.steps = (s1 ++ p2) ++ x :: q2 := by rw [I.st, e2]; simp
      obtain ⟨M, hM, hk⟩ := S.ok _ x q2 e3
      have hclean : ∀ y ∈ p2, y.o.op.cls ≠ .eff ∧ (y.o.op.cls = .alloc → listed.getD y.i false = true) := by
        intro y hy
        have hyu : y ∈ (s1 ++ p2).reverse := by simp [hy]
        have h1 := (clsStep.eff (okStep.cls hk) hcl y hyu).1
        refine ⟨fun hyc => ?_, fun hyc => I.ancReady (hM _ (h1 (.inr hyc))) hi⟩
        have h2 := I.ancReady (hM _ (h1 (.inl hyc))) hi
        rw [I.todo y (by rw [e2]; simp [hy]) hyc] at h2
        cases h2
      have I0 := I
      rw [e2] at I0
      obtain ⟨t2, σ2, I2⟩ := Inv.shifts S p2 I0 hclean
      obtain ⟨t3, σ3, h3, h4⟩ := runSteps_cons I2.run2
      have hr1 : runSteps G.call G.base [] (s1 ++ p2 ++ [x]) G.t0 G.σ0 = some (t3, σ3) := by
        rw [runSteps_append, I2.run1]; simp only [List.append_nil, runSteps, h3]
      have hr2 : runSteps G.call G.base (s1 ++ p2 ++ [x]).reverse q2 t3 σ3 = some (G.tf, G.σf) := by simpa using h4
      have hl2 := I2.locals S hrun e3 I2.run1 hi
      unfold runStep at h3
      rw [hcl] at h3
      simp only at h3
      split at h3
      · rename_i v σ' hone
        split at h3
        · cases h3
          refine one_sound C hcall hc hone I2.sim I2.gr hl2 (fun ρ' c w' hvc hs' he => ?_)
          rw [← hdd]
          refine ih (I2.step S hxm hi (by rw [e3]; simp) hr1 hr2 (fun y hy _ => ?_) (fun y hy => ⟨List.mem_cons_of_mem _ hy, fun _ hyx => ?_⟩) (by rw [hcl]; simp) (v := v) ?_ hdn hvc hs' he) (by omega)
          · rcases List.mem_append.1 hy with hy | hy
            · exact .inr hy
            · exact .inl (by simpa using hy)
          · obtain ⟨M', u, _, hk', hxu, _⟩ := S.of e3 hy
            exact okStep.fresh hk' x hxu (by rw [hyx])
          · intro d hd
            rw [dst_final (S := S) e3 h4 hd, put_get, if_pos hd]
        · cases h3
      · cases h3
    | alloc =>
      obtain ⟨M, hM, hk⟩ := S.ok _ x q e
      obtain ⟨hg, hjn, _⟩ := clsStep.alloc (okStep.cls hk) hcl
      unfold runStep at hv3
      rw [hcl] at hv3
      simp only at hv3
      split at hv3
      · rename_i obj f hal hgone
        cases hv3
        have hw : Region.wanted o (yielded G.ops a.tmps) = true := wanted_sound hc hl (by rw [hg]; rfl)
        rw [hw]
        simp only [if_true]
        left
        have hx2 : x ∈ s2 := by
          have hm := hxm
          rw [I.st, List.mem_append] at hm
          refine hm.resolve_left (fun h => ?_)
          have := I.done x h (.inr hcl)
          rw [(ready_unlisted hi).1] at this; cases this
        have hnone := I.none x hx2 hcl (ready_unlisted hi).1
        obtain ⟨cobj, tot, cv, h1, h2⟩ := alloc_sound C.hT C.hZ (w := w) hl I.gr hopd hop hal
        obtain ⟨h3, h4⟩ := h2 (extend ρ (G.base + x.j) ⟨w.heap.size, 0, tot⟩) (G.base + x.j) (Sub.extend _ hnone) (extend_self _ _ _)
        simp only [Oper.wp, h1, Oper.upon_value]
        rw [← hdd]
        refine ih (I.made S hbase hxm hi hcl e hv1 hal h3 h4 ?_ hdn) (by omega)
        intro d hd
        rw [dst_final (S := S) e hv4 hd, put_get, if_pos hd]
      · cases hv3

end

theorem buildSteps_spec {ops : Array Oper} {l : Array AOper} {js again : Nat → Nat} : ∀ {is : List Nat} {steps : List DStep}, buildSteps ops l js again is = some steps → ∀ x ∈ steps, ∃ o, ops[x.i]? = some o ∧ l[x.i]? = some x.o := by
  intro is
  induction is with
  | nil => intro steps h x hx; cases h; cases hx
  | cons i is ih =>
    intro steps h x hx
    simp only [buildSteps] at h
    split at h
    · rename_i o ao ho hao
      split at h
      · rename_i r hr
        cases h
        rcases List.mem_cons.1 hx with rfl | hx
        · exact ⟨o, ho, hao⟩
        · exact ih hr x hx
      · cases h
    · cases h

theorem draw_sound {P : Program} {tab : Tab} {mrows : String → List (TypeId × FuncId)} (C : Ctx P tab mrows) {call : CallF} (hcall : CallsOK P call) {N id : Nat} {ops : Array Oper} {l : List AOper} (hc : ops.toList.mapM (compileOper P tab mrows N ops) = some l)
    {n : Nat} {steps : List DStep} (hd : compileDraw ops l = some (.draw n steps))
    {t t' : Tr Value} {σ σ' : Sto} (hr : runSteps call σ.next [] steps t { σ with next := σ.next + n } = some (t', σ')) {ρ : Ren} {a : Act} {w : World} (hs : Sim ρ σ w) (hG : GR P ρ) (hl : LR ρ t a.tmps) (hN : N ≤ a.tmps.size)
    {Q : Exit → Act → World → Prop} (K : ∀ ρ' a' w', Sim ρ' σ' w' → LR ρ' t' a'.tmps → Ev ρ σ w ρ' σ' w' → a'.defers = a.defers → a'.tmps.size = a.tmps.size → Q .normal a' w') :
    (Code.region id ops true).wp P Q a w := by
  unfold compileDraw at hd
  simp only at hd
  split at hd
  · rename_i st hb
    split at hd
    · rename_i hchk
      simp only [Option.some.injEq, ACode.draw.injEq] at hd
      obtain ⟨hn, rfl⟩ := hd
      rw [hn] at hchk
      obtain ⟨h1, h2⟩ := mapM_some _ _ _ hc
      have S := chkDraw_spec hchk
      have hcomp : ∀ x ∈ st, ∃ o, ops[x.i]? = some o ∧ compileOper P tab mrows N ops o = some x.o := by
        intro x hx
        obtain ⟨o, ho, hao⟩ := buildSteps_spec hb x hx
        obtain ⟨o', ho', hco⟩ := h2 x.i x.o (by simpa using hao)
        have : ops[x.i]? = some o' := by simpa using ho'
        exact ⟨o', this, hco⟩
      refine wp_region_any C.hM ?_
      let G : Reg := { P := P, call := call, base := σ.next, n := n, ops := ops, steps := st, t0 := t, tf := t', σs := σ, σ0 := { σ with next := σ.next + n }, σf := σ', ρ0 := ρ, w0 := w, a0 := a, N := N }
      refine draw_any (G := G) C hcall S hr hcomp (Nat.le_refl _) hN K ops.size (s1 := []) (s2 := st) (t1 := t) (σ := { σ with next := σ.next + n }) (ρ := ρ) ?_ ?_
      · refine ⟨rfl, rfl, hr, fun y hy => (by cases hy), fun y hy _ => ?_, ?_, by simp [G], ⟨hs.live, hs.inj, fun b l h => by have := hs.dom b l h; simp only; omega⟩, ⟨Sub.refl _, rfl, rfl, rfl, Nat.le_refl _, fun _ _ _ => rfl, fun _ h => .inl h, Nat.le_add_right _ _, fun _ _ h => .inl h, fun _ h => .inl h⟩, Nat.le_refl _, hG, ?_, ?_, ?_, ?_, ?_, rfl, rfl⟩
        · simp [Array.getD_eq_getD_getElem?, Array.getElem?_replicate]; split <;> rfl
        · intro i o hi
          exfalso
          simp only [Array.getD_eq_getD_getElem?, Array.getElem?_replicate] at hi
          split at hi <;> simp at hi
        · intro d v hv hw
          refine hl d v ?_
          rw [← runSteps_get _ _ _ _ _ _ d hr (fun y hy hyd => ?_)]
          · exact hv
          · have := hw y hy hyd
            simp only [Array.getD_eq_getD_getElem?, Array.getElem?_replicate] at this
            split at this <;> simp at this
        · intro d v hv _
          exact hl d v hv
        · intro y hy _ hyl
          simp only [Array.getD_eq_getD_getElem?, Array.getElem?_replicate] at hyl
          split at hyl <;> simp at hyl
        · intro y hy y' hy' _ _ hyl
          simp only [Array.getD_eq_getD_getElem?, Array.getElem?_replicate] at hyl
          split at hyl <;> simp at hyl
        · intro y hy hyc _
          cases h : ρ (σ.next + y.j) with
          | none => rfl
          | some l => have := hs.dom _ _ h; omega
      · unfold unl
        have : ((List.range ops.size).filter fun i => !(Array.replicate ops.size false).getD i true).length ≤ (List.range ops.size).length := List.length_filter_le _ _
        simpa [G] using this
    · cases hd
  · cases hd

end Go.AM
