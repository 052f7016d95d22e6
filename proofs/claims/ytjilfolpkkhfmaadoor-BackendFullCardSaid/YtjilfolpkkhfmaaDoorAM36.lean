/- The call that takes all entries out of a map and frees their frames, as one step. -/
import Derived.Test.YtjilfolpkkhfmaaDoorAM35
namespace Go.AM.Drop

def nodupB {α : Type} [BEq α] : List α → Bool
  | [] => true
  | a :: l => !(l.any (· == a)) && nodupB l
theorem nodupB_nodup {α : Type} [BEq α] [LawfulBEq α] : ∀ l : List α, nodupB l = true → l.Nodup := by
  intro l
  induction l with
  | nil => intro _; exact List.nodup_nil
  | cons a l ih =>
    intro h
    simp only [nodupB, Bool.and_eq_true, Bool.not_eq_true', List.any_eq_false, beq_iff_eq] at h
    exact List.nodup_cons.2 ⟨fun hm => h.1 a hm rfl, ih h.2⟩

theorem nodup_of_map {α β : Type} (f : α → β) : ∀ l : List α, (l.map f).Nodup → l.Nodup := by
  intro l
  induction l with
  | nil => intro _; exact List.nodup_nil
  | cons a l ih =>
    intro h
    obtain ⟨h1, h2⟩ := List.nodup_cons.1 h
    exact List.nodup_cons.2 ⟨fun hm => h1 (List.mem_map.2 ⟨a, hm, rfl⟩), ih h2⟩

def keyInt (e : MapEntry) : Int :=
  match e.key with
  | .int _ k => k
  | _ => 0
def keyOk (e : MapEntry) : Bool :=
  match e.key with
  | .int .i64 _ => true
  | _ => false
/-- The frame of an entry. -/
def frameOf (e : MapEntry) : Option Int :=
  match e.val with
  | .agg cs => match cs.toList with
    | [a, b, .int .i64 n, d] => if Sto.isAggV a = false ∧ Sto.isAggV b = false ∧ Sto.isAggV d = false then some n else none
    | _ => none
  | _ => none
def goodB (n : Int) (e : MapEntry) : Bool := keyOk e && (match frameOf e with | some m => decide (m = n) | none => false)

theorem good_of {n : Int} {e : MapEntry} (h : goodB n e = true) : Good (.int .i64 n) e ∧ e.key = .int .i64 (keyInt e) := by
  simp only [goodB, Bool.and_eq_true] at h
  obtain ⟨h1, h2⟩ := h
  have hk : e.key = .int .i64 (keyInt e) := by
    unfold keyOk at h1
    unfold keyInt
    split at h1
    · rename_i k hk; rw [hk]
    · cases h1
  refine ⟨⟨⟨_, hk⟩, ?_, rfl⟩, hk⟩
  split at h2
  · rename_i m hm
    have : m = n := by simpa using h2
    subst this
    unfold frameOf at hm
    split at hm
    · rename_i cs hv
      split at hm
      · rename_i a b m' d hcs
        split at hm
        · rename_i hagg
          cases hm
          refine ⟨a, b, d, ?_, hagg.1, hagg.2.1, hagg.2.2⟩
          rw [hv, ← hcs]
        · cases hm
      · cases hm
    · cases hm
  · cases h2

def dropS (c : CallF) (free : FuncId) (args : List Value) (σ : Sto) : Option (Value × Sto) :=
  match args with
  | [.pointer (some ⟨B, 0, none⟩)] =>
    match σ.load B 7, σ.load B 4, σ.load B 5 with
    | some (.map (some r)), some (.pointer (some ⟨Fr, 0, none⟩)), some owv =>
      match σ.objs.get r, σ.load Fr 2, σ.load Fr 3 with
      | some (.map (e0 :: es0) clock), some (.map (some tm)), some (.map (some wm)) =>
        match frameOf e0 with
        | some n =>
          match !([Fr, tm, wm].contains B) && !([Fr, tm, wm].contains r) && !(Nat.beq B r) && (e0 :: es0).all (goodB n) && nodupB ((e0 :: es0).map keyInt) && nodupB ((e0 :: es0).map (·.born)) && (e0 :: es0).all (fun e => Nat.blt e.born clock) && plainIn σ.objs [Fr, tm, wm] with
          | true => match iterF c free [ptr Fr, .int .i64 n, owv] [Fr, tm, wm] (e0 :: es0).length ⟨σ.next + 1, σ.objs⟩ with
            | some fs => match plainIn fs.objs [Fr, tm, wm] with
              | true => some (.tuple #[], dend σ fs [Fr, tm, wm] r clock)
              | false => none
            | none => none
          | false => none
        | none => none
      | _, _, _ => none
    | _, _, _ => none
  | _ => none

theorem dropS_ok {P : Program} {tab : Tab} {mrows : String → List (TypeId × FuncId)} (C : Ctx P tab mrows) {c : CallF} (hcc : CallsOK P c) {drop free : FuncId} (hcal : callable P drop = true) {func : Func} (hfunc : P.funcs[drop]? = some func) (hcomp : compileFunc P tab mrows func = some ⟨dropC free, [], 1⟩) :
    CallsOK P (fun f args σ => if f = drop then dropS c free args σ else none) := by
  intro f args σ v σ' h ρ w cargs hs hG hargs
  simp only at h
  split at h
  · rename_i hf
    subst hf
    refine ⟨hcal, ?_⟩
    unfold dropS at h
    split at h
    · rename_i B
      split at h
      · rename_i r Fr owv hB7 hB4 hB5
        split at h
        · rename_i e0 es0 clock tm wm hr hF2 hF3
          split at h
          · rename_i n hn
            split at h
            · rename_i hchk
              split at h
              · rename_i fsEnd hit
                split at h
                · rename_i hpe
                  cases h
                  generalize hes : e0 :: es0 = es at hchk hit hr
                  generalize hids : [Fr, tm, wm] = ids at hchk hit hpe
                  simp only [Bool.and_eq_true, Bool.not_eq_true', List.all_eq_true] at hchk
                  obtain ⟨⟨⟨⟨⟨⟨⟨c1, c2⟩, c3⟩, c4⟩, c5⟩, c6⟩, c7⟩, c8⟩ := hchk
                  have hBi : B ∉ ids := by simpa using c1
                  have hri : r ∉ ids := by simpa using c2
                  have hBr : B ≠ r := fun e => by subst e; rw [Nat.beq_refl] at c3; cases c3
                  have hold : ∀ b o, σ.objs.get b = some o → b < σ.next := fun b o hb => by
                    obtain ⟨l, _, h1, _⟩ := hs.live b o hb
                    exact hs.dom b l h1
                  have hrlt := hold r _ hr
                  obtain ⟨ob, hob⟩ := load_some hB7
                  have hBlt := hold B ob hob
                  have hidlt : ∀ j ∈ ids, j < σ.next := fun j hj => by
                    obtain ⟨o, ho, _⟩ := plainIn_get c8 hj
                    exact hold j o ho
                  have hNi : σ.next ∉ ids := fun hj => by have := hidlt _ hj; omega
                  have hgood : ∀ x ∈ es, Good (.int .i64 n) x := fun x hx => (good_of (c4 x hx)).1
                  have hkeys : (es.map (·.key)).Nodup := by
                    have h1 := nodupB_nodup _ c5
                    have h2 : es.map keyInt = (es.map (·.key)).map (fun k => match k with | .int _ k => k | _ => 0) := by
                      rw [List.map_map]; rfl
                    rw [h2] at h1
                    exact nodup_of_map _ _ h1
                  have hborns := nodupB_nodup _ c6
                  have holdb : ∀ x ∈ es, x.born < clock := fun x hx => by have := c7 x hx; rw [Nat.blt_eq] at this; exact this
                  -- the code
                  simp only [compileFunc, Option.bind_eq_bind, Option.bind_eq_some_iff, Option.pure_def, Option.some.injEq] at hcomp
                  obtain ⟨body, hbody, code, hcode, rs, hrs, hrfl⟩ := hcomp
                  simp only [AFunc.mk.injEq] at hrfl
                  obtain ⟨rfl, rfl, _⟩ := hrfl
                  obtain ⟨ca, cb, hca, hcb, seq1⟩ := inv_seq hcode
                  obtain ⟨cc, cd, hcc', hcd, seq2⟩ := inv_seq hcb
                  obtain ⟨ce, hce, blk⟩ := inv_block hcd
                  obtain ⟨cf, hcf, lop⟩ := inv_loop hce
                  let T0 : Tr Value := Tr.leaf.set 0 (ptr B)
                  have hl : LR ρ T0 (cargs ++ Array.replicate (func.ntmps - cargs.size) undef) := by
                    intro d u hu
                    simp only [T0, Tr.get_set, Tr.get_leaf] at hu
                    split at hu
                    · rename_i hd
                      subst hd
                      cases hu
                      have h2 := hargs.2 0 (by simp)
                      have hlt : 0 < cargs.size := by have := hargs.1; simp at this; omega
                      simpa [ptr, Array.getD_eq_getD_getElem?, List.getD_eq_getElem?_getD, Array.getElem?_append, hlt] using h2
                    · cases hu
                  have hM : func.ntmps ≤ (cargs ++ Array.replicate (func.ntmps - cargs.size) undef).size := by simp; omega
                  refine calls_of_wp hfunc hbody ?_
                  have top : WW P body { tmps := cargs ++ Array.replicate (func.ntmps - cargs.size) undef, defers := [] } w
                      (fun e a' w' => e = .normal ∧ ∃ ρ', Sim ρ' (dend σ fsEnd ids r clock) w' ∧ Ev ρ σ w ρ' (dend σ fsEnd ids r clock) w' ∧ a'.defers = []) := by
                    refine seq1 _ _ _ ?_
                    -- the nil check
                    have hx1 : exec (freeC c free ids) 0 (.seq (.ops l0) (.cond (.tmp 5) .ret .skip)) T0 σ = some (.normal, (T0.set 4 (ptr B)).set 5 (.bool false), σ) := by
                      have h1 : runOps (freeC c free ids) l0 T0 σ = some ((T0.set 4 (ptr B)).set 5 (.bool false), σ) := by
                        unfold l0
                        rw [ro_pure (v := ptr B) rfl (by simp [runPure, ev, T0, Tr.get_set])]
                        rw [ro_pure (v := .bool false) rfl (by simp [runPure, ev, Tr.get_set, ptr, eqvO, eqvV, isNilI])]
                        rfl
                      simp only [exec, h1, ev, Tr.get_set, if_true]
                    refine (ww_exec C (freeC_ok hcc free ids) hca hx1 hs hG hl hM).mono ?_
                    rintro e1 a1 w1 ⟨rfl, ρ1, hs1, hl1, he1, hd1, hz1⟩
                    refine .inl ⟨rfl, ?_⟩
                    refine seq2 _ _ _ ?_
                    -- the range
                    let T1 : Tr Value := (T0.set 4 (ptr B)).set 5 (.bool false)
                    let T2 : Tr Value := ((((T1.set 6 (ptr B)).set 7 (ptr B)).set 8 (.pointer (some ⟨B, 7, none⟩))).set 9 (.map (some r))).set 10 (ptr σ.next)
                    have hx2 : exec (freeC c free ids) 0 (.ops l1) T1 σ = some (.normal, T2, newObj σ (.miter (some r) clock [] clock)) := by
                      have h1 : runOps (freeC c free ids) l1 T1 σ = some (T2, newObj σ (.miter (some r) clock [] clock)) := by
                        unfold l1
                        rw [ro_pure (v := ptr B) rfl (by simp [runPure, ev, T1, T0, Tr.get_set])]
                        rw [ro_pure (v := ptr B) rfl (by simp [runPure, ev, Tr.get_set, ptr])]
                        rw [ro_pure (v := .pointer (some ⟨B, 7, none⟩)) rfl (by simp [runPure, ev, Tr.get_set, ptr, addOff])]
                        rw [ro_heap (v := .map (some r)) rfl (by simp [runHeap, ev, Tr.get_set, loadV, hB7])]
                        simp [runOps, runOper, wanted, runOp, AOp.cls, runEff, ev, Tr.get_set, rangeV, hr, put, T2, ptr]
                      simp only [exec, h1]
                    have hz1' : a1.tmps.size = (cargs ++ Array.replicate (func.ntmps - cargs.size) undef).size := hz1
                    refine (ww_exec C (freeC_ok hcc free ids) hcc' hx2 hs1 (hG.mono he1.sub) hl1 (by omega)).mono ?_
                    rintro e2 a2 w2 ⟨rfl, ρ2, hs2, hl2, he2, hd2, hz2⟩
                    refine .inl ⟨rfl, ?_⟩
                    refine blk _ _ _ ?_
                    refine lop _ _ _ (fun Q' K' => ?_)
                    have hgd : ∀ b, (dsto σ ⟨σ.next + 1, σ.objs⟩ ids r σ.next clock es []).objs.get b = (newObj σ (.miter (some r) clock [] clock)).objs.get b := by
                      intro b
                      simp only [dsto, newObj, Tr.get_set, over_in c8]
                      split
                      · rfl
                      · split
                        · rename_i hb; subst hb; exact hr.symm
                        · split <;> rfl
                    have hless : Less (dsto σ ⟨σ.next + 1, σ.objs⟩ ids r σ.next clock es []) (newObj σ (.miter (some r) clock [] clock)) :=
                      ⟨fun b o hb => by rw [← hgd]; exact hb, Nat.le_refl _⟩
                    refine drop_loop C hcc hcf (σ0 := σ) (σs := σ) (ρs := ρ) (ws := w) (as := { tmps := cargs ++ Array.replicate (func.ntmps - cargs.size) undef, defers := [] }) (B := B) (N := σ.next) (r := r) (Fr := Fr) (clock := clock) (owv := owv) (fr := .int .i64 n) (ids := ids) (fsEnd := fsEnd)
                      hB7 hB4 hB5 hBi hri hNi hBr (by omega) (by omega) hold hrlt hidlt hG hM (fun ρ' a' w' h1 h2 h3 => K' (.exit 0) a' w' (.inl ⟨rfl, rfl, ρ', h1, h2, h3⟩)) es.length a2 w2
                      ⟨ρ2, es, [], ⟨σ.next + 1, σ.objs⟩, T2, ⟨rfl, hs2.less hless, hl2, by simp [T2, T1, T0, Tr.get_set], by simp [T2, Tr.get_set], (he1.trans he2).less hless, hd2.trans hd1, hz2.trans hz1, hit, hgood, hkeys, hborns, holdb, fun x _ => rfl, c8, Nat.lt_succ_self _⟩⟩
                  refine top _ ?_
                  rintro ex a' w' ⟨rfl, ρ', h1, h2, h3⟩
                  obtain ⟨cv, r1, r2⟩ := result_sound C.hT h1 (t := .leaf) (tmps := a'.tmps) (fun d v hd => by cases hd) hrs (v := .tuple #[]) rfl
                  exact ⟨h3, cv, r1, cv, ρ', rfl, r2, h1, h2⟩
                · cases h
              · cases h
            · cases h
          · cases h
        · cases h
      · cases h
    · cases h
  · cases h

end Go.AM.Drop
