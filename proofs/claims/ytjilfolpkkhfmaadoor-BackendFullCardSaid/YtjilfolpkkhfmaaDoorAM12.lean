/- What writes memory: iterators, strings' bytes, copy, clear. -/
import Derived.Test.YtjilfolpkkhfmaaDoorAM11
namespace Go.AM

theorem nextV_sound {P : Program} {ρ : Ren} {σ σ' : Sto} {w : World} (hs : Sim ρ σ w) {ty : TypeId} {x x' v : Value} (hx : VR ρ x x') (h : nextV σ x = some (v, σ')) : EffV P ρ σ w (Instr.next x' true ty) v σ' := by
  unfold nextV at h
  split at h
  · rename_i b
    cases hx with
    | ptr _ _ l hl =>
    split at h
    · rename_i s pos hobj
      obtain ⟨l1, obj, h1, h2, h3⟩ := hs.live b _ hobj
      obtain rfl : l = l1 := Option.some.inj (hl.symm.trans h1)
      cases obj <;> simp only [OR] at h3
      obtain ⟨hb0, rfl, rfl⟩ := h3
      have hg : (Go.getObj l.blk).run P w = .ok (.stringIter s pos) w := by simp [Go.getObj, Sem.run, h2]
      split at h
      · rename_i hlt
        cases h
        obtain ⟨w', h10, h11, h12⟩ := hs.setObj (P := P) (o' := .siter s (pos + (Utf8.decode s pos).2)) (obj' := .stringIter s (pos + (Utf8.decode s pos).2)) hobj rfl rfl hl h2 (by simp) ⟨hb0, rfl, rfl⟩
        refine ⟨_, w', ρ, ?_, VR.tuple_of (.cons (.bool true) (.cons (.int .i64 pos) (.cons (.int .i32 (Utf8.decode s pos).1) .nil))), h11, h12⟩
        simp only [Instr.next, hb0, Nat.add_zero, Sem.run_bind, hg, Result.andThen_ok, hlt, if_true, h10]
        rfl
      · rename_i hlt
        cases h
        refine ⟨_, w, ρ, ?_, VR.tuple_of (.cons (.bool false) .nil), hs, Ev.refl _ _ _⟩
        simp only [Instr.next, hb0, Nat.add_zero, Sem.run_bind, hg, Result.andThen_ok, hlt, if_false]
        rfl
    · cases h
  · cases h

theorem ERl.filter {ρ : Ren} {q : Nat → Bool} : ∀ {es es' : List MapEntry}, ERl ρ es es' → ERl ρ (es.filter fun e => q e.born) (es'.filter fun e => q e.born) := by
  intro es
  induction es with
  | nil => intro es' h; have : es' = [] := List.eq_nil_of_length_eq_zero (by rw [← h.1]; rfl); subst this; exact ERl.nil
  | cons e es ih =>
    intro es' h
    cases es' with
    | nil => simp [ERl] at h
    | cons e' es' =>
      obtain ⟨x, h1, h2⟩ := h.2 0 e rfl
      simp at h1; subst h1
      have h3 : ERl ρ es es' := ⟨by simpa using h.1, fun i x hx => by simpa using h.2 (i + 1) x (by simpa using hx)⟩
      have h4 := ih h3
      simp only [List.filter_cons, h2.2.2]
      split
      · refine ⟨by simp [h4.1], fun i x hx => ?_⟩
        cases i with
        | zero => simp at hx; subst hx; exact ⟨e', rfl, h2⟩
        | succ i => simpa using h4.2 i x (by simpa using hx)
      · exact h4

theorem ERl.all {ρ : Ren} {q : Nat → Bool} : ∀ {es es' : List MapEntry}, ERl ρ es es' → (es'.all fun e => q e.born) = es.all fun e => q e.born := by
  intro es
  induction es with
  | nil => intro es' h; have : es' = [] := List.eq_nil_of_length_eq_zero (by rw [← h.1]; rfl); subst this; rfl
  | cons e es ih =>
    intro es' h
    cases es' with
    | nil => simp [ERl] at h
    | cons e' es' =>
      obtain ⟨x, h1, h2⟩ := h.2 0 e rfl
      simp at h1; subst h1
      have h3 : ERl ρ es es' := ⟨by simpa using h.1, fun i x hx => by simpa using h.2 (i + 1) x (by simpa using hx)⟩
      simp only [List.all_cons, ih h3, h2.2.2]

theorem nextMV_sound {P : Program} {ρ : Ren} {σ σ' : Sto} {w : World} (hs : Sim ρ σ w) {ty : TypeId} {x x' v : Value} (hx : VR ρ x x') (h : nextMV σ x = some (v, σ')) : EffV P ρ σ w (Instr.next x' false ty) v σ' := by
  unfold nextMV at h
  split at h
  · rename_i b
    cases hx with
    | ptr _ _ l hl =>
    split at h
    · rename_i since seen st hobj
      cases h
      obtain ⟨l1, obj, h1, h2, h3⟩ := hs.live b _ hobj
      obtain rfl : l = l1 := Option.some.inj (hl.symm.trans h1)
      cases obj <;> simp only [OR] at h3
      rename_i m' since' seen' st'
      obtain ⟨hb0, hm, rfl, rfl, rfl⟩ := h3
      cases hm
      have hg : (Go.getObj l.blk).run P w = .ok (.mapIter none since seen.toArray st) w := by simp [Go.getObj, Sem.run, h2]
      refine ⟨_, w, ρ, ?_, VR.tuple_of (.cons (.bool false) .nil), hs, Ev.refl _ _ _⟩
      simp only [Instr.next, hb0, Nat.add_zero, Sem.run_bind, hg, Result.andThen_ok]
      rfl
    · rename_i m since seen last hobj
      split at h
      · rename_i es clock hmo
        split at h
        · cases h
        · rename_i hc
          obtain ⟨l1, obj, h1, h2, h3⟩ := hs.live b _ hobj
          obtain rfl : l = l1 := Option.some.inj (hl.symm.trans h1)
          cases obj <;> simp only [OR] at h3
          rename_i m' since' seen' st'
          obtain ⟨hb0, hm, rfl, rfl, rfl⟩ := h3
          obtain ⟨lm, hlm, hm'⟩ := map_inv hm
          simp only [Value.map.injEq] at hm'
          subst hm'
          obtain ⟨es', h5, h6⟩ := hs.mapObj hmo hlm
          have hg : (Go.getObj l.blk).run P w = .ok (.mapIter (some lm.blk) since seen.toArray last) w := by simp [Go.getObj, Sem.run, h2]
          have hcond : (!seen.toArray.isEmpty && !es'.isEmpty && es'.all (fun e => decide (e.born ≥ last))) = false := by
            have e1 : seen.toArray.isEmpty = seen.isEmpty := by simp
            have e2 : es'.isEmpty = es.isEmpty := by
              have := h6.1
              cases es <;> simp at this ⊢
              · exact Array.eq_empty_of_size_eq_zero (by simpa using this.symm)
              · intro h; simp [h] at this
            have e3 : es'.all (fun e => decide (e.born ≥ last)) = es.all (fun e => decide (e.born ≥ last)) := by
              rw [← Array.all_toList]; exact ERl.all (q := fun b => decide (b ≥ last)) h6
            rw [e1, e2, e3]; simpa using hc
          have hfil : ERl ρ (es.filter fun e => !seen.contains e.born) (es'.filter fun e => !seen.toArray.contains e.born).toList := by
            have := h6.filter (q := fun b => !seen.contains b)
            simpa using this
          generalize hleft : (es'.filter fun e => !seen.toArray.contains e.born) = left at hfil
          have step : ∀ (c : Array (Option MapEntry)), (if (left.filter (·.born < since)).isEmpty then #[none] else #[]) ++ ((left.filter (·.born < since)) ++ (left.filter (·.born ≥ since))).map some = c → c.size = 1 →
              (Instr.next (.pointer (some ⟨l.blk, l.base + 0, none⟩)) false ty).run P w = (match c[0]? with
                | some (some e) => do
                  Go.setObj l.blk (.mapIter (some lm.blk) since (seen.toArray.push e.born) clock)
                  pure (.tuple #[.bool true, e.key, e.val])
                | some none => pure (.tuple #[.bool false])
                | none => stuck "Next: no such candidate" : Sem Value).run P w := by
            intro c hcc hc1
            simp only [Instr.next, hb0, Nat.add_zero, Sem.run_bind, hg, Result.andThen_ok, run_getObj_map h5, hcond, Bool.false_eq_true, if_false]
            rw [hleft, hcc]
            have hf : (Question.mapNext c.size).forced = true := by simp [Question.forced, hc1]
            rw [run_choose, hf]
            simp only [if_true, Result.andThen_ok]
            split <;> simp_all
          split at h
          · rename_i hnil
            cases h
            rw [hnil] at hfil
            have hl0 : left = #[] := by
              have : left.toList = [] := List.eq_nil_of_length_eq_zero (by rw [← hfil.1]; rfl)
              exact Array.ext' this
            have := step #[none] (by rw [hl0]; simp) rfl
            exact ⟨_, w, ρ, by rw [this]; rfl, VR.tuple_of (.cons (.bool false) .nil), hs, Ev.refl _ _ _⟩
          · rename_i e hone
            split at h
            · rename_i hborn
              cases h
              rw [hone] at hfil
              obtain ⟨e', he1, he2⟩ := hfil.2 0 e rfl
              have hl1 : left = #[e'] := by
                apply Array.ext'
                have hlen : left.toList.length = 1 := by rw [← hfil.1]; rfl
                obtain ⟨y, hy⟩ := List.length_eq_one_iff.1 hlen
                rw [hy] at he1 ⊢
                simp at he1; rw [he1]
              have hb' : e'.born < since := by rw [← he2.2.2]; exact hborn
              have hnb : ¬ since ≤ e'.born := by omega
              have := step #[some e'] (by rw [hl1]; simp [hb', hnb]) rfl
              obtain ⟨w', h10, h11, h12⟩ := hs.setObj (P := P) (o' := .miter (some m) since (seen ++ [e.born]) clock) (obj' := .mapIter (some lm.blk) since (seen.toArray.push e'.born) clock) hobj rfl rfl hl h2 (by simp)
                ⟨hb0, hm, rfl, by rw [he2.2.2]; simp, rfl⟩
              refine ⟨_, w', ρ, ?_, VR.tuple_of (.cons (.bool true) (.cons he2.1 (.cons he2.2.1 .nil))), h11, h12⟩
              refine this.trans ?_
              show (do Go.setObj l.blk (.mapIter (some lm.blk) since (seen.toArray.push e'.born) clock); pure (.tuple #[.bool true, e'.key, e'.val]) : Sem Value).run P w = _
              rw [Sem.run_bind, h10]
              rfl
            · cases h
          · cases h
      · cases h
    · cases h
  · cases h

theorem s2bV_sound {P : Program} {ρ : Ren} {σ σ' : Sto} {w : World} (hs : Sim ρ σ w) {e : TypeId} {s : ByteArray} {v : Value} (h : s2bV σ (.string s) = some (v, σ')) : EffV P ρ σ w (Conv.stringToBytes e s) v σ' := by
  simp only [s2bV, Option.some.injEq, Prod.mk.injEq] at h
  obtain ⟨rfl, rfl⟩ := h
  let cap := (Question.appendCap s.size 0 e).cut (w.tape w.drawn (.appendCap s.size 0 e))
  have hcap : s.size ≤ cap := by simp only [cap, Question.cut]; omega
  let cells : Array Value := (s.data.map fun b => Value.int .u8 b.toNat) ++ Array.replicate (cap - s.size) (.int .u8 0)
  have hcs : cells.size = cap := by simp [cells]; show s.size + (cap - s.size) = cap; omega
  have hor : ∀ ρ' : Ren, Sub ρ ρ' → OR ρ' ⟨w.drew.heap.size, 0, cap⟩ (.cells s.size [] (Tr.ofList (s.data.toList.map fun b => Value.int .u8 b.toNat) 0 .leaf) .grow) (.cells cells e (cap, cap + 1)) := by
    intro ρ' _
    refine ⟨hcs, by simpa using hcap, ?_, fun _ o ho hc => by simp at ho hc; omega, fun hc => by cases hc⟩
    intro i v hi hv
    unfold cellOf at hv
    rw [Tr.get_ofList] at hv
    have hi' : i < s.data.size := hi
    simp only [Nat.zero_le, true_and, Nat.zero_add, List.length_map, Array.length_toList, hi', if_true, Nat.sub_zero, List.getElem?_map] at hv
    have : s.data.toList[i]? = some s.data[i] := by simp []
    rw [this] at hv
    simp only [Option.map_some, Option.some.injEq] at hv
    subst hv
    have : cells.getD (0 + i) undef = .int .u8 (s.data[i].toNat) := by
      have hi'' : i < s.size := hi
      have hx : s.data[i]? = some s.data[i] := by simp []
      simp [cells, Array.getD_eq_getD_getElem?, Array.getElem?_append, hi'']
    rw [this]; exact .int _ _
  obtain ⟨ρ', h5, h6, h7, h8⟩ := hs.drew.newObj hor
  refine ⟨.slice (some ⟨w.heap.size, 0, none⟩) s.size cap, _, ρ', ?_, ?_, h7, h8.drewl⟩
  · have hw : World.freeze (w.drew.alloc (.cells cells e (0, 0))) ⟨w.heap.size, cap, none⟩ 1 = w.drew.alloc (.cells cells e (cap, cap + 1)) := by
      simp only [World.freeze, World.alloc, World.drew]
      rw [if_neg (by omega)]
      congr 1
      apply Array.ext_getElem?
      intro j
      rw [Array.getElem?_modify]
      split
      · rename_i hj; subst hj; simp
      · rename_i hj
        rw [Array.getElem?_push, Array.getElem?_push]
        simp [Ne.symm hj]
    have hforced : (Question.appendCap s.size 0 e).forced = false := rfl
    have hsh : (w.drew.alloc (.cells cells e (0, 0))).shape? w.heap.size = some (e, cap) := by
      simp only [World.shape?, World.alloc, World.drew]
      simp [hcs]
    simp only [Conv.stringToBytes, Sem.run_bind, run_choose, hforced, Bool.false_eq_true, if_false, Result.andThen_ok, newRow, run_newObj, Sem.run_pure, markStringish, run_shape]
    show Result.andThen (Sem.run P (match (w.drew.alloc (.cells cells e (0, 0))).shape? w.heap.size with | some (_, n) => freeze { block := w.heap.size, off := n } 1 | _ => pure ()) (w.drew.alloc (.cells cells e (0, 0))))
      (fun _ w' => Result.ok (Value.slice (some ⟨w.heap.size, 0, none⟩) s.size cap) w') = _
    rw [hsh]
    simp only [run_freeze, Result.andThen_ok]
    rw [hw]
  · have := VR.sliceX (ρ := ρ') σ.next 0 s.size cap 1 _ h5 (by simp) hcap
    simpa using this

/- copy, clear -/
theorem elemsOf_sound {P : Program} {ρ : Ren} {σ : Sto} {w : World} (hs : Sim ρ σ w) {size n : Nat} {x x' : Value} (hx : VR ρ x x') {l : List Value} (h : elemsOf σ size n x = some l) :
    ∃ l', VRl ρ l l' ∧ (Builtin.firstCells size n x').run P w = .ok l'.toArray w := by
  unfold elemsOf at h
  split at h
  · cases h; cases hx; exact ⟨[], .nil, by simp [Builtin.firstCells]⟩
  · rename_i b o m c
    have key : ∀ lc, ρ b = some lc → ∀ cc, ∃ l', VRl ρ l l' ∧ (Builtin.firstCells size n (.slice (some ⟨lc.blk, lc.base + o, none⟩) m cc)).run P w = .ok l'.toArray w := by
      intro lc hl cc
      obtain ⟨cvs, h1, h2⟩ := hs.run_loads (P := P) h hl
      exact ⟨cvs, h1, by simp [Builtin.firstCells, h2]⟩
    cases hx with
    | slice _ _ _ _ lc hl _ => exact key lc hl _
    | sliceX _ _ _ _ _ lc hl _ _ => exact key lc hl _
  · rename_i s
    cases h; cases hx
    refine ⟨(s.data.toList.take n).map fun b => Value.int .u8 b.toNat, VRl.closed ?_, ?_⟩
    · rw [List.all_eq_true]
      intro x hx
      rw [List.mem_map] at hx
      obtain ⟨b, _, rfl⟩ := hx
      rfl
    · have : (s.data.map fun b => Value.int .u8 b.toNat).extract 0 n = ((s.data.toList.take n).map fun b => Value.int .u8 b.toNat).toArray := by
        apply Array.ext'
        simp [List.extract_eq_take_drop]
      simp [Builtin.firstCells, this]
  · cases h

theorem lenV_sound {P : Program} {ρ : Ren} {w : World} {x x' : Value} (hx : VR ρ x x') {n : Nat} (h : lenV x = some n) : (Builtin.lenOf x').run P w = .ok n w := by
  unfold lenV at h
  split at h
  · cases h; cases hx <;> simp [Builtin.lenOf]
  · cases h; cases hx; simp [Builtin.lenOf]
  · cases h

theorem copyV_sound {P : Program} {tab : Tab} (hT : TabOK P tab) {ρ : Ren} {σ σ' : Sto} {w : World} (hs : Sim ρ σ w) {argTypes : Array TypeId} {type : TypeId} {ty e : TypeId} (hty : argTypes[0]? = some ty) (hd : P.underlying ty = some (.slice e)) {j : ATy} (hj : tab.get e = some j)
    {d d' s s' v : Value} (hdv : VR ρ d d') (hsv : VR ρ s s') (h : copyV σ j.size d s = some (v, σ')) : EffV P ρ σ w (Builtin.copy_ argTypes type #[d', s']) v σ' := by
  obtain ⟨inf, hinf, hsz, _⟩ := hT.info _ _ hj
  unfold copyV at h
  split at h
  · cases h
  · rename_i ns hns
    have hlen := lenV_sound (P := P) (w := w) hsv hns
    split at h
    · rename_i base dLen cap
      split at h
      · cases h
      · rename_i cs hcs
        obtain ⟨l', hl1, hl2⟩ := elemsOf_sound (P := P) hs hsv hcs
        have fin : ∀ (cbase : Option Addr) (cc : Nat) (w' : World), d' = .slice cbase dLen cc → ((match cbase with | some a => storeCells a l' | none => pure ()) : Sem Unit).run P w = .ok () w' →
            (Builtin.copy_ argTypes type #[d', s']).run P w = .ok (goInt (Nat.min ns dLen)) w' := by
          intro cbase cc w' hd' hst
          subst hd'
          rw [← hsz] at hl2
          simp only [Builtin.copy_]
          cases cbase with
          | none =>
            simp only at hst
            simp at hst; subst hst
            simp [hty, run_underlying hd, hlen, run_sizeOf hinf, hl2]
          | some a =>
            simp only at hst
            simp [hty, run_underlying hd, hlen, run_sizeOf hinf, hl2, hst]
        split at h
        · cases h
          cases hdv
          exact ⟨_, w, ρ, fin none _ w rfl (by simp), .int _ _, hs, Ev.refl _ _ _⟩
        · rename_i b o
          split at h
          · rename_i σ1 h1
            cases h
            have key : ∀ lc, ρ b = some lc → ∀ cc, d' = .slice (some ⟨lc.blk, lc.base + o, none⟩) dLen cc → EffV P ρ σ w (Builtin.copy_ argTypes type #[d', s']) (goInt (Nat.min ns dLen)) σ' := by
              intro lc hl cc hd'
              obtain ⟨w', h2, h3, h4⟩ := Sim.stores (P := P) hl cs l' o 0 o σ σ' w (by omega) hs h1 hl1
              exact ⟨_, w', ρ, fin _ cc w' hd' h2, .int _ _, h3, h4⟩
            cases hdv with
            | slice _ _ _ _ lc hl _ => exact key lc hl _ rfl
            | sliceX _ _ _ _ _ lc hl _ _ => exact key lc hl _ rfl
          · cases h
        · cases h
    · cases h

theorem clearV_sound {P : Program} {tab : Tab} (hT : TabOK P tab) (hZ : ZeroOK tab) {ρ : Ren} {σ σ' : Sto} {w : World} (hs : Sim ρ σ w) {argTypes : Array TypeId} {type : TypeId} {ty e : TypeId} (hty : argTypes[0]? = some ty) (hd : P.underlying ty = some (.slice e)) {j : ATy} (hj : tab.get e = some j)
    {z : List Value} (hz : zeroCs j = some z) {x x' v : Value} (hx : VR ρ x x') (h : clearV σ z x = some (v, σ')) : EffV P ρ σ w (Builtin.clear_ argTypes type #[x']) v σ' := by
  obtain ⟨zv, hz1, rfl⟩ := zeroCs_inv hz
  obtain ⟨hrun, hvr⟩ := zero_run hT hZ (ρ := ρ) (w := w) hj hz1
  unfold clearV at h
  split at h
  · cases h; cases hx
    exact ⟨_, w, ρ, by simp [Builtin.clear_, hty, run_underlying hd, undef], VR.undef, hs, Ev.refl _ _ _⟩
  · rename_i b o n cap
    split at h
    · rename_i hn
      cases h
      subst hn
      refine ⟨_, w, ρ, ?_, VR.undef, hs, Ev.refl _ _ _⟩
      cases hx <;> simp [Builtin.clear_, hty, run_underlying hd, undef]
    · rename_i hn
      split at h
      · rename_i σ1 h1
        cases h
        have hzc : Builtin.zeroCells zv.cells n = (zeroRow zv.cells.toList n).toArray := zeroRow_eq _ _
        have key : ∀ lc, ρ b = some lc → ∀ cc, EffV P ρ σ w (Builtin.clear_ argTypes type #[.slice (some ⟨lc.blk, lc.base + o, none⟩) n cc]) (.tuple #[]) σ' := by
          intro lc hl cc
          obtain ⟨w', h2, h3, h4⟩ := Sim.stores (P := P) hl (zeroRow zv.cells.toList n) (zeroRow zv.cells.toList n) o 0 o σ σ' w (by omega) hs h1 (zeroRow_closed hvr.cells)
          refine ⟨_, w', ρ, ?_, VR.undef, h3, h4⟩
          obtain ⟨n, rfl⟩ : ∃ m, n = m + 1 := ⟨n - 1, by omega⟩
          simp [Builtin.clear_, hty, run_underlying hd, hrun, hzc, h2, undef]
        cases hx with
        | slice _ _ _ _ lc hl _ => exact key lc hl _
        | sliceX _ _ _ _ _ lc hl _ _ => exact key lc hl _
      · cases h
  · cases h

end Go.AM
