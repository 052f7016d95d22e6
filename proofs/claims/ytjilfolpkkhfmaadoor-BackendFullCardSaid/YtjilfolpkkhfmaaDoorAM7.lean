/- What only computes: the theorem for the class. -/
import Derived.Test.YtjilfolpkkhfmaaDoorAM5b
namespace Go.AM

theorem add_mul_addr (k o n : Nat) : (⟨k, o, none⟩ : Addr).add n = ⟨k, o + n, none⟩ := addr_add k o n

theorem ixA_run {P : Program} {w : World} {ty e : TypeId} {len k o : Nat} {j : IntKind} {n : Int} {inf : TypeInfo} (hd : P.underlying ty = some (.array len e)) (hi : P.info? e = some inf) (h0 : 0 ≤ n) (h1 : n < len) :
    (Instr.indexAt ty (.pointer (some ⟨k, o, none⟩)) (.int j n)).run P w = .ok (.pointer (some ⟨k, o + n.toNat * inf.size, none⟩)) w := by
  simp [Instr.indexAt, asIntOf, run_underlying hd, Instr.sureAddr, run_sizeOf hi, h0, h1, addr_add]

theorem ixS_run {P : Program} {w : World} {ty e : TypeId} {len c k o : Nat} {j : IntKind} {n : Int} {inf : TypeInfo} (hd : P.underlying ty = some (.slice e)) (hi : P.info? e = some inf) (h0 : 0 ≤ n) (h1 : n < len) :
    (Instr.indexAt ty (.slice (some ⟨k, o, none⟩) len c) (.int j n)).run P w = .ok (.pointer (some ⟨k, o + n.toNat * inf.size, none⟩)) w := by
  simp [Instr.indexAt, asIntOf, run_underlying hd, run_sizeOf hi, h0, h1, addr_add]

theorem VR.addOff {ρ : Ren} {b o n : Nat} {k o' : Nat} (h : VR ρ (.pointer (some ⟨b, o, none⟩)) (.pointer (some ⟨k, o', none⟩))) : VR ρ (.pointer (some ⟨b, o + n, none⟩)) (.pointer (some ⟨k, o' + n, none⟩)) := by
  cases h with
  | ptr _ _ l hl => rw [Nat.add_assoc]; exact .ptr _ _ l hl

def ekOK (P : Program) : EK → TypeDesc → Prop
  | .bool, .bool => True
  | .ptr, .pointer e => ∃ inf, P.info? e = some inf ∧ inf.size ≠ 0
  | .slice, .slice _ => True
  | .map, .map _ _ => True
  | .func, .func _ _ _ => True
  | .iface, .interface _ => True
  | _, _ => False

theorem eqv_equalIn {P : Program} {w : World} {ρ : Ren} {k : EK} {t : TypeId} {d : TypeDesc} (hd : P.underlying t = some d) (hek : ekOK P k d) {a b c e : Value} {r : Bool} (h : eqvV k a b = some r) (ha : VR ρ a c) (hb : VR ρ b e) (n : Nat) :
    (Op.equalIn (n + 1) t c e).run P w = .ok r w := by
  unfold eqvV at h
  split at h <;> (try cases h) <;> (cases d <;> simp only [ekOK] at hek)
  · cases ha; cases hb; simp [Op.equalIn, run_underlying hd]
  · cases ha; cases hb <;> simp [Op.equalIn, run_underlying hd]
  · cases ha; cases hb; simp [Op.equalIn, run_underlying hd]
  · rename_i x y
    split at h
    · rename_i hblk
      cases h
      obtain ⟨inf, hinf, hne⟩ := hek
      cases ha with
      | ptr b1 o1 l1 hl1 =>
        cases hb with
        | ptr b2 o2 l2 hl2 =>
          simp only at hblk
          subst hblk
          rw [hl1] at hl2; cases hl2
          have : ((⟨l1.blk, l1.base + o1, none⟩ : Addr) == ⟨l1.blk, l1.base + o2, none⟩) = (o1 == o2) := by
            rw [Bool.eq_iff_iff]; simp
          simp [Op.equalIn, run_underlying hd, run_sizeOf hinf, hne, sameAddr, this]
    · cases h
  · cases ha; cases hb; simp [Op.equalIn, run_underlying hd]
  · cases ha; cases hb; simp [Op.equalIn, run_underlying hd]
  · cases ha; cases hb <;> simp [Op.equalIn, run_underlying hd]
  · cases ha <;> cases hb <;> simp [Op.equalIn, run_underlying hd]
  · cases ha; cases hb <;> simp [Op.equalIn, run_underlying hd]
  · cases ha; cases hb; simp [Op.equalIn, run_underlying hd]
  · cases ha; cases hb; simp [Op.equalIn, run_underlying hd]
  · cases ha; cases hb; simp [Op.equalIn, run_underlying hd]
  · cases ha; cases hb; simp [Op.equalIn, run_underlying hd]

theorem nil_equalIn {P : Program} {w : World} {t : TypeId} {ms : Array (String × TypeId)} (hd : P.underlying t = some (.interface ms)) (n : Nat) : (Op.equalIn (n + 1) t .nilIface .nilIface).run P w = .ok true w := by
  simp [Op.equalIn, run_underlying hd]

theorem eqvV_binOp {P : Program} {ρ : Ren} {k : EK} {t : TypeId} {a b c e : Value} {r : Bool} (h : eqvV k a b = some r) (ha : VR ρ a c) (hb : VR ρ b e) (x y : Operand) :
    (binOp .eql t c e = do let b ← Op.equal t c e; pure (.bool b)) ∧ (binOp .neq t c e = do let b ← Op.equal t c e; pure (.bool (!b))) ∧
    (∀ w, (eqGuard .eql t x y c e).run P w = .ok () w) ∧ ∀ w, (eqGuard .neq t x y c e).run P w = .ok () w := by
  unfold eqvV at h
  split at h <;> (try cases h) <;> (cases ha <;> cases hb) <;> refine ⟨rfl, rfl, ?_, ?_⟩ <;> (intro w; simp [eqGuard])

theorem eqv_sound {P : Program} {w : World} {ρ : Ren} {k : EK} {neg : Bool} {t : TypeId} {d : TypeDesc} (hd : P.underlying t = some d) (hek : ekOK P k d) {x y : Operand} {a b c e v : Value} (h : eqvO k neg (isConst x || isConst y) a b = some v) (ha : VR ρ a c) (hb : VR ρ b e)
    {op : BinOp} (hop : op = if neg then BinOp.neq else BinOp.eql) :
    (do eqGuard op t x y c e; binOp op t c e : Sem Value).run P w = .ok v w ∧ VR ρ v v := by
  have fin : ∀ (r : Bool), (binOp .eql t c e = do let b ← Op.equal t c e; pure (.bool b)) → (binOp .neq t c e = do let b ← Op.equal t c e; pure (.bool (!b))) →
      (eqGuard op t x y c e).run P w = .ok () w → (Op.equalIn (9999 + 1) t c e).run P w = .ok r w → v = .bool (if neg then !r else r) →
      (do eqGuard op t x y c e; binOp op t c e : Sem Value).run P w = .ok v w ∧ VR ρ v v := by
    intro r h1 h2 h3 h4 h5
    have h4' : (Op.equal t c e).run P w = .ok r w := h4
    subst h5
    refine ⟨?_, .bool _⟩
    rw [Sem.run_bind, h3, Result.andThen_ok]
    subst hop
    cases neg
    · simp only [Bool.false_eq_true, if_false]; rw [h1, Sem.run_bind, h4', Result.andThen_ok]; rfl
    · simp only [if_true]; rw [h2, Sem.run_bind, h4', Result.andThen_ok]; rfl
  unfold eqvO at h
  split at h
  · rename_i hn
    split at h
    · rename_i hc
      cases h
      simp only [Bool.and_eq_true, beq_iff_eq] at hc hn
      obtain ⟨hc, rfl⟩ := hc
      cases a <;> (try (simp [isNilI] at hn; done))
      cases b <;> (try (simp [isNilI] at hn; done))
      cases ha; cases hb
      cases d <;> simp only [ekOK] at hek
      have hg : (eqGuard op t x y .nilIface .nilIface).run P w = .ok () w := by
        subst hop
        cases neg <;> cases x <;> cases y <;> simp [isConst] at hc <;> simp [eqGuard]
      exact fin true rfl rfl hg (nil_equalIn hd 9999) (by cases neg <;> rfl)
    · cases h
  · split at h
    · rename_i r hr
      cases h
      obtain ⟨h1, h2, h3, h4⟩ := eqvV_binOp (P := P) (t := t) hr ha hb x y
      refine fin r h1 h2 ?_ (eqv_equalIn (w := w) hd hek hr ha hb 9999) rfl
      subst hop
      cases neg
      · exact h3 w
      · exact h4 w
    · cases h

theorem slX_inv {a : Option Addr} {len : Nat} {lo hi mx : Option Value} {size : Nat} {v : Value} (h : slX a len lo hi mx size = some v) :
    ∃ ad l k m, a = some ad ∧ bnds len len lo hi mx = some (l, k, m) ∧
      ((mx.isSome = true ∧ m < CAPX ∧ v = .slice (some (if m = l then ad else ad.add (l * size))) (k - l) (m - l)) ∨
       (mx = none ∧ l = 0 ∧ v = .slice (some ad) k (CAPX + size)) ∨ (mx = none ∧ 0 < l ∧ l < len ∧ v = .slice (some (ad.add (l * size))) (k - l) (CAPX + size))) := by
  unfold slX at h
  split at h
  · cases h
  · rename_i ad
    split at h
    · cases h
    · rename_i l k m hb
      refine ⟨ad, l, k, m, rfl, hb, ?_⟩
      split at h
      · rename_i hx
        split at h
        · rename_i hm; cases h; exact .inl ⟨hx, hm, rfl⟩
        · cases h
      · rename_i hx
        have hmx : mx = none := by cases mx <;> simp_all
        split at h
        · rename_i hl; cases h; exact .inr (.inl ⟨hmx, hl, rfl⟩)
        · rename_i hl
          split at h
          · rename_i hl2; cases h; exact .inr (.inr ⟨hmx, by omega, hl2, rfl⟩)
          · cases h

theorem bnd_le {v : Value} {y i : Nat} (h : bnd v y = some i) : i ≤ y := by
  unfold bnd at h
  split at h
  · split at h
    · rename_i hc; cases h; omega
    · cases h
  · cases h
theorem bnd_mono {v : Value} {y z i : Nat} (h : bnd v y = some i) (hz : y ≤ z) : bnd v z = some i := by
  unfold bnd at h ⊢
  split at h
  · split at h
    · rename_i hc; rw [if_pos ⟨hc.1, by omega⟩]; exact h
    · cases h
  · cases h

/-- The bounds under a capacity that is at least the length. -/
theorem bnds_mono {len cap : Nat} {lo hi mx : Option Value} {l k m : Nat} (h : bnds len len lo hi mx = some (l, k, m)) (hc : len ≤ cap) :
    bnds len cap lo hi mx = some (l, k, if mx.isSome then m else cap) ∧ l ≤ k ∧ k ≤ len ∧ m ≤ len := by
  obtain ⟨l', k', m', e, h1, h2, h3, h4⟩ := bnds_inv h
  cases e
  have hm : m ≤ len := by
    cases mx with
    | none => simp only [bndO, Option.some.injEq] at h1; omega
    | some v => exact bnd_le h1
  have hk : k ≤ len := by
    cases hi with
    | none => simp only [bndO, Option.some.injEq] at h3; omega
    | some v => have := bnd_le h3; omega
  have hl : l ≤ k := by
    cases lo with
    | none => simp only [bndO, Option.some.injEq] at h4; omega
    | some v => exact bnd_le h4
  refine ⟨?_, hl, hk, hm⟩
  unfold bnds
  cases mx with
  | none =>
    simp only [bndO, Option.isSome_none, Bool.false_and, Bool.false_eq_true, if_false]
    have : bndO hi cap len = some k := by
      cases hi with
      | none => exact h3
      | some v => simp only [bndO, Option.some.injEq] at h1; subst h1; exact bnd_mono h3 hc
    simp only [bndO] at this
    rw [this]
    simp only []
    have h4' := h4
    simp only [bndO] at h4'
    rw [h4']
  | some v =>
    have e1 : bndO (some v) cap cap = some m := bnd_mono h1 hc
    rw [e1]
    simp only [Option.isSome_some, Bool.true_and, if_true]
    have : hi.isNone = false := by have := h2 rfl; cases hi <;> simp_all
    rw [this]
    simp only [Bool.false_eq_true, if_false]
    rw [h3]
    simp only []
    rw [h4]

theorem slice_sound {P : Program} {tab : Tab} {mrows : String → List (TypeId × FuncId)} (hT : TabOK P tab) {ρ : Ren} {t : Tr Value} {a : Act} {w : World} (hl : LR ρ t a.tmps) (hG : GR P ρ)
    {ty : TypeId} {x : Operand} {lo hi mx : Option Operand} (hx : opdOK P.globals.size x = true) (hlo : ∀ y, lo = some y → opdOK P.globals.size y = true) (hhi : ∀ y, hi = some y → opdOK P.globals.size y = true) (hmx : ∀ y, mx = some y → opdOK P.globals.size y = true)
    {dst : Option Tmp} {type : TypeId} {pos : String} {after : Array Edge} {guard : Option (Nat × Bool)}
    {aop : AOp} (hc : compileOp P tab mrows (.slice ty x lo hi mx) = some aop) {v : Value} (hr : runPure t aop = some v) :
    ∃ cv, Val P (execOp a.eval ⟨dst, .slice ty x lo hi mx, type, pos, after, guard⟩) w cv w ∧ VR ρ v cv := by
  simp only [compileOp, opt_bind] at hc
  obtain ⟨i, hi', hc⟩ := hc
  have hd := hT.desc _ _ hi'
  split at hc
  · rename_i e hde
    simp only [opt_bind] at hc
    obtain ⟨j, hj, hc⟩ := hc
    cases hc
    obtain ⟨inf, hinf, hs, _⟩ := hT.info _ _ hj
    simp only [runPure, opt_bind] at hr
    obtain ⟨u, h1, l', h2, k', h3, m', h4, h5⟩ := hr
    have e1 := evO_sound hl hG hlo h2
    have e2 := evO_sound hl hG hhi h3
    have e3 := evO_sound hl hG hmx h4
    have eu := ev_sound hl hG hx h1
    rw [hde] at hd
    split at h5
    · rename_i ad len cap
      generalize hcu : a.eval x = cu at eu
      have fin : ∀ (ca : Option Addr) (c l k m : Nat), cu = .slice ca len c → (Instr.sliceBounds true len c (lo.map a.eval) (hi.map a.eval) (mx.map a.eval)).run P w = .ok (l, k, m) w →
          VR ρ v (.slice (if m = l then ca else ca.map (·.add (l * j.size))) (k - l) (m - l)) →
          ∃ cv, Val P (execOp a.eval ⟨dst, .slice ty x lo hi mx, type, pos, after, guard⟩) w cv w ∧ VR ρ v cv := by
        intro ca c l k m hcc hb hv
        subst hcc
        refine ⟨_, .inl ?_, hv⟩
        rw [← hs]
        simp [execOp, hcu, Instr.sliceAt, Instr.slice, run_underlying hd, hb, run_sizeOf hinf]
      split at h5
      · rename_i hcap
        cases eu with
        | nilslice n c =>
          obtain ⟨l, k, m, h6, h7⟩ := slK_sound (ρ := ρ) (c := none) h5 (.inl ⟨rfl, rfl⟩) hcap
          exact fin none _ l k m rfl (bnds_sound h6 e1 e2 e3) h7
        | slice b o n c lc hb hcx =>
          obtain ⟨l, k, m, h6, h7⟩ := slK_sound (ρ := ρ) h5 (.inr ⟨b, o, lc, rfl, hb, rfl⟩) hcap
          exact fin _ _ l k m rfl (bnds_sound h6 e1 e2 e3) h7
        | sliceX b o n c s lc hb hcx hn => omega
      · rename_i hcap
        split at h5
        · rename_i hcs
          obtain ⟨ad', l, k, m, rfl, h6, h7⟩ := slX_inv h5
          cases eu with
          | slice b o n c lc hb hcx => omega
          | sliceX b o n c s lc hb hcx hn =>
            obtain rfl : s = j.size := by omega
            obtain ⟨h8, h9, h10, h11⟩ := bnds_mono h6 hn
            have hrun := bnds_sound (P := P) (w := w) (s := true) h8 e1 e2 e3
            refine fin _ _ l k _ rfl hrun ?_
            rcases h7 with ⟨hx1, hx2, rfl⟩ | ⟨hx1, hx2, rfl⟩ | ⟨hx1, hx2, hx3, rfl⟩
            · rw [if_pos hx1]
              by_cases e : m = l
              · rw [if_pos e, if_pos e]; exact .slice b o _ _ lc hb (by omega)
              · rw [if_neg e, if_neg e]
                simp only [Option.map_some, addr_add]
                rw [Nat.add_assoc]
                exact .slice b (o + l * j.size) _ _ lc hb (by omega)
            · subst hx1; subst hx2
              simp only [Option.isSome_none, Bool.false_eq_true, if_false, Nat.zero_mul, Nat.sub_zero, Option.map_some, addr_add, Nat.add_zero, ite_self]
              exact .sliceX b o _ _ _ lc hb hcx (by omega)
            · subst hx1
              simp only [Option.isSome_none, Bool.false_eq_true, if_false]
              rw [if_neg (by omega)]
              simp only [Option.map_some, addr_add]
              rw [Nat.add_assoc]
              refine .sliceX b (o + l * j.size) _ _ _ lc hb ?_ (by omega)
              rw [Nat.sub_mul]
              have : l * j.size ≤ c * j.size := Nat.mul_le_mul_right _ (by omega)
              omega
        · cases h5
    · cases h5
  · rename_i n e hde
    simp only [opt_bind] at hc
    obtain ⟨j, hj, hc⟩ := hc
    cases hc
    obtain ⟨inf, hinf, hs, _⟩ := hT.info _ _ hj
    simp only [runPure, opt_bind] at hr
    obtain ⟨u, h1, l', h2, k', h3, m', h4, h5⟩ := hr
    have e1 := evO_sound hl hG hlo h2
    have e2 := evO_sound hl hG hhi h3
    have e3 := evO_sound hl hG hmx h4
    have eu := ev_sound hl hG hx h1
    rw [hde] at hd
    split at h5
    · rename_i ad
      generalize hcu : a.eval x = cu at eu
      split at h5
      · rename_i hn
        cases eu with
        | ptr b o lc hb =>
          obtain ⟨l, k, m, h6, h7⟩ := slK_sound (ρ := ρ) h5 (.inr ⟨b, o, lc, rfl, hb, rfl⟩) hn
          have hrun := bnds_sound (P := P) (w := w) (s := false) h6 e1 e2 e3
          refine ⟨_, .inl ?_, h7⟩
          rw [← hs]
          simp only [execOp, hcu, Instr.sliceAt, Sem.run_bind, run_underlying hd, Result.andThen_ok, Instr.sureAddr, Sem.run_pure, hrun, run_sizeOf hinf]
          by_cases e : m = l <;> simp [e]
      · cases h5
    · cases h5
  · rename_i hde
    split at hc
    · rename_i hmn
      cases hc
      simp only [runPure, opt_bind] at hr
      obtain ⟨u, h1, l', h2, k', h3, h5⟩ := hr
      have e1 := evO_sound hl hG hlo h2
      have e2 := evO_sound hl hG hhi h3
      have eu := ev_sound hl hG hx h1
      rw [hde] at hd
      split at h5
      · rename_i s
        generalize hcu : a.eval x = cu at eu
        cases eu
        split at h5
        · rename_i l k m hb
          cases h5
          have hrun := bnds_sound (P := P) (w := w) (s := false) (mx' := none) hb e1 e2 trivial
          obtain rfl : mx = none := by cases mx <;> simp_all
          refine ⟨_, .inl ?_, .string _⟩
          simp [execOp, hcu, Instr.sliceAt, Instr.slice, run_underlying hd, hrun]
        · cases h5
      · cases h5
    · cases hc
  · cases hc

theorem builtin_pure_sound {P : Program} {tab : Tab} {mrows : String → List (TypeId × FuncId)} (hT : TabOK P tab) {ρ : Ren} {t : Tr Value} {a : Act} {w : World} (hl : LR ρ t a.tmps) (hG : GR P ρ)
    {b : Builtin} {args : Array Operand} {argTypes : Array TypeId} (hok : ∀ x ∈ args.toList, opdOK P.globals.size x = true)
    {dst : Option Tmp} {type : TypeId} {pos : String} {after : Array Edge} {guard : Option (Nat × Bool)}
    {aop : AOp} (hc : compileOp P tab mrows (.call ⟨.builtin b, args, argTypes⟩) = some aop) (hcls : aop.cls = .pure) {v : Value} (hr : runPure t aop = some v) :
    ∃ cv, Val P (execOp a.eval ⟨dst, .call ⟨.builtin b, args, argTypes⟩, type, pos, after, guard⟩) w cv w ∧ VR ρ v cv := by
  simp only [compileOp, opt_bind] at hc
  obtain ⟨ty, hty, i, hi, hc⟩ := hc
  have hd := hT.desc _ _ hi
  have run : ∀ (s : Sem Value) (cv : Value), (∀ cs, builtin b argTypes type cs (args.map a.eval) = (do pure (.value (← s)))) → s.run P w = .ok cv w → VR ρ v cv →
      ∃ cv, Val P (execOp a.eval ⟨dst, .call ⟨.builtin b, args, argTypes⟩, type, pos, after, guard⟩) w cv w ∧ VR ρ v cv := by
    intro s cv h1 h2 h3
    refine ⟨cv, .inl ?_, h3⟩
    simp only [execOp, resolve, Sem.run_bind, Sem.run_pure, Result.andThen_ok, invoke, h1, h2]
  cases b <;> simp only [compileBuiltin] at hc <;> try (cases hc; done)
  case len =>
    split at hc
    · rename_i x hx
      have hxm : x ∈ args.toList := by rw [hx]; simp
      have hargs : args.map a.eval = #[a.eval x] := by
        apply Array.ext'; simp [hx]
      have ex : ∀ u, ev t x = some u → VR ρ u (a.eval x) := fun u h => ev_sound hl hG (hok x hxm) h
      have lenc : ∀ (n : Nat), aop = .lenC n → (∀ cu, (Builtin.len_ argTypes type #[cu]).run P w = .ok (goInt n) w) →
          ∃ cv, Val P (execOp a.eval ⟨dst, .call ⟨.builtin .len, args, argTypes⟩, type, pos, after, guard⟩) w cv w ∧ VR ρ v cv := by
        intro n ha hrun
        subst ha
        simp only [runPure, Option.some.injEq] at hr; subst hr
        exact run (Builtin.len_ argTypes type (args.map a.eval)) _ (fun cs => rfl) (by rw [hargs]; exact hrun _) (.int _ _)
      split at hc
      · rename_i hde
        cases hc
        simp only [runPure, opt_bind] at hr
        obtain ⟨u, h1, h2⟩ := hr
        have hu := ex u h1
        rw [hde] at hd
        split at h2
        · simp only [if_true, Option.some.injEq] at h2; subst h2
          generalize hcu : a.eval x = cu at hu
          cases hu
          exact run (Builtin.len_ argTypes type (args.map a.eval)) _ (fun cs => rfl) (by rw [hargs, hcu]; simp [Builtin.len_, hty, run_underlying hd, goInt]) (.int _ _)
        · simp at h2
        · cases h2
      · rename_i e hde
        cases hc
        simp only [runPure, opt_bind] at hr
        obtain ⟨u, h1, h2⟩ := hr
        have hu := ex u h1
        rw [hde] at hd
        split at h2
        · simp at h2
        · simp only [Bool.false_eq_true, if_false, Option.some.injEq] at h2; subst h2
          generalize hcu : a.eval x = cu at hu
          cases hu
          all_goals exact run (Builtin.len_ argTypes type (args.map a.eval)) _ (fun cs => rfl) (by rw [hargs, hcu]; simp [Builtin.len_, hty, run_underlying hd, goInt]) (.int _ _)
        · cases h2
      · rename_i n e hde
        cases hc
        rw [hde] at hd
        exact lenc n rfl (fun cu => by simp [Builtin.len_, hty, run_underlying hd])
      · cases hc; simp [AOp.cls] at hcls
      · rename_i pa hde
        split at hc
        · rename_i ia hia
          split at hc
          · rename_i n e hda
            cases hc
            have hd2 := hT.desc _ _ hia
            rw [hda] at hd2
            rw [hde] at hd
            exact lenc n rfl (fun cu => by simp [Builtin.len_, hty, run_underlying hd, run_underlying hd2])
          · cases hc
        · cases hc
      · cases hc
    · cases hc
  case append => (repeat' split at hc) <;> cases hc <;> simp [AOp.cls] at hcls
  case copy => (repeat' split at hc) <;> cases hc <;> simp [AOp.cls] at hcls
  case clear => (repeat' split at hc) <;> cases hc <;> simp [AOp.cls] at hcls
  case delete => (repeat' split at hc) <;> cases hc <;> simp [AOp.cls] at hcls
  case min =>
    cases hc
    simp only [runPure, opt_bind] at hr
    obtain ⟨us, h1, h2⟩ := hr
    split at h2
    · rename_i k n l
      obtain ⟨c, l', e, hc1, hc2⟩ := (evs_sound hl hG args.toList _ hok h1).cons_inv
      cases hc1
      obtain ⟨h3, h4⟩ := minmax_sound (P := P) (w := w) false l k n v l' h2 hc2
      refine run (Builtin.min_ argTypes type (args.map a.eval)) v (fun cs => rfl) ?_ h4
      simp only [Builtin.min_, Array.toList_map, e]
      simpa using h3
    · cases h2
  case max =>
    cases hc
    simp only [runPure, opt_bind] at hr
    obtain ⟨us, h1, h2⟩ := hr
    split at h2
    · rename_i k n l
      obtain ⟨c, l', e, hc1, hc2⟩ := (evs_sound hl hG args.toList _ hok h1).cons_inv
      cases hc1
      obtain ⟨h3, h4⟩ := minmax_sound (P := P) (w := w) true l k n v l' h2 hc2
      refine run (Builtin.max_ argTypes type (args.map a.eval)) v (fun cs => rfl) ?_ h4
      simp only [Builtin.max_, Array.toList_map, e]
      simpa using h3
    · cases h2

theorem pure_sound {P : Program} {tab : Tab} {mrows : String → List (TypeId × FuncId)} (hT : TabOK P tab) (hZ : ZeroOK tab) (hD : 20 ≤ P.depth) {ρ : Ren} {t : Tr Value} {a : Act} {w : World} (hl : LR ρ t a.tmps) (hG : GR P ρ)
    {o : Oper} (hok : ∀ x ∈ o.op.operands.toList, opdOK P.globals.size x = true) {aop : AOp} (hc : compileOp P tab mrows o.op = some aop) (hcls : aop.cls = .pure) {v : Value} (hr : runPure t aop = some v) :
    ∃ cv, Val P (execOp a.eval o) w cv w ∧ VR ρ v cv := by
  have E : ∀ x, x ∈ o.op.operands.toList → ∀ v, ev t x = some v → VR ρ v (a.eval x) := fun x hx v h => ev_sound hl hG (hok x hx) h
  obtain ⟨dst, op, type, pos, after, guard⟩ := o
  simp only at hok hc E
  cases op with
  | move x => cases hc; exact ⟨_, .inl rfl, E x (by simp [Op.operands]) v hr⟩
  | assign x => cases hc; exact ⟨_, .inl rfl, E x (by simp [Op.operands]) v hr⟩
  | pick c x y =>
    cases hc
    simp only [runPure, opt_bind] at hr
    obtain ⟨u, h1, h2⟩ := hr
    have hu := E c (by simp [Op.operands]) u h1
    split at h2
    · rename_i b
      generalize hcv : a.eval c = cc at hu
      cases hu
      cases b
      · simp only [Bool.false_eq_true, if_false] at h2
        exact ⟨_, .inl (by simp [execOp, hcv, asBool]), E y (by simp [Op.operands]) v h2⟩
      · simp only [if_true] at h2
        exact ⟨_, .inl (by simp [execOp, hcv, asBool]), E x (by simp [Op.operands]) v h2⟩
    · cases h2
  | nilCheck x =>
    cases hc
    simp only [runPure, opt_bind] at hr
    obtain ⟨u, h1, h2⟩ := hr
    have hu := E x (by simp [Op.operands]) u h1
    split at h2 <;> cases h2
    · generalize hcv : a.eval x = cc at hu
      cases hu with
      | ptr b o l hb => exact ⟨_, .inl (by simp [execOp, hcv]), .ptr b o l hb⟩
    · generalize hcv : a.eval x = cc at hu
      cases hu with
      | func fn p q p' q' h3 h4 h5 h6 => exact ⟨_, .inl (by simp [execOp, hcv]), .func _ _ _ _ _ h3 h4 h5 h6⟩
    · generalize hcv : a.eval x = cc at hu
      cases hu with
      | iface t p q h => exact ⟨_, .inl (by simp [execOp, hcv]), .iface _ _ _ h⟩
  | build ty ps =>
    obtain ⟨cv, h1, h2⟩ := build_sound hT hZ (w := w) hl hG hok hc hr
    exact ⟨cv, .inl (by simp [execOp, h1]), h2⟩
  | binOp op ty x y ty2 =>
    simp only [compileOp, opt_bind] at hc
    obtain ⟨i, hi, hc⟩ := hc
    have bin : ∀ (ha : aop = .bin op x y), ∃ cv, Val P (execOp a.eval ⟨dst, .binOp op ty x y ty2, type, pos, after, guard⟩) w cv w ∧ VR ρ v cv := by
      intro ha; subst ha
      simp only [runPure, opt_bind] at hr
      obtain ⟨p, h1, q, h2, h3⟩ := hr
      obtain ⟨h4, h5, h6⟩ := bin_sound (P := P) (w := w) (t := ty) h3 (E x (by simp [Op.operands]) p h1) (E y (by simp [Op.operands]) q h2)
      exact ⟨v, .inl (by simp [execOp, h6, h4]), h5⟩
    have flat : ∀ (neg : Bool) (hneg : op = if neg then BinOp.neq else BinOp.eql) (ks : List LK), leafs P tab 20 ty = some ks → isAggT i.desc = true → aop = .eqFlat neg ks x y →
        ∃ cv, Val P (execOp a.eval ⟨dst, .binOp op ty x y ty2, type, pos, after, guard⟩) w cv w ∧ VR ρ v cv := by
      intro neg hneg ks hks hag ha
      subst ha
      simp only [runPure, opt_bind] at hr
      obtain ⟨p, h1, q, h2, h3⟩ := hr
      have e1 := E x (by simp [Op.operands]) p h1
      have e2 := E y (by simp [Op.operands]) q h2
      split at h3
      · rename_i xs ys
        simp only [opt_bind] at h3
        obtain ⟨b, h3, h4⟩ := h3
        cases h4
        obtain ⟨xs', e3, hx⟩ := e1.agg_inv
        obtain ⟨ys', e4, hy⟩ := e2.agg_inv
        obtain ⟨e5, e6⟩ := eqLKs_same _ _ _ _ _ _ h3 hx hy
        obtain rfl := Array.ext' e5
        obtain rfl := Array.ext' e6
        have hrun := equalIn_flat hT 20 ty ks hks 10000 (by omega) w (.agg xs') (.agg ys') b (by simpa [eqFlat] using h3) (fun i' hi' => by rw [hi] at hi'; cases hi'; simpa [isAggB] using hag)
        have hguard := eqGuardType_flat hT 20 ty ks hks P.depth hD
        refine ⟨.bool (if neg then !b else b), .inl ?_, .bool _⟩
        subst hneg
        cases neg
        · simp only [Bool.false_eq_true, if_false, execOp, e3, e4, Sem.run_bind, run_eqGuard_agg w _ ty x y xs' ys' hguard, Result.andThen_ok, run_eql_struct, hrun, Sem.run_pure]
        · simp only [if_true, execOp, e3, e4, Sem.run_bind, run_eqGuard_agg w _ ty x y xs' ys' hguard, Result.andThen_ok, run_neq_struct, hrun, Sem.run_pure]
      · cases h3
    have eqv : ∀ (neg : Bool) (hneg : op = if neg then BinOp.neq else BinOp.eql) (k : EK), aop = .eqv k neg x y → ekOK P k i.desc →
        ∃ cv, Val P (execOp a.eval ⟨dst, .binOp op ty x y ty2, type, pos, after, guard⟩) w cv w ∧ VR ρ v cv := by
      intro neg hneg k ha hek
      subst ha
      simp only [runPure, opt_bind] at hr
      obtain ⟨p, h1, q, h2, h3⟩ := hr
      have hrun := eqv_sound (P := P) (w := w) (t := ty) (hT.desc _ _ hi) hek h3 (E x (by simp [Op.operands]) p h1) (E y (by simp [Op.operands]) q h2) (op := op) hneg
      exact ⟨v, Val.of hrun.1, hrun.2⟩
    have two : ∀ (neg : Bool) (hneg : op = if neg then BinOp.neq else BinOp.eql), (match i.desc with
        | .int _ => pure (.bin op x y)
        | .string => pure (.bin op x y)
        | .struct _ => do let ks ← leafs P tab 20 ty; pure (.eqFlat (op == .neq) ks x y)
        | .array _ _ => do let ks ← leafs P tab 20 ty; pure (.eqFlat (op == .neq) ks x y)
        | .bool => pure (.eqv .bool (op == .neq) x y)
        | .pointer e => do let j ← tab.get e; if j.size = 0 then none else pure (.eqv .ptr (op == .neq) x y)
        | .slice _ => pure (.eqv .slice (op == .neq) x y)
        | .map _ _ => pure (.eqv .map (op == .neq) x y)
        | .func _ _ _ => pure (.eqv .func (op == .neq) x y)
        | .interface _ => pure (.eqv .iface (op == .neq) x y)
        | _ => none) = some aop →
        ∃ cv, Val P (execOp a.eval ⟨dst, .binOp op ty x y ty2, type, pos, after, guard⟩) w cv w ∧ VR ρ v cv := by
      intro neg hneg hc
      have hneq : (op == .neq) = neg := by subst hneg; cases neg <;> rfl
      rw [hneq] at hc
      split at hc
      · exact bin (by simpa using hc.symm)
      · exact bin (by simpa using hc.symm)
      · rename_i fs hfs
        simp only [opt_bind] at hc
        obtain ⟨ks, hks, hc⟩ := hc
        exact flat neg hneg ks hks (by rw [hfs]; rfl) (by simpa using hc.symm)
      · rename_i n e hfs
        simp only [opt_bind] at hc
        obtain ⟨ks, hks, hc⟩ := hc
        exact flat neg hneg ks hks (by rw [hfs]; rfl) (by simpa using hc.symm)
      · rename_i hd; exact eqv neg hneg .bool (by simpa using hc.symm) (by simp [ekOK, hd])
      · rename_i e hd
        simp only [opt_bind] at hc
        obtain ⟨j, hj, hc⟩ := hc
        split at hc
        · cases hc
        · rename_i hne
          obtain ⟨inf, hinf, hs, _⟩ := hT.info _ _ hj
          exact eqv neg hneg .ptr (by simpa using hc.symm) (by rw [hd]; exact ⟨inf, hinf, by rw [hs]; exact hne⟩)
      · rename_i hd; exact eqv neg hneg .slice (by simpa using hc.symm) (by simp [ekOK, hd])
      · rename_i hd; exact eqv neg hneg .map (by simpa using hc.symm) (by simp [ekOK, hd])
      · rename_i hd; exact eqv neg hneg .func (by simpa using hc.symm) (by simp [ekOK, hd])
      · rename_i hd; exact eqv neg hneg .iface (by simpa using hc.symm) (by simp [ekOK, hd])
      · cases hc
    split at hc
    · exact two false rfl hc
    · exact two true rfl hc
    · exact bin (by simpa using hc.symm)
  | unOp op ty x =>
    cases hc
    simp only [runPure, opt_bind] at hr
    obtain ⟨u, h1, h2⟩ := hr
    obtain ⟨h3, h4⟩ := un_sound (P := P) (w := w) h2 (E x (by simp [Op.operands]) u h1)
    exact ⟨v, .inl (by simp [execOp, h3]), h4⟩
  | convert s d x =>
    simp only [compileOp, opt_bind] at hc
    obtain ⟨i, hi, j, hj, hc⟩ := hc
    have hs := hT.desc _ _ hi
    have hd := hT.desc _ _ hj
    split at hc
    · rename_i k1 k2 h1 h2
      cases hc
      simp only [runPure, opt_bind] at hr
      obtain ⟨u, h3, h4⟩ := hr
      have hu := E x (by simp [Op.operands]) u h3
      split at h4 <;> cases h4
      generalize hcv : a.eval x = cc at hu
      cases hu
      rw [h1] at hs; rw [h2] at hd
      exact ⟨_, .inl (by simp [execOp, hcv, convert, run_underlying hs, run_underlying hd, Conv.intToInt]), .int _ _⟩
    · rename_i h1 h2
      cases hc
      simp only [runPure, opt_bind] at hr
      obtain ⟨u, h3, h4⟩ := hr
      have hu := E x (by simp [Op.operands]) u h3
      split at h4 <;> cases h4
      generalize hcv : a.eval x = cc at hu
      cases hu
      rw [h1] at hs; rw [h2] at hd
      exact ⟨_, .inl (by simp [execOp, hcv, convert, run_underlying hs, run_underlying hd]), .string _⟩
    · rename_i k1 h1 h2
      cases hc
      simp only [runPure, opt_bind] at hr
      obtain ⟨u, h3, h4⟩ := hr
      have hu := E x (by simp [Op.operands]) u h3
      split at h4 <;> cases h4
      generalize hcv : a.eval x = cc at hu
      cases hu
      rw [h1] at hs; rw [h2] at hd
      exact ⟨_, .inl (by simp [execOp, hcv, convert, run_underlying hs, run_underlying hd, Conv.intToString]), .string _⟩
    · simp only [opt_bind] at hc
      obtain ⟨m, hm, hc⟩ := hc
      split at hc <;> cases hc
      simp [AOp.cls] at hcls
    · simp only [opt_bind] at hc
      obtain ⟨m, hm, hc⟩ := hc
      split at hc <;> cases hc
      simp [AOp.cls] at hcls
    · cases hc
  | makeInterface ty x =>
    simp only [compileOp, opt_bind] at hc
    obtain ⟨i, hi, hc⟩ := hc
    have hd := hT.desc _ _ hi
    split at hc
    · cases hc
    · rename_i hne
      cases hc
      simp only [runPure, opt_bind] at hr
      obtain ⟨u, h1, h2⟩ := hr
      cases h2
      refine ⟨.iface ty (a.eval x), .inl ?_, .iface _ _ _ (E x (by simp [Op.operands]) u h1)⟩
      simp only [execOp, Instr.makeInterface]
      cases hdd : i.desc <;> (first | (rename_i ms; exact (hne ms hdd).elim) | simp [run_underlying (hdd ▸ hd)])
  | makeFunc fn p q =>
    cases hc
    simp only [runPure, opt_bind] at hr
    obtain ⟨us, h1, vs, h2, h3⟩ := hr
    cases h3
    have e1 := evs_sound hl hG p.toList us (fun x hx => hok x (by simp [Op.operands]; left; simpa using hx)) h1
    have e2 := evs_sound hl hG q.toList vs (fun x hx => hok x (by simp [Op.operands]; right; simpa using hx)) h2
    refine ⟨.func fn (p.map a.eval) (q.map a.eval), .inl (by simp [execOp, Instr.makeFunc]), ?_⟩
    have f1 := VR.agg_of e1
    have f2 := VR.agg_of e2
    cases f1 with
    | agg _ _ ha hh => cases f2 with
      | agg _ _ ha2 hh2 =>
        refine .func _ _ _ _ _ (by simpa using ha) (by simpa using ha2) (fun i hi => ?_) (fun i hi => ?_)
        · simpa using hh i hi
        · simpa using hh2 i hi
  | fieldAddr ty x f =>
    simp only [compileOp, opt_bind] at hc
    obtain ⟨i, hi, hc⟩ := hc
    have hd := hT.desc _ _ hi
    split at hc
    · rename_i fs hfs
      simp only [opt_bind] at hc
      obtain ⟨fd, hfd, j, hj, hc⟩ := hc
      obtain ⟨inf, hinf, hsz, _⟩ := hT.info _ _ hj
      split at hc
      · cases hc
      · rename_i hne
        cases hc
        simp only [runPure, opt_bind] at hr
        obtain ⟨u, h1, h2⟩ := hr
        obtain ⟨k, o, h3, h4⟩ := addOff_sound h2 (E x (by simp [Op.operands]) u h1)
        rw [hfs] at hd
        refine ⟨_, .inl ?_, h4⟩
        have hne' : ¬ inf.size = 0 := by rw [hsz]; exact hne
        simp [execOp, h3, Instr.fieldAt, run_underlying hd, hfd, Instr.sureAddr, fieldPlace, run_sizeOf hinf, hne', addr_add]
    · cases hc
  | field ty x f =>
    simp only [compileOp, opt_bind] at hc
    obtain ⟨i, hi, hc⟩ := hc
    have hd := hT.desc _ _ hi
    split at hc
    · rename_i fs hfs
      simp only [opt_bind] at hc
      obtain ⟨fd, hfd, n, hn, hc⟩ := hc
      cases hc
      simp only [runPure, opt_bind] at hr
      obtain ⟨u, h1, h2⟩ := hr
      obtain ⟨cs, h3, h4, h5⟩ := field_sound h2 (E x (by simp [Op.operands]) u h1)
      obtain ⟨cv, h6, h7⟩ := part_sound hT (w := w) hn h4 h5
      rw [hfs] at hd
      exact ⟨cv, .inl (by simp [execOp, h3, Instr.field, run_underlying hd, hfd, asAgg, h6]), h7⟩
    · cases hc
  | indexAddr ty x ix =>
    simp only [compileOp, opt_bind] at hc
    obtain ⟨i, hi, hc⟩ := hc
    have hd := hT.desc _ _ hi
    split at hc
    · rename_i n e hfs
      simp only [opt_bind] at hc
      obtain ⟨j, hj, hc⟩ := hc
      obtain ⟨inf, hinf, hsz, _⟩ := hT.info _ _ hj
      cases hc
      simp only [runPure, opt_bind] at hr
      obtain ⟨u, h1, q, h2, k, h3, h4⟩ := hr
      obtain ⟨kk, m, rfl, h5, h6, rfl⟩ := ixv_inv h3
      have hq := E ix (by simp [Op.operands]) _ h2
      generalize hcq : a.eval ix = cq at hq
      cases hq
      obtain ⟨kb, o, h7, h8⟩ := addOff_sound h4 (E x (by simp [Op.operands]) u h1)
      rw [hfs] at hd
      rw [← hsz] at h8
      exact ⟨_, .inl (by simp [execOp, h7, hcq, ixA_run hd hinf h5 h6]), h8⟩
    · rename_i e hfs
      simp only [opt_bind] at hc
      obtain ⟨j, hj, hc⟩ := hc
      obtain ⟨inf, hinf, hsz, _⟩ := hT.info _ _ hj
      cases hc
      simp only [runPure, opt_bind] at hr
      obtain ⟨u, h1, q, h2, h3⟩ := hr
      have hu := E x (by simp [Op.operands]) u h1
      split at h3
      · rename_i ad len cp
        simp only [opt_bind] at h3
        obtain ⟨k, h3, h4⟩ := h3
        obtain ⟨kk, m, rfl, h5, h6, rfl⟩ := ixv_inv h3
        have hq := E ix (by simp [Op.operands]) _ h2
        generalize hcq : a.eval ix = cq at hq
        cases hq
        rw [hfs] at hd
        generalize hcu : a.eval x = cu at hu
        cases hu with
        | slice b o n c l hb hcx =>
          obtain ⟨kb, o', h7, h8⟩ := addOff_sound h4 (.ptr b o l hb)
          cases h7
          rw [← hsz] at h8
          exact ⟨_, .inl (by simp [execOp, hcu, hcq, ixS_run hd hinf h5 h6]), h8⟩
        | sliceX b o n c s l hb hcx hn =>
          obtain ⟨kb, o', h7, h8⟩ := addOff_sound h4 (.ptr b o l hb)
          cases h7
          rw [← hsz] at h8
          exact ⟨_, .inl (by simp [execOp, hcu, hcq, ixS_run hd hinf h5 h6]), h8⟩
      · cases h3
    · cases hc
  | index ty x ix =>
    simp only [compileOp, opt_bind] at hc
    obtain ⟨i, hi, hc⟩ := hc
    have hd := hT.desc _ _ hi
    split at hc
    · rename_i len e hfs
      simp only [opt_bind] at hc
      obtain ⟨j, hj, n, hn, hc⟩ := hc
      obtain ⟨inf, hinf, hsz, _⟩ := hT.info _ _ hj
      cases hc
      simp only [runPure, opt_bind] at hr
      obtain ⟨u, h1, q, h2, k, h3, h4⟩ := hr
      obtain ⟨kk, m, rfl, h5, h6, rfl⟩ := ixv_inv h3
      have hq := E ix (by simp [Op.operands]) _ h2
      generalize hcq : a.eval ix = cq at hq
      cases hq
      obtain ⟨cs, h7, h8, h9⟩ := field_sound h4 (E x (by simp [Op.operands]) u h1)
      obtain ⟨cv, h10, h11⟩ := part_sound hT (w := w) hn h8 h9
      rw [hfs] at hd
      rw [← hsz] at h10
      exact ⟨cv, .inl (by simp [execOp, h7, hcq, Instr.index, asIntOf, run_underlying hd, h5, h6, run_sizeOf hinf, h10]), h11⟩
    · rename_i hfs
      cases hc
      simp only [runPure, opt_bind] at hr
      obtain ⟨u, h1, q, h2, h3⟩ := hr
      have hu := E x (by simp [Op.operands]) u h1
      split at h3
      · rename_i s
        simp only [opt_bind] at h3
        obtain ⟨k, h3, b, h4, h5⟩ := h3
        cases h5
        obtain ⟨kk, m, rfl, h5, h6, rfl⟩ := ixv_inv h3
        have hq := E ix (by simp [Op.operands]) _ h2
        generalize hcq : a.eval ix = cq at hq
        cases hq
        generalize hcu : a.eval x = cu at hu
        cases hu
        rw [hfs] at hd
        have hb : s[m.toNat]? = some b := by
          have hlt : m.toNat < s.size := by omega
          have : s[m.toNat]? = some s[m.toNat] := by simp [hlt]
          rw [this]
          have h8 : s.data[m.toNat]? = some s.data[m.toNat] := by simp []
          rw [h8] at h4
          simp only [Option.some.injEq] at h4
          rw [← h4]; rfl
        exact ⟨_, .inl (by simp [execOp, hcu, hcq, Instr.index, asIntOf, run_underlying hd, h5, hb]), .int _ _⟩
      · cases h3
    · cases hc
  | extract x n =>
    cases hc
    obtain ⟨vs, h1, h2⟩ := extracted hr
    have hu := E x (by simp [Op.operands]) _ h1
    obtain ⟨cs, h3, h4⟩ := hu.tuple_inv
    obtain ⟨u, h5, h6⟩ := h4.get (i := n) (by simpa using h2)
    have h5' : cs[n]? = some u := by simpa using h5
    exact ⟨u, .inl (by simp [execOp, h3, Instr.extract, h5']), h6⟩
  | slice ty x lo high mx =>
    have hlo : ∀ y, lo = some y → opdOK P.globals.size y = true := fun y h => hok y (by subst h; simp [Op.operands])
    have hhi : ∀ y, high = some y → opdOK P.globals.size y = true := fun y h => hok y (by subst h; simp [Op.operands])
    have hmx : ∀ y, mx = some y → opdOK P.globals.size y = true := fun y h => hok y (by subst h; simp [Op.operands])
    exact slice_sound hT hl hG (hok x (by simp [Op.operands])) hlo hhi hmx hc hr
  | call c =>
    obtain ⟨callee, args, argTypes⟩ := c
    have hargs : ∀ x ∈ args.toList, opdOK P.globals.size x = true := fun x hx => hok x (by simp [Op.operands, Call.operands]; right; simpa using hx)
    cases callee with
    | value f =>
      cases f with
      | func f => simp only [compileOp] at hc; split at hc <;> cases hc; simp [AOp.cls] at hcls
      | _ => cases hc; simp [AOp.cls] at hcls
    | invoke r m => cases hc; simp [AOp.cls] at hcls
    | builtin b => exact builtin_pure_sound hT hl hG hargs hc hcls hr
  | alloc ty => simp only [compileOp, opt_bind] at hc; obtain ⟨_, _, _, _, hc⟩ := hc; cases hc; simp [AOp.cls] at hcls
  | box ty x => cases hc; simp [AOp.cls] at hcls
  | buildSlice ty n ps =>
    simp only [compileOp, opt_bind] at hc
    obtain ⟨_, _, hc⟩ := hc
    split at hc
    · simp only [opt_bind] at hc
      obtain ⟨_, _, _, _, hc⟩ := hc
      split at hc <;> cases hc
      simp [AOp.cls] at hcls
    · cases hc
  | insert ty m k v =>
    simp only [compileOp, opt_bind] at hc
    obtain ⟨_, _, hc⟩ := hc
    split at hc
    · simp only [opt_bind] at hc
      obtain ⟨_, _, hc⟩ := hc
      cases hc
      simp [AOp.cls] at hcls
    · cases hc
  | load ty x => simp only [compileOp, opt_bind] at hc; obtain ⟨_, _, hc⟩ := hc; cases hc; simp [AOp.cls] at hcls
  | store ty x v => simp only [compileOp, opt_bind] at hc; obtain ⟨_, _, hc⟩ := hc; cases hc; simp [AOp.cls] at hcls
  | makeMap ty r => cases r <;> cases hc; simp [AOp.cls] at hcls
  | makeSlice ty l c =>
    simp only [compileOp, opt_bind] at hc
    obtain ⟨_, _, hc⟩ := hc
    split at hc
    · simp only [opt_bind] at hc
      obtain ⟨_, _, _, _, hc⟩ := hc
      split at hc <;> cases hc
      simp [AOp.cls] at hcls
    · cases hc
  | lookup ty m k ok =>
    simp only [compileOp, opt_bind] at hc
    obtain ⟨_, _, hc⟩ := hc
    split at hc
    · simp only [opt_bind] at hc
      obtain ⟨_, _, _, _, _, _, hc⟩ := hc
      cases hc
      simp [AOp.cls] at hcls
    · cases hc
  | mapEntry ty m k =>
    simp only [compileOp, opt_bind] at hc
    obtain ⟨_, _, hc⟩ := hc
    split at hc
    · simp only [opt_bind] at hc
      obtain ⟨_, _, _, _, _, _, hc⟩ := hc
      cases hc
      simp [AOp.cls] at hcls
    · cases hc
  | mapUpdate ty m k v =>
    simp only [compileOp, opt_bind] at hc
    obtain ⟨_, _, hc⟩ := hc
    split at hc
    · simp only [opt_bind] at hc
      obtain ⟨_, _, hc⟩ := hc
      cases hc
      simp [AOp.cls] at hcls
    · cases hc
  | entryStore ty m k v => cases hc; simp [AOp.cls] at hcls
  | range ty x =>
    simp only [compileOp, opt_bind] at hc
    obtain ⟨_, _, hc⟩ := hc
    split at hc <;> cases hc <;> simp [AOp.cls] at hcls
  | next x b => cases b <;> cases hc <;> simp [AOp.cls] at hcls
  | entry x => cases hc; simp [AOp.cls] at hcls
  | _ => cases hc

end Go.AM
