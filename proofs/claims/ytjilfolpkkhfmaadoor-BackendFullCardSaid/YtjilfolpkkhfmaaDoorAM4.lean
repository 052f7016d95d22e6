/- Each operation that only computes comes, in the model, to what the interpreter says. -/
import Derived.Test.YtjilfolpkkhfmaaDoorAM3
namespace Go.AM

structure TabOK (P : Program) (tab : Tab) : Prop where
  desc : ∀ t i, tab.get t = some i → P.underlying t = some i.desc
  info : ∀ t i, tab.get t = some i → ∃ inf, P.info? t = some inf ∧ inf.size = i.size ∧ inf.bytes = i.bytes ∧ inf.zero = i.zero ∧ True

theorem tabFrom_get (P : Program) : ∀ (n : Nat) (tab : Tab) (t : Nat), (tabFrom P n tab).get t = if t < n then tyOf P t else tab.get t := by
  intro n
  induction n with
  | zero => intro tab t; simp [tabFrom]
  | succ n ih =>
    intro tab t
    rw [tabFrom, ih, Tr.get_upd]
    by_cases h : t < n
    · rw [if_pos h, if_pos (by omega)]
    · rw [if_neg h]
      by_cases h2 : n = t
      · subst h2; rw [if_pos rfl, if_pos (by omega)]
      · rw [if_neg h2, if_neg (by omega)]

theorem tabOf_ok (P : Program) : TabOK P (tabOf P) := by
  have key : ∀ t i, (tabOf P).get t = some i → ∃ inf, P.info? t = some inf ∧ P.underlying t = some i.desc ∧ inf.size = i.size ∧ inf.bytes = i.bytes ∧ inf.zero = i.zero ∧ True := by
    intro t i h
    rw [tabOf, tabFrom_get] at h
    split at h
    · unfold tyOf at h
      split at h
      · rename_i inf d h1 h2
        cases h
        exact ⟨inf, h1, h2, rfl, rfl, rfl, trivial⟩
      · cases h
    · cases h
  exact ⟨fun t i h => (key t i h).choose_spec.2.1, fun t i h => let ⟨inf, h1, _, h2⟩ := key t i h; ⟨inf, h1, h2⟩⟩

section runs
variable {P : Program} {w : World}
theorem run_underlying {t : TypeId} {d : TypeDesc} (h : P.underlying t = some d) : (underlying t).run P w = .ok d w := by simp [underlying, h]
theorem run_typeInfo {t : TypeId} {i : TypeInfo} (h : P.info? t = some i) : (typeInfo t).run P w = .ok i w := by
  simp [typeInfo, h]
theorem run_sizeOf {t : TypeId} {i : TypeInfo} (h : P.info? t = some i) : (sizeOf t).run P w = .ok i.size w := by simp [sizeOf, run_typeInfo h]
theorem run_zeroValue {t : TypeId} {i : TypeInfo} {z : Value} (h : P.info? t = some i) (hz : i.zero = some z) : (zeroValue t).run P w = .ok z w := by
  simp [zeroValue, run_typeInfo h, hz]
theorem run_isAgg {t : TypeId} {d : TypeDesc} (h : P.underlying t = some d) : (isAgg t).run P w = .ok (isAggT d) w := by
  cases d <;> simp [isAgg, run_underlying h, isAggT]
end runs

/-- The globals lie where they lie. -/
def GR (P : Program) (ρ : Ren) : Prop := ∀ g, g < P.globals.size → ∃ l, ρ g = some l ∧ l.blk = g ∧ l.base = 0
theorem GR.mono {P : Program} {ρ ρ' : Ren} (hs : Sub ρ ρ') (h : GR P ρ) : GR P ρ' := fun g hg => let ⟨l, h1, h2⟩ := h g hg; ⟨l, hs _ _ h1, h2⟩

theorem VR.closedP {ρ : Ren} {v : Value} (h : closedP v = true) : VR ρ v v := by
  cases v with
  | bool b => exact .bool b
  | int k n => exact .int k n
  | string s => exact .string s
  | pointer a => cases a with
    | none => exact .nilptr
    | some a => simp [AM.closedP] at h
  | slice a n c => cases a with
    | none => exact .nilslice n c
    | some a => simp [AM.closedP] at h
  | map r => cases r with
    | none => exact .nilmap
    | some r => simp [AM.closedP] at h
  | nilFunc => exact .nilFunc
  | nilIface => exact .nilIface
  | func fn a b =>
    simp only [AM.closedP, Bool.and_eq_true, Array.isEmpty_iff_size_eq_zero] at h
    exact .func fn a b a b rfl rfl (fun i hi => by omega) (fun i hi => by omega)
  | _ => simp [AM.closedP] at h

theorem VRl.closed {ρ : Ren} : ∀ {l : List Value}, l.all AM.closedP = true → VRl ρ l l := by
  intro l
  induction l with
  | nil => intro _; exact .nil
  | cons a l ih => intro h; simp only [List.all_cons, Bool.and_eq_true] at h; exact .cons (.closedP h.1) (ih h.2)

theorem VR.closed {ρ : Ren} {v : Value} (h : closedV v = true) : VR ρ v v := by
  cases v with
  | agg cs => have := VR.agg_of (ρ := ρ) (VRl.closed h); simpa using this
  | tuple cs => have := VR.tuple_of (ρ := ρ) (VRl.closed h); simpa using this
  | iface t v => exact .iface t v v (.closedP h)
  | _ => exact .closedP h

theorem ev_sound {P : Program} {ρ : Ren} {t : Tr Value} {a : Act} (hl : LR ρ t a.tmps) (hG : GR P ρ) {x : Operand} (hx : opdOK P.globals.size x = true) {v : Value} (h : ev t x = some v) : VR ρ v (a.eval x) := by
  cases x with
  | tmp s => exact hl s v h
  | const u => cases h; exact .closed hx
  | global g =>
    cases h
    obtain ⟨l, h1, h2, h3⟩ := hG g (by simpa [opdOK] using hx)
    have := VR.ptr (ρ := ρ) g 0 l h1
    rw [h2, h3] at this; exact this
  | func f => cases h; exact .func _ _ _ _ _ rfl rfl (fun i hi => by simp at hi) (fun i hi => by simp at hi)

theorem evs_sound {P : Program} {ρ : Ren} {t : Tr Value} {a : Act} (hl : LR ρ t a.tmps) (hG : GR P ρ) : ∀ (xs : List Operand) (vs : List Value), (∀ x ∈ xs, opdOK P.globals.size x = true) → evs t xs = some vs → VRl ρ vs (xs.map a.eval) := by
  intro xs
  induction xs with
  | nil => intro vs _ h; simp [evs] at h; subst h; exact .nil
  | cons x xs ih =>
    intro vs hx h
    simp only [evs, Option.bind_eq_bind, Option.bind_eq_some_iff, Option.pure_def, Option.some.injEq] at h
    obtain ⟨v, h1, us, h2, rfl⟩ := h
    exact .cons (ev_sound hl hG (hx x (by simp)) h1) (ih us (fun y hy => hx y (by simp [hy])) h2)

/-- What a run of an operation comes to: a value, in a world. -/
def Val (P : Program) (s : Sem Next) (w : World) (v : Value) (w' : World) : Prop :=
  s.run P w = .ok (.value v) w' ∨ (s.run P w = .ok .skip w' ∧ v = undef)

theorem Val.of {P : Program} {s : Sem Value} {w w' : World} {v : Value} (h : s.run P w = .ok v w') : Val P (do pure (.value (← s))) w v w' := by
  left; simp [h]
theorem Val.ofU {P : Program} {s : Sem Unit} {w w' : World} (h : s.run P w = .ok () w') : Val P (do s; pure .skip) w undef w' := by
  right; simp [h]

/- integers -/
theorem bin_int {P : Program} {w : World} {t : TypeId} {op : BinOp} {k : IntKind} {a b : Int} {v : Value} (h : intArith op k a b = some v) :
    (binOp op t (.int k a) (.int k b)).run P w = .ok v w := by
  cases op <;> simp only [intArith] at h <;> (try cases h) <;> (try (simp [binOp, Op.intArith, Op.intBits, Op.intCmp]; done))
  · split at h
    · cases h
    · rename_i hb; cases h; simp [binOp, Op.intDiv, hb]
  · split at h
    · cases h
    · rename_i hb; cases h; simp [binOp, Op.intDiv, hb]

theorem bin_str {P : Program} {w : World} {t : TypeId} {op : BinOp} {a b : ByteArray} {v : Value} (h : strOp op a b = some v) :
    (binOp op t (.string a) (.string b)).run P w = .ok v w := by
  cases op <;> simp only [strOp] at h <;> (try cases h) <;> (try (simp [binOp, Op.stringOp]; done))
  · split at h
    · rename_i hb; cases h
      simp only [binOp, Op.stringOp]
      rw [if_neg]
      · rfl
      · simp [IntKind.max, IntKind.signed, IntKind.bits]; omega
    · cases h

theorem bin_sound {P : Program} {w : World} {ρ : Ren} {op : BinOp} {a b c d v : Value} {t : TypeId} (h : binV op a b = some v) (ha : VR ρ a c) (hb : VR ρ b d) :
    (binOp op t c d).run P w = .ok v w ∧ VR ρ v v ∧ (∀ x y, (eqGuard op t x y c d).run P w = .ok () w) := by
  unfold binV at h
  split at h
  · rename_i k a k' b
    cases ha; cases hb
    refine ⟨?_, ?_, ?_⟩
    · split at h
      · split at h
        · cases h
        · rename_i hb; cases h; simp [binOp, Op.shift, hb]
      · split at h
        · cases h
        · rename_i hb; cases h; simp [binOp, Op.shift, hb]
      · rename_i h1 h2
        split at h
        · rename_i hk; subst hk; exact bin_int h
        · cases h
    · split at h
      · split at h <;> cases h; exact .int _ _
      · split at h <;> cases h; exact .int _ _
      · split at h
        · cases op <;> simp only [intArith] at h <;> (try (cases h; first | exact .int _ _ | exact .bool _)) <;> (try cases h) <;> (split at h <;> cases h; exact .int _ _)
        · cases h
    · intro x y; cases op <;> simp [eqGuard]
  · rename_i a b
    cases ha; cases hb
    refine ⟨bin_str h, ?_, ?_⟩
    · cases op <;> simp only [strOp] at h <;> (try (cases h; first | exact .string _ | exact .bool _)) <;> (try cases h) <;> (split at h <;> cases h; exact .string _)
    · intro x y; cases op <;> simp [eqGuard]
  · cases h

theorem un_sound {P : Program} {w : World} {ρ : Ren} {op : UnOp} {a c v : Value} (h : unV op a = some v) (ha : VR ρ a c) : (Op.unary op c).run P w = .ok v w ∧ VR ρ v v := by
  unfold unV at h
  split at h
  · cases ha
    split at h <;> cases h
    · exact ⟨by simp [Op.unary, Op.intArith], .int _ _⟩
    · exact ⟨by simp [Op.unary, Op.intBits], .int _ _⟩
  · cases ha
    split at h <;> cases h
    exact ⟨by simp [Op.unary], .bool _⟩
  · cases h

theorem addOff_sound {ρ : Ren} {n : Nat} {a c v : Value} (h : addOff n a = some v) (ha : VR ρ a c) : ∃ k o, c = .pointer (some ⟨k, o, none⟩) ∧ VR ρ v (.pointer (some ⟨k, o + n, none⟩)) := by
  unfold addOff at h
  split at h
  · cases h; cases ha with
    | ptr b0 o0 l hb => exact ⟨_, _, rfl, by rw [Nat.add_assoc]; exact .ptr _ _ l hb⟩
  · cases h

theorem field_sound {ρ : Ren} {off : Nat} {n : Option Nat} {a c v : Value} (h : fieldV off n a = some v) (ha : VR ρ a c) :
    ∃ cs, c = .agg cs ∧ (∀ m, n = some m → VR ρ v (.agg (cs.extract off (off + m)))) ∧ (n = none → ∃ u, cs[off]? = some u ∧ VR ρ v u) := by
  unfold fieldV at h
  split at h
  · rename_i xs
    obtain ⟨cs, rfl, hv⟩ := ha.agg_inv
    refine ⟨cs, rfl, ?_, ?_⟩
    · intro m hm; subst hm
      simp only [Option.some.injEq] at h; subst h
      have hs : xs.size = cs.size := by simpa using hv.1
      refine .agg _ _ (by simp [hs]) (fun i hi => ?_)
      simp only [Array.size_extract] at hi
      have := hv.2 (off + i) (by simp; omega)
      simp only [Array.getD_eq_getD_getElem?, List.getD_eq_getElem?_getD, Array.getElem?_extract] at this ⊢
      rw [if_pos (by omega), if_pos (by omega)]
      simpa using this
    · intro hn; subst hn
      obtain ⟨u, h1, h2⟩ := hv.get (i := off) (by simpa using h)
      exact ⟨u, by simpa using h1, h2⟩
  · cases h

theorem bnd_sound {P : Program} {w : World} {ρ : Ren} {v c : Value} {y i : Nat} {code : BoundsCode} (h : bnd v y = some i) (hv : VR ρ v c) : (Instr.sliceBound c y code).run P w = .ok i w := by
  unfold bnd at h
  split at h
  · rename_i k n
    cases hv
    split at h
    · rename_i hc; cases h; simp [Instr.sliceBound, asIntOf, hc]
    · cases h
  · cases h

/-- The same for what may be left out. -/
def VRo (ρ : Ren) : Option Value → Option Value → Prop
  | none, none => True
  | some v, some c => VR ρ v c
  | _, _ => False

theorem evO_sound {P : Program} {ρ : Ren} {t : Tr Value} {a : Act} (hl : LR ρ t a.tmps) (hG : GR P ρ) {x : Option Operand} (hx : ∀ y, x = some y → opdOK P.globals.size y = true) {v : Option Value} (h : evO t x = some v) : VRo ρ v (x.map a.eval) := by
  cases x with
  | none => cases h; trivial
  | some y =>
    simp only [evO, Option.bind_eq_bind, Option.bind_eq_some_iff, Option.pure_def, Option.some.injEq] at h
    obtain ⟨u, h1, rfl⟩ := h
    exact ev_sound hl hG (hx y rfl) h1

theorem bnds_inv {len cap : Nat} {lo hi mx : Option Value} {r : Nat × Nat × Nat} (h : bnds len cap lo hi mx = some r) :
    ∃ l k m, r = (l, k, m) ∧ bndO mx cap cap = some m ∧ (mx.isSome = true → hi.isSome = true) ∧ bndO hi m len = some k ∧ bndO lo k 0 = some l := by
  unfold bnds at h
  split at h
  · cases h
  · rename_i m hm
    split at h
    · cases h
    · rename_i k hk
      split at h
      · cases h
      · rename_i l hl
        cases h
        split at hk
        · cases hk
        · rename_i hc
          refine ⟨l, k, m, rfl, hm, ?_, hk, hl⟩
          intro hx; cases hi <;> simp_all

theorem bnds_sound {P : Program} {w : World} {ρ : Ren} {s : Bool} {len cap : Nat} {lo hi mx lo' hi' mx' : Option Value} {r : Nat × Nat × Nat} (h : bnds len cap lo hi mx = some r) (h1 : VRo ρ lo lo') (h2 : VRo ρ hi hi') (h3 : VRo ρ mx mx') :
    (Instr.sliceBounds s len cap lo' hi' mx').run P w = .ok r w := by
  obtain ⟨l, k, m, rfl, hm, hx, hk, hlo⟩ := bnds_inv h
  unfold Instr.sliceBounds
  cases mx <;> cases mx' <;> simp only [VRo] at h3
  · simp only [bndO, Option.some.injEq] at hm; subst hm
    cases hi <;> cases hi' <;> simp only [VRo] at h2
    · simp only [bndO, Option.some.injEq] at hk; subst hk
      cases lo <;> cases lo' <;> simp only [VRo] at h1
      · simp only [bndO, Option.some.injEq] at hlo; subst hlo; simp
      · simp [bnd_sound hlo h1]
    · cases lo <;> cases lo' <;> simp only [VRo] at h1
      · simp only [bndO, Option.some.injEq] at hlo; subst hlo; simp [bnd_sound hk h2]
      · simp [bnd_sound hk h2, bnd_sound hlo h1]
  · cases hi <;> cases hi' <;> simp only [VRo] at h2
    · simp at hx
    · cases lo <;> cases lo' <;> simp only [VRo] at h1
      · simp only [bndO, Option.some.injEq] at hlo; subst hlo; simp [bnd_sound hm h3, bnd_sound hk h2]
      · simp [bnd_sound hm h3, bnd_sound hk h2, bnd_sound hlo h1]

theorem ixv_inv {v : Value} {len i : Nat} (h : ixv v len = some i) : ∃ k n, v = .int k n ∧ 0 ≤ n ∧ n < len ∧ n.toNat = i := by
  unfold ixv at h
  split at h
  · rename_i k n
    split at h
    · rename_i hc; cases h; exact ⟨k, n, rfl, hc.1, hc.2, rfl⟩
    · cases h
  · cases h

theorem minmax_sound {P : Program} {w : World} {ρ : Ren} (isMax : Bool) : ∀ (l : List Value) (k : IntKind) (n : Int) (v : Value) (l' : List Value), minmaxV isMax (.int k n) l = some v → VRl ρ l l' →
    (l'.foldlM (if isMax then Builtin.max2 else Builtin.min2) (.int k n)).run P w = .ok v w ∧ VR ρ v v := by
  intro l
  induction l with
  | nil => intro k n v l' h hl; obtain rfl := hl.nil_inv; simp only [minmaxV, Option.some.injEq] at h; subst h; exact ⟨rfl, .int _ _⟩
  | cons x l ih =>
    intro k n v l' h hl
    obtain ⟨c, l'', rfl, hx, hl2⟩ := hl.cons_inv
    cases x <;> simp only [minmaxV] at h <;> try (cases h; done)
    cases hx
    have := ih _ _ _ _ h hl2
    refine ⟨?_, this.2⟩
    rw [List.foldlM_cons, Sem.run_bind]
    cases isMax
    · simp only [Bool.false_eq_true, if_false, Builtin.min2] at this ⊢
      simpa using this.1
    · simp only [if_true, Builtin.max2] at this ⊢
      simpa using this.1

theorem extend_pure_dummy : True := trivial
end Go.AM
