/- A third evaluation: tries, loads, stores and what looks into values, in a form that the kernel works out fast. -/
import Derived.Test.YtjilfolpkkhfmaaDoorAM27
namespace Go.AM

noncomputable def getR {α : Type} (t : Tr α) (k : Nat) : Option α :=
  @Tr.rec α (fun _ => Nat → Option α) (fun _ => none) (fun v _ _ gl gr k => @Nat.rec (fun _ => Option α) v (fun k' _ => @Bool.rec (fun _ => Option α) (gr (Nat.div k' 2)) (gl (Nat.div k' 2)) (Nat.beq (Nat.mod k' 2) 0)) k) t k
theorem getR_eq {α : Type} (t : Tr α) : ∀ k, getR t k = t.get k := by
  induction t with
  | leaf => intro k; rfl
  | node v l r ihl ihr =>
    intro k
    cases k with
    | zero => rfl
    | succ k =>
      have e : getR (.node v l r) (k + 1) = @Bool.rec (fun _ => Option α) (getR r (Nat.div k 2)) (getR l (Nat.div k 2)) (Nat.beq (Nat.mod k 2) 0) := rfl
      rw [e, ihl, ihr]
      simp only [Tr.get]
      show _ = match Nat.beq (Nat.mod k 2) 0 with | true => l.get (Nat.div k 2) | false => r.get (Nat.div k 2)
      cases Nat.beq (Nat.mod k 2) 0 <;> rfl

noncomputable def updR {α : Type} (o : Option α) (f : Nat) : Tr α → Nat → Tr α :=
  @Nat.rec (fun _ => Tr α → Nat → Tr α) (fun t _ => t) (fun _ ih t k =>
    @Tr.rec α (fun _ => Tr α)
      (@Nat.rec (fun _ => Tr α) (.node o .leaf .leaf) (fun k' _ => @Bool.rec (fun _ => Tr α) (.node none .leaf (ih .leaf (Nat.div k' 2))) (.node none (ih .leaf (Nat.div k' 2)) .leaf) (Nat.beq (Nat.mod k' 2) 0)) k)
      (fun v l r _ _ => @Nat.rec (fun _ => Tr α) (.node o l r) (fun k' _ => @Bool.rec (fun _ => Tr α) (.node v l (ih r (Nat.div k' 2))) (.node v (ih l (Nat.div k' 2)) r) (Nat.beq (Nat.mod k' 2) 0)) k) t) f
theorem updR_eq {α : Type} (o : Option α) (f : Nat) : ∀ t k, updR o f t k = Tr.updF o f t k := by
  induction f with
  | zero => intro t k; rfl
  | succ f ih =>
    intro t k
    cases t with
    | leaf =>
      cases k with
      | zero => rfl
      | succ k =>
        have e : updR o (f + 1) .leaf (k + 1) = @Bool.rec (fun _ => Tr α) (.node none .leaf (updR o f .leaf (Nat.div k 2))) (.node none (updR o f .leaf (Nat.div k 2)) .leaf) (Nat.beq (Nat.mod k 2) 0) := rfl
        rw [e, ih]
        simp only [Tr.updF]
        show _ = match Nat.beq (Nat.mod k 2) 0 with | true => Tr.node none (Tr.updF o f .leaf (Nat.div k 2)) .leaf | false => Tr.node none .leaf (Tr.updF o f .leaf (Nat.div k 2))
        cases Nat.beq (Nat.mod k 2) 0 <;> rfl
    | node v l r =>
      cases k with
      | zero => rfl
      | succ k =>
        have e : updR o (f + 1) (.node v l r) (k + 1) = @Bool.rec (fun _ => Tr α) (.node v l (updR o f r (Nat.div k 2))) (.node v (updR o f l (Nat.div k 2)) r) (Nat.beq (Nat.mod k 2) 0) := rfl
        rw [e, ih, ih]
        simp only [Tr.updF]
        show _ = match Nat.beq (Nat.mod k 2) 0 with | true => Tr.node v (Tr.updF o f l (Nat.div k 2)) r | false => Tr.node v l (Tr.updF o f r (Nat.div k 2))
        cases Nat.beq (Nat.mod k 2) 0 <;> rfl

theorem updF_fuel {α : Type} (o : Option α) : ∀ (f g : Nat) (t : Tr α) (k : Nat), k < f → k < g → Tr.updF o f t k = Tr.updF o g t k := by
  intro f
  induction f with
  | zero => intro g t k h; omega
  | succ f ih =>
    intro g t k h h'
    cases g with
    | zero => omega
    | succ g =>
      cases t with
      | leaf =>
        cases k with
        | zero => rfl
        | succ k =>
          simp only [Tr.updF]
          rw [ih g .leaf (k / 2) (by omega) (by omega)]
      | node v l r =>
        cases k with
        | zero => rfl
        | succ k =>
          simp only [Tr.updF]
          rw [ih g l (k / 2) (by omega) (by omega), ih g r (k / 2) (by omega) (by omega)]

noncomputable def setR {α : Type} (t : Tr α) (k : Nat) (a : α) : Tr α :=
  @Tr.rec α (fun _ => Nat → Tr α) (fun k => updR (some a) (Nat.succ k) .leaf k)
    (fun v l r ihl ihr k => @Nat.rec (fun _ => Tr α) (.node (some a) l r) (fun k' _ => @Bool.rec (fun _ => Tr α) (.node v l (ihr (Nat.div k' 2))) (.node v (ihl (Nat.div k' 2)) r) (Nat.beq (Nat.mod k' 2) 0)) k) t k
theorem setR_eq {α : Type} (t : Tr α) (a : α) : ∀ k, setR t k a = t.set k a := by
  induction t with
  | leaf => intro k; exact updR_eq (some a) (k + 1) .leaf k
  | node v l r ihl ihr =>
    intro k
    cases k with
    | zero => rfl
    | succ k =>
      have e : setR (.node v l r) (k + 1) a = @Bool.rec (fun _ => Tr α) (.node v l (setR r (Nat.div k 2) a)) (.node v (setR l (Nat.div k 2) a) r) (Nat.beq (Nat.mod k 2) 0) := rfl
      rw [e, ihl, ihr]
      simp only [Tr.set, Tr.upd]
      have hk : k / 2 < k + 1 := by omega
      rw [show Nat.div k 2 = k / 2 from rfl, updF_fuel _ (k / 2 + 1) (k + 1) l (k / 2) (by omega) hk, updF_fuel _ (k / 2 + 1) (k + 1) r (k / 2) (by omega) hk]
      show _ = match Nat.beq (Nat.mod k 2) 0 with | true => Tr.node v (Tr.updF (some a) (k + 1) l (k / 2)) r | false => Tr.node v l (Tr.updF (some a) (k + 1) r (k / 2))
      cases Nat.beq (Nat.mod k 2) 0 <;> rfl

noncomputable def nthR {α : Type} (l : List α) (i : Nat) : Option α :=
  @List.rec α (fun _ => Nat → Option α) (fun _ => none) (fun a _ ih i => @Nat.rec (fun _ => Option α) (some a) (fun j _ => ih j) i) l i
theorem nthR_eq {α : Type} (l : List α) : ∀ i, nthR l i = l[i]? := by
  induction l with
  | nil => intro i; rfl
  | cons a l ih =>
    intro i
    cases i with
    | zero => rfl
    | succ i =>
      have e : nthR (a :: l) (i + 1) = nthR l i := rfl
      rw [e, ih]; rfl
noncomputable def lenR {α : Type} (l : List α) : Nat := @List.rec α (fun _ => Nat) 0 (fun _ _ ih => Nat.succ ih) l
theorem lenR_eq {α : Type} (l : List α) : lenR l = l.length := by
  induction l with
  | nil => rfl
  | cons a l ih => show Nat.succ (lenR l) = _; rw [ih]; rfl

noncomputable def extractF (i : Nat) (v : Value) : Option Value := vTup (extractV i v) (fun a => nthR a.toList i) v
theorem extractF_eq (i : Nat) (v : Value) : extractF i v = extractV i v := by
  cases v with
  | tuple vs => show nthR vs.toList i = vs[i]?; rw [nthR_eq, Array.getElem?_toList]
  | _ => rfl
noncomputable def fieldF (off : Nat) (n : Option Nat) (v : Value) : Option Value :=
  @Option.rec Nat (fun _ => Option Value) (vAgg (fieldV off n v) (fun a => nthR a.toList off) v) (fun _ => fieldV off n v) n
theorem fieldF_eq (off : Nat) (n : Option Nat) (v : Value) : fieldF off n v = fieldV off n v := by
  cases n with
  | some n => rfl
  | none => cases v with
    | agg vs => show nthR vs.toList off = vs[off]?; rw [nthR_eq, Array.getElem?_toList]
    | _ => rfl
noncomputable def addr0 {α : Type} (d : α) (f : Nat → Nat → α) (o : Option Addr) : α :=
  @Option.rec Addr (fun _ => α) d (fun a => @Addr.rec (fun _ => α) (fun b off spot => @Option.rec Nat (fun _ => α) (f b off) (fun _ => d) spot) a) o
noncomputable def addOffF (n : Nat) (v : Value) : Option Value := vPtr (addOff n v) (addr0 (addOff n v) fun b o => some (.pointer (some ⟨b, Nat.add o n, none⟩))) v
theorem addOffF_eq (n : Nat) (v : Value) : addOffF n v = addOff n v := by
  cases v with
  | pointer a => cases a with
    | none => rfl
    | some a => obtain ⟨b, o, s⟩ := a; cases s <;> rfl
  | _ => rfl
noncomputable def nilF (v : Value) : Option Value := vPtr (nilV v) (fun o => @Option.rec Addr (fun _ => Option Value) (nilV v) (fun _ => some v) o) v
theorem nilF_eq (v : Value) : nilF v = nilV v := by
  cases v with
  | pointer a => cases a <;> rfl
  | _ => rfl
noncomputable def natV {α : Type} (d : α) (f : Nat → α) (v : Value) : α := vInt d (fun _ x => @Int.rec (fun _ => α) (fun m => f m) (fun _ => d) x) v
theorem natV_eq {α : Type} {d : α} {f : Nat → α} {v : Value} (h : ∀ k m, v = .int k (Int.ofNat m) → f m = d) : natV d f v = d := by
  cases v with
  | int k x => cases x with
    | ofNat m => exact h k m rfl
    | negSucc m => rfl
  | _ => rfl
theorem ixv_ofNat {k : IntKind} {m len : Nat} (h : Nat.blt m len = true) : ixv (.int k (Int.ofNat m)) len = some m := by
  rw [Nat.blt_eq] at h
  unfold ixv
  simp only [Int.ofNat_eq_natCast]
  rw [if_pos ⟨by omega, by omega⟩]
  simp
noncomputable def ixSF (size : Nat) (v i : Value) : Option Value :=
  vSlice (ixSV size v i) (fun a len _ => addr0 (ixSV size v i) (fun b o => natV (ixSV size v i) (fun m => @Bool.rec (fun _ => Option Value) (ixSV size v i) (some (.pointer (some ⟨b, Nat.add o (Nat.mul m size), none⟩))) (Nat.blt m len)) i) a) v
theorem ixSF_eq (size : Nat) (v i : Value) : ixSF size v i = ixSV size v i := by
  cases v with
  | slice a len cap => cases a with
    | none => rfl
    | some a =>
      obtain ⟨b, o, s⟩ := a
      cases s with
      | some s => rfl
      | none =>
        exact natV_eq fun k m hi => by
          cases h : Nat.blt m len
          · rfl
          · subst hi; simp only [ixSV, ixv_ofNat h]; rfl
  | _ => rfl
noncomputable def ixAF (len size : Nat) (v i : Value) : Option Value :=
  vPtr (ixAV len size v i) (addr0 (ixAV len size v i) fun b o => natV (ixAV len size v i) (fun m => @Bool.rec (fun _ => Option Value) (ixAV len size v i) (some (.pointer (some ⟨b, Nat.add o (Nat.mul m size), none⟩))) (Nat.blt m len)) i) v
theorem ixAF_eq (len size : Nat) (v i : Value) : ixAF len size v i = ixAV len size v i := by
  cases v with
  | pointer a => cases a with
    | none => rfl
    | some a =>
      obtain ⟨b, o, s⟩ := a
      cases s with
      | some s => rfl
      | none =>
        exact natV_eq fun k m hi => by
          cases h : Nat.blt m len
          · rfl
          · subst hi; simp only [ixAV, ixv_ofNat h]; rfl
  | _ => rfl
noncomputable def ixVF (len size : Nat) (n : Option Nat) (v i : Value) : Option Value :=
  natV (ixVV len size n v i) (fun m => @Bool.rec (fun _ => Option Value) (ixVV len size n v i) (fieldF (Nat.mul m size) n v) (Nat.blt m len)) i
theorem ixVF_eq (len size : Nat) (n : Option Nat) (v i : Value) : ixVF len size n v i = ixVV len size n v i :=
  natV_eq fun k m hi => by
    cases h : Nat.blt m len
    · rfl
    · subst hi; simp only [ixVV, ixv_ofNat h, fieldF_eq]; rfl
noncomputable def lenF (str : Bool) (v : Value) : Option Value := @Bool.rec (fun _ => Option Value) (vSlice (lenVV str v) (fun _ n _ => some (.int .i64 (Int.ofNat n))) v) (lenVV str v) str
theorem lenF_eq (str : Bool) (v : Value) : lenF str v = lenVV str v := by
  cases str with
  | true => rfl
  | false => cases v <;> rfl
noncomputable def notF (v : Value) : Option Value := vBool (unV .not v) (fun b => @Bool.rec (fun _ => Option Value) (some (.bool true)) (some (.bool false)) b) v
theorem notF_eq (v : Value) : notF v = unV .not v := by
  cases v with
  | bool b => cases b <;> rfl
  | _ => rfl
noncomputable def pickF (a b : Option Value) (v : Value) : Option Value := vBool none (fun c => @Bool.rec (fun _ => Option Value) b a c) v

/-- '==' beside the literal nil, of a pointer or an interface value. -/
noncomputable def eqvF (k : EK) (neg : Bool) (c : Bool) (a b : Value) : Option Value :=
  @EK.rec (fun _ => Option Value) (eqvO k neg c a b)
    (vPtr (eqvO k neg c a b) (fun x => vPtr (eqvO k neg c a b) (fun y => @Option.rec Addr (fun _ => Option Value) (@Option.rec Addr (fun _ => Option Value) (some (.bool (not neg))) (fun _ => some (.bool neg)) x) (fun _ => @Option.rec Addr (fun _ => Option Value) (some (.bool neg)) (fun _ => eqvO k neg c a b) x) y) b) a)
    (eqvO k neg c a b) (eqvO k neg c a b) (eqvO k neg c a b) (eqvO k neg c a b) k
theorem eqvF_eq (k : EK) (neg c : Bool) (a b : Value) : eqvF k neg c a b = eqvO k neg c a b := by
  cases k with
  | ptr =>
    cases a with
    | pointer x => cases b with
      | pointer y => cases x <;> cases y <;> cases neg <;> rfl
      | _ => rfl
    | _ => rfl
  | _ => rfl

/- loads -/
noncomputable def objR {α : Type} (d : α) (f : Nat → List Value → Tr Value → Ext → α) (σ : Sto) (b : Nat) : α :=
  @Option.rec AObj (fun _ => α) d (fun o => @AObj.rec (fun _ => α) (fun n z c e => f n z c e) (fun _ _ => d) (fun _ _ => d) (fun _ _ _ _ => d) o) (getR σ.objs b)
noncomputable def cellR (z : List Value) (c : Tr Value) (i : Nat) : Option Value := @Option.rec Value (fun _ => Option Value) (nthR z (Nat.mod i (lenR z))) (fun v => some v) (getR c i)
theorem cellR_eq (z : List Value) (c : Tr Value) (i : Nat) : cellR z c i = cellOf z c i := by
  unfold cellR cellOf
  rw [getR_eq, nthR_eq, lenR_eq]
  cases c.get i <;> rfl
noncomputable def loadR (σ : Sto) (b off : Nat) : Option Value := objR none (fun n z c _ => @Bool.rec (fun _ => Option Value) none (cellR z c off) (Nat.blt off n)) σ b
theorem loadR_eq (σ : Sto) (b off : Nat) : loadR σ b off = σ.load b off := by
  unfold loadR objR Sto.load
  rw [getR_eq]
  cases σ.objs.get b with
  | none => rfl
  | some o => cases o with
    | cells n z c e =>
      simp only
      by_cases h : off < n
      · rw [if_pos h, show Nat.blt off n = true by rw [Nat.blt_eq]; exact h]; exact cellR_eq _ _ _
      · rw [if_neg h]
        have : Nat.blt off n = false := by
          cases hb : Nat.blt off n
          · rfl
          · rw [Nat.blt_eq] at hb; exact (h hb).elim
        rw [this]
    | _ => rfl
noncomputable def loadsR (σ : Sto) (b : Nat) (m : Nat) (off : Nat) : Option (List Value) :=
  @Nat.rec (fun _ => Nat → Option (List Value)) (fun _ => some []) (fun _ ih off => bindR (loadR σ b off) fun v => bindR (ih (Nat.succ off)) fun vs => some (v :: vs)) m off
theorem loadsR_eq (σ : Sto) (b m : Nat) : ∀ off, loadsR σ b m off = σ.loads b off m := by
  induction m with
  | zero => intro off; rfl
  | succ m ih =>
    intro off
    have e : loadsR σ b (m + 1) off = bindR (loadR σ b off) fun v => bindR (loadsR σ b m (off + 1)) fun vs => some (v :: vs) := rfl
    rw [e, loadR_eq, ih, bindR_eq]
    simp only [Sto.loads, bindR_eq]
    rfl
noncomputable def loadF (σ : Sto) (n : Option Nat) (v : Value) : Option Value :=
  vPtr none (addr0 none fun b o => @Option.rec Nat (fun _ => Option Value) (loadR σ b o) (fun m => bindR (loadsR σ b m o) fun vs => some (.agg (Array.mk vs))) n) v
theorem loadF_eq (σ : Sto) (n : Option Nat) (v : Value) : loadF σ n v = loadV σ n v := by
  cases v with
  | pointer a => cases a with
    | none => rfl
    | some a =>
      obtain ⟨b, o, s⟩ := a
      cases s with
      | some s => rfl
      | none => cases n with
        | none => exact loadR_eq σ b o
        | some m =>
          show bindR (loadsR σ b m o) _ = _
          rw [bindR_eq, loadsR_eq]
          simp only [loadV]
          cases σ.loads b o m <;> rfl
  | _ => rfl

/- stores -/
noncomputable def isRoR (e : Ext) : Bool := @Ext.rec (fun _ => Bool) false false true e
noncomputable def storeR (σ : Sto) (b off : Nat) (v : Value) : Option Sto :=
  objR none (fun n z c e => @Bool.rec (fun _ => Option Sto) none (@Bool.rec (fun _ => Option Sto) (some ⟨σ.next, setR σ.objs b (.cells n z (setR c off v) e)⟩) none (isRoR e)) (Nat.blt off n)) σ b
theorem blt_false {a b : Nat} (h : ¬ a < b) : Nat.blt a b = false := by
  cases hb : Nat.blt a b
  · rfl
  · rw [Nat.blt_eq] at hb; exact (h hb).elim
theorem storeR_eq (σ : Sto) (b off : Nat) (v : Value) (hv : Sto.isAggV v = false) : storeR σ b off v = σ.store b off v := by
  unfold storeR objR Sto.store
  rw [getR_eq]
  cases σ.objs.get b with
  | none => rfl
  | some o => cases o with
    | cells n z c e =>
      simp only [hv, setR_eq]
      by_cases h : off < n
      · rw [show Nat.blt off n = true by rw [Nat.blt_eq]; exact h]
        cases e <;> simp [isRoR, h]
      · rw [blt_false h]
        simp [h]
    | _ => rfl
noncomputable def storesR (σ : Sto) (b off : Nat) (l : List Value) : Option Sto :=
  @List.rec Value (fun _ => Sto → Nat → Option Sto) (fun σ _ => some σ) (fun v _ ih σ off => @Bool.rec (fun _ => Option Sto) none (bindR (storeR σ b off v) fun σ => ih σ (Nat.succ off)) (vScal v)) l σ off
theorem vScal_agg {v : Value} (h : vScal v = true) : Sto.isAggV v = false := by
  cases v <;> first | rfl | cases h
theorem vScal_cells {v : Value} (h : vScal v = true) : v.cells = #[v] := by
  cases v <;> first | rfl | cases h
theorem storesR_le (b : Nat) : ∀ (l : List Value) (σ : Sto) (off : Nat) (r : Sto), storesR σ b off l = some r → σ.stores b off l = some r := by
  intro l
  induction l with
  | nil => intro σ off r h; exact h
  | cons v l ih =>
    intro σ off r h
    have e : storesR σ b off (v :: l) = @Bool.rec (fun _ => Option Sto) none (bindR (storeR σ b off v) fun σ => storesR σ b (off + 1) l) (vScal v) := rfl
    rw [e] at h
    cases hv : vScal v with
    | false => rw [hv] at h; cases h
    | true =>
      rw [hv] at h
      simp only [bindR_eq, storeR_eq _ _ _ _ (vScal_agg hv), Option.bind_eq_some_iff] at h
      obtain ⟨σ1, h1, h2⟩ := h
      simp only [Sto.stores, h1]
      exact ih _ _ _ h2
/-- Stores: it may tell less than the plain one. -/
noncomputable def storeF (σ : Sto) (n : Nat) (a v : Value) : Option (Value × Sto) :=
  vPtr none (addr0 none fun b o =>
    @Bool.rec (fun _ => Option (Value × Sto))
      (vAgg none (fun cs => @Bool.rec (fun _ => Option (Value × Sto)) none (bindR (storesR σ b o cs.toList) fun σ => some (undef, σ)) (Nat.beq (lenR cs.toList) n)) v)
      (@Bool.rec (fun _ => Option (Value × Sto)) none (bindR (storeR σ b o v) fun σ => some (undef, σ)) (Nat.beq n 1)) (vScal v)) a
theorem storeF_le {σ : Sto} {n : Nat} {a v : Value} {r : Value × Sto} (h : storeF σ n a v = some r) : storeV σ n a v = some r := by
  cases a with
  | pointer p => cases p with
    | none => cases h
    | some p =>
      obtain ⟨b, o, s⟩ := p
      cases s with
      | some s => cases h
      | none =>
        simp only [storeF, vPtr, addr0] at h
        cases hv : vScal v with
        | true =>
          rw [hv] at h
          cases hn : Nat.beq n 1 with
          | false => rw [hn] at h; cases h
          | true =>
            rw [hn] at h
            obtain rfl := Nat.eq_of_beq_eq_true hn
            simp only [bindR_eq, storeR_eq _ _ _ _ (vScal_agg hv), Option.bind_eq_some_iff] at h
            obtain ⟨σ1, h1, h2⟩ := h
            cases h2
            simp only [storeV, vScal_cells hv]
            simp [Sto.stores, h1]
        | false =>
          rw [hv] at h
          cases v with
          | agg cs =>
            simp only [vAgg] at h
            cases hn : Nat.beq (lenR cs.toList) n with
            | false => rw [hn] at h; cases h
            | true =>
              rw [hn] at h
              have hl := Nat.eq_of_beq_eq_true hn
              rw [lenR_eq] at hl
              simp only [bindR_eq, Option.bind_eq_some_iff] at h
              obtain ⟨σ1, h1, h2⟩ := h
              cases h2
              have h3 := storesR_le _ _ _ _ _ h1
              simp only [storeV, Value.cells]
              have hs : cs.size = n := by simpa using hl
              simp only [hs, if_true, h3]
          | _ => cases h
  | _ => cases h

end Go.AM
