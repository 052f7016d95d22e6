/- A third evaluation: operations in a form that the kernel works out fast, and that they are the same. -/
import Derived.Test.YtjilfolpkkhfmaaDoorAM26
namespace Go.AM

noncomputable def vInt {α : Type} (d : α) (f : IntKind → Int → α) (v : Value) : α :=
  @Value.rec (fun _ => α) (fun _ => PUnit) (fun _ => PUnit) (fun _ => d) (fun k n => f k n) (fun _ _ => d) (fun _ _ _ => d) (fun _ => d) (fun _ => d) (fun _ _ _ => d) (fun _ => d) (fun _ => d) (fun _ _ _ _ _ => d) d (fun _ _ _ => d) d (fun _ _ => d) (fun _ _ => d) (fun _ _ => ⟨⟩) ⟨⟩ (fun _ _ _ _ => ⟨⟩) v
noncomputable def vPtr {α : Type} (d : α) (f : Option Addr → α) (v : Value) : α :=
  @Value.rec (fun _ => α) (fun _ => PUnit) (fun _ => PUnit) (fun _ => d) (fun _ _ => d) (fun _ _ => d) (fun _ _ _ => d) (fun _ => d) (fun a => f a) (fun _ _ _ => d) (fun _ => d) (fun _ => d) (fun _ _ _ _ _ => d) d (fun _ _ _ => d) d (fun _ _ => d) (fun _ _ => d) (fun _ _ => ⟨⟩) ⟨⟩ (fun _ _ _ _ => ⟨⟩) v
noncomputable def vSlice {α : Type} (d : α) (f : Option Addr → Nat → Nat → α) (v : Value) : α :=
  @Value.rec (fun _ => α) (fun _ => PUnit) (fun _ => PUnit) (fun _ => d) (fun _ _ => d) (fun _ _ => d) (fun _ _ _ => d) (fun _ => d) (fun _ => d) (fun a l c => f a l c) (fun _ => d) (fun _ => d) (fun _ _ _ _ _ => d) d (fun _ _ _ => d) d (fun _ _ => d) (fun _ _ => d) (fun _ _ => ⟨⟩) ⟨⟩ (fun _ _ _ _ => ⟨⟩) v
noncomputable def vBool {α : Type} (d : α) (f : Bool → α) (v : Value) : α :=
  @Value.rec (fun _ => α) (fun _ => PUnit) (fun _ => PUnit) (fun b => f b) (fun _ _ => d) (fun _ _ => d) (fun _ _ _ => d) (fun _ => d) (fun _ => d) (fun _ _ _ => d) (fun _ => d) (fun _ => d) (fun _ _ _ _ _ => d) d (fun _ _ _ => d) d (fun _ _ => d) (fun _ _ => d) (fun _ _ => ⟨⟩) ⟨⟩ (fun _ _ _ _ => ⟨⟩) v
noncomputable def vTup {α : Type} (d : α) (f : Array Value → α) (v : Value) : α :=
  @Value.rec (fun _ => α) (fun _ => PUnit) (fun _ => PUnit) (fun _ => d) (fun _ _ => d) (fun _ _ => d) (fun _ _ _ => d) (fun _ => d) (fun _ => d) (fun _ _ _ => d) (fun _ => d) (fun _ => d) (fun _ _ _ _ _ => d) d (fun _ _ _ => d) d (fun _ _ => d) (fun a _ => f a) (fun _ _ => ⟨⟩) ⟨⟩ (fun _ _ _ _ => ⟨⟩) v
noncomputable def vAgg {α : Type} (d : α) (f : Array Value → α) (v : Value) : α :=
  @Value.rec (fun _ => α) (fun _ => PUnit) (fun _ => PUnit) (fun _ => d) (fun _ _ => d) (fun _ _ => d) (fun _ _ _ => d) (fun _ => d) (fun _ => d) (fun _ _ _ => d) (fun _ => d) (fun _ => d) (fun _ _ _ _ _ => d) d (fun _ _ _ => d) d (fun a _ => f a) (fun _ _ => d) (fun _ _ => ⟨⟩) ⟨⟩ (fun _ _ _ _ => ⟨⟩) v
noncomputable def vIface {α : Type} (d : α) (f : TypeId → Value → α) (v : Value) : α :=
  @Value.rec (fun _ => α) (fun _ => PUnit) (fun _ => PUnit) (fun _ => d) (fun _ _ => d) (fun _ _ => d) (fun _ _ _ => d) (fun _ => d) (fun _ => d) (fun _ _ _ => d) (fun _ => d) (fun _ => d) (fun _ _ _ _ _ => d) d (fun t v _ => f t v) d (fun _ _ => d) (fun _ _ => d) (fun _ _ => ⟨⟩) ⟨⟩ (fun _ _ _ _ => ⟨⟩) v
/-- Is a value one plain cell? -/
noncomputable def vScal (v : Value) : Bool :=
  @Value.rec (fun _ => Bool) (fun _ => PUnit) (fun _ => PUnit) (fun _ => true) (fun _ _ => true) (fun _ _ => false) (fun _ _ _ => false) (fun _ => true) (fun _ => true) (fun _ _ _ => true) (fun _ => true) (fun _ => false) (fun _ _ _ _ _ => true) true (fun _ _ _ => true) true (fun _ _ => false) (fun _ _ => false) (fun _ _ => ⟨⟩) ⟨⟩ (fun _ _ _ _ => ⟨⟩) v

noncomputable def bindR {α β : Type} (o : Option α) (f : α → Option β) : Option β := @Option.rec α (fun _ => Option β) none f o
theorem bindR_eq {α β : Type} (o : Option α) (f : α → Option β) : bindR o f = o.bind f := by cases o <;> rfl

noncomputable def hi (k : IntKind) : Nat := @IntKind.rec (fun _ => Nat) 128 32768 2147483648 9223372036854775808 256 65536 4294967296 18446744073709551616 k
noncomputable def kc (k : IntKind) : Nat := @IntKind.rec (fun _ => Nat) 0 1 2 3 4 5 6 7 k
noncomputable def isU (k : IntKind) : Bool := @IntKind.rec (fun _ => Bool) false false false false true true true true k
noncomputable def bt (k : IntKind) : Nat := @IntKind.rec (fun _ => Nat) 8 16 32 64 8 16 32 64 k

theorem kc_inj {a b : IntKind} (h : Nat.beq (kc a) (kc b) = true) : a = b := by
  cases a <;> cases b <;> first | rfl | (simp [kc] at h)
theorem bt_eq (k : IntKind) : bt k = k.bits := by cases k <;> rfl

theorem wrap_small {k : IntKind} {n : Nat} (h : Nat.blt n (hi k) = true) : k.wrap (Int.ofNat n) = Int.ofNat n := by
  rw [Nat.blt_eq] at h
  cases k <;> simp only [hi] at h <;> simp only [IntKind.wrap, IntKind.bits, IntKind.signed, Bool.true_and, Bool.false_and, Int.ofNat_eq_natCast] <;> (try split) <;> simp_all <;> omega
theorem wrap_mod {k : IntKind} {n : Nat} (h : isU k = true) : k.wrap (Int.ofNat n) = Int.ofNat (Nat.mod n (hi k)) := by
  cases k <;> simp only [isU, Bool.false_eq_true] at h <;> simp only [IntKind.wrap, IntKind.bits, IntKind.signed, Bool.false_and, Int.ofNat_eq_natCast, hi] <;>
    (show _ = ((n % _ : Nat) : Int)) <;> simp [Int.natCast_emod]

/-- A natural number as a result of a kind. -/
noncomputable def fit (slow : Option Value) (k : IntKind) (n : Nat) : Option Value :=
  @Bool.rec (fun _ => Option Value) (@Bool.rec (fun _ => Option Value) slow (some (.int k (Int.ofNat n))) (Nat.blt n (hi k))) (some (.int k (Int.ofNat (Nat.mod n (hi k))))) (isU k)
theorem fit_eq {slow : Option Value} {k : IntKind} {n : Nat} (h : slow = some (.int k (k.wrap (Int.ofNat n)))) : fit slow k n = slow := by
  unfold fit
  cases hu : isU k
  · cases hb : Nat.blt n (hi k)
    · rfl
    · simp only; rw [h, wrap_small hb]
  · simp only; rw [h, wrap_mod hu]

/-- Two natural numbers of one kind. -/
noncomputable def two (slow : Option Value) (f : IntKind → Nat → Nat → Option Value) (a b : Value) : Option Value :=
  vInt slow (fun k x => vInt slow (fun k' y => @Bool.rec (fun _ => Option Value) slow
    (@Int.rec (fun _ => Option Value) (fun m => @Int.rec (fun _ => Option Value) (fun n => f k m n) (fun _ => slow) y) (fun _ => slow) x) (Nat.beq (kc k) (kc k'))) b) a
theorem two_eq {slow : Option Value} {f : IntKind → Nat → Nat → Option Value} {a b : Value} (h : ∀ k m n, a = .int k (Int.ofNat m) → b = .int k (Int.ofNat n) → f k m n = slow) : two slow f a b = slow := by
  unfold two
  cases a with
  | int k x =>
    cases b with
    | int k' y =>
      simp only [vInt]
      cases hk : Nat.beq (kc k) (kc k') with
      | false => rfl
      | true =>
        obtain rfl := kc_inj hk
        cases x with
        | ofNat m => cases y with
          | ofNat n => exact h k m n rfl rfl
          | negSucc n => rfl
        | negSucc m => rfl
    | _ => rfl
  | _ => rfl

theorem binV_ints (op : BinOp) (k : IntKind) (a b : Int) (h1 : op ≠ .shl) (h2 : op ≠ .shr) : binV op (.int k a) (.int k b) = intArith op k a b := by
  cases op <;> simp [binV] at h1 h2 ⊢

noncomputable def addF (a b : Value) : Option Value := two (binV .add a b) (fun k m n => fit (binV .add a b) k (Nat.add m n)) a b
theorem addF_eq (a b : Value) : addF a b = binV .add a b :=
  two_eq fun k m n ha hb => fit_eq (by subst ha; subst hb; rw [binV_ints _ _ _ _ (by decide) (by decide)]; rfl)
noncomputable def mulF (a b : Value) : Option Value := two (binV .mul a b) (fun k m n => fit (binV .mul a b) k (Nat.mul m n)) a b
theorem mulF_eq (a b : Value) : mulF a b = binV .mul a b :=
  two_eq fun k m n ha hb => fit_eq (by subst ha; subst hb; rw [binV_ints _ _ _ _ (by decide) (by decide)]; rfl)
noncomputable def subF (a b : Value) : Option Value := two (binV .sub a b) (fun k m n => @Bool.rec (fun _ => Option Value) (binV .sub a b) (fit (binV .sub a b) k (Nat.sub m n)) (Nat.ble n m)) a b
theorem subF_eq (a b : Value) : subF a b = binV .sub a b :=
  two_eq fun k m n ha hb => by
    cases h : Nat.ble n m
    · rfl
    · have h' : n ≤ m := Nat.le_of_ble_eq_true h
      exact fit_eq (by
        subst ha; subst hb; rw [binV_ints _ _ _ _ (by decide) (by decide)]
        have e : (Int.ofNat m - Int.ofNat n) = Int.ofNat (Nat.sub m n) := by
          show ((m : Int) - (n : Int)) = ((m - n : Nat) : Int)
          omega
        simp only [intArith, e])
noncomputable def quoF (a b : Value) : Option Value := two (binV .quo a b) (fun k m n => @Bool.rec (fun _ => Option Value) (fit (binV .quo a b) k (Nat.div m n)) (binV .quo a b) (Nat.beq n 0)) a b
theorem quoF_eq (a b : Value) : quoF a b = binV .quo a b :=
  two_eq fun k m n ha hb => by
    cases h : Nat.beq n 0
    · have h' : n ≠ 0 := fun e => by subst e; cases h
      exact fit_eq (by
        subst ha; subst hb; rw [binV_ints _ _ _ _ (by decide) (by decide)]
        simp only [intArith]
        rw [if_neg (by simpa using h')]
        rfl)
    · rfl
noncomputable def remF (a b : Value) : Option Value := two (binV .rem a b) (fun k m n => @Bool.rec (fun _ => Option Value) (some (.int k (Int.ofNat (Nat.mod m n)))) (binV .rem a b) (Nat.beq n 0)) a b
theorem remF_eq (a b : Value) : remF a b = binV .rem a b :=
  two_eq fun k m n ha hb => by
    cases h : Nat.beq n 0
    · have h' : n ≠ 0 := fun e => by subst e; cases h
      subst ha; subst hb; rw [binV_ints _ _ _ _ (by decide) (by decide)]
      simp only [intArith]
      rw [if_neg (by simpa using h')]
      rfl
    · rfl

/-- Two numbers within their kind. -/
noncomputable def bits2 (slow : Option Value) (f : Nat → Nat → Nat) (k : IntKind) (m n : Nat) : Option Value :=
  @Bool.rec (fun _ => Option Value) slow (@Bool.rec (fun _ => Option Value) slow (some (.int k (Int.ofNat (f m n)))) (Nat.blt n (hi k))) (Nat.blt m (hi k))
theorem hi_le (k : IntKind) : hi k ≤ 2 ^ k.bits := by cases k <;> decide
theorem hi_pow (k : IntKind) : ∃ j, hi k = 2 ^ j := by
  cases k
  · exact ⟨7, rfl⟩
  · exact ⟨15, rfl⟩
  · exact ⟨31, rfl⟩
  · exact ⟨63, rfl⟩
  · exact ⟨8, rfl⟩
  · exact ⟨16, rfl⟩
  · exact ⟨32, rfl⟩
  · exact ⟨64, rfl⟩
theorem ofInt_small {k : IntKind} {n : Nat} (h : n < hi k) : (BitVec.ofInt k.bits (Int.ofNat n)).toNat = n := by
  rw [BitVec.toNat_ofInt]
  have : n < 2 ^ k.bits := Nat.lt_of_lt_of_le h (hi_le k)
  show ((n : Int) % ((2 ^ k.bits : Nat) : Int)).toNat = n
  rw [Int.emod_eq_of_lt (Int.natCast_nonneg _) (Int.ofNat_lt.2 this)]
  rfl
theorem bits2_eq {slow : Option Value} {f : Nat → Nat → Nat} {k : IntKind} {m n : Nat} (h : m < hi k → n < hi k → slow = some (.int k (k.wrap (Int.ofNat (f m n)))) ∧ f m n < hi k) : bits2 slow f k m n = slow := by
  unfold bits2
  cases hm : Nat.blt m (hi k)
  · rfl
  · cases hn : Nat.blt n (hi k)
    · rfl
    · rw [Nat.blt_eq] at hm hn
      obtain ⟨h1, h2⟩ := h hm hn
      simp only
      rw [h1, wrap_small (by rw [Nat.blt_eq]; exact h2)]
noncomputable def andF (a b : Value) : Option Value := two (binV .and a b) (fun k m n => bits2 (binV .and a b) Nat.land k m n) a b
theorem andF_eq (a b : Value) : andF a b = binV .and a b :=
  two_eq fun k m n ha hb => bits2_eq fun h1 h2 => ⟨by
    subst ha; subst hb; rw [binV_ints _ _ _ _ (by decide) (by decide)]
    simp only [intArith, BitVec.toNat_and, ofInt_small h1, ofInt_small h2]
    rfl, Nat.lt_of_le_of_lt Nat.and_le_left h1⟩
noncomputable def orF (a b : Value) : Option Value := two (binV .or a b) (fun k m n => bits2 (binV .or a b) Nat.lor k m n) a b
theorem orF_eq (a b : Value) : orF a b = binV .or a b :=
  two_eq fun k m n ha hb => bits2_eq fun h1 h2 => ⟨by
    subst ha; subst hb; rw [binV_ints _ _ _ _ (by decide) (by decide)]
    simp only [intArith, BitVec.toNat_or, ofInt_small h1, ofInt_small h2]
    rfl, by obtain ⟨j, hj⟩ := hi_pow k; rw [hj] at h1 h2 ⊢; exact Nat.or_lt_two_pow h1 h2⟩
noncomputable def xorF (a b : Value) : Option Value := two (binV .xor a b) (fun k m n => bits2 (binV .xor a b) Nat.xor k m n) a b
theorem xorF_eq (a b : Value) : xorF a b = binV .xor a b :=
  two_eq fun k m n ha hb => bits2_eq fun h1 h2 => ⟨by
    subst ha; subst hb; rw [binV_ints _ _ _ _ (by decide) (by decide)]
    simp only [intArith, BitVec.toNat_xor, ofInt_small h1, ofInt_small h2]
    rfl, by obtain ⟨j, hj⟩ := hi_pow k; rw [hj] at h1 h2 ⊢; exact Nat.xor_lt_two_pow h1 h2⟩

noncomputable def boolR (slow : Option Value) (f : Nat → Nat → Bool) (a b : Value) : Option Value := two slow (fun _ m n => some (.bool (f m n))) a b
noncomputable def eqlF (a b : Value) : Option Value := boolR (binV .eql a b) Nat.beq a b
theorem eqlF_eq (a b : Value) : eqlF a b = binV .eql a b :=
  two_eq fun k m n ha hb => by
    subst ha; subst hb; rw [binV_ints _ _ _ _ (by decide) (by decide)]
    simp only [intArith]
    have : Nat.beq m n = (Int.ofNat m == Int.ofNat n) := by
      cases h : Nat.beq m n
      · have : m ≠ n := fun e => by subst e; rw [Nat.beq_refl] at h; cases h
        symm; rw [beq_eq_false_iff_ne]; intro e; exact this (Int.ofNat.inj e)
      · have := Nat.eq_of_beq_eq_true h
        subst this; simp
    rw [this]
noncomputable def neqF (a b : Value) : Option Value := boolR (binV .neq a b) (fun m n => not (Nat.beq m n)) a b
theorem neqF_eq (a b : Value) : neqF a b = binV .neq a b :=
  two_eq fun k m n ha hb => by
    subst ha; subst hb; rw [binV_ints _ _ _ _ (by decide) (by decide)]
    simp only [intArith]
    have : Nat.beq m n = (Int.ofNat m == Int.ofNat n) := by
      cases h : Nat.beq m n
      · have : m ≠ n := fun e => by subst e; rw [Nat.beq_refl] at h; cases h
        symm; rw [beq_eq_false_iff_ne]; intro e; exact this (Int.ofNat.inj e)
      · have := Nat.eq_of_beq_eq_true h
        subst this; simp
    rw [this]; rfl
noncomputable def lssF (a b : Value) : Option Value := boolR (binV .lss a b) Nat.blt a b
theorem lssF_eq (a b : Value) : lssF a b = binV .lss a b :=
  two_eq fun k m n ha hb => by
    subst ha; subst hb; rw [binV_ints _ _ _ _ (by decide) (by decide)]
    simp only [intArith]
    congr 2
    rw [Bool.eq_iff_iff, Nat.blt_eq, decide_eq_true_iff]
    simp
noncomputable def leqF (a b : Value) : Option Value := boolR (binV .leq a b) Nat.ble a b
theorem leqF_eq (a b : Value) : leqF a b = binV .leq a b :=
  two_eq fun k m n ha hb => by
    subst ha; subst hb; rw [binV_ints _ _ _ _ (by decide) (by decide)]
    simp only [intArith]
    congr 2
    rw [Bool.eq_iff_iff, Nat.ble_eq, decide_eq_true_iff]
    simp
noncomputable def gtrF (a b : Value) : Option Value := boolR (binV .gtr a b) (fun m n => Nat.blt n m) a b
theorem gtrF_eq (a b : Value) : gtrF a b = binV .gtr a b :=
  two_eq fun k m n ha hb => by
    subst ha; subst hb; rw [binV_ints _ _ _ _ (by decide) (by decide)]
    simp only [intArith]
    congr 2
    rw [Bool.eq_iff_iff, Nat.blt_eq, decide_eq_true_iff]
    simp
noncomputable def geqF (a b : Value) : Option Value := boolR (binV .geq a b) (fun m n => Nat.ble n m) a b
theorem geqF_eq (a b : Value) : geqF a b = binV .geq a b :=
  two_eq fun k m n ha hb => by
    subst ha; subst hb; rw [binV_ints _ _ _ _ (by decide) (by decide)]
    simp only [intArith]
    congr 2
    rw [Bool.eq_iff_iff, Nat.ble_eq, decide_eq_true_iff]
    simp

/-- Two natural numbers of any kinds. -/
noncomputable def twoA (slow : Option Value) (f : IntKind → Nat → Nat → Option Value) (a b : Value) : Option Value :=
  vInt slow (fun k x => vInt slow (fun _ y => @Int.rec (fun _ => Option Value) (fun m => @Int.rec (fun _ => Option Value) (fun n => f k m n) (fun _ => slow) y) (fun _ => slow) x) b) a
theorem twoA_eq {slow : Option Value} {f : IntKind → Nat → Nat → Option Value} {a b : Value} (h : ∀ k k' m n, a = .int k (Int.ofNat m) → b = .int k' (Int.ofNat n) → f k m n = slow) : twoA slow f a b = slow := by
  unfold twoA
  cases a with
  | int k x =>
    cases b with
    | int k' y =>
      cases x with
      | ofNat m => cases y with
        | ofNat n => exact h k k' m n rfl rfl
        | negSucc n => rfl
      | negSucc m => rfl
    | _ => rfl
  | _ => rfl
noncomputable def shlF (a b : Value) : Option Value := twoA (binV .shl a b) (fun k m n => @Bool.rec (fun _ => Option Value) (binV .shl a b) (fit (binV .shl a b) k (Nat.shiftLeft m n)) (Nat.ble n (bt k))) a b
theorem shlF_eq (a b : Value) : shlF a b = binV .shl a b :=
  twoA_eq fun k k' m n ha hb => by
    cases h : Nat.ble n (bt k)
    · rfl
    · have h' : n ≤ k.bits := by rw [← bt_eq]; exact Nat.le_of_ble_eq_true h
      exact fit_eq (by
        subst ha; subst hb
        simp only [binV]
        rw [if_neg (by simp)]
        congr 3
        show (m : Int) * 2 ^ (min n k.bits) = ((m <<< n : Nat) : Int)
        rw [Nat.min_eq_left h', Nat.shiftLeft_eq]
        simp)
noncomputable def shrF (a b : Value) : Option Value := twoA (binV .shr a b) (fun k m n => @Bool.rec (fun _ => Option Value) (binV .shr a b) (some (.int k (Int.ofNat (Nat.shiftRight m n)))) (Nat.ble n (bt k))) a b
theorem shrF_eq (a b : Value) : shrF a b = binV .shr a b :=
  twoA_eq fun k k' m n ha hb => by
    cases h : Nat.ble n (bt k)
    · rfl
    · have h' : n ≤ k.bits := by rw [← bt_eq]; exact Nat.le_of_ble_eq_true h
      subst ha; subst hb
      simp only [binV]
      rw [if_neg (by simp)]
      congr 2
      show ((m >>> n : Nat) : Int) = Int.fdiv (m : Int) (2 ^ (min n k.bits))
      rw [Nat.min_eq_left h', Nat.shiftRight_eq_div_pow, Int.fdiv_eq_ediv_of_nonneg _ (by exact Int.pow_nonneg (by decide))]
      simp

noncomputable def convF (k : IntKind) (v : Value) : Option Value := vInt (convV k v) (fun _ x => @Int.rec (fun _ => Option Value) (fun m => fit (convV k v) k m) (fun _ => convV k v) x) v
theorem convF_eq (k : IntKind) (v : Value) : convF k v = convV k v := by
  cases v with
  | int j x => cases x with
    | ofNat m => exact fit_eq rfl
    | negSucc m => rfl
  | _ => rfl

/-- All operations on two numbers. -/
noncomputable def binF (op : BinOp) (a b : Value) : Option Value :=
  match op with
  | .add => addF a b
  | .sub => subF a b
  | .mul => mulF a b
  | .quo => quoF a b
  | .rem => remF a b
  | .and => andF a b
  | .or => orF a b
  | .xor => xorF a b
  | .eql => eqlF a b
  | .neq => neqF a b
  | .lss => lssF a b
  | .leq => leqF a b
  | .gtr => gtrF a b
  | .geq => geqF a b
  | .shl => shlF a b
  | .shr => shrF a b
  | op => binV op a b
theorem binF_eq (op : BinOp) (a b : Value) : binF op a b = binV op a b := by
  cases op
  all_goals first | exact addF_eq a b | exact subF_eq a b | exact mulF_eq a b | exact quoF_eq a b | exact remF_eq a b | exact andF_eq a b | exact orF_eq a b | exact xorF_eq a b | exact eqlF_eq a b | exact neqF_eq a b | exact lssF_eq a b | exact leqF_eq a b | exact gtrF_eq a b | exact geqF_eq a b | exact shlF_eq a b | exact shrF_eq a b | rfl

end Go.AM
